/- A call without arguments that the evaluator carries out, where no package-level variable is looked at: wherever it is made, it returns what the evaluator says, and leaves what was there. (K0's GN is 0.) -/
import Derived.Test.YteohlibpfgmcaaaGreatDoorK18
import Derived.Below
namespace Go.Proofs.YteohlibpfgmcaaaGreatDoor
open Go Go.RowKit
set_option linter.unusedVariables false
set_option linter.unusedSimpArgs false
namespace Ev

noncomputable def okZ (r : Option Rs) : Bool :=
  match r with
  | none => false
  | some r => match r.v with
    | .bool true => true
    | _ => false

theorem head_anyZ {P : Program} {sp : Spec} (hsp : SpecOK P sp) {f : FuncId} {k : Nat} (H : okZ (ev P sp k (.call f []) .lf 0 .lf 100000) = true) (w : World) :
    Calls P f #[] w fun e w' => e = .returned (.bool true) ∧ Below w.heap.size w w' := by
  cases hr : ev P sp k (.call f []) .lf 0 .lf 100000 with
  | none => rw [hr] at H; cases H
  | some r =>
    rw [hr] at H
    have G : GoodCall P f [] .lf 100000 r.v r.h r.nx := ev_good hsp _ _ _ _ _ _ _ hr
    simp only [okZ] at H
    split at H
    · rename_i hv
      let ρ0 : Ren := fun g => none
      have hrel : Rel P ρ0 .lf w := by
        refine ⟨fun b p o hb ho => ?_, fun b p hb => ?_, fun b b' p p' h1 h2 _ _ _ => ?_, fun g hg => ?_⟩
        · cases hb
        · cases hb
        · cases h1
        · unfold GN at hg; omega
      have hfresh : Fresh 100000 ρ0 .lf := fun b hb => ⟨rfl, rfl⟩
      refine (G.2 ρ0 w #[] hrel hfresh .nil).mono fun e w' hx => ?_
      obtain ⟨v', ρ', rfl, g1, g2, g3⟩ := hx
      rw [hv] at g1
      cases g1
      exact ⟨rfl, g3.os, g3.tape, g3.output, g3.size, fun c hc => g3.fr c hc fun b p hb hpc => by cases hb⟩
    · cases H

end Ev
end Go.Proofs.YteohlibpfgmcaaaGreatDoor
