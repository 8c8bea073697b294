/- A call without arguments that the evaluator carries out: wherever it is made, it returns what the evaluator says, and leaves what was there. -/
import Derived.Test.YtoodbcpbfnojaaaGreatDoorK18
import Derived.Test.YtoodbcpbfnojaaaGreatDoorRows
import Derived.Below
import Derived.Lib.TrailingZeros
import Derived.Lib.LaidTab
import Derived.LaidMore
import Derived.MakeChecks
namespace Go.Proofs.YtoodbcpbfnojaaaGreatDoor
open Go Go.RowKit
set_option linter.unusedVariables false
set_option linter.unusedSimpArgs false

/-- math/bits.deBruijn64tab lies in its variable. -/
def TabAt (w : World) : Prop := ∀ j, j < 64 → w.cell? ⟨0, j, none⟩ = some (.int .u8 (Lib.deBruijn64tab.getD j 0))

/-- The start: the table lies there. -/
structure Start (w : World) : Prop where
  tab : TabAt w
  pos : 0 < w.heap.size

theorem tab_below {n : Nat} {w w' : World} (hn : 0 < n) (hb : Below n w w') (hT : TabAt w) : TabAt w' := fun j hj => (hb.cell (p := ⟨0, j, none⟩) hn).trans (hT j hj)

abbrev Later (w w' : World) : Prop := Below w.heap.size w w'
theorem Start.later {w w' : World} (s : Start w) (h : Later w w') : Start w' := ⟨tab_below s.pos h s.tab, Nat.lt_of_lt_of_le s.pos h.size⟩
theorem Later.step {w w' w'' : World} (h : Later w w') (k : Below w'.heap.size w' w'') : Later w w'' := h.trans (k.mono h.size)

namespace Ev

noncomputable def h0 : Heap := Tr.set .lf 0 (.rom 64 (Tr.ofL (Lib.deBruijn64tab.map fun n => Value.int .u8 (Int.ofNat n))))

noncomputable def okB (r : Option Rs) : Bool :=
  match r with
  | none => false
  | some r => match r.v, r.h.get 0 with
    | .bool true, some (.rom _ _) => true
    | _, _ => false

theorem head_any {P : Program} {sp : Spec} (hsp : SpecOK P sp) {f : FuncId} {k : Nat} (H : okB (ev P sp k (.call f []) .lf 0 h0 100000) = true) (w : World) (s : Start w) :
    Calls P f #[] w fun e w' => e = .returned (.bool true) ∧ Below w.heap.size w w' := by
  cases hr : ev P sp k (.call f []) .lf 0 h0 100000 with
  | none => rw [hr] at H; cases H
  | some r =>
    rw [hr] at H
    have G : GoodCall P f [] h0 100000 r.v r.h r.nx := ev_good hsp _ _ _ _ _ _ _ hr
    simp only [okB] at H
    split at H
    · rename_i n cs hv hrom
      have hpos := s.pos
      have hlist : ∀ b, b ≠ 0 → h0.get b = none := fun b hb => by
        unfold h0
        rw [Tr.get_set_ne _ _ hb]; rfl
      have hzero : h0.get 0 = some (.rom 64 (Tr.ofL (Lib.deBruijn64tab.map fun n => Value.int .u8 (Int.ofNat n)))) := Tr.get_set_self _ _ _
      let ρ0 : Ren := fun g => match g with | 0 => some ⟨0, 0, 0, w.heap[0]?⟩ | _ => none
      have hρ : ∀ b p, ρ0 b = some p → b = 0 ∧ p = ⟨0, 0, 0, w.heap[0]?⟩ := fun b p hb => by
        cases b with
        | zero => exact ⟨rfl, (Option.some.inj hb).symm⟩
        | succ b => cases hb
      have hblock : ∃ c el fz, w.heap[0]? = some (.cells c el fz) ∧ ∀ j, j < 64 → c[j]? = some (.int .u8 (Lib.deBruijn64tab.getD j 0)) := by
        have h1 := s.tab 0 (by decide)
        unfold World.cell? at h1
        split at h1
        · rename_i c el fz e
          refine ⟨c, el, fz, e, fun j hj => ?_⟩
          have h2 := s.tab j hj
          unfold World.cell? at h2
          have e : w.heap[0]? = some (.cells c el fz) := e
          simp only [e] at h2
          simpa using h2
        · cases h1
      have hrel : Rel P ρ0 h0 w := by
        refine ⟨fun b p o hb ho => ?_, fun b p hb => ?_, fun b b' p p' h1 h2 _ _ _ => ?_, fun g hg => ?_⟩
        · obtain ⟨rfl, rfl⟩ := hρ b p hb
          rw [hzero] at ho; cases ho
          obtain ⟨c, el, fz, e, hc⟩ := hblock
          refine ⟨rfl, c, el, fz, e, fun i v hv => ?_⟩
          unfold cellAt at hv
          split at hv
          · rename_i hi
            have hi := Nat.le_of_ble_eq_true hi
            rw [Tr.get_ofL] at hv
            have hlen : Lib.deBruijn64tab.length = 64 := rfl
            have hi2 : i < Lib.deBruijn64tab.length := by rw [hlen]; omega
            rw [List.getElem?_map, List.getElem?_eq_getElem hi2] at hv
            simp only [Option.map_some, Option.some.injEq] at hv
            subst hv
            refine ⟨_, hc i (by omega), ?_⟩
            have : Lib.deBruijn64tab.getD i 0 = Lib.deBruijn64tab[i] := by simp [List.getD, List.getElem?_eq_getElem hi2]
            rw [this]
            exact .int _ _
          · cases hv
        · obtain ⟨rfl, rfl⟩ := hρ b p hb; exact hpos
        · rw [(hρ b p h1).1, (hρ b' p' h2).1]
        · have : g = 0 := by unfold GN at hg; omega
          subst this
          exact ⟨_, rfl, rfl⟩
      have hfresh : Fresh 100000 ρ0 h0 := fun b hb => by
        have hb0 : b ≠ 0 := by omega
        refine ⟨?_, hlist b hb0⟩
        cases b with
        | zero => exact absurd rfl hb0
        | succ b => rfl
      refine (G.2 ρ0 w #[] hrel hfresh .nil).mono fun e w' hx => ?_
      obtain ⟨v', ρ', rfl, g1, g2, g3⟩ := hx
      rw [hv] at g1
      cases g1
      refine ⟨rfl, g3.os, g3.tape, g3.output, g3.size, fun c hc => ?_⟩
      rcases Nat.eq_zero_or_pos c with rfl | hc0
      · have hp0 : ρ' 0 = some ⟨0, 0, 0, w.heap[0]?⟩ := g3.ext 0 _ rfl
        exact (g2.obj 0 _ _ hp0 hrom).1
      · exact g3.fr c hc fun b p hb hpc => by
          obtain ⟨rfl, rfl⟩ := hρ b p hb
          simp at hpc; omega
    · cases H

end Ev
end Go.Proofs.YtoodbcpbfnojaaaGreatDoor
