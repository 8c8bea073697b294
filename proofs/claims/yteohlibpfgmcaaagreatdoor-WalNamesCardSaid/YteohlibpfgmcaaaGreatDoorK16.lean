/- The evaluator is sound. -/
import Derived.Test.YteohlibpfgmcaaaGreatDoorK15
namespace Go.Proofs.YteohlibpfgmcaaaGreatDoor
namespace Ev
open Go
set_option linter.unusedVariables false
set_option linter.unusedSimpArgs false
variable {P : Program}

def Fresh (nx : Nat) (ρ : Ren) (h : Heap) : Prop := ∀ b, nx ≤ b → ρ b = none ∧ h.get b = none

theorem Fresh.on {nx lo hi : Nat} {ρ ρ' : Ren} {h h' : Heap} {w w' : World} (f : Fresh nx ρ h) (e : Ext lo hi ρ h w ρ' h' w') (hle : nx ≤ hi) : Fresh hi ρ' h' := fun b hb => by
  obtain ⟨h1, h2⟩ := f b (by omega)
  have : ρ' b = none := by
    cases hq : ρ' b with
    | none => rfl
    | some p => have := (e.new b p h1 hq).2; omega
  exact ⟨this, by rw [e.pend b this]; exact h2⟩

theorem Fresh.more {nx nx' : Nat} {ρ : Ren} {h : Heap} (f : Fresh nx ρ h) (hle : nx ≤ nx') : Fresh nx' ρ h := fun b hb => f b (by omega)

def ExOk : Ex → Exit → Prop
  | .normal, .normal => True
  | .exit i, .exit j => i = j
  | .goto l, .goto m => l = m
  | .ret, .ret => True
  | _, _ => False

def Post (P : Program) (r : Rs) (n nx : Nat) (ρ : Ren) (h : Heap) (w : World) : Exit → Act → World → Prop := fun e a' w' =>
  ExOk r.e e ∧ ∃ ρ', Rel P ρ' r.h w' ∧ TRel ρ' r.ts n a' ∧ Ext nx r.nx ρ h w ρ' r.h w'

def GoodCall (P : Program) (f : FuncId) (args : List Value) (h : Heap) (nx : Nat) (v : Value) (h' : Heap) (nx' : Nat) : Prop :=
  nx ≤ nx' ∧ ∀ (ρ : Ren) (w : World) (args' : Array Value), Rel P ρ h w → Fresh nx ρ h → LRel ρ args args'.toList →
    Calls P f args' w fun e w' => ∃ v' ρ', e = .returned v' ∧ VRel ρ' v v' ∧ Rel P ρ' h' w' ∧ Ext nx nx' ρ h w ρ' h' w'

/-- code ahead of an item -/
def GoodAt (P : Program) (c : Code) (x : List Item) (r : Rs) (ts : Tr Value) (n : Nat) (h : Heap) (nx : Nat) : Prop :=
  nx ≤ r.nx ∧ ∀ (ρ : Ren) (w : World) (a : Act), Rel P ρ h w → Fresh nx ρ h → TRel ρ ts n a → ∀ (b : Frame) (k : List Item) (cs : List Frame),
    ∃ e a' w', Post P r n nx ρ h w e a' w' ∧ Arrives P (lone (b.at a (.code c :: (x ++ k))) cs w) b k cs e a' w'

def Good (P : Program) (t : Task) (ts : Tr Value) (n : Nat) (h : Heap) (nx : Nat) (r : Rs) : Prop :=
  match t with
  | .code c => GoodAt P c [] r ts n h nx ∧ ∀ b, c = .loop b → GoodAt P b [.inLoop b] r ts n h nx
  | .scope b c => GoodAt P c [.inScope b] r ts n h nx
  | .ops all l => ∀ i, all.toList.drop i = l → r.e = .normal ∧ nx ≤ r.nx ∧ ∀ (ρ : Ren) (w : World) (a : Act), Rel P ρ h w → Fresh nx ρ h → TRel ρ ts n a →
      ∀ Q : Exit → Act → World → Prop, (∀ ρ' a' w', Rel P ρ' r.h w' → TRel ρ' r.ts n a' → Ext nx r.nx ρ h w ρ' r.h w' → Q .normal a' w') → wpOps P all Q (List.range' i l.length) a w
  | .any all l bs i nx0 act hs rq => ∀ T₀ : Tc, all.toList.drop i = l → (Region.before all).toList.drop i = bs → i ≤ all.size → nx0 + all.size ≤ nx → act < 2 ^ i → T₀.ts i = ts → T₀.h i = h → T₀.nx i = nx →
      (∀ j, j < i → StepOK P all n nx0 T₀ j) → (∀ j, j < i → T₀.cl j = .act → act.testBit j = true ∧ (j, T₀.h j) ∈ hs) → (∀ j oj, j < i → T₀.cl j = .read → all[j]? = some oj → (j, oj, T₀.val j, T₀.ts j) ∈ rq) →
      r.e = .normal ∧ nx ≤ r.nx ∧ ∃ T : Tc, (∀ j, j < all.size → StepOK P all n nx0 T j) ∧ T.ts 0 = T₀.ts 0 ∧ T.h 0 = T₀.h 0 ∧ T.nx 0 = T₀.nx 0 ∧ T.ts all.size = r.ts ∧ T.h all.size = r.h ∧ T.nx all.size = r.nx
  | .call f args => GoodCall P f args h nx r.v r.h r.nx

/-! ### One operation more -/

def Tc.put (T : Tc) (i : Nat) (v : Value) (c : Cl) (ts : Tr Value) (h : Heap) (nx : Nat) : Tc where
  ts := fun j => if j = i + 1 then ts else T.ts j
  h := fun j => if j = i + 1 then h else T.h j
  nx := fun j => if j = i + 1 then nx else T.nx j
  val := fun j => if j = i then v else T.val j
  cl := fun j => if j = i then c else T.cl j

theorem StepOK.congr {ops : Array Oper} {n nx0 : Nat} {T T' : Tc} {i : Nat} (H : StepOK P ops n nx0 T i) (e1 : ∀ m, m ≤ i + 1 → T'.ts m = T.ts m ∧ T'.h m = T.h m ∧ T'.nx m = T.nx m)
    (e2 : ∀ m, m ≤ i → T'.val m = T.val m ∧ T'.cl m = T.cl m) : StepOK P ops n nx0 T' i := by
  obtain ⟨o, ho, hp, hc⟩ := H
  obtain ⟨a1, a2, a3⟩ := e1 i (by omega)
  obtain ⟨b1, b2, b3⟩ := e1 (i + 1) (by omega)
  obtain ⟨c1, c2⟩ := e2 i (by omega)
  refine ⟨o, ho, by rw [a1, b1, c1]; exact hp, ?_⟩
  rw [c2]
  cases hk : T.cl i with
  | skip => rw [hk] at hc; simp only [a1, a2, a3, b2, b3, c1]; exact hc
  | still => rw [hk] at hc; simp only [a1, a2, a3, b2, b3, c1]; exact hc
  | new ob => rw [hk] at hc; simp only [a1, a2, a3, b2, b3, c1]; exact hc
  | read =>
    rw [hk] at hc
    simp only [a1, a2, a3, b2, b3, c1]
    refine ⟨hc.1, hc.2.1, hc.2.2.1, hc.2.2.2.1, fun j hj hcl hb => ?_⟩
    rw [(e2 j (by omega)).2] at hcl
    rw [(e1 j (by omega)).2.1]
    exact hc.2.2.2.2 j hj hcl hb
  | act =>
    rw [hk] at hc
    refine ⟨by rw [a3, b3]; exact hc.1, ?_, fun j hj hcl => ?_, fun j oj hj hcl hb hoj => ?_⟩
    · have := hc.2.1
      unfold SemA at this ⊢
      simp only [a1, a2, a3, b2, b3, c1]
      exact this
    · rw [(e2 j (by omega)).2] at hcl
      exact hc.2.2.1 j hj hcl
    · rw [(e2 j (by omega)).2] at hcl
      rw [b2, (e1 j (by omega)).1, (e2 j (by omega)).1]
      exact hc.2.2.2 j oj hj hcl hb hoj

theorem put_steps {ops : Array Oper} {n nx0 : Nat} {T : Tc} {i : Nat} {v : Value} {c : Cl} {ts : Tr Value} {h : Heap} {nx : Nat} (H : ∀ j, j < i → StepOK P ops n nx0 T j) : ∀ j, j < i → StepOK P ops n nx0 (T.put i v c ts h nx) j := fun j hj =>
  (H j hj).congr (fun m hm => by simp [Tc.put, show m ≠ i + 1 by omega]) (fun m hm => by simp [Tc.put, show m ≠ i by omega])

theorem backcheck_spec {ts : Tr Value} {b : Nat} {o : Oper} {v : Value} : ∀ {hs : List (Nat × Heap)}, backcheck P ts b o v hs = true → ∀ j h, (j, h) ∈ hs → ¬ b.testBit j = true → evOp P h 0 ts o = some (.val v)
  | [], _, j, h, hm, _ => by cases hm
  | (i, h0) :: hs, H, j, h, hm, hb => by
    simp only [backcheck] at H
    split at H
    · rename_i hc
      rcases List.mem_cons.1 hm with e | hm
      · cases e
        simp only [Bool.or_eq_true] at hc
        exact sameOut_eq (hc.resolve_left hb)
      · exact backcheck_spec H j h hm hb
    · cases H

theorem recheck_spec {h : Heap} {b : Nat} : ∀ {rq : List (Nat × Oper × Value × Tr Value)}, recheck P h b rq = true → ∀ j o v ts, (j, o, v, ts) ∈ rq → ¬ b.testBit j = true → evOp P h 0 ts o = some (.val v)
  | [], _, j, o, v, ts, hm, _ => by cases hm
  | (i, o0, v0, ts0) :: hs, H, j, o, v, ts, hm, hb => by
    simp only [recheck] at H
    split at H
    · rename_i hc
      rcases List.mem_cons.1 hm with e | hm
      · cases e
        simp only [Bool.or_eq_true] at hc
        exact sameOut_eq (hc.resolve_left hb)
      · exact recheck_spec H j o v ts hm hb
    · cases H

theorem mask_sub {act b j : Nat} (h : Nat.beq (Nat.land act b) act = true) (hj : act.testBit j = true) : b.testBit j = true := by
  have e : act &&& b = act := Nat.eq_of_beq_eq_true h
  rw [← e, Nat.testBit_and] at hj
  simp at hj
  exact hj.2

theorem mask_add {act i j : Nat} (hlt : act < 2 ^ i) : (act + 2 ^ i).testBit j = (act.testBit j || decide (j = i)) := by
  have h1 : act + 2 ^ i = 2 ^ i * 1 + act := by omega
  rw [h1, Nat.testBit_two_pow_mul_add 1 hlt]
  by_cases hj : j < i
  · rw [if_pos hj]; simp; omega
  · rw [if_neg hj]
    have h2 : act.testBit j = false := Nat.testBit_lt_two_pow (Nat.lt_of_lt_of_le hlt (Nat.pow_le_pow_right (by decide) (by omega)))
    rw [h2]
    by_cases e : j = i
    · subst e; simp
    · have : j - i ≠ 0 := by omega
      cases hq : j - i with
      | zero => exact absurd hq this
      | succ m => simp [Nat.testBit_succ, e]

end Ev
end Go.Proofs.YteohlibpfgmcaaaGreatDoor
