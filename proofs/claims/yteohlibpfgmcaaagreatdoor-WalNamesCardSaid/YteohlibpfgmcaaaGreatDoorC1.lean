/- A Spec for a function that comes to a number over a slice of slices of bytes (num.Crc): its contract serves the evaluator. -/
import Derived.Test.YteohlibpfgmcaaaGreatDoorK18
import Derived.Test.YteohlibpfgmcaaaGreatDoorW1
namespace Go.Proofs.YteohlibpfgmcaaaGreatDoor
open Go Go.RowKit
set_option linter.unusedVariables false
set_option linter.unusedSimpArgs false

namespace Ev

def rdU8 (v : Option Value) : Option UInt8 :=
  match v with
  | some (.int .u8 (.ofNat m)) => match Nat.ble 256 m with
    | true => none
    | false => some (UInt8.ofNat m)
  | _ => none
noncomputable def rdBs (n : Nat) (z : Array Value) (cs : Tr Value) : Nat → Nat → Option (List UInt8)
  | 0, _ => some []
  | k + 1, i => match rdU8 (cellAt n z cs i) with
    | some u => match rdBs n z cs k (i + 1) with
      | some l => some (u :: l)
      | none => none
    | none => none
noncomputable def rdSl (h : Heap) (v : Option Value) : Option (List UInt8) :=
  match v with
  | some (.slice _ 0 _) => some []
  | some (.slice (some ⟨b, o, none⟩) l _) => match h.get b, Nat.ble l 1000000 with
    | some (.row n _ z cs), true => rdBs n z cs l o
    | _, _ => none
  | _ => none
noncomputable def rdSs (h : Heap) (n : Nat) (z : Array Value) (cs : Tr Value) : Nat → Nat → Option (List (List UInt8))
  | 0, _ => some []
  | k + 1, i => match rdSl h (cellAt n z cs i) with
    | some u => match rdSs h n z cs k (i + 1) with
      | some l => some (u :: l)
      | none => none
    | none => none

theorem rdU8_some {v : Option Value} {u : UInt8} (H : rdU8 v = some u) : v = some (.int .u8 (u.toNat : Int)) := by
  unfold rdU8 at H
  split at H
  · rename_i m
    split at H
    · cases H
    · rename_i hb
      cases H
      have hm : m < 256 := by
        rcases Nat.lt_or_ge m 256 with h | h
        · exact h
        · rw [Nat.ble_eq_true_of_le h] at hb; cases hb
      have : (UInt8.ofNat m).toNat = m := by simp [UInt8.toNat_ofNat']; omega
      rw [this]; rfl
  · cases H

theorem rdBs_some {n : Nat} {z : Array Value} {cs : Tr Value} : ∀ (k i : Nat) (l : List UInt8), rdBs n z cs k i = some l → l.length = k ∧ ∀ j u, l[j]? = some u → cellAt n z cs (i + j) = some (.int .u8 (u.toNat : Int))
  | 0, i, l, H => by cases H; exact ⟨rfl, fun j u h => by simp at h⟩
  | k + 1, i, l, H => by
    unfold rdBs at H
    split at H
    · rename_i u hu
      split at H
      · rename_i r hr
        cases H
        obtain ⟨h1, h2⟩ := rdBs_some k (i + 1) r hr
        refine ⟨by simp [h1], fun j x hx => ?_⟩
        cases j with
        | zero => simp at hx; subst hx; exact rdU8_some hu
        | succ j =>
          have := h2 j x (by simpa using hx)
          rw [show i + (j + 1) = i + 1 + j by omega]; exact this
      · cases H
    · cases H

theorem rdSs_some {h : Heap} {n : Nat} {z : Array Value} {cs : Tr Value} : ∀ (k i : Nat) (l : List (List UInt8)), rdSs h n z cs k i = some l → l.length = k ∧ ∀ j u, l[j]? = some u → rdSl h (cellAt n z cs (i + j)) = some u
  | 0, i, l, H => by cases H; exact ⟨rfl, fun j u h => by simp at h⟩
  | k + 1, i, l, H => by
    unfold rdSs at H
    split at H
    · rename_i u hu
      split at H
      · rename_i r hr
        cases H
        obtain ⟨h1, h2⟩ := rdSs_some k (i + 1) r hr
        refine ⟨by simp [h1], fun j x hx => ?_⟩
        cases j with
        | zero => simp at hx; subst hx; exact hu
        | succ j =>
          have := h2 j x (by simpa using hx)
          rw [show i + (j + 1) = i + 1 + j by omega]; exact this
      · cases H
    · cases H

theorem cell_of_row {P : Program} {ρ : Ren} {h : Heap} {w : World} (hr : Rel P ρ h w) {b : Nat} {p : Pl} (hb : ρ b = some p) {n g : Nat} {z : Array Value} {cs : Tr Value} (ho : h.get b = some (.row n g z cs)) {i : Nat} {v : Value} (hv : cellAt n z cs i = some v) :
    ∃ v', w.cell? ⟨p.blk, i, none⟩ = some v' ∧ VRel ρ v v' := by
  obtain ⟨c, el, fz, h1, _, _, _, _, h6⟩ := hr.obj b p _ hb ho
  obtain ⟨v', k1, k2⟩ := h6 i v hv
  exact ⟨v', by unfold World.cell?; simp only [h1]; simpa using k1, k2⟩

theorem rdSl_some {P : Program} {ρ : Ren} {h : Heap} {w : World} (hr : Rel P ρ h w) {v v' : Value} {l : List UInt8} (H : rdSl h (some v) = some l) (hv : VRel ρ v v') : Bw w v' l := by
  unfold rdSl at H
  split at H
  · rename_i A c e
    cases H
    cases e
    cases hv with
    | sl0 => exact ⟨_, _, rfl, Nat.zero_le _, fun h => by simp at h⟩
    | sl o l h hc => exact ⟨_, _, rfl, Nat.zero_le _, fun h => by simp at h⟩
    | slx => exact ⟨_, _, rfl, Nat.zero_le _, fun h => by simp at h⟩
  · rename_i b o l0 c hne e
    split at H
    · rename_i n g z cs ho hble
      cases e
      have hble := Nat.le_of_ble_eq_true hble
      obtain ⟨h1, h2⟩ := rdBs_some _ _ _ H
      subst h1
      cases hv with
      | sl o l hb hc =>
        rename_i p c'
        refine ⟨_, c', rfl, by unfold maxLen; omega, fun _ => ⟨_, _, rfl, fun j u hj => ?_⟩⟩
        obtain ⟨v', k1, k2⟩ := cell_of_row hr hb ho (h2 j u hj)
        cases k2
        exact k1
    · cases H
  · cases H

noncomputable def crcSp (f : FuncId) (F : List UInt8 → Nat) : Spec := fun h nx g args =>
  match Nat.beq g f with
  | true => match args with
    | [.slice (some ⟨b, o, none⟩) l _] => match h.get b, Nat.ble l 1000000 with
      | some (.row n _ z cs), true => match rdSs h n z cs l o with
        | some ls => some (.int .u32 (F ls.flatten : Int), h, nx)
        | none => none
      | _, _ => none
    | _ => none
  | false => none

theorem crcSp_ok {P : Program} {f : FuncId} {F : List UInt8 → Nat} (hF : ∀ v ls W, Bsw W v ls → Calls P f #[v] W fun e w' => e = .returned (.int .u32 (F ls.flatten : Int)) ∧ w' = W) : SpecOK P (crcSp f F) := by
  intro h nx g args r H
  unfold crcSp at H
  split at H
  · rename_i hg
    have hg := Nat.eq_of_beq_eq_true hg
    subst hg
    split at H
    · rename_i b o l c
      split at H
      · rename_i n g z cs ho hble
        have hble := Nat.le_of_ble_eq_true hble
        split at H
        · rename_i ls hls
          cases H
          obtain ⟨h1, h2⟩ := rdSs_some _ _ _ hls
          subst h1
          refine ⟨Nat.le_refl _, fun ρ w args' hr hfr ha => ?_⟩
          have key : ∀ v', VRel ρ (.slice (some ⟨b, o, none⟩) ls.length c) v' → Calls P _ #[v'] w fun e w' => ∃ v' ρ', e = .returned v' ∧ VRel ρ' (.int .u32 (F ls.flatten : Int)) v' ∧ Rel P ρ' h w' ∧ Ext nx nx ρ h w ρ' h w' := fun v' hv => by
            have hB : Bsw w v' ls := by
              cases hv with
              | sl o l hb hc =>
                refine ⟨_, _, rfl, by unfold maxLen; omega, fun _ => ⟨_, _, rfl, fun j l hj => ?_⟩⟩
                have k := h2 j l hj
                cases hcell : cellAt n z cs (o + j) with
                | none => rw [hcell] at k; simp [rdSl] at k
                | some x =>
                  rw [hcell] at k
                  obtain ⟨x', q1, q2⟩ := cell_of_row hr hb ho hcell
                  exact ⟨x', q1, rdSl_some hr k q2⟩
            refine (hF v' ls w hB).mono fun e w' ⟨he, hw⟩ => ?_
            subst hw
            exact ⟨_, ρ, he, .int _ _, hr, Ext.refl _ _ _ _ _⟩
          obtain ⟨al⟩ := args'
          cases ha with
          | cons hv ht =>
            cases ht
            exact key _ hv
        · cases H
      · cases H
    · cases H
  · cases H
end Ev
end Go.Proofs.YteohlibpfgmcaaaGreatDoor
