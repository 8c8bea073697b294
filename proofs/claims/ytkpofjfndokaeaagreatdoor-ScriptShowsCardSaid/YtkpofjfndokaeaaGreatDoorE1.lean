/- What a quoted word says: plain facts; strconv.ParseUint at two hex digits. -/
import Derived.Test.YtkpofjfndokaeaaGreatDoorD4
import Derived.Test.YtkpofjfndokaeaaGreatDoorS2
namespace Go.Proofs.YtkpofjfndokaeaaGreatDoor
open Go.RowKit
set_option linter.unusedVariables false
set_option linter.unusedSimpArgs false

def hexB (c : Nat) : Bool := (decide (48 ≤ c) && decide (c ≤ 57)) || (decide (97 ≤ c) && decide (c ≤ 102))
def hexV (c : Nat) : Nat := if c ≤ 57 then c - 48 else c - 87
theorem hexV_lt {c : Nat} (h : hexB c = true) : hexV c < 16 := by
  unfold hexB at h; unfold hexV
  simp only [Bool.or_eq_true, Bool.and_eq_true, decide_eq_true_eq] at h
  split <;> omega

/-- What stands between the quotes. -/
def unq : List UInt8 → Option (List UInt8)
  | [] => some []
  | c :: r => if plainB c.toNat then (unq r).map (c :: ·) else
      match r with
      | x :: a :: b :: r' => if c = 92 ∧ x = 120 ∧ hexB a.toNat = true ∧ hexB b.toNat = true then (unq r').map (UInt8.ofNat (16 * hexV a.toNat + hexV b.toNat) :: ·) else none
      | _ => none
def textB (l : List UInt8) : Option (List UInt8) :=
  if 2 ≤ l.length ∧ l.head? = some 34 ∧ l.getLast? = some 34 then unq (l.drop 1).dropLast else none

def hexs : List UInt8 := [48, 49, 50, 51, 52, 53, 54, 55, 56, 57, 97, 98, 99, 100, 101, 102]
theorem hexs_contains (c : UInt8) : hexs.contains c = hexB c.toNat := by
  have h : ∀ c : Fin 256, hexs.contains (UInt8.ofNat c.val) = hexB c.val := by decide +kernel
  have := h ⟨c.toNat, UInt8.toNat_lt c⟩
  simpa using this
theorem trim_two (a b : UInt8) : Lib.trimS [a, b] hexs = [] ↔ hexB a.toNat = true ∧ hexB b.toNat = true := by
  unfold Lib.trimS Lib.trimLeftS Lib.trimRightS
  simp only [hexs_contains, List.reverse_cons, List.reverse_nil, List.nil_append, List.singleton_append, List.dropWhile_cons, List.dropWhile_nil]
  cases ha : hexB a.toNat <;> cases hb : hexB b.toNat <;> simp [List.dropWhile_cons, ha, hb]
theorem or32 (c : Nat) (h : 97 ≤ c) (h2 : c ≤ 102) : Go.bits .or .u8 (c : Int) 32 = (c : Int) := by
  have h' : ∀ c : Fin 6, Go.bits .or .u8 ((97 + c.val : Nat) : Int) 32 = ((97 + c.val : Nat) : Int) := by decide +kernel
  have := h' ⟨c - 97, by omega⟩
  rwa [show 97 + (c - 97) = c by omega] at this
end Go.Proofs.YtkpofjfndokaeaaGreatDoor

/- strconv.ParseUint at two hex digits, base 16, eight bits: the walk. -/
namespace Go.Proofs.YtkpofjfndokaeaaGreatDoor
open Go.RowKit
set_option linter.unusedVariables false
set_option linter.unusedSimpArgs false

set_option maxHeartbeats 400000 in
theorem lower_any (c : Nat) (h : 97 ≤ c) (h2 : c ≤ 102) (w : World) : Calls Tryz.prog 113 #[.int .u8 (c : Int)] w fun e w' => e = .returned (.int .u8 (c : Int)) ∧ w' = w := by
  have ho := or32 c h h2
  go_enter Tryz.func113, Tryz.ntmps113
  go_wp2
  go_ret
  exact ⟨rfl, rfl⟩

/-- The number that the first digits are. -/
def hexN (a b : UInt8) (n : Nat) : Nat := if n = 0 then 0 else if n = 1 then hexV a.toNat else 16 * hexV a.toNat + hexV b.toNat

set_option maxRecDepth 100000 in
set_option maxHeartbeats 1000000 in
theorem puint_in (s : ByteArray) (a b : UInt8) (hs : s.data.toList = [a, b]) (ha : hexB a.toNat = true) (hb : hexB b.toNat = true) (W : World) :
    Calls Tryz.prog 105 #[.string s, .int .i64 16, .int .i64 8] W fun e w' => e = .returned (.tuple #[.int .u64 ((16 * hexV a.toNat + hexV b.toNat : Nat) : Int), .nilIface]) ∧ Below W.heap.size W w' := by
  have hsz : s.size = 2 := by
    have : s.data.toList.length = s.size := by rw [Array.length_toList]; rfl
    rw [← this, hs]; rfl
  have hne : ¬ s.toList = [] := fun h => by
    rw [Lib.toList_data, hs] at h
    cases h
  have hemp : s.toList.isEmpty = false := by
    rw [Lib.toList_data, hs]; rfl
  have hcv := fun w => Lib.run_convert_string_bytes (P := Tryz.prog) w 9 47 5 s Tryz.underlying9 Tryz.underlying47 Tryz.underlying5
  have hbel := Joins.below_bytesWorld W.heap.size W 5 s (Nat.le_refl _)
  have hcell : ∀ j, j < 2 → (Lib.bytesWorld W 5 s).cell? ⟨W.heap.size, j, none⟩ = some (u8v ([a, b].getD j 0).toNat) := fun j hj => by
    have := Lib.bytesWorld_cell W 5 s j (by omega)
    rw [hs] at this
    exact this
  have HW := Lib.hid hbel
  have HC := Lib.hid hcell
  have HA := Lib.hid ha
  have HB := Lib.hid hb
  have HL := Lib.hid lower_any
  clear hbel hcell ha hb
  go_enter Tryz.func105, Tryz.ntmps105
  go_wp2_with fail
  go_loopw [12, 13, 101] (fun u n i wr => ∃ k : Nat, k ≤ 2 ∧ i = .int .i64 k ∧ u = .bool false ∧ n = .int .u64 ((hexN a b k : Nat) : Int) ∧ wr = Lib.bytesWorld W 5 s) (fun _ _ i _ => 2 - (intOf i).toNat)
  case atStart => exact ⟨0, by omega, rfl, rfl, rfl, rfl⟩
  case round =>
    obtain ⟨k, hk, rfl, rfl, rfl, rfl⟩ := hrel
    by_cases hlt : k < 2
    · have hc := HC.out k hlt
      have hsn : ∃ c, ([a, b].getD k 0).toNat = c ∧ c < 256 ∧ hexB c = true ∧ hexN a b (k + 1) = 16 * hexN a b k + hexV c ∧ hexN a b k < 16 := by
        have h16 := hexV_lt HA.out
        obtain rfl | rfl : k = 0 ∨ k = 1 := by omega
        · exact ⟨_, rfl, UInt8.toNat_lt _, HA.out, by simp [hexN], by simp [hexN]⟩
        · exact ⟨_, rfl, UInt8.toNat_lt _, HB.out, by simp [hexN], by simp [hexN]; omega⟩
      obtain ⟨c, hce, hc256, hx, hN, hm⟩ := hsn
      rw [hce] at hc
      have HN := Lib.hid hN
      generalize hexN a b k = m at *
      generalize hme : hexN a b (k + 1) = m' at *
      generalize Lib.bytesWorld W 5 s = w1 at *
      unfold u8v at hc
      have hm0 : ((m : Nat) : Int) < 16 := by omega
      have hm1 : 0 ≤ ((m : Nat) : Int) := by omega
      generalize hM : ((m : Nat) : Int) = M at *
      have HME := Lib.hid hme
      have HMM := Lib.hid hM
      clear hN hce hcv hne hemp HA HB hme hM
      by_cases h57 : c ≤ 57
      · have hcl : 48 ≤ c := by
          unfold hexB at hx
          simp only [Bool.or_eq_true, Bool.and_eq_true, decide_eq_true_eq] at hx
          omega
        have hv : hexV c = c - 48 := by unfold hexV; rw [if_pos h57]
        clear hx
        have HV := Lib.hid hv
        clear hv
        go_wp2_with fail
        refine ⟨⟨k + 1, by omega, by go_num, rfl, ?_, trivial⟩, by simp [intOf]; omega⟩
        rw [HME.out, HN.out, HV.out, ← HMM.out]
        congr 1
        omega
      · have hcl : 97 ≤ c ∧ c ≤ 102 := by
          unfold hexB at hx
          simp only [Bool.or_eq_true, Bool.and_eq_true, decide_eq_true_eq] at hx
          omega
        have hv : hexV c = c - 87 := by unfold hexV; rw [if_neg h57]
        clear hx
        have HV := Lib.hid hv
        clear hv
        obtain ⟨h97, h102⟩ := hcl
        go_wp2_with (go_at_call 113; refine (HL.out c (by omega) (by omega) _).mono ?_; rintro e w2 ⟨rfl, hw2⟩; subst hw2)
        refine ⟨⟨k + 1, by omega, by go_num, rfl, ?_, by first | rfl | trivial⟩, by simp [intOf]; omega⟩
        rw [HME.out, HN.out, HV.out, ← HMM.out]
        congr 1
        omega
    · obtain rfl : k = 2 := by omega
      generalize Lib.bytesWorld W 5 s = w1 at *
      clear hcv hne hemp HA HB
      have hN : hexN a b 2 = 16 * hexV a.toNat + hexV b.toNat := rfl
      rw [hN]
      go_wp2_with fail
      go_ret2
      exact ⟨rfl, HW.out⟩

set_option maxRecDepth 100000 in
set_option maxHeartbeats 1000000 in
theorem puint_any (s : ByteArray) (a b : UInt8) (hs : s.data.toList = [a, b]) (ha : hexB a.toNat = true) (hb : hexB b.toNat = true) (W : World) :
    Calls Tryz.prog 84 #[.string s, .int .i64 16, .int .i64 8] W fun e w' => e = .returned (.tuple #[.int .u64 ((16 * hexV a.toNat + hexV b.toNat : Nat) : Int), .nilIface]) ∧ Below W.heap.size W w' := by
  have HP := Lib.hid (puint_in s a b hs ha hb W)
  have h1 := hexV_lt ha
  have h2 := hexV_lt hb
  generalize 16 * hexV a.toNat + hexV b.toNat = n at *
  clear hs ha hb
  go_enter Tryz.func84, Tryz.ntmps84
  go_wp2_with (go_at_call 105; refine HP.out.mono ?_; rintro e w2 ⟨rfl, hb2⟩; have HB2 := Lib.hid hb2; clear hb2)
  go_ret2
  exact ⟨rfl, HB2.out⟩
end Go.Proofs.YtkpofjfndokaeaaGreatDoor
