/- The document's digits (varveref08.digits): the walk. -/
import Derived.Test.YteohlibpfgmcaaaGreatDoorProg
import Derived.WalkKit
import Derived.Below
import Derived.Lib.Hide
import Derived.OwnWalk
import Derived.Lib.ItoaLen
import Derived.Lib.ItoaMem
import Derived.Deep.RegionLaw
import Derived.Laws.Bits64
namespace Go.Proofs.YteohlibpfgmcaaaGreatDoor
open Go.RowKit
set_option linter.unusedVariables false
set_option linter.unusedSimpArgs false

theorem bapp (a b : List UInt8) : (⟨a.toArray⟩ : ByteArray) ++ ⟨b.toArray⟩ = ⟨(a ++ b).toArray⟩ := by
  apply ByteArray.ext
  rw [ByteArray.data_append]
  simp
theorem ba_toList (s : ByteArray) : s.toList = s.data.toList := ByteArray.toList_eq s
theorem slice_at (s : ByteArray) (a b : Nat) (h : a ≤ b) (h2 : b ≤ s.size) (w : World) : (Instr.slice 9 (.string s) (some (.int .i64 (a : Int))) (some (.int .i64 (b : Int))) none).run Tryz.prog w = .ok (.string (s.extract a b)) w := by
  have := run_slice_string (P := Tryz.prog) w 9 s .i64 .i64 (a : Int) (b : Int) Tryz.underlying9 (by omega) (by omega) (by omega)
  simpa only [Int.toNat_natCast] using this
theorem slice_at2 (s : ByteArray) (a b : Nat) (x y : Int) (hx : x = (a : Int)) (hy : y = (b : Int)) (h : a ≤ b) (h2 : b ≤ s.size) {M : ByteArray} (hM : M = s.extract a b) (w : World) : (Instr.slice 9 (.string s) (some (.int .i64 x)) (some (.int .i64 y)) none).run Tryz.prog w = .ok (.string M) w := by
  subst hx; subst hy; subst hM; exact slice_at s a b h h2 w

/-- One digit of the document's. -/
theorem digit_slice (d : Nat) (hd : d < 10) (w : World) : (Instr.slice 9 (.string ⟨#[48, 49, 50, 51, 52, 53, 54, 55, 56, 57]⟩) (some (.int .i64 (d : Int))) (some (.int .i64 ((d : Int) + 1))) none).run Tryz.prog w = .ok (.string ⟨#[UInt8.ofNat (48 + d)]⟩) w := by
  refine slice_at2 ⟨#[48, 49, 50, 51, 52, 53, 54, 55, 56, 57]⟩ d (d + 1) (d : Int) ((d : Int) + 1) rfl (by omega) (by omega) (by show d + 1 ≤ 10; omega) ?_ w
  obtain rfl | rfl | rfl | rfl | rfl | rfl | rfl | rfl | rfl | rfl : d = 0 ∨ d = 1 ∨ d = 2 ∨ d = 3 ∨ d = 4 ∨ d = 5 ∨ d = 6 ∨ d = 7 ∨ d = 8 ∨ d = 9 := by omega
  all_goals rfl
/-- The digits so far: what is left of the number, its last digits. -/
def DI (u k : Nat) (l : List UInt8) : Prop := (l = [] ∧ k = u) ∨ (l ≠ [] ∧ (if k = 0 then l = Lib.decDigits u else Lib.decDigits k ++ l = Lib.decDigits u))
theorem DI.step {u k : Nat} {l : List UInt8} (h : DI u k l) (hc : k ≠ 0 ∨ l = []) : DI u (k / 10) (UInt8.ofNat (48 + k % 10) :: l) := by
  refine .inr ⟨by simp, ?_⟩
  have key : ∀ r : List UInt8, (if k / 10 = 0 then UInt8.ofNat (48 + k % 10) :: r = Lib.decDigits k ++ r else Lib.decDigits (k / 10) ++ UInt8.ofNat (48 + k % 10) :: r = Lib.decDigits k ++ r) := fun r => by
    by_cases h10 : k < 10
    · rw [if_pos (by omega), Lib.decDigits_one h10, show k % 10 = k by omega]
      rfl
    · rw [if_neg (by omega)]
      conv => rhs; rw [Lib.decDigits, dif_neg h10]
      simp
  rcases h with ⟨rfl, rfl⟩ | ⟨hl, h⟩
  · have := key []
    simpa using this
  · rcases hc with hk | hk
    · rw [if_neg hk] at h
      rw [← h]
      exact key l
    · exact absurd hk hl
theorem DI.len {u k : Nat} {l : List UInt8} (h : DI u k l) : l.length ≤ (Lib.decDigits u).length := by
  rcases h with ⟨rfl, _⟩ | ⟨_, h⟩
  · simp
  · split at h
    · rw [h]; exact Nat.le_refl _
    · rw [← h, List.length_append]; omega
theorem DI.end {u : Nat} {l : List UInt8} (h : DI u 0 l) (hl : l ≠ []) : l = Lib.decDigits u := by
  rcases h with ⟨h, _⟩ | ⟨_, h⟩
  · exact absurd h hl
  · rwa [if_pos rfl] at h
theorem str_cons (c : UInt8) (l : List UInt8) : ((⟨#[c]⟩ : ByteArray) ++ ⟨l.toArray⟩) = ⟨(c :: l).toArray⟩ := bapp [c] l

set_option maxRecDepth 100000 in
set_option maxHeartbeats 4000000 in
theorem digits_pos (u : Nat) (hu : u ≤ 9223372036854775807) (W : World) : Calls Tryz.prog 37 #[.int .i64 (u : Int)] W fun e w' => e = .returned (.string ⟨(Lib.itoa (u : Int)).toArray⟩) ∧ w' = W := by
  have hlen : (Lib.decDigits u).length ≤ 21 := by
    have := Lib.itoa_length_le (u : Int) (by omega) (by omega)
    rwa [Lib.itoa_nonneg] at this
  have HI := Lib.hid (Lib.itoa_nonneg u)
  have hu0 : ¬ (u : Int) < 0 := by omega
  have HD := Lib.hid digit_slice
  go_enter Tryz.func37, Tryz.ntmps37
  go_wp2_with fail
  go_loop [3, 4] (fun s m => ∃ (k : Nat) (l : List UInt8), s = .string ⟨l.toArray⟩ ∧ m = .int .i64 (k : Int) ∧ k ≤ u ∧ Hid (DI u k l)) (fun s m => 2 * (intOf m).toNat + (match s with | .string b => if b.size = 0 then 1 else 0 | _ => 0))
  case atStart => exact ⟨u, [], rfl, rfl, Nat.le_refl _, Lib.hid (.inl ⟨rfl, rfl⟩)⟩
  case round =>
    obtain ⟨k, l, rfl, rfl, hk, HDI⟩ := hrel
    have hll := HDI.out.len
    have HST := Lib.hid HDI.out.step
    have hc := HD.out (k % 10) (Nat.mod_lt _ (by decide))
    have hcz : k = 0 → UInt8.ofNat (48 + k % 10) = 48 := fun h => by rw [h]; rfl
    have HCZ := Lib.hid hcz
    have HKZ : Hid (k = 0 → k / 10 = 0) := Lib.hid fun h => by rw [h]
    clear hcz
    generalize UInt8.ofNat (48 + k % 10) = c at *
    have HCAT := Lib.hid (str_cons c l)
    have hd10 : k % 10 < 10 := Nat.mod_lt _ (by decide)
    have hk2 : k / 10 ≤ u := by omega
    have hml : k ≠ 0 → k / 10 < k := fun h => by omega
    have hdi : (k : Int) % 10 = ((k % 10 : Nat) : Int) := by omega
    have hki : (k : Int) / 10 = ((k / 10 : Nat) : Int) := by omega
    generalize k % 10 = d at *
    generalize k / 10 = k2 at *
    by_cases hl : l = []
    · subst hl
      clear hll
      by_cases hk0 : k = 0
      · have hkz := hk0
        subst hk0
        have hdn : ¬ (d : Int) < 0 := by omega
        go_wp2_with fail
        refine ⟨⟨0, [48], rfl, rfl, Nat.zero_le _, Lib.hid ?_⟩, by rw [show (ByteArray.extract ⟨#[48, 49, 50, 51, 52, 53, 54, 55, 56, 57]⟩ 0 1 ++ ⟨#[]⟩ : ByteArray) = ⟨#[48]⟩ from rfl]; decide⟩
        have := HST.out (.inr rfl)
        rwa [HCZ.out rfl, HKZ.out rfl] at this
      · have hkn : ((k : Int) != 0) = true := by rw [bne_iff_ne]; omega
        have hdn : ¬ (d : Int) < 0 := by omega
        go_wp2_with fail
        exact ⟨⟨k2, [c], by rw [HCAT.out], rfl, hk2, Lib.hid (HST.out (.inl hk0))⟩, by
         show 2 * (intOf (.int .i64 (k2 : Int))).toNat + (if _ = 0 then 1 else 0) < 2 * (intOf (.int .i64 (k : Int))).toNat + (if _ = 0 then 1 else 0)
         simp only [intOf, Int.toNat_natCast]
         have := hml hk0
         split <;> (try split) <;> omega⟩
    · generalize hS : (⟨l.toArray⟩ : ByteArray) = S at *
      have hSz : S.size ≤ 21 := by rw [← hS]; show l.length ≤ 21; omega
      have hSn : ¬ S.toList = [] := by rw [← hS, ba_toList]; exact hl
      have hSe : (S.toList == []) = false := beq_eq_false_iff_ne.2 hSn
      have hSi : S.toList.isEmpty = false := by rw [Bool.eq_false_iff]; intro h; exact hSn (List.isEmpty_iff.1 h)
      have hS0 : S.size ≠ 0 := by rw [← hS]; show l.length ≠ 0; exact fun e => hl (List.length_eq_zero_iff.1 e)
      have HS := Lib.hid hS
      clear hS hll
      by_cases hk0 : k = 0
      · subst hk0
        go_wp2_with fail
        go_ret
        refine ⟨?_, rfl⟩
        rw [HI.out, ← HDI.out.end hl, ← HS.out]
        rfl
      · have hkn : ((k : Int) != 0) = true := by rw [bne_iff_ne]; omega
        have hdn : ¬ (d : Int) < 0 := by omega
        go_wp2_with fail
        exact ⟨⟨k2, c :: l, by rw [HCAT.out], rfl, hk2, Lib.hid (HST.out (.inl hk0))⟩, by
         show 2 * (intOf (.int .i64 (k2 : Int))).toNat + (if _ = 0 then 1 else 0) < 2 * (intOf (.int .i64 (k : Int))).toNat + (if _ = 0 then 1 else 0)
         simp only [intOf, Int.toNat_natCast]
         have := hml hk0
         split <;> (try split) <;> omega⟩
set_option maxRecDepth 100000 in
set_option maxHeartbeats 4000000 in
theorem digits_neg (u : Nat) (hu1 : 1 ≤ u) (hu : u ≤ 9223372036854775808) (W : World) : Calls Tryz.prog 37 #[.int .i64 (-(u : Int))] W fun e w' => e = .returned (.string ⟨(Lib.itoa (-(u : Int))).toArray⟩) ∧ w' = W := by
  have hlen : (Lib.decDigits u).length ≤ 21 := by
    have := Lib.itoa_length_le (-(u : Int)) (by omega) (by omega)
    rw [Lib.itoa_neg u hu1, List.length_cons] at this
    omega
  have HI := Lib.hid (Lib.itoa_neg u hu1)
  have hu0 : -(u : Int) < 0 := by omega
  have hu3 : ¬ (0 : Int) ≤ -(u : Int) := by omega
  have HD := Lib.hid digit_slice
  go_enter Tryz.func37, Tryz.ntmps37
  go_wp2_with fail
  go_loop [3, 4] (fun s m => ∃ (k : Nat) (l : List UInt8), s = .string ⟨l.toArray⟩ ∧ m = .int .i64 (-(k : Int)) ∧ k ≤ u ∧ Hid (DI u k l)) (fun s m => 2 * (-(intOf m)).toNat + (match s with | .string b => if b.size = 0 then 1 else 0 | _ => 0))
  case atStart => exact ⟨u, [], rfl, rfl, Nat.le_refl _, Lib.hid (.inl ⟨rfl, rfl⟩)⟩
  case round =>
    obtain ⟨k, l, rfl, rfl, hk, HDI⟩ := hrel
    have hll := HDI.out.len
    have HST := Lib.hid HDI.out.step
    have hc := HD.out (k % 10) (Nat.mod_lt _ (by decide))
    have hcz : k = 0 → UInt8.ofNat (48 + k % 10) = 48 := fun h => by rw [h]; rfl
    have HCZ := Lib.hid hcz
    have HCD : Hid (k % 10 = 0 → UInt8.ofNat (48 + k % 10) = 48) := Lib.hid fun h => by rw [h]; rfl
    have HKZ : Hid (k = 0 → k / 10 = 0) := Lib.hid fun h => by rw [h]
    clear hcz
    generalize UInt8.ofNat (48 + k % 10) = c at *
    have HCAT := Lib.hid (str_cons c l)
    have hd10 : k % 10 < 10 := Nat.mod_lt _ (by decide)
    have hk2 : k / 10 ≤ u := by omega
    have hml : k ≠ 0 → k / 10 < k := fun h => by omega
    have hdi : (-(k : Int)).tmod 10 = -((k % 10 : Nat) : Int) := by rw [Int.neg_tmod]; rfl
    have hki : (-(k : Int)).tdiv 10 = -((k / 10 : Nat) : Int) := by rw [Int.neg_tdiv]; rfl
    have hnn : wrap64 (((k % 10 : Nat) : Int)) = ((k % 10 : Nat) : Int) := by unfold wrap64; omega
    generalize k % 10 = d at *
    generalize k / 10 = k2 at *
    by_cases hl : l = []
    · subst hl
      clear hll
      by_cases hk0 : k = 0
      · have hkz := hk0
        subst hk0
        by_cases hd0 : d = 0
        · subst hd0
          go_wp2_with fail
          refine ⟨⟨0, [48], rfl, rfl, Nat.zero_le _, Lib.hid ?_⟩, by rw [show (ByteArray.extract ⟨#[48, 49, 50, 51, 52, 53, 54, 55, 56, 57]⟩ 0 1 ++ ⟨#[]⟩ : ByteArray) = ⟨#[48]⟩ from rfl]; decide⟩
          have := HST.out (.inr rfl)
          rwa [HCZ.out rfl, HKZ.out rfl] at this
        · have hdn : -(d : Int) < 0 := by omega
          go_wp2_with fail
          refine ⟨⟨0, [48], rfl, rfl, Nat.zero_le _, Lib.hid ?_⟩, by rw [show (ByteArray.extract ⟨#[48, 49, 50, 51, 52, 53, 54, 55, 56, 57]⟩ 0 1 ++ ⟨#[]⟩ : ByteArray) = ⟨#[48]⟩ from rfl]; decide⟩
          have := HST.out (.inr rfl)
          rwa [HCZ.out rfl, HKZ.out rfl] at this
      · have hkn : ((-(k : Int)) != 0) = true := by rw [bne_iff_ne]; omega
        by_cases hd0 : d = 0
        · subst hd0
          go_wp2_with fail
          exact ⟨⟨k2, [c], by rw [← HCAT.out, HCD.out rfl]; rfl, rfl, hk2, Lib.hid (HST.out (.inl hk0))⟩, by
           show 2 * (-(intOf (.int .i64 (-(k2 : Int))))).toNat + (if _ = 0 then 1 else 0) < 2 * (-(intOf (.int .i64 (-(k : Int))))).toNat + (if _ = 0 then 1 else 0)
           simp only [intOf, Int.neg_neg, Int.toNat_natCast]
           have := hml hk0
           split <;> (try split) <;> omega⟩
        · have hdn : -(d : Int) < 0 := by omega
          go_wp2_with fail
          exact ⟨⟨k2, [c], by rw [HCAT.out], rfl, hk2, Lib.hid (HST.out (.inl hk0))⟩, by
           show 2 * (-(intOf (.int .i64 (-(k2 : Int))))).toNat + (if _ = 0 then 1 else 0) < 2 * (-(intOf (.int .i64 (-(k : Int))))).toNat + (if _ = 0 then 1 else 0)
           simp only [intOf, Int.neg_neg, Int.toNat_natCast]
           have := hml hk0
           split <;> (try split) <;> omega⟩
    · generalize hS : (⟨l.toArray⟩ : ByteArray) = S at *
      have hSz : S.size ≤ 21 := by rw [← hS]; show l.length ≤ 21; omega
      have hSn : ¬ S.toList = [] := by rw [← hS, ba_toList]; exact hl
      have hSe : (S.toList == []) = false := beq_eq_false_iff_ne.2 hSn
      have hSi : S.toList.isEmpty = false := by rw [Bool.eq_false_iff]; intro h; exact hSn (List.isEmpty_iff.1 h)
      have hS0 : S.size ≠ 0 := by rw [← hS]; show l.length ≠ 0; exact fun e => hl (List.length_eq_zero_iff.1 e)
      have HS := Lib.hid hS
      clear hS hll
      by_cases hk0 : k = 0
      · subst hk0
        go_wp2_with fail
        go_ret
        refine ⟨?_, rfl⟩
        rw [HI.out, ← HDI.out.end hl, ← HS.out]
        rfl
      · have hkn : ((-(k : Int)) != 0) = true := by rw [bne_iff_ne]; omega
        by_cases hd0 : d = 0
        · subst hd0
          go_wp2_with fail
          exact ⟨⟨k2, c :: l, by rw [← HCAT.out, HCD.out rfl]; rfl, rfl, hk2, Lib.hid (HST.out (.inl hk0))⟩, by
           show 2 * (-(intOf (.int .i64 (-(k2 : Int))))).toNat + (if _ = 0 then 1 else 0) < 2 * (-(intOf (.int .i64 (-(k : Int))))).toNat + (if _ = 0 then 1 else 0)
           simp only [intOf, Int.neg_neg, Int.toNat_natCast]
           have := hml hk0
           split <;> (try split) <;> omega⟩
        · have hdn : -(d : Int) < 0 := by omega
          go_wp2_with fail
          exact ⟨⟨k2, c :: l, by rw [HCAT.out], rfl, hk2, Lib.hid (HST.out (.inl hk0))⟩, by
           show 2 * (-(intOf (.int .i64 (-(k2 : Int))))).toNat + (if _ = 0 then 1 else 0) < 2 * (-(intOf (.int .i64 (-(k : Int))))).toNat + (if _ = 0 then 1 else 0)
           simp only [intOf, Int.neg_neg, Int.toNat_natCast]
           have := hml hk0
           split <;> (try split) <;> omega⟩
theorem digits_any (n : Int) (h0 : -9223372036854775808 ≤ n) (h1 : n ≤ 9223372036854775807) (W : World) : Calls Tryz.prog 37 #[.int .i64 n] W fun e w' => e = .returned (.string ⟨(Lib.itoa n).toArray⟩) ∧ w' = W := by
  by_cases h : 0 ≤ n
  · obtain ⟨u, rfl⟩ := Int.eq_ofNat_of_zero_le h
    exact digits_pos u (by omega) W
  · obtain ⟨u, hu⟩ := Int.eq_ofNat_of_zero_le (show 0 ≤ -n by omega)
    obtain rfl : n = -(u : Int) := by omega
    exact digits_neg u (by omega) (by omega) W
end Go.Proofs.YteohlibpfgmcaaaGreatDoor
