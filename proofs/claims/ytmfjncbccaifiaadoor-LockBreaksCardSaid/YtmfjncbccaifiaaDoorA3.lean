/- lock words: right, isWorker, holders, wrong, Against, Readers, Writer, Read, Write, Leave: what each hands back. -/
import Derived.Test.YtmfjncbccaifiaaDoorA2
namespace Go.Proofs.YtmfjncbccaifiaaDoor
open Go.RowKit Go.Shelf
set_option linter.unusedVariables false
set_option linter.unusedSimpArgs false

theorem and64 (a b : Nat) (ha : a < 18446744073709551616) (hb : b < 18446744073709551616) : bits .and .u64 (a : Int) (b : Int) = ((a &&& b : Nat) : Int) := bits_and_u64_nat a b ha hb
theorem or64 (a b : Nat) (ha : a < 18446744073709551616) (hb : b < 18446744073709551616) : bits .or .u64 (a : Int) (b : Int) = ((a ||| b : Nat) : Int) := bits_or_u64_nat a b ha hb
theorem andNot64 (a b : Nat) (ha : a < 18446744073709551616) (hb : b < 18446744073709551616) : bits .andNot .u64 (a : Int) (b : Int) = ((a &&& (18446744073709551615 - b) : Nat) : Int) := by
  have hx : a &&& (18446744073709551615 - b) < 2 ^ 64 := Nat.and_lt_two_pow _ (by omega)
  have h1 : (BitVec.ofInt 64 (a : Int)).toNat = a := by
    rw [BitVec.ofInt_natCast, BitVec.toNat_ofNat]; exact Nat.mod_eq_of_lt (by omega)
  have h2 : (BitVec.ofInt 64 (b : Int)).toNat = b := by
    rw [BitVec.ofInt_natCast, BitVec.toNat_ofNat]; exact Nat.mod_eq_of_lt (by omega)
  show IntKind.u64.wrap ((BitVec.ofInt 64 (a : Int) &&& ~~~ BitVec.ofInt 64 (b : Int)).toNat : Int) = _
  rw [BitVec.toNat_and, BitVec.toNat_not, h1, h2, IntKind.wrap_u64]
  have e : 2 ^ 64 - 1 - b = 18446744073709551615 - b := by omega
  rw [e]
  omega

theorem low32 (m : Nat) : m &&& 4294967295 = m % 4294967296 := Nat.and_two_pow_sub_one_eq_mod m 32
theorem low16 (m : Nat) : m &&& 65535 = m % 65536 := Nat.and_two_pow_sub_one_eq_mod m 16
theorem high48 (m : Nat) (hm : m < 4294967296) : m &&& (18446744073709551615 - 65535) = m - m % 65536 := by
  apply Nat.eq_of_testBit_eq
  intro i
  rw [Nat.testBit_and, show (18446744073709551615 - 65535 : Nat) = 2 ^ 16 * (2 ^ 48 - 1) from rfl, Nat.mul_comm, Nat.testBit_mul_two_pow, Nat.testBit_two_pow_sub_one]
  have e : m - m % 65536 = (m / 65536) * 2 ^ 16 := by omega
  rw [e, Nat.testBit_mul_two_pow]
  by_cases h : 16 ≤ i
  · have e2 : (65536 : Nat) = 2 ^ 16 := rfl
    rw [e2, Nat.testBit_div_two_pow, show i - 16 + 16 = i by omega]
    simp only [h, decide_true, Bool.true_and]
    by_cases h2 : i - 16 < 48
    · simp [h2]
    · have : m.testBit i = false := Nat.testBit_lt_two_pow (Nat.lt_of_lt_of_le hm (Nat.le_trans (show 4294967296 ≤ 2 ^ 64 by decide) (Nat.pow_le_pow_right (by decide) (by omega))))
      simp [this]
  · simp [h]

theorem right_test (m : Nat) (hm : m < 18446744073709551616) : (bits .andNot .u64 (bits .and .u64 (m : Int) 4294967295) 65535 == 0) = decide (m % 4294967296 < 65536) := by
  have e1 := and64 m 4294967295 hm (by decide)
  have e2 := andNot64 (m % 4294967296) 65535 (by omega) (by decide)
  rw [low32] at e1
  rw [high48 _ (by omega)] at e2
  rw [show (4294967295 : Int) = ((4294967295 : Nat) : Int) from rfl, e1, show (65535 : Int) = ((65535 : Nat) : Int) from rfl, e2]
  rw [Bool.eq_iff_iff]
  simp
  omega

def isW (a : Int) : Bool := decide (0 ≤ a) && decide (a < 16)
theorem isW_true {a : Int} : isW a = true ↔ 0 ≤ a ∧ a < 16 := by simp [isW]
theorem isW_false {a : Int} : isW a = false ↔ a < 0 ∨ 16 ≤ a := by
  rw [Bool.eq_false_iff, ne_eq, isW_true]; omega
def rgt (m : Nat) : Bool := decide (m % 4294967296 < 65536) && decide (m / 4294967296 ≤ 16)

theorem isWorker_any (a : Int) (w : World) : Calls Tryd.prog 33 #[.int .i64 a] w fun e w' => e = .returned (.bool (isW a)) ∧ w = w' := by
  by_cases h : 0 ≤ a
  · go_enter Tryd.func33, Tryd.ntmps33
    go_wp2
    go_ret
    exact ⟨by simp [isW, h], rfl⟩
  · go_enter Tryd.func33, Tryd.ntmps33
    go_wp2
    go_ret
    exact ⟨by simp [isW]; omega, rfl⟩

theorem right_any (m : Nat) (hm : m < 18446744073709551616) (w : World) : Calls Tryd.prog 45 #[.int .u64 (m : Int)] w fun e w' => e = .returned (.bool (rgt m)) ∧ w = w' := by
  have ht := right_test m hm
  have hq : (decide ((m : Int) / 4294967296 ≤ 16)) = decide (m / 4294967296 ≤ 16) := by
    rw [Bool.eq_iff_iff]; simp; omega
  clear hm
  have HQ := Lib.hid hq; clear hq
  by_cases h : m % 4294967296 < 65536
  · have hb : (bits .andNot .u64 (bits .and .u64 (m : Int) 4294967295) 65535 == 0) = true := by rw [ht]; simpa using h
    have HH := Lib.hid h; clear h ht
    go_enter Tryd.func45, Tryd.ntmps45
    go_wp2
    go_ret
    exact ⟨by unfold rgt; rw [← HQ.out]; simp [HH.out], rfl⟩
  · have hb : (bits .andNot .u64 (bits .and .u64 (m : Int) 4294967295) 65535 == 0) = false := by rw [ht]; simpa using h
    have HH := Lib.hid h; clear h ht
    go_enter Tryd.func45, Tryd.ntmps45
    go_wp2
    go_ret
    exact ⟨by unfold rgt; simp [HH.out], rfl⟩

def rdM (m : Nat) : Nat := if rgt m = true then m % 65536 else 0
def wrM (m : Nat) : Nat := if rgt m = true ∧ 0 < m / 4294967296 then 2 ^ (m / 4294967296 - 1) else 0

theorem rdM_lt (m : Nat) : rdM m < 65536 := by unfold rdM; split <;> omega
theorem wrM_le (m : Nat) : wrM m < 65536 := by
  unfold wrM
  split
  · rename_i h
    have h1 : m / 4294967296 ≤ 16 := by
      have := h.1; unfold rgt at this; simp at this; exact this.2
    exact Nat.lt_of_le_of_lt (Nat.pow_le_pow_right (n := 2) (by decide) (show m / 4294967296 - 1 ≤ 15 by omega)) (by decide)
  · decide

theorem holders_no (m : Nat) (hm : m < 18446744073709551616) (hr : rgt m = false) (w : World) : Calls Tryd.prog 34 #[.int .u64 (m : Int)] w fun e w' => e = .returned (.tuple #[.int .u64 0, .int .u64 0]) ∧ w = w' := by
  have hc := right_any m hm w
  rw [hr] at hc
  clear hm hr
  go_enter Tryd.func34, Tryd.ntmps34
  go_wp2_with (go_at_call 45; refine hc.mono ?_; rintro e w' ⟨rfl, rfl⟩)
  go_ret2
  exact ⟨rfl, rfl⟩

theorem holders_none (m : Nat) (hm : m < 18446744073709551616) (hr : rgt m = true) (h0 : m / 4294967296 = 0) (w : World) : Calls Tryd.prog 34 #[.int .u64 (m : Int)] w fun e w' => e = .returned (.tuple #[.int .u64 (rdM m : Nat), .int .u64 0]) ∧ w = w' := by
  have hc := right_any m hm w
  rw [hr] at hc
  have hb := and64 m 65535 hm (by decide)
  rw [low16] at hb
  have HB := Lib.hid hb; clear hb
  have HR := Lib.hid hr; clear hr
  have ht : decide ((0 : Int) < (m : Int) / 4294967296) = false := by simp; omega
  clear hm h0
  go_enter Tryd.func34, Tryd.ntmps34
  go_wp2_with (go_at_call 45; refine hc.mono ?_; rintro e w' ⟨rfl, rfl⟩)
  go_ret2
  refine ⟨?_, rfl⟩
  rw [show (65535 : Int) = ((65535 : Nat) : Int) from rfl, HB.out]
  simp [rdM, HR.out]

theorem holders_one (m : Nat) (hm : m < 18446744073709551616) (hr : rgt m = true) (h0 : 0 < m / 4294967296) (w : World) : Calls Tryd.prog 34 #[.int .u64 (m : Int)] w fun e w' => e = .returned (.tuple #[.int .u64 (rdM m : Nat), .int .u64 (wrM m : Nat)]) ∧ w = w' := by
  have hc := right_any m hm w
  rw [hr] at hc
  have hb := and64 m 65535 hm (by decide)
  rw [low16] at hb
  have HB := Lib.hid hb; clear hb
  have HR := Lib.hid hr; clear hr
  have HM := Lib.hid hm; clear hm
  have ht : decide ((0 : Int) < (m : Int) / 4294967296) = true := by simp; omega
  have H0 := Lib.hid h0; clear h0
  go_enter Tryd.func34, Tryd.ntmps34
  go_wp2_with (go_at_call 45; refine hc.mono ?_; rintro e w' ⟨rfl, rfl⟩)
  go_ret2
  refine ⟨?_, rfl⟩
  have hr : m / 4294967296 ≤ 16 := by
    have := HR.out; unfold rgt at this; simp at this; exact this.2
  have h0 := H0.out
  have e1 : IntKind.u64.wrap ((m : Int) / 4294967296 - 1) = ((m / 4294967296 - 1 : Nat) : Int) := by rw [IntKind.wrap_u64]; omega
  have e2 : min (m / 4294967296 - 1) 64 = m / 4294967296 - 1 := by omega
  have e3 : 2 ^ (m / 4294967296 - 1) < 65536 := Nat.lt_of_le_of_lt (Nat.pow_le_pow_right (n := 2) (by decide) (show m / 4294967296 - 1 ≤ 15 by omega)) (by decide)
  have e4 : IntKind.u64.wrap ((2 : Int) ^ (m / 4294967296 - 1)) = ((2 ^ (m / 4294967296 - 1) : Nat) : Int) := by
    rw [show ((2 : Int) ^ (m / 4294967296 - 1)) = ((2 ^ (m / 4294967296 - 1) : Nat) : Int) by simp, IntKind.wrap_u64]
    generalize 2 ^ (m / 4294967296 - 1) = y at e3
    omega
  rw [show (65535 : Int) = ((65535 : Nat) : Int) from rfl, HB.out, e1, Int.toNat_natCast, e2, e4]
  simp [rdM, wrM, HR.out, h0]

theorem holders_any (m : Nat) (hm : m < 18446744073709551616) (w : World) : Calls Tryd.prog 34 #[.int .u64 (m : Int)] w fun e w' => e = .returned (.tuple #[.int .u64 (rdM m : Nat), .int .u64 (wrM m : Nat)]) ∧ w = w' := by
  by_cases hr : rgt m = true
  · by_cases h0 : 0 < m / 4294967296
    · exact holders_one m hm hr h0 w
    · have e : wrM m = 0 := by unfold wrM; rw [if_neg (by intro h; exact h0 h.2)]
      rw [e]
      exact holders_none m hm hr (by omega) w
  · have e : wrM m = 0 := by unfold wrM; rw [if_neg (by intro h; exact hr h.1)]
    have e' : rdM m = 0 := by unfold rdM; rw [if_neg hr]
    rw [e, e']
    exact holders_no m hm (by simpa using hr) w

/-- Who is in the way. -/
def inWay (m : Nat) (k : Nat) (b : Bool) : Nat := (if b = true then wrM m ||| rdM m else wrM m) &&& (18446744073709551615 - 2 ^ k)
def agn (m : Nat) (a : Int) (b : Bool) : List Nat := if isW a = true then mem (inWay m a.toNat b) else []

theorem inWay_lt (m k : Nat) (b : Bool) : inWay m k b < 65536 := by
  have h1 := wrM_le m
  have h2 := rdM_lt m
  have h3 : wrM m ||| rdM m < 2 ^ 16 := Nat.or_lt_two_pow h1 h2
  unfold inWay
  refine Nat.lt_of_le_of_lt Nat.and_le_left ?_
  split <;> omega

theorem pow_lt16 {k : Nat} (h : k < 16) : 2 ^ k < 65536 := Nat.lt_of_le_of_lt (Nat.pow_le_pow_right (n := 2) (by decide) (show k ≤ 15 by omega)) (by decide)
theorem shl1 {k : Nat} (h : k < 16) : IntKind.u64.wrap ((2 : Int) ^ k) = ((2 ^ k : Nat) : Int) := by
  have := pow_lt16 h
  rw [show ((2 : Int) ^ k) = ((2 ^ k : Nat) : Int) by simp, IntKind.wrap_u64]
  generalize 2 ^ k = y at this
  omega

theorem own_nil (n₀ : Nat) (w : World) : w.ownsRow n₀ 3 1 (.slice none 0 0) ([] : List Nat).length (([] : List Nat).map encN) := ⟨rfl, .inl ⟨rfl, rfl⟩⟩
theorem own_form {n₀ : Nat} {w : World} {v : Value} {L : List Nat} (h : w.ownsRow n₀ 3 1 v L.length (L.map encN)) : ∃ A c, v = .slice A L.length c ∧ L.length ≤ c := by
  rcases h.2 with ⟨rfl, h0⟩ | ⟨g, cap, _, rfl, _, _, hle, _⟩
  · exact ⟨none, 0, by rw [h0], by omega⟩
  · exact ⟨_, _, rfl, hle⟩

theorem against_out (m : Nat) (a : Int) (b : Bool) (ha : isW a = false) (w : World) :
    Calls Tryd.prog 14 #[.int .u64 (m : Int), .int .i64 a, .bool b] w fun e w' => e = .returned (.slice none 0 0) ∧ w = w' := by
  have hi := isWorker_any a w
  rw [ha] at hi
  clear ha
  go_enter Tryd.func14, Tryd.ntmps14
  go_wp2_with (go_at_call 33; refine hi.mono ?_; rintro e w' ⟨rfl, rfl⟩)
  go_ret
  exact ⟨rfl, rfl⟩

set_option maxHeartbeats 1000000 in
theorem against_in (m k : Nat) (b : Bool) (hm : m < 18446744073709551616) (hk : k < 16) (w : World) (hT : TabAt w) (h0 : 0 < w.heap.size) :
    Calls Tryd.prog 14 #[.int .u64 (m : Int), .int .i64 (k : Int), .bool b] w fun e w' => ∃ A c, e = .returned (.slice A (mem (inWay m k b)).length c) ∧ w'.ownsRow w.heap.size 3 1 (.slice A (mem (inWay m k b)).length c) (mem (inWay m k b)).length ((mem (inWay m k b)).map encN) ∧ Below w.heap.size w w' := by
  have hi := isWorker_any (k : Int) w
  rw [isW_true.2 ⟨by omega, by omega⟩] at hi
  have hh := holders_any m hm w
  have hcol := collect_any w.heap.size (inWay m k b) w.heap.size (Nat.lt_of_lt_of_le (inWay_lt m k b) (by decide)) (w.alloc (.cells #[.int .u64 (inWay m k b : Int)] 22)) (Boxed.new w 22 _) (Nat.le_refl _) h0
    (fun j hj => (World.cell?_alloc_lt w _ ⟨0, j, none⟩ h0).trans (hT j hj))
  have hp := pow_lt16 hk
  have hs := shl1 hk
  have hmask : bits .andNot .u64 ((if b = true then wrM m ||| rdM m else wrM m : Nat) : Int) ((2 ^ k : Nat) : Int) = (inWay m k b : Int) := by
    have h3 : wrM m ||| rdM m < 2 ^ 16 := Nat.or_lt_two_pow (wrM_le m) (rdM_lt m)
    have h4 := wrM_le m
    rw [andNot64 _ _ (by split <;> omega) (by omega)]; rfl
  have hor := or64 (wrM m) (rdM m) (Nat.lt_of_lt_of_le (wrM_le m) (by decide)) (Nat.lt_of_lt_of_le (rdM_lt m) (by decide))
  have e2 : min k 64 = k := by omega
  have e3 : (((2 ^ k : Nat)) : Int) = (2 : Int) ^ k := by simp
  rw [e3] at hmask
  obtain ⟨x, hx⟩ : ∃ x, inWay m k b = x := ⟨_, rfl⟩
  rw [hx] at hcol hmask ⊢
  have HT := Lib.hid hT; clear hT
  have hbel : ∀ w', Below w.heap.size (w.alloc (.cells #[.int .u64 (x : Int)] 22)) w' → Below w.heap.size w w' := fun w' h => ((Below.refl _ w).alloc (Nat.le_refl _) _).trans h
  have HBEL := Lib.hid hbel; clear hbel
  clear hm hp hx e3
  cases b
  · simp only [Bool.false_eq_true, if_false] at hmask
    have hmem : Calls Tryd.prog 36 #[.int .u64 (bits .andNot .u64 (wrM m : Int) ((2 : Int) ^ k))] w fun e w' => e = .returned (.func (.func 47) #[] #[.pointer (some ⟨w.heap.size, 0, none⟩)]) ∧ w' = w.alloc (.cells #[.int .u64 (x : Int)] 22) := by
      rw [hmask]; exact members_any x w
    clear hmask hor
    go_enter Tryd.func14, Tryd.ntmps14
    go_wp2_with (first | (go_at_call 33; refine hi.mono ?_; rintro e w' ⟨rfl, rfl⟩) | (go_at_call 34; refine hh.mono ?_; rintro e w' ⟨rfl, rfl⟩) | (go_at_call 36; refine hmem.mono ?_; rintro e w' ⟨rfl, rfl⟩) | (go_at_call 35; refine hcol.mono ?_; rintro e w' ⟨v, rfl, hrow, hnil, hb⟩))
    go_ret
    obtain ⟨A, c, rfl, _⟩ := own_form hrow
    exact ⟨A, c, rfl, hrow, HBEL.out _ hb⟩
  · simp only [if_true] at hmask
    rw [← hor] at hmask
    have hmem : Calls Tryd.prog 36 #[.int .u64 (bits .andNot .u64 (bits .or .u64 (wrM m : Int) (rdM m : Int)) ((2 : Int) ^ k))] w fun e w' => e = .returned (.func (.func 47) #[] #[.pointer (some ⟨w.heap.size, 0, none⟩)]) ∧ w' = w.alloc (.cells #[.int .u64 (x : Int)] 22) := by
      rw [hmask]; exact members_any x w
    clear hmask hor
    go_enter Tryd.func14, Tryd.ntmps14
    go_wp2_with (first | (go_at_call 33; refine hi.mono ?_; rintro e w' ⟨rfl, rfl⟩) | (go_at_call 34; refine hh.mono ?_; rintro e w' ⟨rfl, rfl⟩) | (go_at_call 36; refine hmem.mono ?_; rintro e w' ⟨rfl, rfl⟩) | (go_at_call 35; refine hcol.mono ?_; rintro e w' ⟨v, rfl, hrow, hnil, hb⟩))
    go_ret
    obtain ⟨A, c, rfl, _⟩ := own_form hrow
    exact ⟨A, c, rfl, hrow, HBEL.out _ hb⟩
end Go.Proofs.YtmfjncbccaifiaaDoor
