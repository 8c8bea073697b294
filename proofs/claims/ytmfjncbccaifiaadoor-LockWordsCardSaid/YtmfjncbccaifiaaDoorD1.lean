/- LockWords: Read, Write, Leave of the document come to what the lock layer's do: plain facts. -/
import Derived.Test.YtmfjncbccaifiaaDoorD0
namespace Go.Proofs.YtmfjncbccaifiaaDoor
open Go.RowKit Go.Proofs.YtmfjncbccaifiaaDoor.PLockWords Go.Proofs.YtmfjncbccaifiaaDoorW.PrintWords Go.Proofs.YtmfjncbccaifiaaDoorW.PrintLast Go.Proofs.YtmfjncbccaifiaaDoorW.PrintMore
set_option linter.unusedVariables false
set_option linter.unusedSimpArgs false

theorem split_bit (m k : Nat) : ∃ q r, r < 2 ^ k ∧ m = 2 ^ k * q + r ∧ (m.testBit k = decide (q % 2 = 1)) := by
  refine ⟨m / 2 ^ k, m % 2 ^ k, Nat.mod_lt _ (Nat.two_pow_pos k), (Nat.div_add_mod m (2 ^ k)).symm, ?_⟩
  rw [Nat.testBit_eq_decide_div_mod_eq]

theorem bit_at (q r k i : Nat) (hr : r < 2 ^ k) : (2 ^ k * q + r).testBit i = if i < k then r.testBit i else q.testBit (i - k) := Nat.testBit_two_pow_mul_add _ hr _

theorem or_unset {m k : Nat} (h : m.testBit k = false) : m ||| 2 ^ k = m + 2 ^ k := by
  obtain ⟨q, r, hr, hm, hb⟩ := split_bit m k
  rw [h] at hb
  have hq : q % 2 = 0 := by have : ¬ q % 2 = 1 := by simpa using hb.symm
                            omega
  have e : m + 2 ^ k = 2 ^ k * (q + 1) + r := by rw [hm, Nat.mul_add]; omega
  apply Nat.eq_of_testBit_eq
  intro i
  rw [e, Nat.testBit_or, Nat.testBit_two_pow, bit_at _ _ _ _ hr]
  conv => lhs; rw [hm]
  rw [bit_at _ _ _ _ hr]
  by_cases hi : i < k
  · rw [if_pos hi, if_pos hi]
    have : ¬ k = i := by omega
    simp [this]
  · rw [if_neg hi, if_neg hi]
    by_cases he : k = i
    · subst he
      simp [Nat.testBit_zero]; omega
    · obtain ⟨d, rfl⟩ : ∃ d, i = k + (d + 1) := ⟨i - k - 1, by omega⟩
      have e3 : k + (d + 1) - k = d + 1 := by omega
      rw [e3, Nat.testBit_succ, Nat.testBit_succ]
      have : q / 2 = (q + 1) / 2 := by omega
      rw [this]; simp

theorem or_set {m k : Nat} (h : m.testBit k = true) : m ||| 2 ^ k = m := by
  apply Nat.eq_of_testBit_eq
  intro i
  rw [Nat.testBit_or, Nat.testBit_two_pow]
  by_cases he : k = i
  · subst he; simp [h]
  · simp [he]

theorem lv_unset {m k : Nat} (hm : m < 18446744073709551616) (hk : k < 64) (h : m.testBit k = false) : lv1 m k = m := by
  apply Nat.eq_of_testBit_eq
  intro i
  rw [lv1_bit m k i hm hk]
  by_cases he : i = k
  · subst he; simp [h]
  · simp [he]

theorem lv_set {m k : Nat} (hm : m < 18446744073709551616) (hk : k < 64) (h : m.testBit k = true) : lv1 m k + 2 ^ k = m := by
  have h1 : (lv1 m k).testBit k = false := by rw [lv1_bit m k k hm hk]; simp
  rw [← or_unset h1]
  apply Nat.eq_of_testBit_eq
  intro i
  rw [Nat.testBit_or, Nat.testBit_two_pow, lv1_bit m k i hm hk]
  by_cases he : k = i
  · subst he; simp [h]
  · simp [he, Ne.symm he]

theorem shl_pow {k : Nat} (hk : k < 16) : shl .u64 1 (k : Int) = ((2 ^ k : Nat) : Int) := by
  unfold shl
  rw [Int.toNat_natCast, Int.one_mul, show min k IntKind.u64.bits = k from Nat.min_eq_left (show k ≤ 64 by omega)]
  exact shl1 hk

theorem rRead (m : Nat) (a : Int) (hm : m < 18446744073709551616) : varveref13_Read.f 40 (m : Int) a = some ((((rdW m a).1 : Nat) : Int), (rdW m a).2.1, (rdW m a).2.2) := by
  unfold varveref13_Read.f
  rw [rWrong, rAgainst m a false hm]
  simp only [Option.bind_some, List.length_map]
  by_cases he : wrg m a = 0
  · obtain ⟨hw, hr⟩ := wrg_zero.1 he
    obtain ⟨h1, h2⟩ := isW_true.1 hw
    obtain ⟨k, rfl⟩ := Int.eq_ofNat_of_zero_le h1
    have hk : k < 16 := by omega
    rw [if_pos he]
    by_cases hl : agn m (k : Int) false = []
    · have er : rdW m (k : Int) = (m ||| 2 ^ k, true, 0) := by unfold rdW; rw [if_pos ⟨he, hl⟩]; simp
      rw [er, hl, if_neg (by simp), rReads m k (by omega)]
      simp only [Option.bind_some]
      cases hb : m.testBit k
      · rw [if_neg (by simp), if_pos h1, shl_pow hk, or_unset hb]
        have hlt : m + 2 ^ k < 18446744073709551616 := by
          rw [← or_unset hb]
          exact Nat.or_lt_two_pow (n := 64) hm (Nat.pow_lt_pow_right (by decide) (by omega))
        generalize 2 ^ k = y at hlt
        have : IntKind.u64.wrap ((m : Int) + (y : Int)) = ((m + y : Nat) : Int) := by rw [IntKind.wrap_u64]; omega
        rw [this]
      · rw [if_pos rfl, or_set hb]
    · have er : rdW m (k : Int) = (0, false, 0) := by unfold rdW; rw [if_neg (by intro h; exact hl h.2), he]
      have hpos : 0 < (agn m (k : Int) false).length := List.length_pos_iff.2 hl
      rw [er, if_pos (by omega)]
      rfl
  · have er : rdW m a = (0, false, wrg m a) := by unfold rdW; rw [if_neg (by intro h; exact he h.1)]
    rw [er, if_neg he]
    rfl

theorem rWrite (m : Nat) (a : Int) (hm : m < 18446744073709551616) : varveref13_Write.f 40 (m : Int) a = some ((((wrW m a).1 : Nat) : Int), (wrW m a).2.1, (wrW m a).2.2) := by
  unfold varveref13_Write.f
  rw [rWrong, rAgainst m a true hm]
  simp only [Option.bind_some, List.length_map]
  by_cases he : wrg m a = 0
  · obtain ⟨hw, hr⟩ := wrg_zero.1 he
    obtain ⟨h1, h2⟩ := isW_true.1 hw
    obtain ⟨k, rfl⟩ := Int.eq_ofNat_of_zero_le h1
    have hk : k < 16 := by omega
    rw [if_pos he]
    by_cases hl : agn m (k : Int) true = []
    · have er : wrW m (k : Int) = (m % 65536 ||| (k + 1) * 4294967296, true, 0) := by unfold wrW; rw [if_pos ⟨he, hl⟩]; simp
      rw [er, hl, if_neg (by simp)]
      have hr' := hr
      unfold rgt at hr'
      simp at hr'
      have e1 : m % 65536 ||| (k + 1) * 4294967296 = m % 65536 + (k + 1) * 4294967296 := by
        rw [Nat.or_comm, show (k + 1) * 4294967296 = 2 ^ 32 * (k + 1) by omega, ← Nat.two_pow_add_eq_or_of_lt (by omega)]
        omega
      have e2 : Int.tmod (m : Int) 4294967296 = ((m % 65536 : Nat) : Int) := by
        rw [Int.tmod_eq_emod_of_nonneg (by omega)]; omega
      have e3 : wrap64 ((k : Int) + 1) = (k : Int) + 1 := wrap64_small (by omega) (by omega)
      rw [e1, e2, e3]
      have e4 : IntKind.u64.wrap ((k : Int) + 1) = (k : Int) + 1 := by rw [IntKind.wrap_u64]; omega
      have e5 : IntKind.u64.wrap (((k : Int) + 1) * 4294967296) = ((k : Int) + 1) * 4294967296 := by rw [IntKind.wrap_u64]; omega
      have e6 : IntKind.u64.wrap (((m % 65536 : Nat) : Int) + ((k : Int) + 1) * 4294967296) = ((m % 65536 + (k + 1) * 4294967296 : Nat) : Int) := by rw [IntKind.wrap_u64]; omega
      rw [e4, e5, e6]
    · have er : wrW m (k : Int) = (0, false, 0) := by unfold wrW; rw [if_neg (by intro h; exact hl h.2), he]
      have hpos : 0 < (agn m (k : Int) true).length := List.length_pos_iff.2 hl
      rw [er, if_pos (by omega)]
      rfl
  · have er : wrW m a = (0, false, wrg m a) := by unfold wrW; rw [if_neg (by intro h; exact he h.1)]
    rw [er, if_neg he]
    rfl

theorem rLeave_tail (x k : Nat) (hx : x < 18446744073709551616) :
    ((varveref13_Writer.f (x : Int)).bind fun bt => (if bt.2 = true then (if bt.1 = (k : Int) then (some (Int.tmod (x : Int) 4294967296, (0 : Int))) else (some ((x : Int), (0 : Int)))) else (some ((x : Int), (0 : Int))))) =
      some (((if wrM x ≠ 0 ∧ Lib.ctz 64 (wrM x) = k then x % 65536 else x : Nat) : Int), (0 : Int)) := by
  rw [rWriter x hx]
  simp only [Option.bind_some]
  by_cases h0 : wrM x = 0
  · have e : wtr x = (0, false) := by unfold wtr; rw [if_pos h0]
    rw [e]
    simp only [Bool.false_eq_true, if_false]
    rw [if_neg (fun h => h.1 h0)]
  · have e : wtr x = (((Lib.ctz 64 (wrM x) : Nat) : Int), true) := by unfold wtr; rw [if_neg h0]
    have hr : rgt x = true := by
      cases hr : rgt x
      · exfalso; apply h0; unfold wrM; rw [if_neg (fun h => by rw [hr] at h; cases h.1)]
      · rfl
    unfold rgt at hr
    simp at hr
    rw [e]
    simp only [if_true]
    by_cases hc : Lib.ctz 64 (wrM x) = k
    · rw [if_pos (by rw [hc]), if_pos ⟨h0, hc⟩]
      have e2 : Int.tmod (x : Int) 4294967296 = ((x % 65536 : Nat) : Int) := by
        rw [Int.tmod_eq_emod_of_nonneg (by omega)]; omega
      rw [e2]
    · rw [if_neg (by omega), if_neg (fun h => hc h.2)]

theorem rLeave (m : Nat) (a : Int) (hm : m < 18446744073709551616) : varveref13_Leave.f (m : Int) a = some ((((lvW m a).1 : Nat) : Int), (lvW m a).2) := by
  unfold varveref13_Leave.f
  rw [rWrong]
  simp only [Option.bind_some]
  by_cases he : wrg m a = 0
  · obtain ⟨hw, hr⟩ := wrg_zero.1 he
    obtain ⟨h1, h2⟩ := isW_true.1 hw
    obtain ⟨k, rfl⟩ := Int.eq_ofNat_of_zero_le h1
    have hk : k < 16 := by omega
    have hlt : lv1 m k < 18446744073709551616 := Nat.lt_of_le_of_lt Nat.and_le_left hm
    have er : lvW m (k : Int) = (if wrM (lv1 m k) ≠ 0 ∧ Lib.ctz 64 (wrM (lv1 m k)) = k then lv1 m k % 65536 else lv1 m k, 0) := by unfold lvW; rw [if_pos he, Int.toNat_natCast]
    rw [if_pos he, rReads m k (by omega), er]
    simp only [Option.bind_some]
    cases hb : m.testBit k
    · rw [if_neg (by simp), lv_unset hm (by omega) hb]
      exact rLeave_tail m k hm
    · rw [if_pos rfl, if_pos h1, shl_pow hk]
      have hs := lv_set hm (by omega) hb
      have ew : IntKind.u64.wrap ((m : Int) - ((2 ^ k : Nat) : Int)) = ((lv1 m k : Nat) : Int) := by
        generalize 2 ^ k = y at hs
        rw [IntKind.wrap_u64]; omega
      rw [ew]
      exact rLeave_tail _ k hlt
  · have er : lvW m a = (0, wrg m a) := by unfold lvW; rw [if_neg he]
    rw [er, if_neg he]
    rfl
end Go.Proofs.YtmfjncbccaifiaaDoor
