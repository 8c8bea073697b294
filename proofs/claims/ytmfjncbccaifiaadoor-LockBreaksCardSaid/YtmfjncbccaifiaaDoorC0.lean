/- lock words: plain facts on masks, no walk. -/
import Derived.Test.YtmfjncbccaifiaaDoorB1
namespace Go.Proofs.YtmfjncbccaifiaaDoor
open Go.RowKit
set_option linter.unusedVariables false
set_option linter.unusedSimpArgs false

theorem notBit (k i : Nat) (hk : k < 64) : (18446744073709551615 - 2 ^ k).testBit i = (decide (i < 64) && !decide (i = k)) := by
  have hlt : 2 ^ k < 2 ^ 64 := Nat.pow_lt_pow_right (by decide) hk
  have e : 18446744073709551615 - 2 ^ k = 2 ^ 64 - (2 ^ k + 1) := by
    have : (2 : Nat) ^ 64 = 18446744073709551616 := rfl
    omega
  rw [e, Nat.testBit_two_pow_sub_succ hlt, Nat.testBit_two_pow]
  by_cases h : i = k <;> simp [h] <;> (try (intro _; omega))

theorem lowBit {x i n : Nat} (hx : x < 2 ^ n) (hi : n ≤ i) : x.testBit i = false :=
  Nat.testBit_lt_two_pow (Nat.lt_of_lt_of_le hx (Nat.pow_le_pow_right (by decide) hi))

theorem lt64 {x i : Nat} (hx : x < 18446744073709551616) (h : x.testBit i = true) : i < 64 := by
  rcases Nat.lt_or_ge i 64 with h1 | h1
  · exact h1
  · rw [lowBit (n := 64) hx h1] at h; cases h

theorem lv1_bit (m k i : Nat) (hm : m < 18446744073709551616) (hk : k < 64) : (lv1 m k).testBit i = (m.testBit i && !decide (i = k)) := by
  unfold lv1
  rw [Nat.testBit_and, notBit k i hk]
  cases h : m.testBit i
  · simp
  · simp [lt64 hm h]

theorem mem_nil {x : Nat} (hx : x < 18446744073709551616) (h : mem x = []) : x = 0 := by
  apply Nat.eq_of_testBit_eq
  intro i
  rw [Nat.zero_testBit]
  cases hb : x.testBit i
  · rfl
  · have : i ∈ mem x := mem_mem.2 ⟨lt64 hx hb, hb⟩
    rw [h] at this; cases this

theorem mem_lv1 (m k : Nat) (hm : m < 18446744073709551616) (hk : k < 64) : mem (lv1 m k) = (mem m).filter fun i => !decide (i = k) := by
  unfold mem
  rw [List.filter_filter]
  apply List.filter_congr
  intro i _
  rw [lv1_bit m k i hm hk, Bool.and_comm]

theorem mem_nodup (m : Nat) : (mem m).Nodup := List.Nodup.sublist List.filter_sublist List.nodup_range

theorem mem_lv1_head {m j : Nat} {t : List Nat} (hm : m < 18446744073709551616) (h : mem m = j :: t) : mem (lv1 m j) = t ∧ lv1 m j < m ∧ j < 64 ∧ m.testBit j = true := by
  have hj : j ∈ mem m := by rw [h]; simp
  obtain ⟨h1, h2⟩ := mem_mem.1 hj
  have hn := mem_nodup m
  rw [h, List.nodup_cons] at hn
  refine ⟨?_, ?_, h1, h2⟩
  · rw [mem_lv1 m j hm h1, h, List.filter_cons]
    simp only [decide_true, Bool.not_true, Bool.false_eq_true, if_false]
    rw [List.filter_eq_self]
    intro a ha
    have : a ≠ j := fun e => hn.1 (e ▸ ha)
    simpa using this
  · have hle : lv1 m j ≤ m := Nat.and_le_left
    rcases Nat.lt_or_ge (lv1 m j) m with h3 | h3
    · exact h3
    · have e : lv1 m j = m := Nat.le_antisymm hle h3
      have := lv1_bit m j j hm h1
      rw [e, h2] at this
      simp at this

/-- A word with readers alone. -/
theorem low_rgt {m : Nat} (h : m < 65536) : rgt m = true ∧ rdM m = m ∧ wrM m = 0 := by
  have e1 : m % 4294967296 = m := Nat.mod_eq_of_lt (by omega)
  have e2 : m / 4294967296 = 0 := by omega
  have hr : rgt m = true := by unfold rgt; rw [e1, e2]; simp [h]
  exact ⟨hr, by unfold rdM; rw [if_pos hr]; omega, by unfold wrM; rw [e2]; simp⟩

theorem low_agn {m : Nat} (h : m < 65536) (a : Int) : agn m a false = [] := by
  unfold agn
  split
  · unfold inWay
    rw [(low_rgt h).2.2]; simp [mem_zero]
  · rfl

theorem rdW_low {m : Nat} (h : m < 65536) (a : Int) : rdW m a = if isW a = true then (m ||| 2 ^ a.toNat, true, 0) else (0, false, 2) := by
  unfold rdW wrg
  rw [low_agn h, (low_rgt h).1]
  cases isW a <;> simp

theorem or_lt16 {m : Nat} (h : m < 65536) {a : Int} (ha : isW a = true) : m ||| 2 ^ a.toNat < 65536 := by
  obtain ⟨h1, h2⟩ := isW_true.1 ha
  exact Nat.or_lt_two_pow (n := 16) h (Nat.pow_lt_pow_right (by decide) (by omega))

theorem lvW_low {m : Nat} (h : m < 65536) (j : Nat) (hj : j < 16) : lvW m (j : Int) = (lv1 m j, 0) := by
  have hw : wrg m (j : Int) = 0 := wrg_zero.2 ⟨isW_true.2 ⟨by omega, by omega⟩, (low_rgt h).1⟩
  have hl : lv1 m j < 65536 := Nat.lt_of_le_of_lt Nat.and_le_left h
  unfold lvW
  rw [if_pos hw, Int.toNat_natCast, (low_rgt hl).2.2]
  simp

/-- Readers who come one behind the other. -/
def come (a : Nat) (v : Int) : Nat := if isW v = true then a ||| 2 ^ v.toNat else a
theorem come_lt {a : Nat} (h : a < 65536) (v : Int) : come a v < 65536 := by
  unfold come; split
  · rename_i hv; exact or_lt16 h hv
  · exact h
theorem come_bit (a : Nat) (v : Int) (i : Nat) : (come a v).testBit i = (a.testBit i || (isW v && decide (v.toNat = i))) := by
  unfold come
  split
  · rename_i hv
    rw [Nat.testBit_or, Nat.testBit_two_pow, hv, Bool.true_and]
  · rename_i hv
    simp [hv]
theorem comes_bit (l : List Int) (i : Nat) : ∀ a, (l.foldl come a).testBit i = (a.testBit i || l.any fun v => isW v && decide (v.toNat = i)) := by
  induction l with
  | nil => intro a; simp
  | cons v l ih => intro a; rw [List.foldl_cons, ih, come_bit, List.any_cons, Bool.or_assoc]
theorem comes_lt (l : List Int) : ∀ a, a < 65536 → l.foldl come a < 65536 := by
  induction l with
  | nil => intro a h; exact h
  | cons v l ih => intro a h; exact ih _ (come_lt h v)
theorem comes_reverse (l : List Int) : l.reverse.foldl come 0 = l.foldl come 0 := by
  apply Nat.eq_of_testBit_eq
  intro i
  rw [comes_bit, comes_bit, List.any_reverse]

/-- Where a worker may write. -/
theorem write_alone {m : Nat} {k : Nat} (hm : m < 18446744073709551616) (hk : k < 16) (he : wrg m (k : Int) = 0) (hl : agn m (k : Int) true = []) :
    (rdM m = 0 ∨ rdM m = 2 ^ k) ∧ (wrM m = 0 ∨ wrM m = 2 ^ k) := by
  obtain ⟨hw, hr⟩ := wrg_zero.1 he
  have hz : inWay m k true = 0 := by
    unfold agn at hl
    rw [if_pos hw, Int.toNat_natCast] at hl
    exact mem_nil (Nat.lt_trans (inWay_lt m k true) (by decide)) hl
  have hbit : ∀ i, i ≠ k → (wrM m ||| rdM m).testBit i = false := fun i hi => by
    have h1 : (inWay m k true).testBit i = false := by rw [hz]; simp
    unfold inWay at h1
    rw [if_pos rfl, Nat.testBit_and, notBit k i (by omega)] at h1
    cases hb : (wrM m ||| rdM m).testBit i
    · rfl
    · have hlt : wrM m ||| rdM m < 18446744073709551616 := Nat.lt_trans (Nat.or_lt_two_pow (n := 16) (wrM_le m) (rdM_lt m)) (by decide)
      rw [hb] at h1
      simp [lt64 hlt hb, hi] at h1
  have one : ∀ x : Nat, (∀ i, i ≠ k → x.testBit i = false) → x = 0 ∨ x = 2 ^ k := fun x hx => by
    cases hb : x.testBit k
    · left
      apply Nat.eq_of_testBit_eq
      intro i
      rw [Nat.zero_testBit]
      by_cases h : i = k
      · rw [h, hb]
      · exact hx i h
    · right
      apply Nat.eq_of_testBit_eq
      intro i
      rw [Nat.testBit_two_pow]
      by_cases h : i = k
      · subst h; simp [hb]
      · rw [hx i h]; simp [Ne.symm h]
  exact ⟨one _ fun i hi => by have := hbit i hi; rw [Nat.testBit_or] at this; simp at this; exact this.2,
    one _ fun i hi => by have := hbit i hi; rw [Nat.testBit_or] at this; simp at this; exact this.1⟩
end Go.Proofs.YtmfjncbccaifiaaDoor
