/- The bits of a mask, rising: plain facts, no program. -/
import Derived.Lib.TrailingZeros
import Derived.Laws.Bits64b
namespace Go.Proofs.YtmfjncbccaifiaaDoor

/-- The numbers of the bits that are set, rising. -/
def mem (m : Nat) : List Nat := (List.range 64).filter fun i => m.testBit i

theorem mem_zero : mem 0 = [] := by
  unfold mem
  rw [List.filter_eq_nil_iff]
  intro i _
  simp

theorem mem_length_le (m : Nat) : (mem m).length ≤ 64 := by
  have := List.length_filter_le (fun i => m.testBit i) (List.range 64)
  simpa [mem] using this

theorem mem_mem {m i : Nat} : i ∈ mem m ↔ i < 64 ∧ m.testBit i = true := by simp [mem]

/-- m without its lowest bit. -/
theorem and_pred (k j : Nat) : (2 ^ k * (2 * j + 1)) &&& (2 ^ k * (2 * j + 1) - 1) = 2 ^ (k + 1) * j := by
  have hp : 0 < 2 ^ k := Nat.two_pow_pos k
  have e1 : 2 ^ k * (2 * j + 1) - 1 = 2 ^ k * (2 * j) + (2 ^ k - 1) := by
    rw [Nat.mul_add]; omega
  rw [e1]
  apply Nat.eq_of_testBit_eq
  intro i
  rw [Nat.testBit_and, Nat.testBit_two_pow_mul_add _ (by omega), Nat.mul_comm (2 ^ k) (2 * j + 1), Nat.testBit_mul_two_pow, Nat.mul_comm (2 ^ (k + 1)) j, Nat.testBit_mul_two_pow]
  by_cases hi : i < k
  · rw [if_pos hi]
    simp [show ¬ k ≤ i by omega, show ¬ k + 1 ≤ i by omega]
  · rw [if_neg hi]
    by_cases he : i = k
    · subst he
      simp [Nat.testBit_zero]
      omega
    · obtain ⟨d, rfl⟩ : ∃ d, i = k + (d + 1) := ⟨i - k - 1, by omega⟩
      have e3 : k + (d + 1) - k = d + 1 := by omega
      have e4 : k + (d + 1) - (k + 1) = d := by omega
      rw [e3, e4, Nat.testBit_succ, Nat.testBit_succ]
      have d1 : (2 * j + 1) / 2 = j := by omega
      have d2 : 2 * j / 2 = j := by omega
      rw [d1, d2]
      simp [show k + 1 ≤ k + (d + 1) by omega]

theorem mem_step (m : Nat) (h0 : m ≠ 0) (h : m < 18446744073709551616) : mem m = Lib.ctz 64 m :: mem (m &&& (m - 1)) ∧ Lib.ctz 64 m < 64 ∧ m &&& (m - 1) < m := by
  obtain ⟨j, hj, hk⟩ := Lib.ctzFrom_spec 64 m (by omega) (show m < 2 ^ 64 from h)
  have e : Lib.ctz 64 m = Lib.ctzFrom 64 m := by simp [Lib.ctz, h0]
  rw [e]
  obtain ⟨k, hkk⟩ : ∃ k, Lib.ctzFrom 64 m = k := ⟨_, rfl⟩
  rw [hkk] at hj hk ⊢
  have hp := and_pred k j
  rw [← hj] at hp
  have hlow : ∀ i, i < k → m.testBit i = false := fun i hi => by
    rw [hj, Nat.mul_comm, Nat.testBit_mul_two_pow]
    simp [show ¬ k ≤ i by omega]
  have hat : m.testBit k = true := by
    rw [hj, Nat.mul_comm, Nat.testBit_mul_two_pow]
    simp
  have hb : ∀ i, (m &&& (m - 1)).testBit i = (decide (k < i) && m.testBit i) := fun i => by
    rw [hp, Nat.mul_comm, Nat.testBit_mul_two_pow, hj, Nat.mul_comm (2 ^ k), Nat.testBit_mul_two_pow]
    by_cases hi : k < i
    · obtain ⟨d, rfl⟩ : ∃ d, i = k + (d + 1) := ⟨i - k - 1, by omega⟩
      have e3 : k + (d + 1) - k = d + 1 := by omega
      have e4 : k + (d + 1) - (k + 1) = d := by omega
      rw [e3, e4, Nat.testBit_succ]
      have d1 : (2 * j + 1) / 2 = j := by omega
      rw [d1]
      simp [show k + 1 ≤ k + (d + 1) by omega]
    · simp [hi, show ¬ k + 1 ≤ i by omega]
  refine ⟨?_, hk, ?_⟩
  · have hr : List.range 64 = List.range' 0 k ++ (k :: List.range' (k + 1) (63 - k)) := by
      rw [List.range_eq_range', show (64 : Nat) = k + ((63 - k) + 1) by omega, ← List.range'_append_1]
      simp [List.range'_succ]
    unfold mem
    rw [hr, List.filter_append, List.filter_append, List.filter_cons, List.filter_cons]
    have f1 : (List.range' 0 k).filter (fun i => m.testBit i) = [] := by
      rw [List.filter_eq_nil_iff]; intro i hi
      simp [List.mem_range'_1] at hi; simp [hlow i hi]
    have f2 : (List.range' 0 k).filter (fun i => (m &&& (m - 1)).testBit i) = [] := by
      rw [List.filter_eq_nil_iff]; intro i hi
      simp [List.mem_range'_1] at hi; rw [hb]; simp; intro h; omega
    have f3 : (List.range' (k + 1) (63 - k)).filter (fun i => (m &&& (m - 1)).testBit i) = (List.range' (k + 1) (63 - k)).filter (fun i => m.testBit i) := by
      apply List.filter_congr; intro i hi
      simp [List.mem_range'_1] at hi; rw [hb]; simp; intro _; omega
    have f4 : (m &&& (m - 1)).testBit k = false := by rw [hb]; simp
    rw [f1, f2, f3]
    simp [hat, f4]
  · rw [hp, hj, Nat.pow_succ, Nat.mul_assoc]
    have : 0 < 2 ^ k := Nat.two_pow_pos k
    rw [Nat.mul_add]; omega

end Go.Proofs.YtmfjncbccaifiaaDoor
