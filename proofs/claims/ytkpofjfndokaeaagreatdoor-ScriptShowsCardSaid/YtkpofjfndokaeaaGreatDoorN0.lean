/- Plain facts on decimal numerals: digits alone; read again as the number; no two alike. -/
import Derived.Test.YtkpofjfndokaeaaGreatDoorD4
import Derived.Lib.ItoaMem
namespace Go.Proofs.YtkpofjfndokaeaaGreatDoor
set_option linter.unusedVariables false
set_option linter.unusedSimpArgs false

theorem dec_dig : ∀ (u : Nat), ∀ c ∈ Lib.decDigits u, 48 ≤ c.toNat ∧ c.toNat ≤ 57 := by
  intro u
  induction u using Nat.strongRecOn with
  | _ u ih =>
    intro c hc
    rw [Lib.decDigits] at hc
    split at hc
    · rename_i h
      simp at hc
      subst hc
      simp
      omega
    · rename_i h
      rcases List.mem_append.1 hc with hc | hc
      · exact ih (u / 10) (by omega) c hc
      · simp at hc
        subst hc
        have : u % 10 < 10 := Nat.mod_lt _ (by decide)
        simp
        omega
theorem itoa_dig (n : Int) : ∀ c ∈ Lib.itoa n, c.toNat = 45 ∨ (48 ≤ c.toNat ∧ c.toNat ≤ 57) := by
  intro c hc
  rw [Lib.itoa] at hc
  split at hc
  · rcases List.mem_cons.1 hc with rfl | hc
    · exact .inl rfl
    · exact .inr (dec_dig _ c hc)
  · exact .inr (dec_dig _ c hc)
theorem itoa_nospace (n : Int) : ∀ c ∈ Lib.itoa n, c ≠ 32 := fun c hc e => by
  subst e
  have := itoa_dig n 32 hc
  have h : (32 : UInt8).toNat = 32 := rfl
  omega
theorem dec_ne (u : Nat) : Lib.decDigits u ≠ [] := by
  rw [Lib.decDigits]
  split
  · simp
  · simp
theorem itoa_ne (n : Int) : Lib.itoa n ≠ [] := by
  rw [Lib.itoa]
  split
  · simp
  · exact dec_ne _

theorem parse_snoc (l : List UInt8) (c : UInt8) : ∀ acc, Lib.parseUint10 acc (l ++ [c]) = match Lib.parseUint10 acc l with
    | .ok u => Lib.parseUint10 u [c] | Lib.NumEnd.syntax => Lib.NumEnd.syntax | .range => .range := by
  induction l with
  | nil => intro acc; rfl
  | cons d r ih =>
    intro acc
    rw [List.cons_append, Lib.parseUint10, Lib.parseUint10]
    split
    · split
      · rfl
      · split
        · rfl
        · exact ih _
    · rfl
theorem parse_dec : ∀ (u : Nat), u < 9223372036854775808 → Lib.parseUint10 0 (Lib.decDigits u) = .ok u := by
  intro u
  induction u using Nat.strongRecOn with
  | _ u ih =>
    intro hu
    rw [Lib.decDigits]
    split
    · rename_i h
      have hc : (UInt8.ofNat (48 + u)).toNat = 48 + u := by simp; omega
      rw [Lib.parseUint10, if_pos (by omega), if_neg (by omega), if_neg (by omega), Lib.parseUint10, hc]
      congr 1
      omega
    · rename_i h
      have hm : u % 10 < 10 := Nat.mod_lt _ (by decide)
      have hc : (UInt8.ofNat (48 + u % 10)).toNat = 48 + u % 10 := by simp; omega
      rw [parse_snoc, ih (u / 10) (by omega) (by omega)]
      simp only
      rw [Lib.parseUint10, if_pos (by omega), if_neg (by omega), if_neg (by omega), Lib.parseUint10, hc]
      congr 1
      omega
theorem atoi_itoa (n : Int) (h0 : -9223372036854775808 < n) (h1 : n ≤ 9223372036854775807) : Lib.atoiAll (Lib.itoa n) = .ok n := by
  rw [Lib.itoa]
  split
  · rename_i hn
    have hp := parse_dec n.natAbs (by omega)
    have hne := dec_ne n.natAbs
    have h45 : (45 : UInt8).toNat = 45 := rfl
    unfold Lib.atoiAll Lib.parseMag
    simp only [h45, or_true, if_true, if_neg hne, hp]
    rw [if_neg (by simp), if_neg (by omega)]
    congr 1
    omega
  · rename_i hn
    have hp := parse_dec n.toNat (by omega)
    have hd := dec_dig n.toNat
    have hne := dec_ne n.toNat
    generalize Lib.decDigits n.toNat = l at *
    cases l with
    | nil => exact absurd rfl hne
    | cons c r =>
      have hc := hd c (by simp)
      unfold Lib.atoiAll Lib.parseMag
      have e : ¬ (c.toNat = 43 ∨ c.toNat = 45) := by omega
      have e2 : ¬ c.toNat = 45 := by omega
      simp only [if_neg e, if_neg hne, hp, if_neg e2]
      rw [if_neg (fun h => by have := h.2; omega), if_neg (fun h => e2 h.1)]
      congr 1
      omega
theorem itoa_inj {m n : Int} (hm0 : -9223372036854775808 < m) (hm : m ≤ 9223372036854775807) (hn0 : -9223372036854775808 < n) (hn : n ≤ 9223372036854775807) (h : Lib.itoa m = Lib.itoa n) : m = n := by
  have h1 := atoi_itoa m hm0 hm
  rw [h, atoi_itoa n hn0 hn] at h1
  injection h1 with h1
  exact h1.symm
theorem dec_len (k : Nat) : ∀ (u : Nat), u < 10 ^ (k + 1) → (Lib.decDigits u).length ≤ k + 1 := by
  induction k with
  | zero =>
    intro u hu
    rw [Lib.decDigits, dif_pos (by omega)]
    simp
  | succ k ih =>
    intro u hu
    rw [Lib.decDigits]
    split
    · simp
    · rw [List.length_append]
      have := ih (u / 10) (by rw [Nat.pow_succ] at hu; omega)
      simp
      omega
theorem trim_minus (l : List UInt8) : Lib.trimPrefix (45 :: l) [45] = l := by
  simp [Lib.trimPrefix, Lib.hasPrefix]
theorem trim_none {l : List UInt8} (h : ∀ c ∈ l, 48 ≤ c.toNat) (hl : l ≠ []) : (Lib.trimPrefix l [45]).length ≤ l.length := by
  unfold Lib.trimPrefix
  split
  · simp
  · exact Nat.le_refl _
theorem numB_itoa (n : Int) (h0 : -2147483648 ≤ n) (h1 : n ≤ 2147483647) : numB (Lib.itoa n) = some n := by
  have ha := atoi_itoa n (by omega) (by omega)
  rw [numB_ok ha, if_pos]
  unfold isNum
  rw [Bool.and_eq_true]
  refine ⟨beq_self_eq_true _, decide_eq_true ?_⟩
  rw [Lib.itoa]
  split
  · rw [trim_minus]
    exact dec_len 9 _ (by omega)
  · exact Nat.le_trans (trim_none (fun c hc => (dec_dig _ c hc).1) (dec_ne _)) (dec_len 9 _ (by omega))
end Go.Proofs.YtkpofjfndokaeaaGreatDoor
