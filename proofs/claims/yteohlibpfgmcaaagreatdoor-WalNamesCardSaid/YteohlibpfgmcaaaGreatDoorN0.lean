/- Numbers as bytes: plain facts. -/
import Derived.Lib.Hide
namespace Go.Proofs.YteohlibpfgmcaaaGreatDoor
set_option linter.unusedVariables false
set_option linter.unusedSimpArgs false

/-- A number as bytes: groups of seven bits, the lowest first. -/
def varB (n : Nat) : List UInt8 := if n < 128 then [UInt8.ofNat n] else UInt8.ofNat (n % 128 + 128) :: varB (n / 128)
termination_by n
decreasing_by omega
theorem varB_small {n : Nat} (h : n < 128) : varB n = [UInt8.ofNat n] := by rw [varB, if_pos h]
theorem varB_step {n : Nat} (h : ¬ n < 128) : varB n = UInt8.ofNat (n % 128 + 128) :: varB (n / 128) := by rw [varB, if_neg h]
/-- What is read of bytes, i groups being read already. -/
def takeG : Nat → Nat → List UInt8 → Option (Nat × Nat)
  | _, _, [] => none
  | i, n, c :: r =>
    if i = 9 ∧ 1 < c.toNat then none
    else if 128 ≤ c.toNat then takeG (i + 1) (n + c.toNat % 128 * 2 ^ (7 * i)) r
    else if 0 < i ∧ c.toNat = 0 then none
    else some (n + c.toNat * 2 ^ (7 * i), i + 1)
/-- The number that stands at a place, and the place behind it. -/
def takeN (b : List UInt8) (k : Nat) : Option (Nat × Nat) := (takeG 0 0 ((b.drop k).take 10)).map fun p => (p.1, k + p.2)

theorem u8_small {n : Nat} (h : n < 256) : (UInt8.ofNat n).toNat = n := by
  rw [UInt8.toNat_ofNat']; exact Nat.mod_eq_of_lt h
theorem varB_pos (n : Nat) : 0 < (varB n).length := by
  rw [varB]; split <;> simp
/-- Reading what was written: i groups being read. -/
theorem takeG_varB : ∀ (m : Nat) (i n : Nat) (post : List UInt8), i ≤ 9 → m < 2 ^ (64 - 7 * i) → (0 < i → 0 < m) → (varB m).length + i ≤ 10 ∧ takeG i n ((varB m ++ post).take (10 - i)) = some (n + m * 2 ^ (7 * i), i + (varB m).length) := by
  intro m
  induction m using Nat.strongRecOn with
  | ind m ih =>
    intro i n post hi hm h0
    by_cases hs : m < 128
    · rw [varB_small hs]
      refine ⟨by simp; omega, ?_⟩
      obtain ⟨k, hk⟩ : ∃ k, 10 - i = k + 1 := ⟨9 - i, by omega⟩
      rw [hk]
      show takeG i n (UInt8.ofNat m :: post.take k) = _
      unfold takeG
      rw [u8_small (by omega), if_neg, if_neg (by omega), if_neg (by omega)]
      · simp
      · rintro ⟨rfl, h⟩
        have : m < 2 := by simpa using hm
        omega
    · have hi9 : i < 9 := by
        rcases Nat.lt_or_ge i 9 with h | h
        · exact h
        · obtain rfl : i = 9 := by omega
          have : m < 2 := by simpa using hm
          omega
      have hpow : 2 ^ (64 - 7 * i) = 2 ^ (64 - 7 * (i + 1)) * 128 := by
        rw [show 64 - 7 * i = (64 - 7 * (i + 1)) + 7 by omega, Nat.pow_add]
      have hm2 : m / 128 < 2 ^ (64 - 7 * (i + 1)) := by
        rw [hpow] at hm
        exact Nat.div_lt_of_lt_mul (by rw [Nat.mul_comm]; exact hm)
      obtain ⟨l1, l2⟩ := ih (m / 128) (by omega) (i + 1) (n + m % 128 * 2 ^ (7 * i)) post (by omega) hm2 (fun _ => by omega)
      rw [varB_step hs]
      refine ⟨by simp; omega, ?_⟩
      obtain ⟨k, hk⟩ : ∃ k, 10 - i = k + 1 := ⟨9 - i, by omega⟩
      rw [hk]
      show takeG i n (UInt8.ofNat (m % 128 + 128) :: (varB (m / 128) ++ post).take k) = _
      unfold takeG
      rw [u8_small (by omega), if_neg (by omega), if_pos (by omega), show (m % 128 + 128) % 128 = m % 128 by omega, show k = 10 - (i + 1) by omega, l2]
      have hp : 2 ^ (7 * (i + 1)) = 2 ^ (7 * i) * 128 := by rw [show 7 * (i + 1) = 7 * i + 7 by omega, Nat.pow_add]
      have e : m % 128 * 2 ^ (7 * i) + m / 128 * 2 ^ (7 * (i + 1)) = m * 2 ^ (7 * i) := by
        rw [hp]
        generalize 2 ^ (7 * i) = P
        have hm' : m = m % 128 + m / 128 * 128 := by omega
        conv => rhs; rw [hm']
        rw [Nat.add_mul, Nat.mul_assoc, Nat.mul_comm 128 P]
      rw [Nat.add_assoc, e]
      simp
      omega
theorem takeN_varB (pre : List UInt8) (m : Nat) (hm : m < 2 ^ 64) (post : List UInt8) : takeN (pre ++ varB m ++ post) pre.length = some (m, pre.length + (varB m).length) := by
  unfold takeN
  rw [List.append_assoc, List.drop_left]
  obtain ⟨_, h⟩ := takeG_varB m 0 0 post (by omega) hm (fun h => absurd h (by omega))
  rw [h]
  simp
theorem varB_le (m : Nat) (hm : m < 2 ^ 64) : (varB m).length ≤ 10 := by
  obtain ⟨h, _⟩ := takeG_varB m 0 0 [] (by omega) hm (fun h => absurd h (by omega))
  omega
/-- What is read is written so. -/
theorem takeG_some : ∀ (l : List UInt8) (i n v k : Nat), i + l.length ≤ 10 → takeG i n l = some (v, k) → ∃ m post, l = varB m ++ post ∧ v = n + m * 2 ^ (7 * i) ∧ k = i + (varB m).length ∧ m < 2 ^ (64 - 7 * i) ∧ (0 < i → 0 < m)
  | [], i, n, v, k, _, h => by simp [takeG] at h
  | c :: r, i, n, v, k, hl, h => by
    have hc : c.toNat < 256 := c.toNat_lt
    simp only [List.length_cons] at hl
    unfold takeG at h
    split at h
    · cases h
    · rename_i h9
      split at h
      · rename_i h128
        obtain ⟨m, post, rfl, rfl, rfl, hm, hm0⟩ := takeG_some r (i + 1) _ v k (by omega) h
        have hmp := hm0 (by omega)
        have hi9 : i < 9 := by
          rcases Nat.lt_or_ge i 9 with h | h
          · exact h
          · exfalso
            obtain rfl : i = 9 := by omega
            omega
        have hb : ¬ (c.toNat - 128 + m * 128) < 128 := by omega
        refine ⟨c.toNat - 128 + m * 128, post, ?_, ?_, ?_, ?_, fun _ => by omega⟩
        · rw [varB_step hb, show (c.toNat - 128 + m * 128) / 128 = m by omega, show (c.toNat - 128 + m * 128) % 128 + 128 = c.toNat by omega, UInt8.ofNat_toNat]
          rfl
        · have hp : 2 ^ (7 * (i + 1)) = 2 ^ (7 * i) * 128 := by rw [show 7 * (i + 1) = 7 * i + 7 by omega, Nat.pow_add]
          rw [hp, show c.toNat % 128 = c.toNat - 128 by omega]
          generalize 2 ^ (7 * i) = P
          rw [Nat.add_mul, Nat.mul_assoc, Nat.mul_comm 128 P, Nat.add_assoc]
        · rw [varB_step hb, show (c.toNat - 128 + m * 128) / 128 = m by omega]
          simp; omega
        · have hpow : 2 ^ (64 - 7 * i) = 2 ^ (64 - 7 * (i + 1)) * 128 := by
            rw [show 64 - 7 * i = (64 - 7 * (i + 1)) + 7 by omega, Nat.pow_add]
          rw [hpow]
          generalize 2 ^ (64 - 7 * (i + 1)) = P at *
          omega
      · rename_i h128
        split at h
        · cases h
        · rename_i h0
          simp only [Option.some.injEq, Prod.mk.injEq] at h
          obtain ⟨rfl, rfl⟩ := h
          refine ⟨c.toNat, r, ?_, rfl, ?_, ?_, fun _ => by omega⟩
          · rw [varB_small (by omega), UInt8.ofNat_toNat]; rfl
          · rw [varB_small (by omega)]; rfl
          · by_cases hi9 : i = 9
            · subst hi9
              have : c.toNat ≤ 1 := by omega
              simp; omega
            · have : 2 ^ 7 ≤ 2 ^ (64 - 7 * i) := Nat.pow_le_pow_right (by omega) (by omega)
              omega
theorem takeN_some {b : List UInt8} {k v q : Nat} (h : takeN b k = some (v, q)) : ∃ post, b.drop k = varB v ++ post ∧ q = k + (varB v).length ∧ v < 2 ^ 64 := by
  unfold takeN at h
  obtain ⟨⟨v', q'⟩, h1, h2⟩ := Option.map_eq_some_iff.1 h
  simp only [Prod.mk.injEq] at h2
  obtain ⟨rfl, rfl⟩ := h2
  obtain ⟨m, post, h3, h4, h5, h6, _⟩ := takeG_some _ _ _ _ _ (by rw [List.length_take]; omega) h1
  simp at h4 h5 h6
  subst h4; subst h5
  refine ⟨post ++ (b.drop k).drop 10, ?_, rfl, h6⟩
  rw [← List.append_assoc, ← h3, List.take_append_drop]
end Go.Proofs.YteohlibpfgmcaaaGreatDoor
