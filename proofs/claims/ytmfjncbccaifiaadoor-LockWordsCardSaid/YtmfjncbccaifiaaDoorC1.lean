/- LockAlone: plain facts, and the walk of the law. -/
import Derived.Test.YtmfjncbccaifiaaDoorC0
namespace Go.Proofs.YtmfjncbccaifiaaDoor
open Go.RowKit
set_option linter.unusedVariables false
set_option linter.unusedSimpArgs false

theorem ctz_pow : ∀ k, k < 16 → Lib.ctz 64 (2 ^ k) = k := by decide +kernel

/-- A word: who reads (at most k), the writer's number. -/
structure Word (m r h k : Nat) : Prop where
  low : r = 0 ∨ r = 2 ^ k
  high : h ≤ 16
  is : m = r + h * 4294967296
  kk : k < 16

theorem Word.rlt {m r h k : Nat} (W : Word m r h k) : r < 65536 := by
  rcases W.low with e | e
  · omega
  · rw [e]; exact pow_lt16 W.kk
theorem Word.lt {m r h k : Nat} (W : Word m r h k) : m < 18446744073709551616 := by
  have h1 := W.rlt; have h2 := W.high; have := W.is; omega
theorem Word.mod {m r h k : Nat} (W : Word m r h k) : m % 4294967296 = r := by
  have h1 := W.rlt; have := W.is; omega
theorem Word.div {m r h k : Nat} (W : Word m r h k) : m / 4294967296 = h := by
  have h1 := W.rlt; have := W.is; omega
theorem Word.right {m r h k : Nat} (W : Word m r h k) : rgt m = true := by
  have h1 := W.rlt; have h2 := W.high
  unfold rgt; rw [W.mod, W.div]; simp [h1, h2]
theorem Word.rd {m r h k : Nat} (W : Word m r h k) : rdM m = r := by
  unfold rdM; rw [if_pos W.right]
  have := W.mod; have := W.rlt; omega
theorem Word.wr {m r h k : Nat} (W : Word m r h k) : wrM m = if 0 < h then 2 ^ (h - 1) else 0 := by
  unfold wrM; rw [W.right, W.div]; simp
theorem Word.lv {m r h k : Nat} (W : Word m r h k) : lv1 m k = h * 4294967296 := by
  have hk := W.kk
  apply Nat.eq_of_testBit_eq
  intro i
  rw [lv1_bit m k i W.lt (by omega)]
  have e : m = 2 ^ 32 * h + r := by rw [W.is]; omega
  have hr := W.rlt
  rw [e, Nat.testBit_two_pow_mul_add _ (show r < 2 ^ 32 by omega), show h * 4294967296 = h * 2 ^ 32 from rfl, Nat.testBit_mul_two_pow]
  by_cases hi : i < 32
  · rw [if_pos hi]
    have : ¬ 32 ≤ i := by omega
    simp only [this, decide_false, Bool.false_and]
    rcases W.low with e | e
    · rw [e]; simp
    · rw [e, Nat.testBit_two_pow]
      by_cases h : i = k
      · simp [h]
      · simp [Ne.symm h]
  · rw [if_neg hi]
    have h32 : 32 ≤ i := by omega
    have hik : ¬ i = k := by omega
    simp [h32, hik]
theorem Word.lv_word {m r h k : Nat} (W : Word m r h k) : Word (h * 4294967296) 0 h k := ⟨.inl rfl, W.high, by omega, W.kk⟩
theorem Word.leave {m r h k : Nat} (W : Word m r h k) (hh : h = 0 ∨ h = k + 1) : lvW m (k : Int) = (0, 0) := by
  have hk := W.kk
  have hw : wrg m (k : Int) = 0 := wrg_zero.2 ⟨isW_true.2 ⟨by omega, by omega⟩, W.right⟩
  unfold lvW
  rw [if_pos hw, Int.toNat_natCast, W.lv, W.lv_word.wr]
  rcases hh with rfl | rfl
  · simp
  · have e : k + 1 - 1 = k := by omega
    have hp : 2 ^ k ≠ 0 := by have := Nat.two_pow_pos k; omega
    have hg : (if 0 < k + 1 then 2 ^ (k + 1 - 1) else 0) = 2 ^ k := by rw [if_pos (Nat.succ_pos k), e]
    rw [hg, ctz_pow k hk, if_pos ⟨hp, rfl⟩]
    simp
    omega
theorem Word.of {m k : Nat} (hm : m < 18446744073709551616) (hk : k < 16) (hr : rgt m = true) (hrd : rdM m = 0 ∨ rdM m = 2 ^ k) : Word m (rdM m) (m / 4294967296) k := by
  have hr' := hr
  unfold rgt at hr'
  simp at hr'
  refine ⟨hrd, hr'.2, ?_, hk⟩
  unfold rdM; rw [if_pos hr]
  omega
theorem Word.busy {m r h k : Nat} (W : Word m r h k) (hh : h = k + 1) {o : Nat} (ho : o ≠ k) (ho16 : o < 16) (b : Bool) : agn m (o : Int) b ≠ [] := by
  have hk := W.kk
  intro hn
  unfold agn at hn
  rw [if_pos (isW_true.2 ⟨by omega, by omega⟩), Int.toNat_natCast] at hn
  have hz := mem_nil (Nat.lt_trans (inWay_lt m o b) (by decide)) hn
  have hbit : (inWay m o b).testBit k = true := by
    unfold inWay
    have hg : (if 0 < h then 2 ^ (h - 1) else 0) = 2 ^ k := by
      rw [if_pos (show 0 < h by omega), show h - 1 = k by omega]
    rw [Nat.testBit_and, notBit o k (by omega), W.wr, hg]
    have hne : ¬ k = o := fun e => ho e.symm
    cases b
    · simp [hne]; omega
    · simp [hne]; omega
  rw [hz] at hbit
  simp at hbit

/-- What Write makes of a word. -/
theorem Word.write {m r h k : Nat} (W : Word m r h k) : Word (m % 65536 ||| (k + 1) * 4294967296) r (k + 1) k := by
  have hr := W.rlt; have hm := W.mod; have hk := W.kk
  refine ⟨W.low, by omega, ?_, hk⟩
  have e : m % 65536 = r := by omega
  rw [e, Nat.or_comm, show (k + 1) * 4294967296 = 2 ^ 32 * (k + 1) by omega, ← Nat.two_pow_add_eq_or_of_lt (by omega)]
  omega

theorem agn_zero (a : Int) : agn 0 a true = [] := by
  unfold agn
  split
  · have : inWay 0 a.toNat true = 0 := by
      have h1 := (low_rgt (m := 0) (by decide)).2.1
      have h2 := (low_rgt (m := 0) (by decide)).2.2
      unfold inWay; rw [h1, h2]; simp
    rw [this, mem_zero]
  · rfl

/-- All that the law asks, where the worker may write. -/
theorem alone_facts {m : Nat} (hm : m < 18446744073709551616) {k : Nat} (hk : k < 16) (he : wrg m (k : Int) = 0) (hl : agn m (k : Int) true = []) :
    ∃ a : Nat, a < 18446744073709551616 ∧ wrW m (k : Int) = (a, true, 0) ∧ lvW a (k : Int) = (0, 0) ∧ lvW m (k : Int) = (0, 0) ∧
      ∀ o : Int, o ≠ (k : Int) → (rdW a o).2.1 = false ∧ (wrW a o).2.1 = false := by
  obtain ⟨hrd, hwr⟩ := write_alone hm hk he hl
  obtain ⟨hw, hr⟩ := wrg_zero.1 he
  have W := Word.of hm hk hr hrd
  have W2 := W.write
  refine ⟨_, W2.lt, ?_, W2.leave (.inr rfl), W.leave ?_, fun o ho => ?_⟩
  · unfold wrW; rw [if_pos ⟨he, hl⟩, Int.toNat_natCast]
  · rw [W.wr] at hwr
    rcases Nat.eq_zero_or_pos (m / 4294967296) with h | h
    · exact .inl h
    · rw [if_pos h] at hwr
      rcases hwr with e | e
      · exfalso; have := Nat.two_pow_pos (m / 4294967296 - 1); omega
      · have := (Nat.pow_right_inj (show 1 < 2 by decide)).1 e
        exact .inr (by omega)
  · by_cases how : isW o = true
    · obtain ⟨h1, h2⟩ := isW_true.1 how
      obtain ⟨on, rfl⟩ := Int.eq_ofNat_of_zero_le h1
      have hne : on ≠ k := fun e => ho (by rw [e])
      have b1 := W2.busy rfl hne (by omega) false
      have b2 := W2.busy rfl hne (by omega) true
      unfold rdW wrW
      rw [if_neg (fun h => b1 h.2), if_neg (fun h => b2 h.2)]
      exact ⟨rfl, rfl⟩
    · have hwr : wrg (m % 65536 ||| (k + 1) * 4294967296) o ≠ 0 := by
        intro h; exact how (wrg_zero.1 h).1
      unfold rdW wrW
      rw [if_neg (fun h => hwr h.1), if_neg (fun h => hwr h.1)]
      exact ⟨rfl, rfl⟩

theorem wrg_three (m : Nat) (a : Int) : wrg m a = 0 ∨ wrg m a = 2 ∨ wrg m a = 130 := by
  unfold wrg; cases isW a <;> cases rgt m <;> simp
end Go.Proofs.YtmfjncbccaifiaaDoor
