/- Who waits for whom: levels, distances, the cycle that is told: plain facts, no walk. -/
import Derived.Test.YtmfjncbccaifiaaDoorC0
namespace Go.Proofs.YtmfjncbccaifiaaDoor
set_option linter.unusedVariables false
set_option linter.unusedSimpArgs false

/-- A graph: for each of sixteen workers a mask of those it waits for. -/
structure Gr (w : Nat → Nat) : Prop where
  lt : ∀ i, w i < 65536
  out : ∀ i, 16 ≤ i → w i = 0

theorem bits16 {x i : Nat} (hx : x < 65536) (h : x.testBit i = true) : i < 16 := by
  rcases Nat.lt_or_ge i 16 with h1 | h1
  · exact h1
  · rw [lowBit (n := 16) hx h1] at h; cases h

theorem and_ne_zero {x y : Nat} : x &&& y ≠ 0 ↔ ∃ k, x.testBit k = true ∧ y.testBit k = true := by
  constructor
  · intro h
    refine Classical.byContradiction fun hn => h ?_
    apply Nat.eq_of_testBit_eq
    intro i
    rw [Nat.testBit_and, Nat.zero_testBit]
    cases h1 : x.testBit i <;> cases h2 : y.testBit i <;> simp
    exact hn ⟨i, h1, h2⟩
  · rintro ⟨k, h1, h2⟩ h
    have : (x &&& y).testBit k = true := by rw [Nat.testBit_and, h1, h2]; rfl
    rw [h] at this; simp at this

/-- Those of the first n who wait for one of a ring. -/
def preN (w : Nat → Nat) (ring : Nat) : Nat → Nat
  | 0 => 0
  | n + 1 => if w n &&& ring ≠ 0 then preN w ring n ||| 2 ^ n else preN w ring n

theorem preN_bit (w : Nat → Nat) (ring n i : Nat) : (preN w ring n).testBit i = (decide (i < n) && decide (w i &&& ring ≠ 0)) := by
  induction n with
  | zero => simp [preN]
  | succ n ih =>
    unfold preN
    by_cases hi : i = n
    · subst hi
      split
      · rename_i h; rw [Nat.testBit_or, Nat.testBit_two_pow]; simp [h]
      · rename_i h; rw [ih]; simp [h]
    · have e : decide (i < n + 1) = decide (i < n) := by rw [Bool.eq_iff_iff]; simp; omega
      rw [e, ← ih]
      split
      · rw [Nat.testBit_or, Nat.testBit_two_pow]; simp [Ne.symm hi]
      · rfl
def pre (w : Nat → Nat) (ring : Nat) : Nat := preN w ring 16
theorem pre_bit (w : Nat → Nat) (ring i : Nat) : (pre w ring).testBit i = (decide (i < 16) && decide (w i &&& ring ≠ 0)) := preN_bit w ring 16 i
theorem preN_lt (w : Nat → Nat) (ring : Nat) : ∀ n, preN w ring n < 2 ^ n
  | 0 => by simp [preN]
  | n + 1 => by
    have ih := preN_lt w ring n
    unfold preN
    split
    · exact Nat.or_lt_two_pow (Nat.lt_trans ih (Nat.pow_lt_pow_right (by decide) (by omega))) (Nat.pow_lt_pow_right (by decide) (by omega))
    · exact Nat.lt_trans ih (Nat.pow_lt_pow_right (by decide) (by omega))
theorem pre_lt (w : Nat → Nat) (ring : Nat) : pre w ring < 65536 := preN_lt w ring 16

/-- The rings, and what has been met behind each. -/
def lev (w : Nat → Nat) (g : Nat) : Nat → Nat × Nat
  | 0 => (pre w (2 ^ g), pre w (2 ^ g))
  | n + 1 => let nx := pre w (lev w g n).1
             (nx &&& (18446744073709551615 - (lev w g n).2), (lev w g n).2 ||| nx)
def R (w : Nat → Nat) (g n : Nat) : Nat := (lev w g n).1
def M (w : Nat → Nat) (g n : Nat) : Nat := (lev w g n).2

section
variable {w : Nat → Nat} {g : Nat}

theorem M_lt (n : Nat) : M w g n < 65536 := by
  induction n with
  | zero => exact pre_lt _ _
  | succ n ih => exact Nat.or_lt_two_pow (n := 16) ih (pre_lt _ _)
theorem R_lt (n : Nat) : R w g n < 65536 := by
  cases n with
  | zero => exact pre_lt _ _
  | succ n => exact Nat.lt_of_le_of_lt Nat.and_le_left (pre_lt _ _)

theorem notMask {m i : Nat} (hm : m < 65536) : (18446744073709551615 - m).testBit i = (decide (i < 64) && !m.testBit i) := by
  have e : 18446744073709551615 - m = 2 ^ 64 - (m + 1) := by
    have : (2 : Nat) ^ 64 = 18446744073709551616 := rfl
    omega
  rw [e, Nat.testBit_two_pow_sub_succ (Nat.lt_trans hm (by decide))]

theorem R_zero_bit (i : Nat) : (R w g 0).testBit i = (decide (i < 16) && (w i).testBit g) := by
  show (pre w (2 ^ g)).testBit i = _
  rw [pre_bit]
  congr 1
  rw [Bool.eq_iff_iff, decide_eq_true_iff, and_ne_zero]
  constructor
  · rintro ⟨k, h1, h2⟩
    rw [Nat.testBit_two_pow] at h2
    have : g = k := by simpa using h2
    subst this; exact h1
  · intro h; exact ⟨g, h, by rw [Nat.testBit_two_pow]; simp⟩

theorem R_succ_bit (n i : Nat) : (R w g (n + 1)).testBit i = ((pre w (R w g n)).testBit i && !(M w g n).testBit i) := by
  show (pre w (R w g n) &&& (18446744073709551615 - M w g n)).testBit i = _
  rw [Nat.testBit_and, notMask (M_lt n)]
  cases h : (pre w (R w g n)).testBit i
  · rfl
  · have := bits16 (pre_lt _ _) h
    have h64 : decide (i < 64) = true := by simp; omega
    rw [h64]; rfl
theorem M_succ_bit (n i : Nat) : (M w g (n + 1)).testBit i = ((M w g n).testBit i || (pre w (R w g n)).testBit i) := by
  show (M w g n ||| pre w (R w g n)).testBit i = _
  rw [Nat.testBit_or]

theorem M_of_R (n i : Nat) (h : (R w g n).testBit i = true) : (M w g n).testBit i = true := by
  cases n with
  | zero => exact h
  | succ n =>
    rw [R_succ_bit] at h
    rw [M_succ_bit]
    simp at h
    simp [h.1]
theorem M_mono {m n i : Nat} (hmn : m ≤ n) (h : (M w g m).testBit i = true) : (M w g n).testBit i = true := by
  induction hmn with
  | refl => exact h
  | step _ ih => rw [M_succ_bit, ih]; rfl
theorem R_of_M {n i : Nat} (h : (M w g n).testBit i = true) : ∃ m, m ≤ n ∧ (R w g m).testBit i = true := by
  induction n with
  | zero => exact ⟨0, Nat.le_refl _, h⟩
  | succ n ih =>
    cases hM : (M w g n).testBit i
    · refine ⟨n + 1, Nat.le_refl _, ?_⟩
      rw [M_succ_bit, hM] at h
      rw [R_succ_bit, hM]
      simpa using h
    · obtain ⟨m, hm, hR⟩ := ih hM
      exact ⟨m, by omega, hR⟩
theorem R_lt_ne {m n i : Nat} (hmn : m < n) (h : (R w g m).testBit i = true) : (R w g n).testBit i = false := by
  obtain ⟨k, rfl⟩ : ∃ k, n = k + 1 := ⟨n - 1, by omega⟩
  rw [R_succ_bit, M_mono (show m ≤ k by omega) (M_of_R m i h)]
  simp
theorem R_inj {m n i : Nat} (h1 : (R w g m).testBit i = true) (h2 : (R w g n).testBit i = true) : m = n := by
  rcases Nat.lt_trichotomy m n with h | h | h
  · rw [R_lt_ne h h1] at h2; cases h2
  · exact h
  · rw [R_lt_ne h h2] at h1; cases h1
theorem R_step {n i : Nat} (h : (R w g (n + 1)).testBit i = true) : ∃ k, (w i).testBit k = true ∧ (R w g n).testBit k = true := by
  rw [R_succ_bit, pre_bit] at h
  simp at h
  exact and_ne_zero.1 h.1.2
theorem R_next {n i k : Nat} (hi : i < 16) (he : (w i).testBit k = true) (h : (R w g n).testBit k = true) : ∃ m, m ≤ n + 1 ∧ (R w g m).testBit i = true := by
  apply R_of_M
  rw [M_succ_bit, pre_bit]
  have := and_ne_zero.2 ⟨k, he, h⟩
  simp [hi, this]
theorem R_down {n : Nat} (h : R w g n ≠ 0) : ∀ m, m ≤ n → R w g m ≠ 0 := by
  induction n with
  | zero => intro m hm; obtain rfl : m = 0 := by omega
            exact h
  | succ n ih =>
    intro m hm
    rcases Nat.lt_or_ge m (n + 1) with hlt | hge
    · refine ih ?_ m (by omega)
      intro h0
      apply h
      apply Nat.eq_of_testBit_eq
      intro i
      rw [Nat.zero_testBit]
      cases hb : (R w g (n + 1)).testBit i
      · rfl
      · obtain ⟨k, _, hk⟩ := R_step hb
        rw [h0] at hk; simp at hk
    · obtain rfl : m = n + 1 := by omega
      exact h

theorem exists_bit {x : Nat} (h : x ≠ 0) : ∃ i, x.testBit i = true := by
  refine Classical.byContradiction fun hn => h ?_
  apply Nat.eq_of_testBit_eq
  intro i
  rw [Nat.zero_testBit]
  cases hb : x.testBit i
  · rfl
  · exact absurd ⟨i, hb⟩ hn

theorem countP_lt {p q : Nat → Bool} {l : List Nat} (h : ∀ i, p i = true → q i = true) {a : Nat} (ha : a ∈ l) (hp : p a = false) (hq : q a = true) : l.countP p < l.countP q := by
  induction l with
  | nil => cases ha
  | cons x l ih =>
    rw [List.countP_cons, List.countP_cons]
    have hle : l.countP p ≤ l.countP q := List.countP_mono_left fun i _ hi => h i hi
    rcases List.mem_cons.1 ha with rfl | hm
    · rw [hp, hq]; simp; omega
    · have := ih hm
      have h2 : (if p x = true then 1 else 0) ≤ (if q x = true then 1 else 0) := by
        cases hx : p x
        · simp
        · rw [h x hx]; simp
      omega

/-- How many have been met. -/
def cnt (x : Nat) : Nat := (List.range 16).countP fun i => x.testBit i
theorem cnt_le (x : Nat) : cnt x ≤ 16 := by have := List.countP_le_length (p := fun i => x.testBit i) (l := List.range 16); simpa [cnt] using this
theorem cnt_M {n : Nat} (h : R w g n ≠ 0) : n + 1 ≤ cnt (M w g n) := by
  induction n with
  | zero =>
    obtain ⟨i, hi⟩ := exists_bit h
    have : 0 < cnt (M w g 0) := List.countP_pos_iff.2 ⟨i, by simp; exact bits16 (R_lt 0) hi, M_of_R 0 i hi⟩
    omega
  | succ n ih =>
    have h0 := ih (R_down h n (by omega))
    obtain ⟨i, hi⟩ := exists_bit h
    have hlt : cnt (M w g n) < cnt (M w g (n + 1)) := by
      refine countP_lt (fun j hj => M_mono (by omega) hj) (a := i) (by simp; exact bits16 (R_lt _) hi) ?_ (M_of_R _ _ hi)
      rw [R_succ_bit] at hi; simp at hi; exact hi.2
    omega
theorem R_bound {n i : Nat} (h : (R w g n).testBit i = true) : n < 16 := by
  have hne : R w g n ≠ 0 := by intro h0; rw [h0] at h; simp at h
  have := cnt_M hne
  have := cnt_le (M w g n)
  omega

/-- How many waits it takes to the goal (99: it can't be). -/
def dd (w : Nat → Nat) (g i : Nat) : Nat := match (List.range 16).find? (fun n => (R w g n).testBit i) with
  | some n => n + 1
  | none => 99

theorem dd_of_R {n i : Nat} (h : (R w g n).testBit i = true) : dd w g i = n + 1 := by
  unfold dd
  cases hf : (List.range 16).find? (fun n => (R w g n).testBit i) with
  | none =>
    rw [List.find?_eq_none] at hf
    exact absurd h (hf n (by simp; exact R_bound h))
  | some m =>
    have := List.find?_some hf
    rw [R_inj this h]
theorem dd_cases (i : Nat) : (∃ n, n < 16 ∧ (R w g n).testBit i = true ∧ dd w g i = n + 1) ∨ (dd w g i = 99 ∧ ∀ n, (R w g n).testBit i = false) := by
  by_cases h : ∃ n, (R w g n).testBit i = true
  · obtain ⟨n, hn⟩ := h
    exact .inl ⟨n, R_bound hn, hn, dd_of_R hn⟩
  · refine .inr ⟨?_, fun n => by cases hb : (R w g n).testBit i; · rfl
                                 · exact absurd ⟨n, hb⟩ h⟩
    unfold dd
    cases hf : (List.range 16).find? (fun n => (R w g n).testBit i) with
    | none => rfl
    | some m =>
      have hs : (R w g m).testBit i = true := by have := List.find?_some hf; simpa using this
      exact absurd ⟨m, hs⟩ h
theorem R_of_dd {n i : Nat} (h : dd w g i = n + 1) (hn : n < 98) : (R w g n).testBit i = true := by
  rcases dd_cases (w := w) (g := g) i with ⟨m, _, hR, hd⟩ | ⟨hd, _⟩
  · have : m = n := by omega
    rw [← this]; exact hR
  · omega
theorem dd_le (i : Nat) : 1 ≤ dd w g i ∧ dd w g i ≤ 99 ∧ (dd w g i ≤ 16 ∨ dd w g i = 99) := by
  rcases dd_cases (w := w) (g := g) i with ⟨m, _, _, hd⟩ | ⟨hd, _⟩ <;> omega
theorem dd_one {i : Nat} : dd w g i = 1 ↔ i < 16 ∧ (w i).testBit g = true := by
  constructor
  · intro h
    have := R_of_dd h (by omega)
    rw [R_zero_bit] at this
    simpa using this
  · intro h
    exact dd_of_R (n := 0) (by rw [R_zero_bit]; simp [h])
theorem dd_wait {i k : Nat} (hi : i < 16) (he : (w i).testBit k = true) : dd w g i ≤ dd w g k + 1 := by
  rcases dd_cases (w := w) (g := g) k with ⟨n, _, hR, hd⟩ | ⟨hd, _⟩
  · obtain ⟨m, hm, hR'⟩ := R_next hi he hR
    rw [dd_of_R hR']; omega
  · have := (dd_le (w := w) (g := g) i).2.1; omega
theorem dd_from {i : Nat} (h1 : 1 < dd w g i) (h2 : dd w g i < 99) : ∃ k, k < 16 ∧ k ≠ g ∧ (w i).testBit k = true ∧ dd w g k + 1 = dd w g i := by
  rcases dd_cases (w := w) (g := g) i with ⟨n, _, hR, hd⟩ | ⟨hd, _⟩
  · obtain ⟨m, rfl⟩ : ∃ m, n = m + 1 := ⟨n - 1, by omega⟩
    obtain ⟨k, he, hk⟩ := R_step hR
    refine ⟨k, bits16 (R_lt _) hk, ?_, he, by rw [dd_of_R hk, hd]⟩
    rintro rfl
    have hi := bits16 (R_lt _) hR
    have := dd_one.2 ⟨hi, he⟩
    omega
  · omega

/-- The next one of a cycle, n waits being left behind it. -/
def nxt (w : Nat → Nat) (g a n : Nat) : Nat := Lib.ctz 64 (w a &&& R w g n)
def trail (w : Nat → Nat) (g : Nat) : Nat → Nat → List Nat
  | 0, _ => []
  | n + 1, a => nxt w g a n :: trail w g n (nxt w g a n)
/-- The cycle that is told. -/
def cyc (w : Nat → Nat) (g : Nat) : List Nat × Bool := if dd w g g = 99 then ([], false) else (g :: trail w g (dd w g g - 1) g, true)

theorem ctz_bit {x : Nat} (h0 : x ≠ 0) (h : x < 18446744073709551616) : x.testBit (Lib.ctz 64 x) = true ∧ ∀ i, i < Lib.ctz 64 x → x.testBit i = false := by
  obtain ⟨j, hj, hk⟩ := Lib.ctzFrom_spec 64 x (by omega) (show x < 2 ^ 64 from h)
  have e : Lib.ctz 64 x = Lib.ctzFrom 64 x := by simp [Lib.ctz, h0]
  rw [e]
  generalize Lib.ctzFrom 64 x = k at hj hk
  subst hj
  refine ⟨by rw [Nat.mul_comm, Nat.testBit_mul_two_pow]; simp, fun i hi => ?_⟩
  rw [Nat.mul_comm, Nat.testBit_mul_two_pow]
  simp [show ¬ k ≤ i by omega]

theorem nxt_spec {a n : Nat} (hw : w a < 65536) (h : dd w g a = n + 2) (hn : n < 97) :
    w a &&& R w g n ≠ 0 ∧ nxt w g a n < 16 ∧ (w a).testBit (nxt w g a n) = true ∧ dd w g (nxt w g a n) = n + 1 ∧
      ∀ k, k < nxt w g a n → ¬ ((w a).testBit k = true ∧ dd w g k = n + 1) := by
  have hR := R_of_dd (n := n + 1) h (by omega)
  have hne := and_ne_zero.2 (R_step hR)
  have hlt : w a &&& R w g n < 18446744073709551616 := Nat.lt_of_le_of_lt Nat.and_le_left (Nat.lt_trans hw (by decide))
  obtain ⟨h1, h2⟩ := ctz_bit hne hlt
  have h1' := h1
  rw [Nat.testBit_and] at h1'
  simp at h1'
  refine ⟨hne, bits16 hw h1'.1, h1'.1, dd_of_R h1'.2, fun k hk hkk => ?_⟩
  have := h2 k hk
  rw [Nat.testBit_and, hkk.1, R_of_dd hkk.2 (by omega)] at this
  cases this
end
end Go.Proofs.YtmfjncbccaifiaaDoor
