/- The cycle that is told is one; what is told behind a wait that was given up: plain facts, no walk. -/
import Derived.Test.YtmfjncbccaifiaaDoorE0
namespace Go.Proofs.YtmfjncbccaifiaaDoor
set_option linter.unusedVariables false
set_option linter.unusedSimpArgs false

/-- Nobody waits for itself. -/
def Irr (w : Nat → Nat) : Prop := ∀ i, (w i).testBit i = false

/-- A cycle: each waits for the next one, distances fall. -/
structure Round (w : Nat → Nat) (g : Nat) (L : List Nat) : Prop where
  first : L.getD 0 0 = g
  len : L.length = dd w g g
  two : 2 ≤ L.length
  most : L.length ≤ 16
  lt : ∀ j, j < L.length → L.getD j 0 < 16
  dist : ∀ j, j < L.length → dd w g (L.getD j 0) = L.length - j
  next : ∀ j, j < L.length → (w (L.getD j 0)).testBit (L.getD ((j + 1) % L.length) 0) = true

section
variable {w : Nat → Nat} {g : Nat}

theorem trail_dist (gr : Gr w) : ∀ (n a : Nat), dd w g a = n + 1 → n < 98 → (trail w g n a).length = n ∧ (∀ j, j < n → dd w g ((trail w g n a).getD j 0) = n - j ∧ (trail w g n a).getD j 0 < 16) ∧
    (∀ j, j < n → (w ((a :: trail w g n a).getD j 0)).testBit ((trail w g n a).getD j 0) = true)
  | 0, a, _, _ => ⟨rfl, fun j hj => by omega, fun j hj => by omega⟩
  | n + 1, a, h, hn => by
    obtain ⟨_, h16, hbit, hd, _⟩ := nxt_spec (gr.lt a) h (by omega)
    obtain ⟨h1, h2, h3⟩ := trail_dist gr n (nxt w g a n) hd (by omega)
    rw [trail]
    refine ⟨by rw [List.length_cons, h1], fun j hj => ?_, fun j hj => ?_⟩
    · cases j with
      | zero => exact ⟨by simpa using hd, by simpa using h16⟩
      | succ j =>
        have := h2 j (by omega)
        simp only [List.getD_cons_succ]
        exact ⟨by rw [this.1]; omega, this.2⟩
    · cases j with
      | zero => simpa using hbit
      | succ j => simpa only [List.getD_cons_succ] using h3 j (by omega)

theorem round_cyc (gr : Gr w) (irr : Irr w) (hg : g < 16) (h : dd w g g ≠ 99) : Round w g (g :: trail w g (dd w g g - 1) g) := by
  have hle := dd_le (w := w) (g := g) g
  obtain ⟨n, hn⟩ : ∃ n, dd w g g = n + 1 := ⟨dd w g g - 1, by omega⟩
  have hn0 : n ≠ 0 := by
    rintro rfl
    have := (dd_one.1 hn).2
    rw [irr g] at this
    cases this
  rw [hn, Nat.add_sub_cancel]
  obtain ⟨h1, h2, h3⟩ := trail_dist gr n g hn (by omega)
  have hl : (g :: trail w g n g).length = n + 1 := by rw [List.length_cons, h1]
  refine ⟨rfl, by rw [hl, hn], by omega, by omega, fun j hj => ?_, fun j hj => ?_, fun j hj => ?_⟩
  · cases j with
    | zero => exact hg
    | succ j => simpa only [List.getD_cons_succ] using (h2 j (by omega)).2
  · rw [hl]
    cases j with
    | zero => simpa using hn
    | succ j =>
      simp only [List.getD_cons_succ]
      rw [(h2 j (by omega)).1]; omega
  · rw [hl]
    by_cases hj1 : j < n
    · rw [Nat.mod_eq_of_lt (by omega), List.getD_cons_succ]
      exact h3 j hj1
    · obtain rfl : j = n := by omega
      rw [Nat.mod_self]
      obtain ⟨m, rfl⟩ : ∃ m, j = m + 1 := ⟨j - 1, by omega⟩
      simp only [List.getD_cons_succ, List.getD_cons_zero]
      have := (h2 m (by omega)).1
      rw [show m + 1 - m = 1 by omega] at this
      exact (dd_one.1 this).2

theorem Round.ne {L : List Nat} (h : Round w g L) {j k : Nat} (hj : j < L.length) (hk : k < j) : L.getD k 0 ≠ L.getD j 0 := fun e => by
  have h1 := h.dist j hj
  have h2 := h.dist k (by omega)
  rw [e] at h2
  omega

/-- Whoever is in it waits for somebody. -/
theorem Round.waits {L : List Nat} (h : Round w g L) {j : Nat} (hj : j < L.length) : w (L.getD j 0) ≠ 0 := fun e => by
  have := h.next j hj
  rw [e] at this; simp at this

/-- A cycle of fewer waits is no shorter. -/
theorem Round.no_shorter {w' : Nat → Nat} {L : List Nat} (h : Round w' g L) (hsub : ∀ i k, (w' i).testBit k = true → (w i).testBit k = true) : dd w g g ≤ L.length := by
  have key : ∀ n j, j < L.length → L.length - j = n → dd w g (L.getD j 0) ≤ n := by
    intro n
    induction n with
    | zero => intro j hj e; omega
    | succ n ih =>
      intro j hj e
      have hw := hsub _ _ (h.next j hj)
      by_cases hl : j + 1 < L.length
      · rw [Nat.mod_eq_of_lt hl] at hw
        have := dd_wait (g := g) (h.lt j hj) hw
        have := ih (j + 1) hl (by omega)
        omega
      · rw [show j + 1 = L.length by omega, Nat.mod_self, h.first] at hw
        have := dd_one.2 ⟨h.lt j hj, hw⟩
        omega
  have := key L.length 0 (by have := h.two; omega) (by omega)
  rwa [h.first] at this
end
end Go.Proofs.YtmfjncbccaifiaaDoor
