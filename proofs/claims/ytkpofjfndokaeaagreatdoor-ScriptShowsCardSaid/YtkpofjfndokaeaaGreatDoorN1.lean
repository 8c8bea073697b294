/- Plain facts: the words of words that stand side by side. -/
import Derived.Test.YtkpofjfndokaeaaGreatDoorH1
import Derived.Lib.Join
namespace Go.Proofs.YtkpofjfndokaeaaGreatDoor
set_option linter.unusedVariables false
set_option linter.unusedSimpArgs false

/-- The words of what is left of a line; the word that has begun; within a text? -/
def wgo : List UInt8 → Option (List UInt8) → Bool → List (List UInt8)
  | [], none, _ => []
  | [], some u, _ => [u]
  | c :: r, none, q => if c = 32 ∧ q = false then wgo r none q else wgo r (some [c]) (c == 34)
  | c :: r, some u, q => if c = 32 ∧ q = false then u :: wgo r none q else wgo r (some (u ++ [c])) (if c = 34 ∧ q = true then false else q)

theorem u8_eq {c : UInt8} {n : Nat} (h : n < 256) : c.toNat = n ↔ c = UInt8.ofNat n := by
  constructor
  · intro e
    apply UInt8.toNat_inj.1
    rw [e]
    simp
    omega
  · rintro rfl
    simp
    omega
theorem wrun_go (l : List UInt8) : ∀ (rest pre : List UInt8), l = pre ++ rest → wordsB l = (wrun l pre.length).out ++ wgo rest (if (wrun l pre.length).fr < 0 then none else some (pre.drop (wrun l pre.length).fr.toNat)) (wrun l pre.length).q := by
  intro rest
  induction rest with
  | nil =>
    intro pre h
    rw [List.append_nil] at h
    subst h
    unfold wordsB
    have hf := wrun_fr l l.length
    by_cases h0 : (wrun l l.length).fr < 0
    · rw [if_neg (by omega), if_pos h0, wgo, List.append_nil]
    · rw [if_pos (by omega), if_neg h0, wgo]
  | cons c r ih =>
    intro pre h
    have ih2 := ih (pre ++ [c]) (by rw [h]; simp)
    have hlen : (pre ++ [c]).length = pre.length + 1 := by simp
    rw [hlen] at ih2
    rw [ih2]
    have hf := wrun_fr l pre.length
    have hc : (l.getD pre.length 0) = c := by rw [h]; simp
    have htk : l.take pre.length = pre := by rw [h]; simp
    have hw : wrun l (pre.length + 1) = wstep l (wrun l pre.length) pre.length c.toNat := by rw [wrun, hc]
    rw [hw]
    have e32 : c.toNat = 32 ↔ c = 32 := u8_eq (by decide)
    have e34 : c.toNat = 34 ↔ c = 34 := u8_eq (by decide)
    have b34 : (c.toNat == 34) = (c == 34) := by rw [Bool.eq_iff_iff, beq_iff_eq, beq_iff_eq]; exact e34
    generalize wrun l pre.length = st at *
    obtain ⟨out, fr, q⟩ := st
    simp only at hf
    have hd : ∀ f : Int, 0 ≤ f → f < pre.length → (pre ++ [c]).drop f.toNat = pre.drop f.toNat ++ [c] := fun f h0 h1 => List.drop_append_of_le_length (by omega)
    unfold wstep
    simp only [htk]
    by_cases hs : c = 32 ∧ q = false
    · rw [if_pos ⟨e32.2 hs.1, hs.2⟩]
      by_cases h0 : fr < 0
      · simp only [if_neg (show ¬ 0 ≤ fr by omega), if_pos h0, if_pos (show (-1 : Int) < 0 by decide)]
        rw [wgo, if_pos hs]
      · simp only [if_pos (show 0 ≤ fr by omega), if_neg h0, if_pos (show (-1 : Int) < 0 by decide)]
        rw [wgo, if_pos hs]
        simp
    · rw [if_neg (fun hh => hs ⟨e32.1 hh.1, hh.2⟩)]
      by_cases h0 : fr < 0
      · rw [if_pos h0]
        simp only [if_pos h0, b34]
        rw [if_neg (by omega)]
        rw [wgo, if_neg hs]
        simp
      · rw [if_neg h0]
        by_cases h34 : c = 34 ∧ q = true
        · rw [if_pos ⟨e34.2 h34.1, h34.2⟩]
          simp only [if_neg h0]
          rw [wgo, if_neg hs, if_pos h34, hd fr (by omega) (by omega)]
        · rw [if_neg (fun hh => h34 ⟨e34.1 hh.1, hh.2⟩)]
          simp only [if_neg h0]
          rw [wgo, if_neg hs, if_neg h34, hd fr (by omega) (by omega)]
theorem wordsB_go (l : List UInt8) : wordsB l = wgo l none false := by
  have := wrun_go l l [] rfl
  rw [this]
  simp [wrun]

/-- A word that stands as one. -/
def Word (t : List UInt8) : Prop := t ≠ [] ∧ ∀ r, wgo (t ++ r) none false = wgo r (some t) false
theorem wgo_plain : ∀ (t : List UInt8), (∀ c ∈ t, c ≠ 32) → ∀ u r, wgo (t ++ r) (some u) false = wgo r (some (u ++ t)) false
  | [], _, u, r => by simp
  | c :: t, h, u, r => by
    rw [List.cons_append, wgo, if_neg (fun e => h c (by simp) e.1), if_neg (fun e => by cases e.2), wgo_plain t (fun d hd => h d (by simp [hd]))]
    simp
theorem word_plain {t : List UInt8} (h0 : t ≠ []) (h : ∀ c ∈ t, c ≠ 32) (h1 : t.head? ≠ some 34) : Word t := by
  refine ⟨h0, fun r => ?_⟩
  cases t with
  | nil => exact absurd rfl h0
  | cons c t =>
    have hc : c ≠ 34 := fun e => h1 (by rw [e]; rfl)
    rw [List.cons_append, wgo, if_neg (fun e => h c (by simp) e.1), show (c == 34) = false from beq_eq_false_iff_ne.2 hc, wgo_plain t (fun d hd => h d (by simp [hd]))]
    rfl
theorem wgo_text : ∀ (t : List UInt8), (∀ c ∈ t, c ≠ 34) → ∀ u r, wgo (t ++ r) (some u) true = wgo r (some (u ++ t)) true
  | [], _, u, r => by simp
  | c :: t, h, u, r => by
    rw [List.cons_append, wgo, if_neg (fun e => by cases e.2), if_neg (fun e => h c (by simp) e.1), wgo_text t (fun d hd => h d (by simp [hd]))]
    simp
theorem word_text {b : List UInt8} (h : ∀ c ∈ b, c ≠ 34) : Word (34 :: (b ++ [34])) := by
  refine ⟨by simp, fun r => ?_⟩
  rw [List.cons_append, wgo, if_neg (fun e => absurd e.1 (by decide)), List.append_assoc, show ((34 : UInt8) == 34) = true from rfl, wgo_text b h, List.singleton_append, wgo, if_neg (fun e => by cases e.2), if_pos ⟨rfl, rfl⟩]
  simp
theorem words_join : ∀ (ts : List (List UInt8)), (∀ t ∈ ts, Word t) → wordsB (Lib.join ts [32]) = ts := by
  have key : ∀ (ts : List (List UInt8)) (t : List UInt8), (∀ u ∈ t :: ts, Word u) → wgo (Lib.join (t :: ts) [32]) none false = t :: ts := by
    intro ts
    induction ts with
    | nil =>
      intro t h
      rw [Lib.join_one]
      have := (h t (by simp)).2 []
      rw [List.append_nil] at this
      rw [this, wgo]
    | cons u ts ih =>
      intro t h
      have e : Lib.join (t :: u :: ts) [32] = t ++ 32 :: Lib.join (u :: ts) [32] := by
        rw [Lib.join_cons, Lib.join_cons]
        unfold Lib.joinTail
        simp
      rw [e, (h t (by simp)).2, wgo, if_pos ⟨rfl, rfl⟩, ih u (fun x hx => h x (by simp [hx]))]
  intro ts h
  rw [wordsB_go]
  cases ts with
  | nil => rfl
  | cons t ts => exact key ts t h
end Go.Proofs.YtkpofjfndokaeaaGreatDoor
