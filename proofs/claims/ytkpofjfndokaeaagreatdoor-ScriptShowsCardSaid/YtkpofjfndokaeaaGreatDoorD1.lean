/- How a line is parted into words: plain facts. -/
import Derived.Test.YtkpofjfndokaeaaGreatDoorC5
import Derived.Lib.OthersKept
import Derived.WalkSmall
import Derived.Laws.RangeAny
namespace Go.Proofs.YtkpofjfndokaeaaGreatDoor
open Go.RowKit
set_option linter.unusedVariables false
set_option linter.unusedSimpArgs false

/-- The words so far; where the word in hand begins (-1: there is none); is it a text that isn't at its end? -/
structure WS where
  out : List (List UInt8)
  fr : Int
  q : Bool
def wstep (l : List UInt8) (st : WS) (i : Nat) (c : Nat) : WS :=
  if c = 32 ∧ st.q = false then ⟨if 0 ≤ st.fr then st.out ++ [(l.take i).drop st.fr.toNat] else st.out, -1, st.q⟩
  else if st.fr < 0 then ⟨st.out, i, c == 34⟩
  else if c = 34 ∧ st.q = true then ⟨st.out, st.fr, false⟩
  else st
def wrun (l : List UInt8) : Nat → WS
  | 0 => ⟨[], -1, false⟩
  | n + 1 => wstep l (wrun l n) n (l.getD n 0).toNat
/-- The words of a line. -/
def wordsB (l : List UInt8) : List (List UInt8) := if 0 ≤ (wrun l l.length).fr then (wrun l l.length).out ++ [l.drop (wrun l l.length).fr.toNat] else (wrun l l.length).out

theorem wrun_fr (l : List UInt8) : ∀ n, -1 ≤ (wrun l n).fr ∧ (wrun l n).fr < (n : Int)
  | 0 => by simp only [wrun]; omega
  | n + 1 => by
    have ih := wrun_fr l n
    rw [wrun]
    unfold wstep
    split
    · show -1 ≤ (-1 : Int) ∧ (-1 : Int) < _
      omega
    · split
      · show -1 ≤ ((n : Nat) : Int) ∧ ((n : Nat) : Int) < _
        omega
      · split
        · show -1 ≤ (wrun l n).fr ∧ (wrun l n).fr < _
          omega
        · omega

/-- A high byte's step, and those behind it in the same rune. -/
theorem wstep_high (l : List UInt8) (st : WS) (i c : Nat) (hc : 128 ≤ c) : wstep l st i c = if st.fr < 0 then ⟨st.out, i, false⟩ else st := by
  unfold wstep
  rw [if_neg (by omega)]
  split
  · congr 1
    simp; omega
  · rw [if_neg (by omega)]
theorem wrun_high (l : List UInt8) (p k r : Nat) (hr : 128 ≤ r) (hk : 1 ≤ k) (hall : ∀ j, j < k → 128 ≤ (l.getD (p + j) 0).toNat) : wrun l (p + k) = wstep l (wrun l p) p r := by
  induction k with
  | zero => omega
  | succ k ih =>
    rw [show p + (k + 1) = (p + k) + 1 by omega, wrun]
    have hk0 := hall k (by omega)
    rcases Nat.eq_zero_or_pos k with rfl | hk1
    · rw [Nat.add_zero] at hk0 ⊢
      rw [wstep_high _ _ _ _ hk0, wstep_high _ _ _ _ hr]
    · rw [ih hk1 (fun j hj => hall j (by omega)), wstep_high _ _ _ _ hk0]
      have h0 : ¬ (wstep l (wrun l p) p r).fr < 0 := by
        rw [wstep_high _ _ _ _ hr]
        split
        · simp only; omega
        · assumption
      rw [if_neg h0]

/-- A rune of more than one byte, or none: all its bytes are high. -/
theorem decode_bytes (s : ByteArray) (p : Nat) (h : p < s.size) (ha : 128 ≤ (s[p]'h).toNat) : 1 ≤ (Utf8.decode s p).2 ∧ p + (Utf8.decode s p).2 ≤ s.size ∧ ∀ j, j < (Utf8.decode s p).2 → 128 ≤ (s.data.toList.getD (p + j) 0).toNat := by
  have hget : ∀ j, p + j < s.size → (s.data.toList.getD (p + j) 0).toNat = (s.get! (p + j)).toNat := fun j hj => by
    have hl : p + j < s.data.toList.length := by rw [Array.length_toList]; exact hj
    rw [List.getD_eq_getElem?_getD, List.getElem?_eq_getElem hl]
    have hd : p + j < s.data.size := hj
    show (s.data.toList[p + j]).toNat = (s.data[p + j]!).toNat
    rw [getElem!_pos s.data (p + j) hd]
    rfl
  have h0 : 128 ≤ (s.get! (p + 0)).toNat := by rw [get_at s p h]; exact ha
  have hb0 : ¬ (s.get! (p + 0)).toNat < 128 := by omega
  have hc : ∀ k, (decide (p + k < s.size) && ((s.get! (p + k)).toNat / 64 == 2)) = true → p + k < s.size ∧ 128 ≤ (s.get! (p + k)).toNat := fun k hk => by
    simp only [Bool.and_eq_true, decide_eq_true_eq, beq_iff_eq] at hk
    exact ⟨hk.1, by omega⟩
  have one : 1 ≤ 1 ∧ p + 1 ≤ s.size ∧ ∀ j, j < 1 → 128 ≤ (s.data.toList.getD (p + j) 0).toNat := ⟨Nat.le_refl _, by omega, fun j hj => by
    obtain rfl : j = 0 := by omega
    rw [hget 0 (by omega)]; exact h0⟩
  unfold Utf8.decode
  simp only [hb0, if_false]
  split
  · rename_i h1
    rw [Bool.and_eq_true] at h1
    have k1 := hc 1 h1.2
    split
    · refine ⟨show 1 ≤ 2 by decide, by show p + 2 ≤ s.size; omega, fun j hj => ?_⟩
      have hj2 : j = 0 ∨ j = 1 := by have : j < 2 := hj; omega
      rcases hj2 with rfl | rfl
      · rw [hget 0 (by omega)]; exact h0
      · rw [hget 1 k1.1]; exact k1.2
    · exact one
  · split
    · rename_i _ h1
      rw [Bool.and_eq_true, Bool.and_eq_true] at h1
      have k1 := hc 1 h1.1.2
      have k2 := hc 2 h1.2
      split
      · refine ⟨show 1 ≤ 3 by decide, by show p + 3 ≤ s.size; omega, fun j hj => ?_⟩
        have hj2 : j = 0 ∨ j = 1 ∨ j = 2 := by have : j < 3 := hj; omega
        rcases hj2 with rfl | rfl | rfl
        · rw [hget 0 (by omega)]; exact h0
        · rw [hget 1 k1.1]; exact k1.2
        · rw [hget 2 k2.1]; exact k2.2
      · exact one
    · split
      · rename_i _ _ h1
        rw [Bool.and_eq_true, Bool.and_eq_true, Bool.and_eq_true] at h1
        have k1 := hc 1 h1.1.1.2
        have k2 := hc 2 h1.1.2
        have k3 := hc 3 h1.2
        split
        · refine ⟨show 1 ≤ 4 by decide, by show p + 4 ≤ s.size; omega, fun j hj => ?_⟩
          have hj2 : j = 0 ∨ j = 1 ∨ j = 2 ∨ j = 3 := by have : j < 4 := hj; omega
          rcases hj2 with rfl | rfl | rfl | rfl
          · rw [hget 0 (by omega)]; exact h0
          · rw [hget 1 k1.1]; exact k1.2
          · rw [hget 2 k2.1]; exact k2.2
          · rw [hget 3 k3.1]; exact k3.2
        · exact one
      · exact one

/-- One step of the iterator is one step of the bytes' machine (or several that say the same). -/
theorem wrun_decode (s : ByteArray) (p : Nat) (h : p < s.size) : wrun s.data.toList (p + (Utf8.decode s p).2) = wstep s.data.toList (wrun s.data.toList p) p (Utf8.decode s p).1 ∧ 1 ≤ (Utf8.decode s p).2 ∧ p + (Utf8.decode s p).2 ≤ s.size := by
  by_cases ha : (s[p]'h).toNat < 128
  · rw [decode_ascii s p h ha]
    refine ⟨?_, Nat.le_refl _, by omega⟩
    show wrun s.data.toList (p + 1) = _
    rw [wrun]
    congr 1
    have hl : p < s.data.toList.length := by rw [Array.length_toList]; exact h
    rw [List.getD_eq_getElem?_getD, List.getElem?_eq_getElem hl]
    rfl
  · obtain ⟨h1, h2, h3⟩ := decode_bytes s p h (by omega)
    exact ⟨wrun_high _ p _ _ (decode_high s p h (by omega)).1 h1 h3, h1, h2⟩
end Go.Proofs.YtkpofjfndokaeaaGreatDoor

/- script.words: the walk. -/
namespace Go.Proofs.YtkpofjfndokaeaaGreatDoor
open Go.RowKit
set_option linter.unusedVariables false
set_option linter.unusedSimpArgs false

theorem wrun_len (l : List UInt8) : ∀ n, (wrun l n).out.length ≤ n
  | 0 => by simp [wrun]
  | n + 1 => by
    have ih := wrun_len l n
    rw [wrun]
    unfold wstep
    split
    · simp only
      split
      · simp; omega
      · omega
    · split
      · simp only; omega
      · split
        · simp only; omega
        · omega
theorem strv_extract (s : ByteArray) (a b : Nat) : Value.string (s.extract a b) = strv ((s.data.toList.take b).drop a) := by
  rw [strv_of]
  congr 1
  rw [ByteArray.data_extract, Array.toList_extract, List.extract_eq_take_drop, List.drop_take]

/-- Within the loop: the words' row, the iterator's place, all else as it lay. -/
structure WD (W : World) (s : ByteArray) (p : Nat) (ts : List (List UInt8)) (v : Value) (wr : World) : Prop where
  own : wr.ownsRow (W.heap.size + 1) 9 1 v ts.length (ts.map strv)
  below : Below W.heap.size W wr
  it : wr.heap[W.heap.size]? = some (.stringIter s p)
theorem WD.lt {W : World} {s : ByteArray} {p : Nat} {ts : List (List UInt8)} {v : Value} {wr : World} (h : WD W s p ts v wr) : W.heap.size < wr.heap.size := (Array.getElem?_eq_some_iff.1 h.it).1
theorem WD.start (W : World) (s : ByteArray) : WD W s 0 [] (.slice none 0 0) (W.alloc (.stringIter s 0)) :=
  ⟨⟨rfl, .inl ⟨rfl, rfl⟩⟩, (Below.refl _ W).alloc (Nat.le_refl _) _, heap_alloc_at _ _ rfl⟩
theorem WD.move {W : World} {s : ByteArray} {p : Nat} {ts : List (List UInt8)} {v : Value} {wr : World} (h : WD W s p ts v wr) (p' : Nat) : WD W s p' ts v (wr.iterAt W.heap.size s p') :=
  ⟨ownsRow_iterAt h.own (by omega) s p', Lib.below_iterAt h.below (Nat.le_refl _) s p', Lib.iterAt_heap wr W.heap.size s p p' h.it⟩
theorem WD.alloc {W : World} {s : ByteArray} {p : Nat} {ts : List (List UInt8)} {v : Value} {wr : World} (h : WD W s p ts v wr) (o : Obj) : WD W s p ts v (wr.alloc o) :=
  ⟨h.own.alloc o, h.below.alloc h.below.size o, (((Below.refl wr.heap.size wr).alloc (Nat.le_refl _) o).block _ h.lt).trans h.it⟩
theorem WD.append {W : World} {s : ByteArray} {p : Nat} {ts : List (List UInt8)} {v : Value} {wr w' : World} (h : WD W s p ts v wr) (t : List UInt8) {v' : Value} {n : Nat} (hn : n = ts.length + 1) {cs : List Value} (hc : cs = ts.map strv ++ [strv t])
    (hown : w'.ownsRow (W.heap.size + 1) 9 1 v' n cs) (hg : wr.grownBy w' v.ownBlock) : WD W s p (ts ++ [t]) v' w' := by
  subst hn; subst hc
  refine ⟨?_, h.below.grown hg h.below.size (fun k e => by have := (h.own.lt k e).1; omega), ?_⟩
  · simpa using hown
  · rw [hg.block _ h.lt (fun e => by have := (h.own.lt _ e.symm).1; omega)]
    exact h.it

theorem wend (l : List UInt8) (n : Nat) (hn : l.length = n) : wordsB l = if 0 ≤ (wrun l n).fr then (wrun l n).out ++ [l.drop (wrun l n).fr.toNat] else (wrun l n).out := by subst hn; rfl
end Go.Proofs.YtkpofjfndokaeaaGreatDoor
