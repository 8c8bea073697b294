/- Plain facts: a text's lines, one by one; a note laid between them. -/
import Derived.Test.YtkpofjfndokaeaaGreatDoorH1
namespace Go.Proofs.YtkpofjfndokaeaaGreatDoor
open Go.RowKit
set_option linter.unusedVariables false
set_option linter.unusedSimpArgs false

theorem linesL_no10 : ∀ (l t : List UInt8), t ∈ linesL l → (10 : UInt8) ∉ t
  | [], t, h => by simp [linesL] at h; subst h; simp
  | c :: r, t, h => by
    rw [linesL] at h
    split at h
    · rcases List.mem_cons.1 h with rfl | h
      · simp
      · exact linesL_no10 r t h
    · rename_i hc
      split at h
      · rename_i h0 t0 hq
        rcases List.mem_cons.1 h with rfl | h
        · have := linesL_no10 r h0 (by rw [hq]; simp)
          intro hm
          rcases List.mem_cons.1 hm with e | hm
          · exact hc e.symm
          · exact this hm
        · exact linesL_no10 r t (by rw [hq]; simp [h])
      · rename_i hq
        exact absurd hq (linesL_ne r)
/-- Lines, each with its end. -/
def flatL : List (List UInt8) → List UInt8
  | [] => []
  | t :: ts => t ++ 10 :: flatL ts
theorem flatL_app : ∀ a b : List (List UInt8), flatL (a ++ b) = flatL a ++ flatL b
  | [], b => rfl
  | t :: a, b => by
    show t ++ 10 :: flatL (a ++ b) = (t ++ 10 :: flatL a) ++ flatL b
    rw [flatL_app a b, List.append_assoc]
    rfl
theorem linesL_flat : ∀ ts : List (List UInt8), (∀ t ∈ ts, (10 : UInt8) ∉ t) → linesL (flatL ts) = ts ++ [[]]
  | [], _ => rfl
  | t :: ts, h => by
    show linesL (t ++ 10 :: flatL ts) = _
    rw [linesL_app t _ (h t (by simp)), linesL_flat ts (fun u hu => h u (by simp [hu]))]
    rfl
theorem flatL_lines : ∀ l : List UInt8, flatL (linesL l) = l ++ [10]
  | [] => rfl
  | c :: r => by
    have ih := flatL_lines r
    rw [linesL]
    split
    · rename_i hc
      show 10 :: flatL (linesL r) = _
      rw [ih, hc]
      rfl
    · split
      · rename_i h t hq
        rw [hq] at ih
        exact congrArg (c :: ·) ih
      · rename_i hq
        exact absurd hq (linesL_ne r)

theorem parseL_num : ∀ (ls : List (List UInt8)) (i j : Nat) (acc r : List Ev), parseL ls i acc = (r, 0, 0) → parseL ls j acc = (r, 0, 0)
  | [], i, j, acc, r, h => h
  | l :: ls, i, j, acc, r, h => by
    rw [parseL] at h ⊢
    cases hl : lineEv l with
    | none => rw [hl] at h; simp at h
    | some o =>
      rw [hl] at h
      cases o with
      | none => exact parseL_num ls _ _ acc r h
      | some x =>
        simp only at h ⊢
        by_cases h4 : acc.length = 4096
        · rw [if_pos h4] at h; simp at h
        · rw [if_neg h4] at h ⊢; exact parseL_num ls _ _ _ r h
theorem parseL_ins {t : List UInt8} (ht : lineEv t = some none) : ∀ (a b : List (List UInt8)) (i j : Nat) (acc r : List Ev), parseL (a ++ b) i acc = (r, 0, 0) → parseL (a ++ t :: b) j acc = (r, 0, 0)
  | [], b, i, j, acc, r, h => by
    show parseL (t :: b) j acc = _
    rw [parseL, ht]
    exact parseL_num b i _ acc r h
  | l :: a, b, i, j, acc, r, h => by
    have h' : parseL (l :: (a ++ b)) i acc = (r, 0, 0) := h
    show parseL (l :: (a ++ t :: b)) j acc = _
    rw [parseL] at h' ⊢
    cases hl : lineEv l with
    | none => rw [hl] at h'; simp at h'
    | some o =>
      rw [hl] at h'
      cases o with
      | none => exact parseL_ins ht a b _ _ acc r h'
      | some x =>
        simp only at h' ⊢
        by_cases h4 : acc.length = 4096
        · rw [if_pos h4] at h'; simp at h'
        · rw [if_neg h4] at h' ⊢; exact parseL_ins ht a b _ _ _ r h'
theorem lineEv_empty : lineEv [] = some none := by decide
theorem lineEv_quiet : lineEv [32, 59, 32, 110, 111, 116, 104, 105, 110, 103] = some none := by decide
/-- A text of one line alone. -/
theorem parseB_one (t : List UInt8) (h10 : (10 : UInt8) ∉ t) (hl : t.length ≤ 65536) : parseB t = match lineEv t with
    | none => ([], 1, 201)
    | some none => ([], 0, 0)
    | some (some x) => ([x], 0, 0) := by
  unfold parseB
  rw [if_neg (by omega), linesL_one t h10, parseL]
  cases lineEv t with
  | none => rfl
  | some o =>
    cases o with
    | none => rfl
    | some x => rfl

/-- The lines as they are gathered: those that are done, and where the one in hand begins. -/
def lrun (l : List UInt8) : Nat → List (List UInt8) × Nat
  | 0 => ([], 0)
  | k + 1 => if k = l.length ∨ l[k]? = some 10 then ((lrun l k).1 ++ [(l.take k).drop (lrun l k).2], k + 1) else lrun l k
theorem drop_cut {l : List UInt8} {f k : Nat} (h : f ≤ k) (hk : k ≤ l.length) : l.drop f = (l.take k).drop f ++ l.drop k := by
  conv => lhs; rw [← List.take_append_drop k l]
  rw [List.drop_append_of_le_length (by rw [List.length_take]; omega)]
theorem lrun_inv (l : List UInt8) : ∀ k, k ≤ l.length → (lrun l k).2 ≤ k ∧ linesL l = (lrun l k).1 ++ linesL (l.drop (lrun l k).2) ∧ (10 : UInt8) ∉ (l.take k).drop (lrun l k).2
  | 0, _ => by simp [lrun]
  | k + 1, hk => by
    obtain ⟨h1, h2, h3⟩ := lrun_inv l k (by omega)
    have hkl : k < l.length := by omega
    rw [lrun]
    by_cases h10 : l[k]? = some 10
    · rw [if_pos (.inr h10)]
      refine ⟨Nat.le_refl _, ?_, by simp [List.drop_take]⟩
      have hd : l.drop k = 10 :: l.drop (k + 1) := by
        rw [List.drop_eq_getElem_cons hkl]
        rw [List.getElem?_eq_getElem hkl] at h10
        rw [Option.some.inj h10]
      rw [h2, drop_cut h1 (by omega), hd, linesL_app _ _ h3, List.append_assoc]
      rfl
    · rw [if_neg (fun h => h.elim (by omega) h10)]
      refine ⟨by omega, h2, ?_⟩
      have ht : (l.take (k + 1)).drop (lrun l k).2 = (l.take k).drop (lrun l k).2 ++ [l[k]] := by
        rw [List.take_succ_eq_append_getElem hkl, List.drop_append_of_le_length (by rw [List.length_take]; omega)]
      rw [ht]
      intro hm
      rcases List.mem_append.1 hm with hm | hm
      · exact h3 hm
      · rw [List.mem_singleton] at hm
        exact h10 (by rw [List.getElem?_eq_getElem hkl, ← hm])
theorem lrun_all (l : List UInt8) : (lrun l (l.length + 1)).1 = linesL l := by
  obtain ⟨h1, h2, h3⟩ := lrun_inv l l.length (Nat.le_refl _)
  rw [lrun, if_pos (.inl rfl)]
  rw [List.take_length] at h3
  show (lrun l l.length).1 ++ [(l.take l.length).drop (lrun l l.length).2] = linesL l
  rw [List.take_length, h2, linesL_one _ h3]
theorem lrun_len (l : List UInt8) : ∀ k, (lrun l k).1.length ≤ k ∧ (lrun l k).2 ≤ k
  | 0 => by simp [lrun]
  | k + 1 => by
    have ih := lrun_len l k
    rw [lrun]
    split
    · simp; omega
    · omega

/-- The lines with a note laid ahead of line k. -/
def mk2 (all : List (List UInt8)) (k : Nat) : Nat → List UInt8
  | 0 => []
  | i + 1 => (mk2 all k i ++ if i = k then [32, 59, 32, 110, 111, 116, 104, 105, 110, 103, 10] else []) ++ match all[i]? with
    | some t => t ++ [10]
    | none => []
theorem mk2_at (all : List (List UInt8)) (k : Nat) : ∀ i, i ≤ all.length → mk2 all k i = if i ≤ k then flatL (all.take i) else flatL (all.take k ++ [32, 59, 32, 110, 111, 116, 104, 105, 110, 103] :: (all.take i).drop k)
  | 0, _ => by simp [mk2, flatL]
  | i + 1, hi => by
    have hil : i < all.length := by omega
    rw [mk2, mk2_at all k i (by omega), List.getElem?_eq_getElem hil]
    simp only
    by_cases h1 : i + 1 ≤ k
    · rw [if_pos (by omega), if_pos h1, if_neg (by omega), List.take_succ_eq_append_getElem hil, flatL_app, List.append_nil]
      rfl
    · rw [if_neg h1]
      by_cases h2 : i = k
      · subst h2
        rw [if_pos (Nat.le_refl _), if_pos rfl, List.take_succ_eq_append_getElem hil, List.drop_append_of_le_length (by rw [List.length_take]; omega), flatL_app]
        have hd : (all.take i).drop i = [] := by simp [List.drop_take]
        rw [hd, List.append_assoc]
        rfl
      · have hik : ¬ i ≤ k := by omega
        rw [if_neg hik, if_neg h2, List.append_nil, List.take_succ_eq_append_getElem hil, List.drop_append_of_le_length (by rw [List.length_take]; omega), ← List.cons_append, ← List.append_assoc (all.take k), flatL_app _ [all[i]]]
        rfl
theorem mk2_all (all : List (List UInt8)) (k : Nat) (hk : k ≤ all.length) : mk2 all k (all.length + 1) = flatL (all.take k ++ [32, 59, 32, 110, 111, 116, 104, 105, 110, 103] :: all.drop k) := by
  rw [mk2, mk2_at all k _ (Nat.le_refl _), List.getElem?_eq_none (Nat.le_refl _), List.append_nil]
  by_cases h : all.length ≤ k
  · obtain rfl : k = all.length := by omega
    rw [if_pos (Nat.le_refl _), if_pos rfl, flatL_app, List.drop_length]
    rfl
  · rw [if_neg h, if_neg (by omega), List.take_length, List.append_nil]
theorem mk2_len (all : List (List UInt8)) (k : Nat) (h : ∀ t ∈ all, t.length ≤ 20000) : ∀ i, (mk2 all k i).length ≤ i * 20012
  | 0 => by simp [mk2]
  | i + 1 => by
    have ih := mk2_len all k h i
    rw [mk2, List.length_append, List.length_append]
    have h1 : (if i = k then ([32, 59, 32, 110, 111, 116, 104, 105, 110, 103, 10] : List UInt8) else []).length ≤ 11 := by split <;> simp
    have h2 : (match all[i]? with | some t => t ++ [10] | none => ([] : List UInt8)).length ≤ 20001 := by
      split
      · rename_i t ht
        have := h t (List.mem_of_getElem? ht)
        simp; omega
      · simp
    omega
/-- The text with the note reads as it did. -/
theorem parse_more {l : List UInt8} {r : List Ev} (hl : l.length ≤ 20000) (h : parseL (linesL l) 0 [] = (r, 0, 0)) (k : Nat) (hk : k ≤ (linesL l).length) : parseB (mk2 (linesL l) k ((linesL l).length + 1)) = (r, 0, 0) := by
  have e0 : linesL l = (linesL l).take k ++ (linesL l).drop k := (List.take_append_drop k _).symm
  have hn : ∀ t ∈ (linesL l).take k ++ [32, 59, 32, 110, 111, 116, 104, 105, 110, 103] :: (linesL l).drop k, (10 : UInt8) ∉ t := fun t ht => by
    rcases List.mem_append.1 ht with ht | ht
    · exact linesL_no10 l t (List.mem_of_mem_take ht)
    · rcases List.mem_cons.1 ht with rfl | ht
      · decide
      · exact linesL_no10 l t (List.mem_of_mem_drop ht)
  have hz : (mk2 (linesL l) k ((linesL l).length + 1)).length = l.length + 12 := by
    have h1 : (flatL (linesL l)).length = l.length + 1 := by rw [flatL_lines]; simp
    rw [e0, flatL_app, List.length_append] at h1
    rw [mk2_all _ _ hk, flatL_app, List.length_append]
    have h3 : (flatL ([32, 59, 32, 110, 111, 116, 104, 105, 110, 103] :: (linesL l).drop k)).length = 11 + (flatL ((linesL l).drop k)).length := by
      rw [flatL, List.length_append]
      simp
      omega
    omega
  unfold parseB
  rw [if_neg (by rw [hz]; omega), mk2_all _ _ hk, linesL_flat _ hn]
  have h2 := parseL_ins lineEv_quiet ((linesL l).take k) ((linesL l).drop k) 0 0 [] r (by rw [← e0]; exact h)
  exact parseL_ins lineEv_empty _ [] 0 0 [] r (by rw [List.append_nil]; exact h2)
end Go.Proofs.YtkpofjfndokaeaaGreatDoor
