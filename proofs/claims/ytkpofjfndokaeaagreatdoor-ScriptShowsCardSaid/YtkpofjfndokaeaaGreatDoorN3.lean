/- Plain law: Parse of what Show writes. -/
import Derived.Test.YtkpofjfndokaeaaGreatDoorN2
namespace Go.Proofs.YtkpofjfndokaeaaGreatDoor
set_option linter.unusedVariables false
set_option linter.unusedSimpArgs false

theorem join2 (a b : List UInt8) : a ++ 32 :: b = Lib.join [a, b] [32] := by
  rw [Lib.join_cons]; unfold Lib.joinTail; simp
theorem join3 (a b c : List UInt8) : a ++ 32 :: (b ++ 32 :: c) = Lib.join [a, b, c] [32] := by
  rw [Lib.join_cons]; unfold Lib.joinTail; simp
/-- A line's words. -/
def lineTs (x : Ev) : List (List UInt8) :=
  if x.kind = 2 then [[115, 116, 101, 112], Lib.itoa x.w, Lib.itoa x.n]
  else if x.kind = 3 then [[114, 117, 110], Lib.itoa x.w]
  else if x.kind = 4 then [[99, 114, 97, 115, 104], Lib.itoa x.n, Lib.itoa x.tear]
  else if x.kind = 5 then [[99, 117, 116], Lib.itoa x.n]
  else Lib.itoa x.w :: (nameOf x.call.kind.toNat).data.toList :: (flds x.call.kind.toNat).map (Fd.text x.call)
theorem lineB_join (x : Ev) : lineB x = Lib.join (lineTs x) [32] := by
  unfold lineB lineTs
  split
  · rw [← join3]; simp
  · split
    · rw [← join2]; simp
    · split
      · rw [← join3]; simp
      · split
        · rw [← join2]; simp
        · rfl
theorem word_lit (t : List UInt8) (h : (t ≠ [] ∧ (∀ c ∈ t, c ≠ 32)) ∧ t.head? ≠ some 34) : Word t := word_plain h.1.1 h.1.2 h.2
theorem line_words {x : Ev} (hr : revent x = true) : ∀ t ∈ lineTs x, Word t := by
  obtain ⟨hk, _, _, _, _, _, _, hrc⟩ := revent_bounds hr
  intro t ht
  unfold lineTs at ht
  split at ht
  · simp only [List.mem_cons, List.not_mem_nil, or_false] at ht
    rcases ht with rfl | rfl | rfl
    · exact word_lit _ (by decide)
    · exact word_itoa _
    · exact word_itoa _
  · split at ht
    · simp only [List.mem_cons, List.not_mem_nil, or_false] at ht
      rcases ht with rfl | rfl
      · exact word_lit _ (by decide)
      · exact word_itoa _
    · split at ht
      · simp only [List.mem_cons, List.not_mem_nil, or_false] at ht
        rcases ht with rfl | rfl | rfl
        · exact word_lit _ (by decide)
        · exact word_itoa _
        · exact word_itoa _
      · split at ht
        · simp only [List.mem_cons, List.not_mem_nil, or_false] at ht
          rcases ht with rfl | rfl
          · exact word_lit _ (by decide)
          · exact word_itoa _
        · obtain ⟨⟨i, hi, hci⟩, _⟩ := rcall_kind (hrc (by omega))
          simp only [List.mem_cons, List.mem_map] at ht
          rcases ht with rfl | rfl | ⟨f, _, rfl⟩
          · exact word_itoa _
          · rw [show x.call.kind.toNat = i + 1 by omega]
            exact (name_ok i hi).1
          · exact fd_word _ _
theorem line_nl {x : Ev} (hr : revent x = true) : ∀ t ∈ lineTs x, ∀ c ∈ t, c ≠ 10 := by
  obtain ⟨hk, _, _, _, _, _, _, hrc⟩ := revent_bounds hr
  intro t ht
  unfold lineTs at ht
  split at ht
  · simp only [List.mem_cons, List.not_mem_nil, or_false] at ht
    rcases ht with rfl | rfl | rfl
    · decide
    · exact itoa_nl _
    · exact itoa_nl _
  · split at ht
    · simp only [List.mem_cons, List.not_mem_nil, or_false] at ht
      rcases ht with rfl | rfl
      · decide
      · exact itoa_nl _
    · split at ht
      · simp only [List.mem_cons, List.not_mem_nil, or_false] at ht
        rcases ht with rfl | rfl | rfl
        · decide
        · exact itoa_nl _
        · exact itoa_nl _
      · split at ht
        · simp only [List.mem_cons, List.not_mem_nil, or_false] at ht
          rcases ht with rfl | rfl
          · decide
          · exact itoa_nl _
        · obtain ⟨⟨i, hi, hci⟩, _⟩ := rcall_kind (hrc (by omega))
          simp only [List.mem_cons, List.mem_map] at ht
          rcases ht with rfl | rfl | ⟨f, _, rfl⟩
          · exact itoa_nl _
          · rw [show x.call.kind.toNat = i + 1 by omega]
            exact (name_ok i hi).2.1
          · exact fd_nl _ _
theorem join_nl (ts : List (List UInt8)) (h : ∀ t ∈ ts, ∀ c ∈ t, c ≠ 10) : ∀ c ∈ Lib.join ts [32], c ≠ 10 := by
  cases ts with
  | nil => intro c hc; rw [Lib.join_nil] at hc; cases hc
  | cons t ts =>
    intro c hc
    rw [Lib.join_cons] at hc
    unfold Lib.joinTail at hc
    simp only [List.mem_append, List.mem_flatten, List.mem_map] at hc
    rcases hc with hc | ⟨l, ⟨u, hu, rfl⟩, hc⟩
    · exact h t (by simp) c hc
    · simp only [List.singleton_append, List.mem_cons] at hc
      rcases hc with rfl | hc
      · decide
      · exact h u (by simp [hu]) c hc
theorem lineB_nl {x : Ev} (hr : revent x = true) : (10 : UInt8) ∉ lineB x := fun h => by
  rw [lineB_join] at h
  exact join_nl _ (line_nl hr) 10 h rfl
theorem words_line {x : Ev} (hr : revent x = true) : wordsB (lineB x) = lineTs x := by
  rw [lineB_join]
  exact words_join _ (line_words hr)
theorem num_word (t : List UInt8) (h : Lib.atoiAll t = Lib.NumEnd.syntax) : numB t = none := numB_syn h
theorem nums2 (a b : Int) (ha : -2147483648 ≤ a ∧ a ≤ 2147483647) (hb : -2147483648 ≤ b ∧ b ≤ 2147483647) : numsB [Lib.itoa a, Lib.itoa b] = some [a, b] :=
  (numsB_eq _ _).2 (by simp [numB_itoa a ha.1 ha.2, numB_itoa b hb.1 hb.2])
theorem nums1 (a : Int) (ha : -2147483648 ≤ a ∧ a ≤ 2147483647) : numsB [Lib.itoa a] = some [a] :=
  (numsB_eq _ _).2 (by simp [numB_itoa a ha.1 ha.2])
theorem read_line {x : Ev} (hr : revent x = true) : readB (lineTs x) = some x := by
  obtain ⟨hk, hw0, hw1, hn0, hn1, ht0, ht1, hrc⟩ := revent_bounds hr
  have hW := numB_itoa x.w (by omega) (by omega)
  unfold revent at hr
  rcases hk with hk | hk | hk | hk | hk
  · have e : lineTs x = Lib.itoa x.w :: (nameOf x.call.kind.toNat).data.toList :: (flds x.call.kind.toNat).map (Fd.text x.call) := by
      unfold lineTs; rw [if_neg (by omega), if_neg (by omega), if_neg (by omega), if_neg (by omega)]
    rw [e]
    simp only [readB, hW]
    rw [if_neg (by simp), call_text _ (hrc hk)]
    rw [if_pos hk] at hr
    simp only [Bool.and_eq_true, beq_iff_eq] at hr
    obtain ⟨⟨⟨_, _⟩, h3⟩, h4⟩ := hr
    obtain ⟨kind, w, call, n, tear⟩ := x
    simp only at hk h3 h4 ⊢
    subst hk; subst h3; subst h4
    rfl
  · have e : lineTs x = [[115, 116, 101, 112], Lib.itoa x.w, Lib.itoa x.n] := by unfold lineTs; rw [if_pos hk]
    rw [if_neg (by omega), if_pos hk] at hr
    simp only [Bool.and_eq_true, decide_eq_true_eq] at hr
    rw [e]
    simp only [readB, num_word [115, 116, 101, 112] (by decide +kernel), nums2 x.w x.n (by omega) (by omega), Option.bind_some]
    rw [← show some x = eventB [115, 116, 101, 112] [x.w, x.n] from congrArg some hr.2]
  · have e : lineTs x = [[114, 117, 110], Lib.itoa x.w] := by unfold lineTs; rw [if_neg (by omega), if_pos hk]
    rw [if_neg (by omega), if_neg (by omega), if_pos hk] at hr
    simp only [Bool.and_eq_true, decide_eq_true_eq] at hr
    rw [e]
    simp only [readB, num_word [114, 117, 110] (by decide +kernel), nums1 x.w (by omega), Option.bind_some]
    rw [← show some x = eventB [114, 117, 110] [x.w] from congrArg some hr.2]
  · have e : lineTs x = [[99, 114, 97, 115, 104], Lib.itoa x.n, Lib.itoa x.tear] := by unfold lineTs; rw [if_neg (by omega), if_neg (by omega), if_pos hk]
    rw [if_neg (by omega), if_neg (by omega), if_neg (by omega), if_pos hk] at hr
    simp only [Bool.and_eq_true, decide_eq_true_eq] at hr
    rw [e]
    simp only [readB, num_word [99, 114, 97, 115, 104] (by decide +kernel), nums2 x.n x.tear (by omega) (by omega), Option.bind_some]
    rw [← show some x = eventB [99, 114, 97, 115, 104] [x.n, x.tear] from congrArg some hr.2]
  · have e : lineTs x = [[99, 117, 116], Lib.itoa x.n] := by unfold lineTs; rw [if_neg (by omega), if_neg (by omega), if_neg (by omega), if_pos hk]
    rw [if_neg (by omega), if_neg (by omega), if_neg (by omega), if_neg (by omega), if_pos hk] at hr
    simp only [Bool.and_eq_true, decide_eq_true_eq] at hr
    rw [e]
    simp only [readB, num_word [99, 117, 116] (by decide +kernel), nums1 x.n (by omega), Option.bind_some]
    rw [← show some x = eventB [99, 117, 116] [x.n] from congrArg some hr.2]
theorem line_head (x : Ev) : ∃ t r, lineTs x = t :: r ∧ t.head? ≠ some 59 := by
  unfold lineTs
  split
  · exact ⟨_, _, rfl, by decide⟩
  · split
    · exact ⟨_, _, rfl, by decide⟩
    · split
      · exact ⟨_, _, rfl, by decide⟩
      · split
        · exact ⟨_, _, rfl, by decide⟩
        · exact ⟨_, _, rfl, (itoa_head _).2⟩
theorem lineEv_back {x : Ev} (hr : revent x = true) : lineEv (lineB x) = some (some x) := by
  obtain ⟨t, r, h1, h2⟩ := line_head x
  have hw := words_line hr
  have hre := read_line hr
  rw [h1] at hw hre
  rw [lineEv_some hw h2 hre, hr]
  rfl
theorem lines_show : ∀ (l : List Ev), (∀ x ∈ l, revent x = true) → linesL (showB l) = l.map lineB ++ [[]]
  | [], _ => rfl
  | x :: l, h => by
    have e : showB (x :: l) = lineB x ++ 10 :: showB l := by unfold showB; rw [List.flatMap_cons]; simp
    rw [e, linesL_app _ _ (lineB_nl (h x (by simp))), lines_show l (fun y hy => h y (by simp [hy]))]
    rfl
theorem parseL_back : ∀ (l : List Ev) (i : Nat) (acc : List Ev), (∀ x ∈ l, revent x = true) → acc.length + l.length ≤ 4096 → parseL (l.map lineB ++ [[]]) i acc = (acc ++ l, 0, 0)
  | [], i, acc, _, _ => by
    rw [List.map_nil, List.nil_append, parseL, lineEv_nil (show wordsB [] = [] from rfl)]
    simp only
    rw [parseL, List.append_nil]
  | x :: l, i, acc, h, hn => by
    rw [List.map_cons, List.cons_append, parseL, lineEv_back (h x (by simp))]
    simp only
    rw [List.length_cons] at hn
    rw [if_neg (by omega), parseL_back l (i + 1) (acc ++ [x]) (fun y hy => h y (by simp [hy])) (by rw [List.length_append]; simp; omega)]
    simp
/-- What is written is read as it is. -/
theorem parse_show {l : List Ev} (hr : right l = true) (hs : (showB l).length ≤ 65536) : parseB (showB l) = (l, 0, 0) := by
  unfold right at hr
  simp only [Bool.and_eq_true, List.all_eq_true, decide_eq_true_eq] at hr
  unfold parseB
  rw [if_neg (by omega), lines_show l hr.1, parseL_back l 0 [] hr.1 (by simpa using hr.2)]
  rfl

/-- What is read is right; where nothing is read the code is none of OK's. -/
theorem lineEv_right {l : List UInt8} {x : Ev} (h : lineEv l = some (some x)) : revent x = true := by
  unfold lineEv at h
  split at h
  · cases h
  · split at h
    · cases h
    · split at h
      · cases h
      · split at h
        · rename_i hh
          injection h with h
          injection h with h
          rw [← h]
          exact hh
        · cases h
theorem parseL_right : ∀ (ls : List (List UInt8)) (i : Nat) (acc : List Ev), (∀ x ∈ acc, revent x = true) → acc.length ≤ 4096 →
    ((parseL ls i acc).2.2 = 0 ∧ right (parseL ls i acc).1 = true) ∨ ((parseL ls i acc).2.2 = 201 ∧ (parseL ls i acc).1 = [])
  | [], i, acc, h, hn => .inl ⟨rfl, by
      show right acc = true
      unfold right
      simp only [Bool.and_eq_true, List.all_eq_true, decide_eq_true_eq]
      exact ⟨h, hn⟩⟩
  | l :: ls, i, acc, h, hn => by
    rw [parseL]
    cases hl : lineEv l with
    | none => exact .inr ⟨rfl, rfl⟩
    | some o =>
      cases o with
      | none => exact parseL_right ls (i + 1) acc h hn
      | some x =>
        simp only
        split
        · exact .inr ⟨rfl, rfl⟩
        · exact parseL_right ls (i + 1) (acc ++ [x]) (fun y hy => by
            rcases List.mem_append.1 hy with hy | hy
            · exact h y hy
            · simp only [List.mem_singleton] at hy; rw [hy]; exact lineEv_right hl) (by rw [List.length_append]; simp; omega)
theorem parseB_right (l : List UInt8) : ((parseB l).2.2 = 0 ∧ right (parseB l).1 = true) ∨ ((parseB l).2.2 ≠ 0 ∧ (parseB l).1 = []) := by
  unfold parseB
  split
  · exact .inr ⟨(by decide : (200 : Int) ≠ 0), rfl⟩
  · rcases parseL_right (linesL l) 0 [] (fun x h => by cases h) (by simp) with h | h
    · exact .inl h
    · exact .inr ⟨by rw [h.1]; decide, h.2⟩
end Go.Proofs.YtkpofjfndokaeaaGreatDoor
