/- Plain facts: a text's lines; the words of a line are never empty. -/
import Derived.Test.YtkpofjfndokaeaaGreatDoorD2
import Derived.Lib.SplitLaws
import Derived.Test.YtkpofjfndokaeaaGreatDoorG4
import Derived.Deep.AppendLies
namespace Go.Proofs.YtkpofjfndokaeaaGreatDoor
set_option linter.unusedVariables false
set_option linter.unusedSimpArgs false

def linesL : List UInt8 → List (List UInt8)
  | [] => [[]]
  | c :: r => if c = 10 then [] :: linesL r else match linesL r with
    | h :: t => (c :: h) :: t
    | [] => [[c]]
theorem linesL_ne (l : List UInt8) : linesL l ≠ [] := by
  cases l with
  | nil => simp [linesL]
  | cons c r =>
    rw [linesL]
    split
    · simp
    · split <;> simp
theorem linesL_one : ∀ (l : List UInt8), (10 : UInt8) ∉ l → linesL l = [l]
  | [], _ => rfl
  | c :: r, h => by
    rw [linesL, if_neg (fun e => h (by simp [e])), linesL_one r (fun e => h (by simp [e]))]
theorem linesL_app : ∀ (a b : List UInt8), (10 : UInt8) ∉ a → linesL (a ++ 10 :: b) = a :: linesL b
  | [], b, _ => by rw [List.nil_append, linesL, if_pos rfl]
  | c :: r, b, h => by
    rw [List.cons_append, linesL, if_neg (fun e => h (by simp [e])), linesL_app r b (fun e => h (by simp [e]))]
theorem index10_none : ∀ (l : List UInt8), (10 : UInt8) ∉ l → Lib.index l [10] = -1
  | [], _ => rfl
  | c :: r, h => by
    rw [Lib.index, if_neg (by simp [List.isPrefixOf]; exact fun e => h (by simp [← e])), index10_none r (fun e => h (by simp [e]))]
    rfl
theorem index10_app : ∀ (a b : List UInt8), (10 : UInt8) ∉ a → Lib.index (a ++ 10 :: b) [10] = (a.length : Int)
  | [], b, _ => by rw [List.nil_append, Lib.index, if_pos (by simp [List.isPrefixOf])]; rfl
  | c :: r, b, h => by
    rw [List.cons_append, Lib.index, if_neg (by simp [List.isPrefixOf]; exact fun e => h (by simp [← e])), index10_app r b (fun e => h (by simp [e]))]
    rw [if_neg (by rw [beq_iff_eq]; omega)]
    simp
theorem split_lines : ∀ (n : Nat) (l : List UInt8), l.length ≤ n → Lib.splitK [10] 0 (Lib.count l [10]) l = linesL l := by
  intro n
  induction n with
  | zero =>
    intro l hl
    obtain rfl : l = [] := List.length_eq_zero_iff.1 (by omega)
    rfl
  | succ n ih =>
    intro l hl
    by_cases h : (10 : UInt8) ∈ l
    · obtain ⟨a, b, rfl, ha⟩ := List.eq_append_cons_of_mem h
      have hi := index10_app a b ha
      have hd : (a ++ 10 :: b).drop (a.length + [(10 : UInt8)].length) = b := by simp
      rw [Lib.count_hit (by simp) hi, linesL_app a b ha, hd, Nat.add_comm, Lib.splitK, if_neg (by rw [hi, beq_iff_eq]; omega), hi, Int.toNat_natCast, hd, ih b (by simp at hl; omega)]
      simp
    · rw [Lib.count_miss (index10_none l h), linesL_one l h]
      rfl
theorem splitB_lines (s : ByteArray) : (Lib.splitB ⟨#[10]⟩ 0 (Lib.countB s ⟨#[10]⟩) s).map (·.data.toList) = linesL s.data.toList := by
  rw [Lib.splitB_data]
  exact split_lines _ _ (Nat.le_refl _)
theorem linesL_len : ∀ (l : List UInt8), (linesL l).length ≤ l.length + 1
  | [] => by simp [linesL]
  | c :: r => by
    have ih := linesL_len r
    rw [linesL]
    split
    · simp; omega
    · split
      · rename_i h t hq; rw [hq] at ih; simp at ih ⊢; omega
      · simp
theorem linesL_small : ∀ (l t : List UInt8), t ∈ linesL l → t.length ≤ l.length
  | [], t, h => by simp [linesL] at h; subst h; simp
  | c :: r, t, h => by
    rw [linesL] at h
    split at h
    · rcases List.mem_cons.1 h with rfl | h
      · simp
      · have := linesL_small r t h; simp; omega
    · split at h
      · rename_i h0 t0 hq
        rcases List.mem_cons.1 h with rfl | h
        · have := linesL_small r h0 (by rw [hq]; simp); simp; omega
        · have := linesL_small r t (by rw [hq]; simp [h]); simp; omega
      · simp at h; subst h; simp

theorem wrun_out (l : List UInt8) : ∀ n, n ≤ l.length → ∀ t ∈ (wrun l n).out, t ≠ [] ∧ t.length ≤ l.length
  | 0, _, t, h => by simp [wrun] at h
  | n + 1, hn, t, h => by
    have ih := wrun_out l n (by omega)
    have hf := wrun_fr l n
    rw [wrun] at h
    unfold wstep at h
    split at h
    · simp only at h
      split at h
      · rename_i h0
        rcases List.mem_append.1 h with h | h
        · exact ih t h
        · simp only [List.mem_singleton] at h
          subst h
          have hl : ((l.take n).drop (wrun l n).fr.toNat).length = n - (wrun l n).fr.toNat := by rw [List.length_drop, List.length_take]; omega
          refine ⟨fun e => ?_, by omega⟩
          rw [e] at hl
          simp at hl
          omega
      · exact ih t h
    · split at h
      · exact ih t h
      · split at h
        · exact ih t h
        · exact ih t h
theorem wordsB_ok (l t : List UInt8) (h : t ∈ wordsB l) : t ≠ [] ∧ t.length ≤ l.length := by
  have hf := wrun_fr l l.length
  unfold wordsB at h
  split at h
  · rcases List.mem_append.1 h with h | h
    · exact wrun_out l _ (Nat.le_refl _) t h
    · simp only [List.mem_singleton] at h
      subst h
      have hl : (l.drop (wrun l l.length).fr.toNat).length = l.length - (wrun l l.length).fr.toNat := List.length_drop
      refine ⟨fun e => ?_, by omega⟩
      rw [e] at hl
      simp at hl
      omega
  · exact wrun_out l _ (Nat.le_refl _) t h
theorem wordsB_len (l : List UInt8) : (wordsB l).length ≤ l.length + 1 := by
  have := wrun_len l l.length
  unfold wordsB
  split
  · simp; omega
  · omega
end Go.Proofs.YtkpofjfndokaeaaGreatDoor

/- script.Parse: what it reads; events that are laid in a row. -/
namespace Go.Proofs.YtkpofjfndokaeaaGreatDoor
open Go.RowKit
set_option linter.unusedVariables false
set_option linter.unusedSimpArgs false

/-- What a line says: none: it is no line; some none: nothing. -/
def lineEv (l : List UInt8) : Option (Option Ev) := match wordsB l with
  | [] => some none
  | t :: r => if t.head? = some 59 then some none else match readB (t :: r) with
    | none => none
    | some x => if revent x then some (some x) else none
def parseL : List (List UInt8) → Nat → List Ev → List Ev × Nat × Int
  | [], _, acc => (acc, 0, 0)
  | l :: ls, i, acc => match lineEv l with
    | none => ([], i + 1, 201)
    | some none => parseL ls (i + 1) acc
    | some (some x) => if acc.length = 4096 then ([], i + 1, 201) else parseL ls (i + 1) (acc ++ [x])
/-- What Parse answers. -/
def parseB (l : List UInt8) : List Ev × Nat × Int := if 65536 < l.length then ([], 0, 200) else parseL (linesL l) 0 []

def evCells (l : List Ev) : List Value := l.flatMap fun x => x.cells.toList
theorem evCells_length (l : List Ev) : (evCells l).length = l.length * 11 := by
  unfold evCells
  induction l with
  | nil => rfl
  | cons x l ih => rw [List.flatMap_cons, List.length_append, ih, List.length_cons]; show 11 + _ = _; omega
theorem evCells_at : ∀ (l : List Ev) (j : Nat) (x : Ev), l[j]? = some x → ∀ i (hi : i < x.cells.size), (evCells l)[j * 11 + i]? = some x.cells[i]
  | [], j, x, h, _, _ => by simp at h
  | y :: l, 0, x, h, i, hi => by
    simp only [List.getElem?_cons_zero, Option.some.injEq] at h
    subst h
    have hi2 : i < y.cells.toList.length := by rw [Array.length_toList]; exact hi
    show (y.cells.toList ++ evCells l)[0 * 11 + i]? = _
    rw [Nat.zero_mul, Nat.zero_add, List.getElem?_append_left hi2, List.getElem?_eq_getElem hi2]
    rfl
  | y :: l, j + 1, x, h, i, hi => by
    simp only [List.getElem?_cons_succ] at h
    have ih := evCells_at l j x h i hi
    show (y.cells.toList ++ evCells l)[(j + 1) * 11 + i]? = _
    have h11 : y.cells.toList.length = 11 := rfl
    rw [List.getElem?_append_right (by omega), h11, show (j + 1) * 11 + i - 11 = j * 11 + i by omega]
    exact ih
/-- Events in a row of the call's own. -/
structure ES (W : World) (base : Nat) (acc : List Ev) (v : Value) (wr : World) : Prop where
  own : wr.ownsRow base 27 11 v acc.length (evCells acc)
  below : Below W.heap.size W wr
theorem ES.alloc {W : World} {base : Nat} {acc : List Ev} {v : Value} {wr : World} (h : ES W base acc v wr) (o : Obj) : ES W base acc v (wr.alloc o) :=
  ⟨h.own.alloc o, h.below.alloc h.below.size o⟩
theorem ES.later {W : World} {base : Nat} {acc : List Ev} {v : Value} {wr w' : World} (h : ES W base acc v wr) (hb : Below wr.heap.size wr w') : ES W base acc v w' :=
  ⟨h.own.kept (row := none) ⟨hb.os, hb.tape, hb.output, hb.size, fun k hk _ => hb.block k hk⟩ (by cases h' : v.ownBlock; exact .inl rfl; exact .inr (by simp)), h.below.trans (hb.mono h.below.size)⟩
theorem ES.append {W : World} {base : Nat} {acc : List Ev} {v : Value} {wr w' : World} (h : ES W base acc v wr) (hbs : W.heap.size ≤ base) (x : Ev) {v' : Value} {n : Nat} (hn : n = acc.length + 1) {cs : List Value} (hc : cs = evCells acc ++ x.cells.toList)
    (hown : w'.ownsRow base 27 11 v' n cs) (hg : wr.grownBy w' v.ownBlock) : ES W base (acc ++ [x]) v' w' := by
  subst hn; subst hc
  refine ⟨?_, h.below.grown hg h.below.size (fun k e => Nat.le_trans hbs (h.own.lt k e).1)⟩
  have e : evCells (acc ++ [x]) = evCells acc ++ x.cells.toList := by unfold evCells; rw [List.flatMap_append]; simp
  rw [e, List.length_append]
  exact hown
theorem ES.start {W w : World} (base : Nat) (hb : Below W.heap.size W w) : ES W base [] (.slice none 0 0) w := ⟨⟨rfl, .inl ⟨rfl, rfl⟩⟩, hb⟩
/-- What Parse leaves of events. -/
def EvRow (W w : World) (base : Nat) (l : List Ev) (v : Value) : Prop := ∃ A c, v = .slice A l.length c ∧ l.length ≤ c ∧ Evs w A l ∧ ∀ ad, A = some ad → base ≤ ad.block
theorem EvRow.nil (W w : World) (base : Nat) : EvRow W w base [] (.slice none 0 0) := ⟨none, 0, rfl, Nat.le_refl _, fun j x h => (by simp at h), fun ad h => by cases h⟩
theorem ES.row {W : World} {base : Nat} {acc : List Ev} {v : Value} {wr : World} (h : ES W base acc v wr) : EvRow W wr base acc v := by
  rcases h.own.2 with ⟨h1, h2⟩ | ⟨g, cap, cur, hv, hg, hk, hc, _⟩
  · have : acc = [] := List.length_eq_zero_iff.1 h2
    subst this; subst h1
    exact EvRow.nil W wr base
  · have hown := h.own
    subst hv
    refine ⟨_, cap, rfl, hc, fun j x hj => ⟨_, rfl, (Array.getElem?_eq_some_iff.1 hk).1, fun i hi => ?_⟩, fun ad e => by injection e with e; rw [← e]; exact hg⟩
    have h11 : x.cells.size = 11 := rfl
    have hj2 := (List.getElem?_eq_some_iff.1 hj).1
    have hadd : (⟨g, 0, none⟩ : Addr).add (j * 11 + i) = ⟨g, j * 11 + i, none⟩ := by unfold Addr.add; split <;> simp_all
    rw [hadd, hown.cellAt (j * 11 + i) (by omega)]
    exact evCells_at acc j x hj i hi
/-- What Parse's call comes to. -/
def ParseR (W : World) (base : Nat) (R : List Ev × Nat × Int) (e : Ending) (w : World) : Prop := ∃ v, e = .returned (.tuple #[v, .int .i64 (R.2.1 : Int), .int .i64 R.2.2]) ∧ EvRow W w base R.1 v

/-- Words that lie in a row of the call's own. -/
theorem ws_of_own {w : World} {base : Nat} {v : Value} {ts : List (List UInt8)} (h : w.ownsRow base 9 1 v ts.length (ts.map strv)) : ∃ A c, v = .slice A ts.length c ∧ Ws w v ts := by
  rcases h.2 with ⟨h1, h2⟩ | ⟨g, cap, cur, hv, hg, hk, hc, _⟩
  · have : ts = [] := List.length_eq_zero_iff.1 h2
    subst this; subst h1
    exact ⟨none, 0, rfl, none, 0, rfl, Nat.le_refl _, fun j t h => by simp at h⟩
  · subst hv
    refine ⟨_, _, rfl, _, cap, rfl, hc, fun j t hj => ⟨g, 0, rfl, (Array.getElem?_eq_some_iff.1 hk).1, ?_⟩⟩
    have hj2 := (List.getElem?_eq_some_iff.1 hj).1
    rw [Nat.zero_add, h.cellAt j (by omega), List.getElem?_map, hj]
    rfl
end Go.Proofs.YtkpofjfndokaeaaGreatDoor
