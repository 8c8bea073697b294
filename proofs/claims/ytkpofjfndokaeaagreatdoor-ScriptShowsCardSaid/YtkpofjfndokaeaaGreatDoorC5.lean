/- script.line of calls: facts; a row of texts. -/
import Derived.Test.YtkpofjfndokaeaaGreatDoorC3
namespace Go.Proofs.YtkpofjfndokaeaaGreatDoor
open Go.RowKit
set_option linter.unusedVariables false
set_option linter.unusedSimpArgs false

theorem joinTail_le (sep : List UInt8) (m : Nat) : ∀ (r : List (List UInt8)), (∀ x ∈ r, x.length ≤ m) → (Lib.joinTail sep r).length ≤ r.length * (sep.length + m)
  | [], _ => by simp [Lib.joinTail]
  | x :: r, h => by
    have ih := joinTail_le sep m r (fun y hy => h y (by simp [hy]))
    have hx := h x (by simp)
    unfold Lib.joinTail at ih ⊢
    simp only [List.map_cons, List.flatten_cons, List.length_append, List.length_cons]
    rw [Nat.succ_mul]
    omega
theorem join_le (sep : List UInt8) (m : Nat) (r : List (List UInt8)) (h : ∀ x ∈ r, x.length ≤ m) : (Lib.join r sep).length ≤ r.length * (sep.length + m) := by
  cases r with
  | nil => simp [Lib.join_nil]
  | cons x r =>
    rw [Lib.join_cons, List.length_append, List.length_cons, Nat.succ_mul]
    have := joinTail_le sep m r (fun y hy => h y (by simp [hy]))
    have := h x (by simp)
    omega

theorem rcall_kind {c : Cl} (h : rcall c = true) : (∃ i, i < 11 ∧ c.kind = ((i + 1 : Nat) : Int)) ∧ ∀ f ∈ flds c.kind.toNat, f.ok c = true := by
  unfold rcall at h
  simp only [Bool.and_eq_true, decide_eq_true_eq, List.all_eq_true] at h
  obtain ⟨⟨⟨h1, h2⟩, h3⟩, _⟩ := h
  obtain ⟨i, hi⟩ := Int.eq_ofNat_of_zero_le (show 0 ≤ c.kind - 1 by omega)
  exact ⟨⟨i, by omega, by omega⟩, h3⟩

/-- What a field's text asks for. -/
def Fd.small (c : Cl) : Fd → Prop
  | .mode => -2147483648 ≤ c.mode ∧ c.mode ≤ 2147483647 | .key => c.key.size ≤ 80 | .high => c.high.size ≤ 80 | .val => c.val.size ≤ 80 | .draw => -2147483648 ≤ c.draw ∧ c.draw ≤ 2147483647 | .n => -2147483648 ≤ c.n ∧ c.n ≤ 2147483647
theorem Fd.small_of {c : Cl} {f : Fd} (h : f.ok c = true) : f.small c := by
  cases f <;> (simp only [Fd.ok, int32B, decide_eq_true_eq] at h; exact h)
theorem Fd.text_le {c : Cl} {f : Fd} (h : f.small c) : (f.text c).length ≤ 400 := by
  cases f <;> simp only [Fd.small] at h
  · show (Lib.itoa c.mode).length ≤ 400
    have := Lib.itoa_length_le c.mode (by omega) (by omega); omega
  · show (quoB c.key).length ≤ 400
    have := quoB_length c.key; omega
  · show (quoB c.high).length ≤ 400
    have := quoB_length c.high; omega
  · show (quoB c.val).length ≤ 400
    have := quoB_length c.val; omega
  · show (Lib.itoa c.draw).length ≤ 400
    have := Lib.itoa_length_le c.draw (by omega) (by omega); omega
  · show (Lib.itoa c.n).length ≤ 400
    have := Lib.itoa_length_le c.n (by omega) (by omega); omega

theorem nameOf_le (i : Nat) : (nameOf i).data.toList.length ≤ 10 := by
  unfold nameOf
  split <;> decide
theorem flds_le (i : Nat) : (flds i).length ≤ 3 := by
  unfold flds
  split <;> decide

def strv (l : List UInt8) : Value := .string ⟨l.toArray⟩

/-- Behind n rounds of line's loop: the row of texts, all else as it lay. -/
structure LS (wB : World) (ts : List (List UInt8)) (v : Value) (wr : World) : Prop where
  own : wr.ownsRow wB.heap.size 9 1 v ts.length (ts.map strv)
  below : Below wB.heap.size wB wr
theorem LS.drew {wB : World} {ts : List (List UInt8)} {v : Value} {wr : World} (h : LS wB ts v wr) : LS wB ts v wr.drew := ⟨h.own, h.below.drew⟩
theorem LS.alloc {wB : World} {ts : List (List UInt8)} {v : Value} {wr : World} (h : LS wB ts v wr) (o : Obj) : LS wB ts v (wr.alloc o) := ⟨h.own.alloc o, h.below.alloc h.below.size o⟩
theorem LS.later {wB : World} {ts : List (List UInt8)} {v : Value} {wr w' : World} (h : LS wB ts v wr) (hb : Below wr.heap.size wr w') : LS wB ts v w' := by
  refine ⟨h.own.kept (row := none) ⟨hb.os, hb.tape, hb.output, hb.size, fun k hk _ => hb.block k hk⟩ (by cases h' : v.ownBlock; exact .inl rfl; exact .inr (by simp)), h.below.trans (hb.mono h.below.size)⟩
theorem LS.append {wB : World} {ts : List (List UInt8)} {v : Value} {wr w' : World} (h : LS wB ts v wr) (t : List UInt8) {v' : Value} {n : Nat} (hn : n = ts.length + 1) {cs : List Value} (hc : cs = ts.map strv ++ [strv t])
    (hown : w'.ownsRow wB.heap.size 9 1 v' n cs) (hg : wr.grownBy w' v.ownBlock) : LS wB (ts ++ [t]) v' w' := by
  subst hn; subst hc
  refine ⟨?_, h.below.grown hg h.below.size (fun k e => (h.own.lt k e).1)⟩
  simpa using hown

theorem strv_of (s : ByteArray) : Value.string s = strv s.data.toList := by
  unfold strv
  rcases s with ⟨⟨l⟩⟩
  rfl
theorem LS.start (wB : World) (a b : List UInt8) : LS wB [a, b] (.slice (some ⟨wB.heap.size, 0, none⟩) 2 2) (wB.alloc (.cells #[strv a, strv b] 9)) :=
  ⟨⟨rfl, .inr ⟨wB.heap.size, 2, #[strv a, strv b], rfl, Nat.le_refl _, heap_alloc_at _ _ rfl, Nat.le_refl 2, by unfold maxLen; omega, rfl, rfl⟩⟩, (Below.refl _ _).alloc (Nat.le_refl _) _⟩
theorem LS.join {wB : World} {ts : List (List UInt8)} {v : Value} {wr : World} (h : LS wB ts v wr) (h0 : 0 < ts.length) : ∃ g cap, v = .slice (some ⟨g, 0, none⟩) ts.length cap ∧ g < wr.heap.size ∧ ts.length ≤ cap ∧ ∀ (j : Nat) s, (ts.map fun t => (⟨t.toArray⟩ : ByteArray))[j]? = some s → wr.cell? ⟨g, 0 + j, none⟩ = some (.string s) := by
  obtain ⟨hl, h1 | ⟨g, cap, cur, hv, hg, hh, hc, hc2, hs, ht⟩⟩ := h.own
  · omega
  · subst hv
    refine ⟨g, cap, rfl, (Array.getElem?_eq_some_iff.1 hh).1, hc, fun j s hj => ?_⟩
    have hlt := (List.getElem?_eq_some_iff.1 hj).1
    rw [List.length_map] at hlt
    rw [Nat.zero_add, h.own.cellAt j (by omega)]
    rw [List.getElem?_map] at hj ⊢
    obtain ⟨t, ht, rfl⟩ := Option.map_eq_some_iff.1 hj
    rw [ht]
    rfl

theorem line_mid (x : Ev) (W X w4 : World) (HL : ∀ w', Below X.heap.size X w' → EvAt w' W.heap.size x ∧ Below W.heap.size W w' ∧ St w' ∧ W.heap.size < w'.heap.size) (h4 : Below X.heap.size X w4) (o : Obj) (w' : World) (hb : Below (w4.alloc o).heap.size (w4.alloc o) w') :
    EvAt w' W.heap.size x ∧ St w' ∧ Below W.heap.size W w' ∧ W.heap.size < w'.heap.size := by
  have hs := h4.size
  have h2 : Below X.heap.size X w' := (h4.alloc hs o).trans (hb.mono (by rw [World.size_alloc]; omega))
  obtain ⟨a1, a2, a3, a4⟩ := HL w' h2
  exact ⟨a1, a3, a2, a4⟩
theorem line_row {base : Nat} {v : Value} {fs : List Fd} (w4 : World) (h : FRow w4 base v fs) (o : Obj) (w' : World) (hb : Below (w4.alloc o).heap.size (w4.alloc o) w') : FRow w' 0 v fs :=
  ((h.later ((Below.refl w4.heap.size w4).alloc (Nat.le_refl _) o) (Nat.le_refl _)).mono (Nat.zero_le _)).later hb (Nat.le_refl _)

theorem ts_back (ts : List (List UInt8)) : ts.map ((fun b : ByteArray => b.data.toList) ∘ fun t => (⟨t.toArray⟩ : ByteArray)) = ts :=
  (List.map_congr_left (g := id) fun t _ => rfl).trans (List.map_id ts)
end Go.Proofs.YtkpofjfndokaeaaGreatDoor
