/- script.text: facts. -/
import Derived.Test.YtkpofjfndokaeaaGreatDoorE1
namespace Go.Proofs.YtkpofjfndokaeaaGreatDoor
open Go.RowKit
set_option linter.unusedVariables false
set_option linter.unusedSimpArgs false

def textR : Option (List UInt8) → Value
  | none => .tuple #[.string ⟨#[]⟩, .bool false]
  | some t => .tuple #[.string ⟨t.toArray⟩, .bool true]
def b8v (b : UInt8) : Value := u8v b.toNat

/-- The bytes so far. -/
structure TS (W : World) (acc : List UInt8) (v : Value) (wr : World) : Prop where
  own : wr.ownsRow W.heap.size 5 1 v acc.length (acc.map b8v)
  below : Below W.heap.size W wr
theorem TS.alloc {W : World} {acc : List UInt8} {v : Value} {wr : World} (h : TS W acc v wr) (o : Obj) : TS W acc v (wr.alloc o) := ⟨h.own.alloc o, h.below.alloc h.below.size o⟩
theorem TS.later {W : World} {acc : List UInt8} {v : Value} {wr w' : World} (h : TS W acc v wr) (hb : Below wr.heap.size wr w') : TS W acc v w' :=
  ⟨h.own.kept (row := none) ⟨hb.os, hb.tape, hb.output, hb.size, fun k hk _ => hb.block k hk⟩ (by cases h' : v.ownBlock; exact .inl rfl; exact .inr (by simp)), h.below.trans (hb.mono h.below.size)⟩
theorem TS.append {W : World} {acc : List UInt8} {v : Value} {wr w' : World} (h : TS W acc v wr) (t : UInt8) {v' : Value} {n : Nat} (hn : n = acc.length + 1) {cs : List Value} (hc : cs = acc.map b8v ++ [b8v t])
    (hown : w'.ownsRow W.heap.size 5 1 v' n cs) (hg : wr.grownBy w' v.ownBlock) : TS W (acc ++ [t]) v' w' := by
  subst hn; subst hc
  refine ⟨?_, h.below.grown hg h.below.size (fun k e => (h.own.lt k e).1)⟩
  simpa using hown
theorem TS.start (W : World) : TS W [] (.slice none 0 0) W := ⟨⟨rfl, .inl ⟨rfl, rfl⟩⟩, Below.refl _ W⟩
theorem TS.string {W : World} {acc : List UInt8} {v : Value} {wr : World} (h : TS W acc v wr) : Sem.run Tryz.prog (convert 47 9 v) wr = .ok (.string ⟨acc.toArray⟩) wr := by
  rcases h.own.2 with ⟨h1, h2⟩ | ⟨g, cap, cur, hv, _⟩
  · have h0 : acc = [] := by
      have := h.own.1
      cases acc with
      | nil => rfl
      | cons a l => simp at h1 h2
    subst h0; subst h1
    exact run_convert_bytes_nil (P := Tryz.prog) wr 47 5 Tryz.underlying47 Tryz.underlying5 0 0 9 Tryz.underlying9
  · subst hv
    have := row_string (xs := acc.map (·.toNat)) h.own (by simp) (by simp [b8v, Function.comp_def])
    rw [this]
    unfold strOfNums
    simp [List.map_map, Function.comp_def]

theorem ba_size (s : ByteArray) : s.size = s.data.toList.length := by rw [Array.length_toList]; rfl
theorem ba_toList (s : ByteArray) : s.toList = s.data.toList := Lib.toList_data s
theorem ba_extract (s : ByteArray) (a b : Nat) : (s.extract a b).data.toList = (s.data.toList.take b).drop a := by
  rw [ByteArray.data_extract, Array.toList_extract, List.extract_eq_take_drop, List.drop_take]
theorem ba_get (s : ByteArray) (i : Nat) (h : i < s.size) (c : UInt8) (hc : s.data.toList[i]? = some c) : s[i]'h = c := by
  have hl : i < s.data.toList.length := by rw [Array.length_toList]; exact h
  rw [List.getElem?_eq_getElem hl] at hc
  exact Option.some.inj hc
theorem index_at (s : ByteArray) (i : Nat) (c : UInt8) (hc : s.data.toList[i]? = some c) (w : World) : (Instr.index 9 (.string s) (.int .i64 (i : Int))).run Tryz.prog w = .ok (.int .u8 ((c.toNat : Nat) : Int)) w := by
  have hl := (List.getElem?_eq_some_iff.1 hc).1
  have h : i < s.size := by rw [ba_size]; exact hl
  rw [run_index_string (P := Tryz.prog) w 9 s .i64 (i : Int) Tryz.underlying9, dif_pos ⟨by omega, by omega⟩]
  congr 4
  exact ba_get s i h c hc
theorem slice_at (s : ByteArray) (a b : Nat) (h : a ≤ b) (h2 : b ≤ s.size) (w : World) : (Instr.slice 9 (.string s) (some (.int .i64 (a : Int))) (some (.int .i64 (b : Int))) none).run Tryz.prog w = .ok (.string (s.extract a b)) w := by
  have := run_slice_string (P := Tryz.prog) w 9 s .i64 .i64 (a : Int) (b : Int) Tryz.underlying9 (by omega) (by omega) (by omega)
  simpa only [Int.toNat_natCast] using this
theorem slice_from (s : ByteArray) (a : Nat) (h : a ≤ s.size) (w : World) : (Instr.slice 9 (.string s) (some (.int .i64 (a : Int))) none none).run Tryz.prog w = .ok (.string (s.extract a s.size)) w := by
  have := (run_slice_string_from_if (P := Tryz.prog) w 9 s .i64 (a : Int) Tryz.underlying9).trans (if_pos ⟨by omega, by omega⟩)
  simpa only [Int.toNat_natCast] using this
theorem slice_to (s : ByteArray) (b : Nat) (h : b ≤ s.size) (w : World) : (Instr.slice 9 (.string s) none (some (.int .i64 (b : Int))) none).run Tryz.prog w = .ok (.string (s.extract 0 b)) w := by
  have := (run_slice_string_to_if (P := Tryz.prog) w 9 s .i64 (b : Int) Tryz.underlying9).trans (if_pos ⟨by omega, by omega⟩)
  simpa only [Int.toNat_natCast] using this
theorem slice_at2 (s : ByteArray) (a b : Nat) (x y : Int) (hx : x = (a : Int)) (hy : y = (b : Int)) (h : a ≤ b) (h2 : b ≤ s.size) {M : ByteArray} (hM : M = s.extract a b) (w : World) : (Instr.slice 9 (.string s) (some (.int .i64 x)) (some (.int .i64 y)) none).run Tryz.prog w = .ok (.string M) w := by
  subst hx; subst hy; subst hM; exact slice_at s a b h h2 w
theorem slice_from2 (s : ByteArray) (a : Nat) (x : Int) (hx : x = (a : Int)) (h : a ≤ s.size) {M : ByteArray} (hM : M = s.extract a s.size) (w : World) : (Instr.slice 9 (.string s) (some (.int .i64 x)) none none).run Tryz.prog w = .ok (.string M) w := by
  subst hx; subst hM; exact slice_from s a h w
theorem slice_to2 (s : ByteArray) (b : Nat) (y : Int) (hy : y = (b : Int)) (h : b ≤ s.size) {M : ByteArray} (hM : M = s.extract 0 b) (w : World) : (Instr.slice 9 (.string s) none (some (.int .i64 y)) none).run Tryz.prog w = .ok (.string M) w := by
  subst hy; subst hM; exact slice_to s b h w

/-- Which of the ways a round goes. -/
theorem unq_plain {c : UInt8} {r : List UInt8} (h : plainB c.toNat = true) : unq (c :: r) = (unq r).map (c :: ·) := by
  rw [unq.eq_def]; simp only [h, if_true]
theorem unq_short {c : UInt8} {r : List UInt8} (h : plainB c.toNat = false) (hr : r.length < 3) : unq (c :: r) = none := by
  rw [unq.eq_def]
  simp only [h]
  match r, hr with
  | [], _ => rfl
  | [_], _ => rfl
  | [_, _], _ => rfl
  | _ :: _ :: _ :: _, hr => simp at hr; omega
theorem unq_hex {c x a b : UInt8} {r : List UInt8} (h : plainB c.toNat = false) : unq (c :: x :: a :: b :: r) = if c = 92 ∧ x = 120 ∧ hexB a.toNat = true ∧ hexB b.toNat = true then (unq r).map (UInt8.ofNat (16 * hexV a.toNat + hexV b.toNat) :: ·) else none := by
  rw [unq.eq_def]
  simp only [h, Bool.false_eq_true, if_false]
end Go.Proofs.YtkpofjfndokaeaaGreatDoor
