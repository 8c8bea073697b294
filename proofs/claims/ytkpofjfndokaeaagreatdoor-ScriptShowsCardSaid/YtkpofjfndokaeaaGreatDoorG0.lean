/- script.read: what it reads. -/
import Derived.Test.YtkpofjfndokaeaaGreatDoorF1
namespace Go.Proofs.YtkpofjfndokaeaaGreatDoor
open Go.RowKit
set_option linter.unusedVariables false
set_option linter.unusedSimpArgs false

def numsB : List (List UInt8) → Option (List Int)
  | [] => some []
  | t :: r => (numB t).bind fun z => (numsB r).map (z :: ·)
/-- The event that a word and numbers name. -/
def eventB (t : List UInt8) (ns : List Int) : Option Ev :=
  if t = [115, 116, 101, 112] then (match ns with | [a, b] => some (Ev.bare 2 a b 0) | _ => none)
  else if t = [114, 117, 110] then (match ns with | [a] => some (Ev.bare 3 a 0 0) | _ => none)
  else if t = [99, 114, 97, 115, 104] then (match ns with | [a, b] => some (Ev.bare 4 0 a b) | _ => none)
  else if t = [99, 117, 116] then (match ns with | [a] => some (Ev.bare 5 0 a 0) | _ => none)
  else none
/-- The event of a line's words. -/
def readB : List (List UInt8) → Option Ev
  | [] => none
  | t :: r => match numB t with
    | some z => if r = [] then none else (callB r).map fun c => ⟨1, z, c, 0, 0⟩
    | none => (numsB r).bind (eventB t)
/-- What read answers. -/
def ReadR (ts : List (List UInt8)) (e : Ending) : Prop := ∃ x : Ev, e = .returned (.tuple #[x.v, .bool (readB ts).isSome]) ∧ ∀ x', readB ts = some x' → x = x'
theorem readR_none {ts : List (List UInt8)} (h : readB ts = none) (x : Ev) : ReadR ts (.returned (.tuple #[x.v, .bool false])) := ⟨x, by rw [h]; rfl, fun c' h' => by rw [h] at h'; cases h'⟩
theorem readR_some {ts : List (List UInt8)} {x : Ev} (h : readB ts = some x) : ReadR ts (.returned (.tuple #[x.v, .bool true])) := ⟨x, by rw [h]; rfl, fun c' h' => by rw [h] at h'; injection h'⟩

theorem EvAt.go {w w' : World} {b n : Nat} {c : Ev} (h : EvAt w b c) (hb : Below n w w') (hn : b < n) : EvAt w' b c := (hb.block b hn).trans h
theorem EvAt.lt {w : World} {b : Nat} {c : Ev} (h : EvAt w b c) : b < w.heap.size := (Array.getElem?_eq_some_iff.1 h).1
theorem EvAt.frozen {w : World} {b : Nat} {c : Ev} (h : EvAt w b c) (j : Nat) : w.frozen? ⟨b, j, none⟩ = false := by
  unfold EvAt at h
  simp [World.frozen?, h]
/-- An event is stored into block b. -/
def evStore (w : World) (b : Nat) (x : Ev) : World := ((((((((((w.setCell ⟨b, 0, none⟩ (.int .i64 x.kind)).setCell ⟨b, 1, none⟩ (.int .i64 x.w)).setCell ⟨b, 2, none⟩ (.int .i64 x.call.kind)).setCell ⟨b, 3, none⟩ (.int .i64 x.call.mode)).setCell ⟨b, 4, none⟩ (.string x.call.key)).setCell ⟨b, 5, none⟩ (.string x.call.high)).setCell ⟨b, 6, none⟩ (.string x.call.val)).setCell ⟨b, 7, none⟩ (.int .i64 x.call.draw)).setCell ⟨b, 8, none⟩ (.int .i64 x.call.n)).setCell ⟨b, 9, none⟩ (.int .i64 x.n)).setCell ⟨b, 10, none⟩ (.int .i64 x.tear)
theorem evStore_at {w : World} {b : Nat} {c0 : Ev} (h : EvAt w b c0) (x : Ev) : EvAt (evStore w b x) b x := by
  unfold EvAt at h ⊢
  unfold evStore
  have h7 := setCell_at (setCell_at (setCell_at (setCell_at (setCell_at (setCell_at (setCell_at (setCell_at (setCell_at (setCell_at (setCell_at h 0 (.int .i64 x.kind)) 1 (.int .i64 x.w)) 2 (.int .i64 x.call.kind)) 3 (.int .i64 x.call.mode)) 4 (.string x.call.key)) 5 (.string x.call.high)) 6 (.string x.call.val)) 7 (.int .i64 x.call.draw)) 8 (.int .i64 x.call.n)) 9 (.int .i64 x.n)) 10 (.int .i64 x.tear)
  rw [h7]
  unfold Ev.cells
  simp only [List.setIfInBounds_toArray, List.set]
theorem evStore_below {w W : World} {b n : Nat} (h : Below n W w) (hb : n ≤ b) (x : Ev) : Below n W (evStore w b x) :=
  ((((((((((h.setCell (p := ⟨b, 0, none⟩) hb _).setCell (p := ⟨b, 1, none⟩) hb _).setCell (p := ⟨b, 2, none⟩) hb _).setCell (p := ⟨b, 3, none⟩) hb _).setCell (p := ⟨b, 4, none⟩) hb _).setCell (p := ⟨b, 5, none⟩) hb _).setCell (p := ⟨b, 6, none⟩) hb _).setCell (p := ⟨b, 7, none⟩) hb _).setCell (p := ⟨b, 8, none⟩) hb _).setCell (p := ⟨b, 9, none⟩) hb _).setCell (p := ⟨b, 10, none⟩) hb _
theorem Ws.tail {w : World} {b o c : Nat} {t : List UInt8} {r : List (List UInt8)} (h : Ws w (.slice (some ⟨b, o, none⟩) (r.length + 1) c) (t :: r)) : Ws w (.slice (some ⟨b, o + 1, none⟩) r.length (c - 1)) r := by
  obtain ⟨A, c', hv, hc, hr⟩ := h
  injection hv with h1 h2 h3
  subst h1; subst h3
  have hl : (t :: r).length = r.length + 1 := rfl
  rw [hl] at hc
  refine ⟨_, _, rfl, by omega, fun j s hj => ?_⟩
  obtain ⟨b', o', hA, hb, hcell⟩ := hr (j + 1) s (by simpa using hj)
  injection hA with hA
  injection hA with h5 h6 _
  subst h5; subst h6
  exact ⟨_, _, rfl, hb, by rw [show o + 1 + j = o + (j + 1) by omega]; exact hcell⟩
def Ev.zero : Ev := ⟨0, 0, Cl.zero 0, 0, 0⟩
end Go.Proofs.YtkpofjfndokaeaaGreatDoor
