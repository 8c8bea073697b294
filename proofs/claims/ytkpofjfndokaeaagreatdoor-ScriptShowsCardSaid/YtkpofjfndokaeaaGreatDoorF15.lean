/- script.call: small facts for its loop. -/
import Derived.Test.YtkpofjfndokaeaaGreatDoorF1
namespace Go.Proofs.YtkpofjfndokaeaaGreatDoor
open Go.RowKit
set_option linter.unusedVariables false
set_option linter.unusedSimpArgs false

theorem below_ad {wr w5 : World} {o : Obj} (h : Below (wr.alloc o).drew.heap.size (wr.alloc o).drew w5) : Below wr.heap.size wr w5 :=
  ((Below.refl wr.heap.size wr).alloc (Nat.le_refl _) o).drew.trans (h.mono (by show _ ≤ (wr.alloc o).heap.size; rw [World.size_alloc]; exact Nat.le_succ _))
theorem cell_ad {wr w5 : World} {cs : Array Value} {ty : TypeId} (h : Below (wr.alloc (.cells cs ty)).drew.heap.size (wr.alloc (.cells cs ty)).drew w5) (j : Nat) : w5.cell? ⟨wr.heap.size, j, none⟩ = cs[j]? := by
  have e : w5.heap[wr.heap.size]? = some (.cells cs ty (0, 0)) := by
    rw [h.block wr.heap.size (by show _ < (wr.alloc _).heap.size; rw [World.size_alloc]; exact Nat.lt_succ_self _)]
    exact heap_alloc_at (w := wr) _ _ rfl
  simp [World.cell?, e]
theorem ClAt.put {w : World} {b : Nat} {c : Cl} (h : ClAt w b c) {j : Nat} {v : Value} {c' : Cl} (hc : c.cells.setIfInBounds j v = c'.cells) : ClAt (w.setCell ⟨b, j, none⟩ v) b c' := by
  unfold ClAt at h ⊢
  rw [setCell_at h j v, hc]
/-- c' is what a field's word makes of a call, where it makes one. -/
def PutR (cc : Cl) (f : Fd) (s : List UInt8) (c' : Cl) : Prop := ∀ c'', f.put cc s = some c'' → c' = c''
theorem text_got (s : ByteArray) (hs : s.size ≤ 4294967295) (l : List UInt8) (hl : s.data.toList = l) (W : World) : Calls Tryz.prog 63 #[.string s] W fun e w' => ∃ X : ByteArray, e = .returned (.tuple #[.string X, .bool (textB l).isSome]) ∧ (∀ t, textB l = some t → X = ⟨t.toArray⟩) ∧ Below W.heap.size W w' := by
  refine (text_any s hs W).mono ?_
  rintro e w' ⟨rfl, hb⟩
  rw [hl]
  cases h : textB l with
  | none => exact ⟨⟨#[]⟩, rfl, (fun t ht => by cases ht), hb⟩
  | some X => exact ⟨⟨X.toArray⟩, rfl, (fun t ht => by injection ht with ht; rw [ht]), hb⟩
theorem num_got (s : ByteArray) (hs : s.size ≤ 4294967295) (l : List UInt8) (hl : s.data.toList = l) (W : World) (hW : Sp W) : Calls Tryz.prog 46 #[.string s] W fun e w' => ∃ z : Int, e = .returned (.tuple #[.int .i64 z, .bool (numB l).isSome]) ∧ (∀ v, numB l = some v → z = v) ∧ Below W.heap.size W w' := by
  refine (number_any s (by omega) W hW).mono ?_
  rintro e w' ⟨⟨z, rfl, hz⟩, hb⟩
  rw [hl] at hz ⊢
  exact ⟨z, rfl, hz, hb⟩
end Go.Proofs.YtkpofjfndokaeaaGreatDoor
