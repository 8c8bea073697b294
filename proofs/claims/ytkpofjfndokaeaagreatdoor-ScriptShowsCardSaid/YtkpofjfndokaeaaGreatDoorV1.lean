/- What a slice of events that came in reads as. -/
import Derived.Test.YtkpofjfndokaeaaGreatDoorB0
import Derived.Deep.Slices
import Derived.SizedLaws
import Derived.KernelRfl
namespace Go.Proofs.YtkpofjfndokaeaaGreatDoor
open Go.RowKit Go.ChangeShapes Go.WideShapes Go.Deep
set_option linter.unusedVariables false
set_option linter.unusedSimpArgs false

section
variable {H : Type} {enc : TypeId × Value → H} {W : World} {base : Nat} {sp : Nat → Bool} {held : Bool}
theorem kc3 : Tryz.prog.cellsOf 3 = 1 := by kernel_rfl
theorem kc9 : Tryz.prog.cellsOf 9 = 1 := by kernel_rfl
theorem kc25 : Tryz.prog.cellsOf 25 = 7 := by kernel_rfl
theorem kc27 : Tryz.prog.cellsOf 27 = 11 := by kernel_rfl
theorem list7 {α : Type} {l : List α} (h : l.length = 7) : ∃ c0 c1 c2 c3 c4 c5 c6, l = [c0, c1, c2, c3, c4, c5, c6] := by
  match l, h with
  | [c0, c1, c2, c3, c4, c5, c6], _ => exact ⟨c0, c1, c2, c3, c4, c5, c6, rfl⟩
theorem list11 {α : Type} {l : List α} (h : l.length = 11) : ∃ c0 c1 c2 c3 c4 c5 c6 c7 c8 c9 c10, l = [c0, c1, c2, c3, c4, c5, c6, c7, c8, c9, c10] := by
  match l, h with
  | [c0, c1, c2, c3, c4, c5, c6, c7, c8, c9, c10], _ => exact ⟨c0, c1, c2, c3, c4, c5, c6, c7, c8, c9, c10, rfl⟩
theorem get_some {α : Type} {xs : List α} {n i : Nat} (h : xs.length = n) (hi : i < n) : ∃ y, xs[i]? = some y := ⟨_, List.getElem?_eq_getElem (by omega)⟩
theorem cl_of_trod {fuel : Nat} {cs : List Value} {y : DataW H × List MemPlace} (h : DataW.trod enc Tryz.prog W base sp held fuel 25 cs = some y) : ∃ c : Cl, cs = c.cells.toList := by
  obtain ⟨xs, n, _, _, hlen, hxl, hf⟩ := DataW.trod_struct Tryz.underlying25 h
  rw [kc25] at hlen
  obtain ⟨c0, c1, c2, c3, c4, c5, c6, rfl⟩ := list7 hlen
  · skip
    have f0 : DataW.trod enc Tryz.prog W base sp held n 3 [c0] = xs[0]? := by have := hf 0 _ rfl; simpa [kc3, kc9] using this
    have f1 : DataW.trod enc Tryz.prog W base sp held n 3 [c1] = xs[1]? := by have := hf 1 _ rfl; simpa [kc3, kc9] using this
    have f2 : DataW.trod enc Tryz.prog W base sp held n 9 [c2] = xs[2]? := by have := hf 2 _ rfl; simpa [kc3, kc9] using this
    have f3 : DataW.trod enc Tryz.prog W base sp held n 9 [c3] = xs[3]? := by have := hf 3 _ rfl; simpa [kc3, kc9] using this
    have f4 : DataW.trod enc Tryz.prog W base sp held n 9 [c4] = xs[4]? := by have := hf 4 _ rfl; simpa [kc3, kc9] using this
    have f5 : DataW.trod enc Tryz.prog W base sp held n 3 [c5] = xs[5]? := by have := hf 5 _ rfl; simpa [kc3, kc9] using this
    have f6 : DataW.trod enc Tryz.prog W base sp held n 3 [c6] = xs[6]? := by have := hf 6 _ rfl; simpa [kc3, kc9] using this
    obtain ⟨y0, e0⟩ := get_some hxl (show 0 < 7 by decide)
    obtain ⟨y1, e1⟩ := get_some hxl (show 1 < 7 by decide)
    obtain ⟨y2, e2⟩ := get_some hxl (show 2 < 7 by decide)
    obtain ⟨y3, e3⟩ := get_some hxl (show 3 < 7 by decide)
    obtain ⟨y4, e4⟩ := get_some hxl (show 4 < 7 by decide)
    obtain ⟨y5, e5⟩ := get_some hxl (show 5 < 7 by decide)
    obtain ⟨y6, e6⟩ := get_some hxl (show 6 < 7 by decide)
    obtain ⟨k0, g0, _⟩ := DataW.trod_int Tryz.underlying3 (f0.trans e0)
    obtain ⟨k1, g1, _⟩ := DataW.trod_int Tryz.underlying3 (f1.trans e1)
    obtain ⟨k2, g2, _⟩ := DataW.trod_string Tryz.underlying9 (f2.trans e2)
    obtain ⟨k3, g3, _⟩ := DataW.trod_string Tryz.underlying9 (f3.trans e3)
    obtain ⟨k4, g4, _⟩ := DataW.trod_string Tryz.underlying9 (f4.trans e4)
    obtain ⟨k5, g5, _⟩ := DataW.trod_int Tryz.underlying3 (f5.trans e5)
    obtain ⟨k6, g6, _⟩ := DataW.trod_int Tryz.underlying3 (f6.trans e6)
    simp only [List.cons.injEq, and_true] at g0 g1 g2 g3 g4 g5 g6
    exact ⟨⟨k0, k1, k2, k3, k4, k5, k6⟩, by rw [g0, g1, g2, g3, g4, g5, g6]; rfl⟩
theorem ev_of_trod {fuel : Nat} {cs : List Value} {y : DataW H × List MemPlace} (h : DataW.trod enc Tryz.prog W base sp held fuel 27 cs = some y) : ∃ x : Ev, cs = x.cells.toList := by
  obtain ⟨xs, n, _, _, hlen, hxl, hf⟩ := DataW.trod_struct Tryz.underlying27 h
  rw [kc27] at hlen
  obtain ⟨c0, c1, c2, c3, c4, c5, c6, c7, c8, c9, c10, rfl⟩ := list11 hlen
  · skip
    have f0 : DataW.trod enc Tryz.prog W base sp held n 3 [c0] = xs[0]? := by have := hf 0 _ rfl; simpa [kc3, kc25] using this
    have f1 : DataW.trod enc Tryz.prog W base sp held n 3 [c1] = xs[1]? := by have := hf 1 _ rfl; simpa [kc3, kc25] using this
    have f2 : DataW.trod enc Tryz.prog W base sp held n 25 [c2, c3, c4, c5, c6, c7, c8] = xs[2]? := by have := hf 2 _ rfl; simpa [kc3, kc25] using this
    have f3 : DataW.trod enc Tryz.prog W base sp held n 3 [c9] = xs[3]? := by have := hf 3 _ rfl; simpa [kc3, kc25] using this
    have f4 : DataW.trod enc Tryz.prog W base sp held n 3 [c10] = xs[4]? := by have := hf 4 _ rfl; simpa [kc3, kc25] using this
    obtain ⟨y0, e0⟩ := get_some hxl (show 0 < 5 by decide)
    obtain ⟨y1, e1⟩ := get_some hxl (show 1 < 5 by decide)
    obtain ⟨y2, e2⟩ := get_some hxl (show 2 < 5 by decide)
    obtain ⟨y3, e3⟩ := get_some hxl (show 3 < 5 by decide)
    obtain ⟨y4, e4⟩ := get_some hxl (show 4 < 5 by decide)
    obtain ⟨k0, g0, _⟩ := DataW.trod_int Tryz.underlying3 (f0.trans e0)
    obtain ⟨k1, g1, _⟩ := DataW.trod_int Tryz.underlying3 (f1.trans e1)
    obtain ⟨c, g2⟩ := cl_of_trod (f2.trans e2)
    obtain ⟨k3, g3, _⟩ := DataW.trod_int Tryz.underlying3 (f3.trans e3)
    obtain ⟨k4, g4, _⟩ := DataW.trod_int Tryz.underlying3 (f4.trans e4)
    unfold Cl.cells at g2
    simp only [List.cons.injEq, and_true] at g0 g1 g2 g3 g4
    obtain ⟨a0, a1, a2, a3, a4, a5, a6⟩ := g2
    exact ⟨⟨k0, k1, c, k3, k4⟩, by rw [g0, g1, g3, g4, a0, a1, a2, a3, a4, a5, a6]; rfl⟩
/-- Events that came in. -/
theorem events_of {a : Option Addr} {len cap : Nat} {d : DataW H} {ps : List MemPlace} (h : DataW.Trod enc Tryz.prog W base sp held 22 (.slice a len cap) d ps) : ∃ l : List Ev, l.length = len ∧ Evs W a l ∧ len ≤ cap ∧ cap ≤ maxLen := by
  obtain ⟨fuel, hf⟩ := h
  rcases open_slice Tryz.underlying22 hf with ⟨hcs, _⟩ | ⟨x, l, c, m, n, D, Pl, hcs, _, hl, hcm, hm, hx, hi⟩
  · simp [Value.cells] at hcs
    obtain ⟨rfl, rfl, rfl⟩ := hcs
    exact ⟨[], rfl, fun j x hj => (by simp at hj), Nat.le_refl _, by unfold maxLen; omega⟩
  · simp [Value.cells] at hcs
    obtain ⟨rfl, rfl, rfl⟩ := hcs
    have hlm : len ≤ m := by rw [hm]; split <;> omega
    have key : ∀ i, i < len → ∃ e : Ev, ∀ j (hj : j < e.cells.size), W.cell? (x.add (i * 11 + j)) = some e.cells[j] := fun i hlt => by
      obtain ⟨cs', hc, ht⟩ := hi i (by omega)
      obtain ⟨e, rfl⟩ := ev_of_trod ht
      rw [kc27] at hc
      obtain ⟨_, _, hat⟩ := World.cells?_some hc
      refine ⟨e, fun j hj => ?_⟩
      have h11 : e.cells.size = 11 := rfl
      have := hat j (by omega)
      rw [Addr.add_add] at this
      rw [this, List.getElem?_eq_getElem (by rw [Array.length_toList]; exact hj)]
      rfl
    let f : Nat → Ev := fun i => if h : i < len then Classical.choose (key i h) else ⟨0, 0, Cl.zero 0, 0, 0⟩
    have hfs : ∀ i, i < len → ∀ j (hj : j < (f i).cells.size), W.cell? (x.add (i * 11 + j)) = some (f i).cells[j] := fun i h => by
      have e : f i = Classical.choose (key i h) := dif_pos h
      rw [e]
      exact Classical.choose_spec (key i h)
    refine ⟨(List.range len).map f, by simp, fun j y hj => ?_, hl, hcm⟩
    rw [List.getElem?_map] at hj
    obtain ⟨i, hi1, rfl⟩ := Option.map_eq_some_iff.1 hj
    obtain ⟨hi2, hi3⟩ := List.getElem?_eq_some_iff.1 hi1
    rw [List.length_range] at hi2
    rw [List.getElem_range] at hi3
    subst hi3
    refine ⟨x, rfl, ?_, hfs j hi2⟩
    have h0 := hfs j hi2 0 (show 0 < 11 by decide)
    have hlt := World.block_lt_of_cell? W _ h0
    rwa [addr_blk] at hlt
end
end Go.Proofs.YtkpofjfndokaeaaGreatDoor
