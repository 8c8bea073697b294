/- What a reply that came in reads as, and how great it is. -/
import Derived.Test.YtkpofjfndokaeaaGreatDoorV1
import Derived.Test.YtkpofjfndokaeaaGreatDoorZ0
import Derived.Test.YtkpofjfndokaeaaGreatDoorRows
namespace Go.Proofs.YtkpofjfndokaeaaGreatDoor
open Go.RowKit Go.ChangeShapes Go.WideShapes Go.Deep
set_option linter.unusedVariables false
set_option linter.unusedSimpArgs false

section
variable {H : Type} {enc : TypeId × Value → H} {W : World} {base : Nat} {sp : Nat → Bool} {held : Bool}
theorem kc2 : Tryz.prog.cellsOf 2 = 1 := by kernel_rfl
theorem kc4 : Tryz.prog.cellsOf 4 = 1 := by kernel_rfl
theorem kc28 : Tryz.prog.cellsOf 28 = 1 := by kernel_rfl
theorem kc33 : Tryz.prog.cellsOf 33 = 1 := by kernel_rfl
theorem kc35 : Tryz.prog.cellsOf 35 = 6 := by kernel_rfl
theorem kc38 : Tryz.prog.cellsOf 38 = 3 := by kernel_rfl
theorem list3 {α : Type} {l : List α} (h : l.length = 3) : ∃ c0 c1 c2, l = [c0, c1, c2] := by
  match l, h with
  | [c0, c1, c2], _ => exact ⟨c0, c1, c2, rfl⟩
theorem list6 {α : Type} {l : List α} (h : l.length = 6) : ∃ c0 c1 c2 c3 c4 c5, l = [c0, c1, c2, c3, c4, c5] := by
  match l, h with
  | [c0, c1, c2, c3, c4, c5], _ => exact ⟨c0, c1, c2, c3, c4, c5, rfl⟩
theorem i64_of_wf {z : Int} (h : (Lit.int .i64 z).wf = true) : -9223372036854775808 ≤ z ∧ z ≤ 9223372036854775807 := by
  simp [Lit.wf, IntKind.min, IntKind.max, IntKind.signed, IntKind.bits] at h
  exact ⟨by omega, by omega⟩
theorem rw_of_trod {fuel : Nat} {cs : List Value} {y : DataW H × List MemPlace} (h : DataW.trod enc Tryz.prog W base sp held fuel 38 cs = some y) : ∃ p : Rw, cs = p.cells ∧ p.key.size + p.val.size ≤ Rows.uptoBulk y.1 := by
  obtain ⟨xs, n, _, rfl, hlen, hxl, hf⟩ := DataW.trod_struct Tryz.underlying38 h
  rw [kc38] at hlen
  obtain ⟨c0, c1, c2, rfl⟩ := list3 hlen
  obtain ⟨y0, y1, y2, rfl⟩ := list3 hxl
  have f0 : DataW.trod enc Tryz.prog W base sp held n 9 [c0] = some y0 := by have := hf 0 _ rfl; simpa [kc3, kc9] using this
  have f1 : DataW.trod enc Tryz.prog W base sp held n 9 [c1] = some y1 := by have := hf 1 _ rfl; simpa [kc3, kc9] using this
  have f2 : DataW.trod enc Tryz.prog W base sp held n 2 [c2] = some y2 := by have := hf 2 _ rfl; simpa [kc2, kc3, kc9] using this
  obtain ⟨k0, g0, rfl, _⟩ := DataW.trod_string Tryz.underlying9 f0
  obtain ⟨k1, g1, rfl, _⟩ := DataW.trod_string Tryz.underlying9 f1
  obtain ⟨k2, g2, rfl, _⟩ := DataW.trod_int Tryz.underlying2 f2
  simp only [List.cons.injEq, and_true] at g0 g1 g2
  refine ⟨⟨k0, k1, k2⟩, by rw [g0, g1, g2]; rfl, ?_⟩
  simp only [List.map_cons, List.map_nil, Rows.uptoBulk, Rows.uptoBulkAll]
  rw [ba_size k0, ba_size k1]
  omega
theorem bulk_one (d : DataW H) : 1 ≤ Rows.uptoBulk d := by
  cases d with
  | lit l => cases l <;> simp [Rows.uptoBulk]
  | nil => simp [Rows.uptoBulk]
  | ptr d => simp [Rows.uptoBulk]
  | slice elems spare => simp [Rows.uptoBulk]
  | agg parts => simp [Rows.uptoBulk]
  | iface t d => simp [Rows.uptoBulk]
  | map entries => simp [Rows.uptoBulk]
  | held h => simp [Rows.uptoBulk]
theorem bulk_rows (f : Nat → Rw) (D : Nat → DataW H) : ∀ (is : List Nat), (∀ i ∈ is, (f i).key.size + (f i).val.size ≤ Rows.uptoBulk (D i)) → rowBulk (is.map f) ≤ Rows.uptoBulkAll (is.map D) ∧ is.length ≤ Rows.uptoBulkAll (is.map D)
  | [], _ => ⟨by simp [rowBulk], by simp⟩
  | i :: is, h => by
    obtain ⟨h1, h2⟩ := bulk_rows f D is (fun j hj => h j (by simp [hj]))
    have h3 := h i (by simp)
    have h4 := bulk_one (D i)
    have e : rowBulk ((i :: is).map f) = (f i).key.size + (f i).val.size + rowBulk (is.map f) := by unfold rowBulk; simp
    simp only [List.map_cons, Rows.uptoBulkAll, List.length_cons]
    rw [List.map_cons] at e
    omega
theorem rows_of_trod {fuel : Nat} {cs : List Value} {y : DataW H × List MemPlace} (h : DataW.trod enc Tryz.prog W base sp held fuel 33 cs = some y) : ∃ A c, ∃ l : List Rw, cs = [.slice A l.length c] ∧ Rws W A l ∧ rowBulk l ≤ Rows.uptoBulk y.1 ∧ l.length ≤ Rows.uptoBulk y.1 := by
  rcases open_slice Tryz.underlying33 h with ⟨hcs, hy⟩ | ⟨x, len, c, m, n, D, Pl, hcs, _, hl, hcm, hm, hx, hi⟩
  · exact ⟨none, 0, [], hcs, fun j p hj => by simp at hj, by simp [rowBulk], by simp⟩
  · have hlm : len ≤ m := by rw [hm]; split <;> omega
    have key : ∀ i, i < len → ∃ p : Rw, (∀ j u, p.cells[j]? = some u → W.cell? (x.add (i * 3 + j)) = some u) ∧ p.key.size + p.val.size ≤ Rows.uptoBulk (D i) := fun i hlt => by
      obtain ⟨cs', hc, ht⟩ := hi i (by omega)
      obtain ⟨p, rfl, hb⟩ := rw_of_trod ht
      rw [kc38] at hc
      obtain ⟨_, _, hat⟩ := World.cells?_some hc
      refine ⟨p, fun j u hj => ?_, hb⟩
      have hj3 := (List.getElem?_eq_some_iff.1 hj).1
      have h3 : p.cells.length = 3 := rfl
      have := hat j (by omega)
      rw [Addr.add_add] at this
      rw [this, hj]
    let f : Nat → Rw := fun i => if h : i < len then Classical.choose (key i h) else ⟨ByteArray.empty, ByteArray.empty, 0⟩
    have hfs : ∀ i, i < len → (∀ j u, (f i).cells[j]? = some u → W.cell? (x.add (i * 3 + j)) = some u) ∧ (f i).key.size + (f i).val.size ≤ Rows.uptoBulk (D i) := fun i h => by
      have e : f i = Classical.choose (key i h) := dif_pos h
      rw [e]
      exact Classical.choose_spec (key i h)
    have hb := bulk_rows f D (List.range len) (fun i hi => (hfs i (List.mem_range.1 hi)).2)
    have hsz : Rows.uptoBulkAll ((List.range len).map D) ≤ Rows.uptoBulk y.1 := by
      rw [hx]
      simp only [Rows.uptoBulk]
      omega
    refine ⟨some x, c, (List.range len).map f, by simpa using hcs, fun j p hj => ?_, by omega, by have := hb.2; simp at this ⊢; omega⟩
    rw [List.getElem?_map] at hj
    obtain ⟨i, hi1, rfl⟩ := Option.map_eq_some_iff.1 hj
    obtain ⟨hi2, hi3⟩ := List.getElem?_eq_some_iff.1 hi1
    rw [List.length_range] at hi2
    rw [List.getElem_range] at hi3
    subst hi3
    have hs : ∀ i, 0 < i → x.add (j * 3 + i) = ⟨(x.add (j * 3)).block, (x.add (j * 3)).off + i, none⟩ := fun i hi => by
      rw [← Addr.add_add]
      obtain ⟨i, rfl⟩ : ∃ k, i = k + 1 := ⟨i - 1, by omega⟩
      rfl
    have h0 := (hfs j hi2).1 0 _ rfl
    have hlt := World.block_lt_of_cell? W _ h0
    refine ⟨x, _, rfl, rfl, hlt, h0, ?_, ?_⟩
    · rw [← hs 1 (by decide)]; exact (hfs j hi2).1 1 _ rfl
    · rw [← hs 2 (by decide)]; exact (hfs j hi2).1 2 _ rfl
theorem rp_of_trod {fuel : Nat} {cs : List Value} {y : DataW H × List MemPlace} (h : DataW.trod enc Tryz.prog W base sp held fuel 35 cs = some y) (hb : Rows.uptoBulk y.1 ≤ 1048576) :
    ∃ (r : Rp) (A : Option Addr) (c : Nat), cs = [.int .i64 r.code, .string r.val, .bool r.found, .slice A r.rows.length c, .int .i64 r.time, .int .i64 r.n] ∧ RpOk r ∧ Rws W A r.rows := by
  obtain ⟨xs, n, _, rfl, hlen, hxl, hf⟩ := DataW.trod_struct Tryz.underlying35 h
  rw [kc35] at hlen
  obtain ⟨c0, c1, c2, c3, c4, c5, rfl⟩ := list6 hlen
  obtain ⟨y0, y1, y2, y3, y4, y5, rfl⟩ := list6 hxl
  have f0 : DataW.trod enc Tryz.prog W base sp held n 28 [c0] = some y0 := by have := hf 0 _ rfl; simpa [kc3, kc9, kc4, kc28, kc33] using this
  have f1 : DataW.trod enc Tryz.prog W base sp held n 9 [c1] = some y1 := by have := hf 1 _ rfl; simpa [kc3, kc9, kc4, kc28, kc33] using this
  have f2 : DataW.trod enc Tryz.prog W base sp held n 4 [c2] = some y2 := by have := hf 2 _ rfl; simpa [kc3, kc9, kc4, kc28, kc33] using this
  have f3 : DataW.trod enc Tryz.prog W base sp held n 33 [c3] = some y3 := by have := hf 3 _ rfl; simpa [kc3, kc9, kc4, kc28, kc33] using this
  have f4 : DataW.trod enc Tryz.prog W base sp held n 2 [c4] = some y4 := by have := hf 4 _ rfl; simpa [kc2, kc3, kc9, kc4, kc28, kc33] using this
  have f5 : DataW.trod enc Tryz.prog W base sp held n 3 [c5] = some y5 := by have := hf 5 _ rfl; simpa [kc3, kc9, kc4, kc28, kc33] using this
  obtain ⟨k0, g0, rfl, w0⟩ := DataW.trod_int Tryz.underlying28 f0
  obtain ⟨k1, g1, rfl, _⟩ := DataW.trod_string Tryz.underlying9 f1
  obtain ⟨k2, g2, rfl⟩ := DataW.trod_bool Tryz.underlying4 f2
  obtain ⟨A, cp, l, g3, hrw, b1, b2⟩ := rows_of_trod f3
  obtain ⟨k4, g4, rfl, w4⟩ := DataW.trod_int Tryz.underlying2 f4
  obtain ⟨k5, g5, rfl, w5⟩ := DataW.trod_int Tryz.underlying3 f5
  simp only [List.cons.injEq, and_true] at g0 g1 g2 g3 g4 g5
  simp only [List.map_cons, List.map_nil, Rows.uptoBulk, Rows.uptoBulkAll] at hb
  have hs := ba_size k1
  obtain ⟨a0, a1⟩ := i64_of_wf w0
  obtain ⟨a4, a5⟩ := i64_of_wf w4
  obtain ⟨a6, a7⟩ := i64_of_wf w5
  exact ⟨⟨k0, k1, k2, l, k4, k5⟩, A, cp, by rw [g0, g1, g2, g3, g4, g5], ⟨a0, a1, a4, a5, a6, a7, by show k1.size ≤ _; omega, by show l.length ≤ _; omega, by show rowBulk l ≤ _; omega⟩, hrw⟩
end
end Go.Proofs.YtkpofjfndokaeaaGreatDoor
