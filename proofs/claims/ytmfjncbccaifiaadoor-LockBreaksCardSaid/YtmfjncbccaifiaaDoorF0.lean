/- What a slice of waits that came in reads as. -/
import Derived.Test.YtmfjncbccaifiaaDoorE8
import Derived.Deep.SlicePairs
import Derived.SizedLaws
namespace Go.Proofs.YtmfjncbccaifiaaDoor
open Go.RowKit Go.ChangeShapes Go.WideShapes Go.Deep
set_option linter.unusedVariables false
set_option linter.unusedSimpArgs false

/-- A wait: whose, the slice's block, its capacity, whom it waits for. -/
abbrev Wt := Int × Option Addr × Nat × List Int
def WAt (W : World) (A : Option Addr) (i : Nat) (q : Wt) : Prop :=
  ∃ x, A = some x ∧ W.cell? (x.add (i * 2)) = some (.int .i64 q.1) ∧ W.cell? (x.add (i * 2 + 1)) = some (.slice q.2.1 q.2.2.2.length q.2.2.1) ∧ x.block < W.heap.size ∧ Ints W q.2.1 q.2.2.2 ∧ q.2.2.2.length ≤ maxLen ∧ (Lit.int .i64 q.1).wf = true
def WRow (W : World) (A : Option Addr) (n : Nat) (f : Nat → Wt) : Prop := ∀ i, i < n → WAt W A i (f i)

theorem WAt.later {W W' : World} {A : Option Addr} {i : Nat} {q : Wt} (h : WAt W A i q) (hl : Later W W') : WAt W' A i q := by
  obtain ⟨x, e, h1, h2, h3, h4, h5, h6⟩ := h
  exact ⟨x, e, (hl.cell (by rw [add_blk]; exact h3)).trans h1, (hl.cell (by rw [add_blk]; exact h3)).trans h2, Nat.lt_of_lt_of_le h3 hl.size, h4.later hl, h5, h6⟩

theorem weightsAll_mem {H : Type} {P : Program} {e : TypeId} : ∀ {ds : List (DataW H)} {d : DataW H}, d ∈ ds → ∀ n ∈ d.weights P e, n ∈ DataW.weightsAll P e ds
  | x :: r, d, h, n, hn => by
    rw [DataW.weightsAll, List.mem_append]
    rcases List.mem_cons.1 h with rfl | h
    · exact .inl hn
    · exact .inr (weightsAll_mem h n hn)

theorem inner_weight {H : Type} {len m : Nat} {D0 D1 : Nat → DataW H} {rest : List (DataW H)} {i : Nat} (hi : i < len) {es sp : List (DataW H)} (h1 : D1 i = .slice es sp) :
    (es.length + sp.length) * 8 ∈ (DataW.slice ((List.range len).map fun i => DataW.agg [D0 i, D1 i]) rest).weights Tryd.prog 45 := by
  rw [DataW.weights, Tryd.underlying45]
  simp only [List.mem_cons, List.mem_append]
  refine .inr (.inl (weightsAll_mem (d := .agg [D0 i, D1 i]) (List.mem_map.2 ⟨i, by simpa using hi, rfl⟩) _ ?_))
  rw [DataW.weights, Tryd.underlying53]
  simp only [List.map_toArray, List.map_cons, List.map_nil, DataW.weightsEach, List.mem_append]
  refine .inr (.inl ?_)
  rw [h1, DataW.weights, Tryd.underlying27]
  exact List.mem_cons.2 (.inl (by rw [show Tryd.prog.bytesOf 3 = 8 by kernel_rfl]))

theorem waits_of {H : Type} {enc : TypeId × Value → H} {W : World} {a : Option Addr} {len cap : Nat} {d : DataW H} {ps : List MemPlace} {base : Nat} {sp : Nat → Bool} {held : Bool}
    (h : DataW.Trod enc Tryd.prog W base sp held 45 (.slice a len cap) d ps) (hwt : ∀ n ∈ d.weights Tryd.prog 45, n ≤ reachBytes) : ∃ f, WRow W a len f ∧ len ≤ maxLen ∧ ∀ i, i < len → (f i).2.2.2.length * 8 ≤ reachBytes := by
  obtain ⟨fuel, hf⟩ := h
  rcases open_slice_pairs Tryd.underlying45 Tryd.underlying53 (by kernel_rfl) rfl rfl (by kernel_rfl) (by kernel_rfl) hf with ⟨hcs, _⟩ | ⟨x, l, c, m, n, V0, V1, D0, D1, P0, P1, hcs, _, hl, hcm, hm, hx, hi⟩
  · simp [Value.cells] at hcs
    obtain ⟨rfl, rfl, rfl⟩ := hcs
    exact ⟨fun _ => (0, none, 0, []), fun i hi => by omega, by unfold maxLen; omega, fun i hi => by omega⟩
  · simp [Value.cells] at hcs
    obtain ⟨rfl, rfl, rfl⟩ := hcs
    have hlm : len ≤ m := by rw [hm]; split <;> omega
    obtain ⟨f, hf⟩ := choose_lt (α := Wt) (n := len) (p := fun i q => WAt W (some x) i q ∧ q.2.2.2.length * 8 ≤ reachBytes) (fun i hlt => by
      obtain ⟨c0, c1, t0, t1⟩ := hi i (by omega)
      obtain ⟨k, e0, _, hk⟩ := DataW.trod_int Tryd.underlying3 t0
      obtain e0' : V0 i = .int .i64 k := by simpa using e0
      rcases ChangeShapes.open_ints Tryd.underlying27 Tryd.underlying3 (by kernel_rfl) t1 with ⟨e1, _⟩ | ⟨y, l1, cc, zs, e1, _, hl1, hm1, hz, hxx, hcell, _⟩
      · obtain e1' : V1 i = .slice none 0 0 := by simpa using e1
        exact ⟨(k, none, 0, []), ⟨x, rfl, by rw [c0, e0'], by rw [c1, e1']; rfl, by have := lt_of_cell c0; rwa [add_blk] at this, fun j hj => by simp at hj, by unfold maxLen; simp, hk⟩, by simp⟩
      · obtain e1' : V1 i = .slice (some y) l1 cc := by simpa using e1
        have hl2 : l1 ≤ zs.length := by rw [hz]; split <;> omega
        have htl : (zs.take l1).length = l1 := by simp; omega
        have hwi := hwt _ (by
          have hd := (Prod.mk.inj hx).1
          rw [hd]
          exact inner_weight (m := m) hlt (Prod.mk.inj hxx).1)
        have hll : (lits (H := H) .i64 (zs.take l1)).length + (lits (H := H) .i64 (zs.drop l1)).length = zs.length := by simp [lits]; omega
        rw [hll] at hwi
        refine ⟨(k, some y, cc, zs.take l1), ⟨x, rfl, by rw [c0, e0'], by rw [c1, e1', htl], by have := lt_of_cell c0; rwa [add_blk] at this, fun j hj => ?_, by rw [htl]; omega, hk⟩, by rw [htl]; omega⟩
        rw [htl] at hj
        refine ⟨y, rfl, ?_, ?_⟩
        · rw [hcell j (by omega)]
          simp [List.getD_eq_getElem?_getD, List.getElem?_take, hj]
        · have := lt_of_cell (hcell j (by omega)); rwa [add_blk] at this)
    exact ⟨f, fun i hi => (hf i hi).1, by omega, fun i hi => (hf i hi).2⟩
end Go.Proofs.YtmfjncbccaifiaaDoor
