/- Both graphs, one behind the other: what a Wait on each leaves. -/
import Derived.Test.YtmfjncbccaifiaaDoorF0
import Derived.Laws.IdiomCopy
namespace Go.Proofs.YtmfjncbccaifiaaDoor
open Go.RowKit
set_option linter.unusedVariables false
set_option linter.unusedSimpArgs false

theorem wf_set {ws : List Nat} {k m i : Nat} (hk : k < ws.length) : wf (ws.set k m) i = if i = k then m else wf ws i := by
  unfold wf
  rw [List.getD_eq_getElem?_getD, List.getElem?_set, List.getD_eq_getElem?_getD]
  by_cases h : k = i
  · subst h; simp [hk]
  · simp [h, Ne.symm h]

theorem wtM_lt (a : Int) (l : List Int) : wtM a l < 65536 := by
  unfold wtM lv1
  exact Nat.lt_of_le_of_lt Nat.and_le_left (comes_lt l 0 (by decide))

theorem Rel.wait {ws : List Nat} {bs bs' : List Bool} {k : Nat} {m : Nat} (h : Rel ws bs) (hk : k < 16) (hm : m < 65536) (hr : rowsAt k m bs bs') : Rel (ws.set k m) bs' := by
  have hl : k < ws.length := by rw [h.len]; exact hk
  refine ⟨by rw [List.length_set]; exact h.len, ⟨fun i => ?_, fun i hi => ?_⟩, fun i j hi hj => ?_⟩
  · rw [wf_set hl]; split
    · exact hm
    · exact h.gr.lt i
  · rw [wf_set hl, if_neg (by omega)]; exact h.gr.out i hi
  · rw [hr (i * 16 + j) (by omega), wf_set hl, show (i * 16 + j) / 16 = i by omega, show (i * 16 + j) % 16 = j by omega]
    split
    · rfl
    · exact h.is i j hi hj

/-- Both graphs lie there, made since W, and hold the same waits. -/
structure GS (W : World) (gb rb : Nat) (ws : List Nat) (bs : List Bool) (wr : World) : Prop where
  later : Later W wr
  g : GB wr gb ws
  r : RB wr rb bs
  rel : Rel ws bs
  hg : W.heap.size ≤ gb
  hr : W.heap.size ≤ rb
  ne : gb ≠ rb

theorem Only.later {W A B : World} {b : Nat} (h : Later W A) (k : Only b A B) (hb : W.heap.size ≤ b) : Later W B :=
  ⟨k.os.trans h.os, k.tape.trans h.tape, k.output.trans h.output, Nat.le_trans h.size k.size, fun i hi => (k.same i (Nat.lt_of_lt_of_le hi h.size) (by omega)).trans (h.block i hi)⟩

theorem only_setCells (b : Nat) : ∀ (vs : List Value) (o : Nat) (w : World), Only b w (w.setCells b o vs)
  | [], o, w => Only.refl b w
  | v :: vs, o, w => (only_set w b o v).trans (only_setCells b vs (o + 1) _)

/-- A fresh row that others were copied into. -/
theorem fresh_row {wr : World} {zs : Array Value} {l : List Int} (hz : zs.size = l.length + 1) :
    Ints ((wr.alloc (.cells zs 3)).drew.setCells wr.heap.size 0 (l.map (Value.int .i64))) (some ⟨wr.heap.size, 0, none⟩) l := fun j hj => by
  have hb : (wr.alloc (.cells zs 3)).drew.heap[wr.heap.size]? = some (.cells zs 3 (0, 0)) := World.alloc_heap_new wr _
  refine ⟨_, rfl, ?_, ?_⟩
  · have h := World.cell?_setCells_in wr.heap.size (l.map (Value.int .i64)) 0 (wr.alloc (.cells zs 3)).drew (fun i hi => by
      rw [List.length_map] at hi
      have hx : zs[0 + i]? = some zs[0 + i] := Array.getElem?_eq_getElem (by omega)
      simp only [World.cell?, hb, hx]; rfl) j (by simpa using hj)
    have e : ((⟨wr.heap.size, 0, none⟩ : Addr).add j) = ⟨wr.heap.size, 0 + j, none⟩ := by
      unfold Addr.add
      split
      · rename_i hj; subst hj; rfl
      · rfl
    rw [e, h]
    simp [List.getD_eq_getElem?_getD, hj]
  · have := (only_setCells wr.heap.size (l.map (Value.int .i64)) 0 (wr.alloc (.cells zs 3)).drew).size
    have h2 : (wr.alloc (.cells zs 3)).drew.heap.size = wr.heap.size + 1 := World.size_alloc wr _
    show wr.heap.size < _
    omega

theorem GS.fresh {W wr : World} {gb rb : Nat} {ws : List Nat} {bs : List Bool} (h : GS W gb rb ws bs wr) (o : Obj) (vs : List Value) : GS W gb rb ws bs ((wr.alloc o).drew.setCells wr.heap.size 0 vs) := by
  have ho := only_setCells wr.heap.size vs 0 (wr.alloc o).drew
  have hs := h.later.size
  have hl : Later W (wr.alloc o).drew := (h.later.alloc hs o).drew
  have g1 := h.g.lt
  have r1 := h.r.lt
  refine ⟨Only.later hl ho hs, ⟨?_, h.g.2⟩, ⟨?_, h.r.2⟩, h.rel, h.hg, h.hr, h.ne⟩
  · refine (ho.same gb ?_ (by omega)).trans ((Below.heap_alloc wr o gb g1).trans h.g.1)
    show gb < (wr.heap.push o).size
    simp; omega
  · refine (ho.same rb ?_ (by omega)).trans ((Below.heap_alloc wr o rb r1).trans h.r.1)
    show rb < (wr.heap.push o).size
    simp; omega

/-- Between both Waits. -/
structure GM (W : World) (gb rb : Nat) (ws : List Nat) (bs : List Bool) (a : Int) (l : List Int) (wr : World) : Prop where
  later : Later W wr
  g : GB wr gb (if wtE a l = 0 then ws.set a.toNat (wtM a l) else ws)
  r : RB wr rb bs
  rel : Rel ws bs
  hg : W.heap.size ≤ gb
  hr : W.heap.size ≤ rb
  ne : gb ≠ rb

theorem GS.wait {W wr w' : World} {gb rb : Nat} {ws : List Nat} {bs : List Bool} {a : Int} {l : List Int} {e : Ending} (h : GS W gb rb ws bs wr) (hp : WaitPost gb ws a l wr e w') :
    e = .returned (.int .i64 (wtE a l)) ∧ GM W gb rb ws bs a l w' := by
  obtain ⟨he, hg, ho⟩ := hp
  refine ⟨he, Only.later h.later ho h.hg, ?_, ⟨(ho.same rb h.r.lt (Ne.symm h.ne)).trans h.r.1, h.r.2⟩, h.rel, h.hg, h.hr, h.ne⟩
  split
  · rename_i h0; rw [if_pos h0] at hg; exact hg
  · rename_i h0; rw [if_neg h0] at hg; exact hg

theorem GM.wait {W wr w' : World} {gb rb : Nat} {ws : List Nat} {bs : List Bool} {a : Int} {l : List Int} {e : Ending} (h : GM W gb rb ws bs a l wr) (hp : RWaitPost rb bs a l wr e w') :
    e = .returned (.int .i64 (wtE a l)) ∧ ∃ ws' bs', GS W gb rb ws' bs' w' := by
  obtain ⟨he, ⟨bs', hr, hrow⟩, ho⟩ := hp
  have hl := Only.later h.later ho h.hr
  have hg : GB w' gb (if wtE a l = 0 then ws.set a.toNat (wtM a l) else ws) := ⟨(ho.same gb h.g.lt h.ne).trans h.g.1, h.g.2⟩
  by_cases h0 : wtE a l = 0
  · rw [if_pos h0] at hg hrow
    have ha : isW a = true := by
      unfold wtE at h0
      split at h0
      · rename_i h1; exact h1.1
      · cases h0
    obtain ⟨h1, h2⟩ := isW_true.1 ha
    exact ⟨he, _, bs', hl, hg, hr, h.rel.wait (by omega) (wtM_lt a l) hrow, h.hg, h.hr, h.ne⟩
  · rw [if_neg h0] at hg hrow
    subst hrow
    exact ⟨he, _, _, hl, hg, hr, h.rel, h.hg, h.hr, h.ne⟩
end Go.Proofs.YtmfjncbccaifiaaDoor
