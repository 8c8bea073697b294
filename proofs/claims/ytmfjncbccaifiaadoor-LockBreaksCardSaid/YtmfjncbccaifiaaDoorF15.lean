/- A row that is written to: its cells stay there; append of ints that came in. -/
import Derived.Test.YtmfjncbccaifiaaDoorF1
import Derived.Test.YtmfjncbccaifiaaDoorC3
import Derived.Test.YtmfjncbccaifiaaDoorE8
import Derived.Deep.AppendSrc
import Derived.Deep.RegionLaw
import Derived.RowKit
namespace Go.Proofs.YtmfjncbccaifiaaDoor
open Go.RowKit
set_option linter.unusedVariables false
set_option linter.unusedSimpArgs false

/-- The first n cells of block b are there, and none is frozen. -/
structure RowAt (w : World) (b n : Nat) : Prop where
  is : ∀ j, j < n → ∃ u, w.cell? ⟨b, j, none⟩ = some u
  free : ∀ j, w.frozen? ⟨b, j, none⟩ = false
  lt : b < w.heap.size

theorem RowAt.only {w w' : World} {b n g : Nat} (h : RowAt w b n) (ho : Only g w w') (hne : b ≠ g) : RowAt w' b n := by
  have hb := ho.same b h.lt hne
  refine ⟨fun j hj => ?_, fun j => ?_, Nat.lt_of_lt_of_le h.lt ho.size⟩
  · obtain ⟨u, hu⟩ := h.is j hj
    exact ⟨u, (World.cell?_of_block (a := ⟨b, j, none⟩) hb).trans hu⟩
  · exact (World.frozen?_of_block (a := ⟨b, j, none⟩) hb).trans (h.free j)

theorem RowAt.set {w : World} {b n : Nat} (h : RowAt w b n) (p : Addr) (v : Value) : RowAt (w.setCell p v) b n := by
  refine ⟨fun j hj => ?_, fun j => ?_, by rw [World.size_setCell]; exact h.lt⟩
  · obtain ⟨u, hu⟩ := h.is j hj
    exact cell?_setCell_some hu
  · rw [World.frozen?_setCell]; exact h.free j

theorem RowAt.setCells {b n c : Nat} : ∀ (vs : List Value) (o : Nat) {w : World}, RowAt w b n → RowAt (w.setCells c o vs) b n
  | [], _, _, h => h
  | _ :: vs, o, _, h => RowAt.setCells vs (o + 1) (h.set _ _)

theorem RowAt.drew {w : World} {b n : Nat} (h : RowAt w b n) : RowAt w.drew b n := ⟨h.is, h.free, h.lt⟩

theorem RowAt.fresh {w : World} {zs : Array Value} {n : Nat} {t : TypeId} (hz : n ≤ zs.size) : RowAt (w.alloc (.cells zs t)).drew w.heap.size n := by
  have hb : (w.alloc (.cells zs t)).drew.heap[w.heap.size]? = some (.cells zs t (0, 0)) := World.alloc_heap_new w _
  refine ⟨fun j hj => ⟨zs[j], ?_⟩, fun j => ?_, ?_⟩
  · have hx : zs[j]? = some zs[j] := Array.getElem?_eq_getElem (by omega)
    simp only [World.cell?, hb, hx]; rfl
  · simp only [World.frozen?, hb]; rfl
  · show _ < (w.heap.push _).size
    simp

theorem Ints.src {w : World} {A : Option Addr} {l : List Int} {c : Nat} {t e : TypeId} {P : Program} (hk : P.underlying t = some (.slice e)) (h : Ints w A l) : Src P 1 t (.slice A l.length c) l.length (l.map (Value.int .i64)) w := by
  cases A with
  | none =>
    have h0 : l = [] := by
      cases l with
      | nil => rfl
      | cons x xs =>
        obtain ⟨ad, e, _⟩ := h 0 (by simp)
        cases e
    subst h0
    exact Src.ofNil w hk c
  | some y =>
    refine Src.ofSlice w hk y l.length c _ (by simp) (fun j u hj => ?_) (by simp [Value.oneCell'])
    obtain ⟨z, hz, rfl⟩ : ∃ z, l[j]? = some z ∧ Value.int .i64 z = u := by
      rw [List.getElem?_map] at hj
      exact Option.map_eq_some_iff.1 hj
    obtain ⟨ad, e, hc, hl⟩ := h j (List.getElem?_eq_some_iff.1 hz).1
    cases e
    rw [List.getD_eq_getElem?_getD, hz] at hc
    exact hc

theorem step_append_src {P : Program} {ops : Array Oper} {o : Oper} {a : Act} {w : World} {K : Act → World → Prop} {Q : Exit → Act → World → Prop} {E : Prop}
    (hg : o.guard = none) (s x : Operand) (t : TypeId) (hop : o.op = Op.call { callee := Callee.builtin Builtin.append, args := #[s, x], argTypes := #[t, t] })
    (e : TypeId) (i : TypeInfo) (size : Nat) (h1 : P.underlying t = some (.slice e)) (h2 : P.info? e = some i) (h4 : i.size = size)
    (b off n cap : Nat) (hs : a.eval s = .slice (some ⟨b, off, none⟩) n cap)
    (xv : Value) (m : Nat) (news : List Value) (hx : a.eval x = xv) (hsrc : Src P size t xv m news w)
    (hroom : n + m ≤ cap) (hspare : ∀ j, j < news.length → (w.cell? ⟨b, off + n * size + j, none⟩).isSome = true ∧ w.frozen? ⟨b, off + n * size + j, none⟩ = false)
    (hK : K (a.put o.dst (.slice (some ⟨b, off, none⟩) (n + m) cap)) (w.setCells b (off + n * size) news)) :
    if Region.wanted o (yielded ops a.tmps) = true then Oper.wp P o a w K Q else E := by
  have hw : Region.wanted o (yielded ops a.tmps) = true := by simp [Region.wanted, hg]
  rw [if_pos hw]
  subst h4
  have hrun := run_append_room_src (P := P) w t t o.type e i h1 h2 b off n cap xv m news hsrc hroom (fun j hj => (hspare j hj).1) (fun j hj => (hspare j hj).2)
  unfold Oper.wp
  simp [execOp, hop, resolve, invoke, builtin, hs, hx, hrun, Result.andThen]
  exact hK

theorem GS.go {W wr w' : World} {gb rb : Nat} {ws : List Nat} {bs : List Bool} (h : GS W gb rb ws bs wr) (k : Later wr w') : GS W gb rb ws bs w' :=
  ⟨h.later.step k, ⟨(k.block gb h.g.lt).trans h.g.1, h.g.2⟩, ⟨(k.block rb h.r.lt).trans h.r.1, h.r.2⟩, h.rel, h.hg, h.hr, h.ne⟩

theorem cycE_length (w : Nat → Nat) (a : Int) : (cycE w a).1.length ≤ 99 := by
  unfold cycE
  split
  · unfold cyc
    split
    · simp
    · simp only [List.length_cons, trail_length]
      have := (dd_le (w := w) (g := a.toNat) a.toNat).2.1
      omega
  · simp

/-- What a Cycle on either graph leaves. -/
def CycG (W : World) (gb rb : Nat) (ws : List Nat) (bs : List Bool) (q : List Nat × Bool) (wr : World) (e : Ending) (w' : World) : Prop :=
  ∃ A c, e = .returned (.tuple #[.slice A q.1.length c, .bool q.2]) ∧ Ints w' A (q.1.map Int.ofNat) ∧ GS W gb rb ws bs w' ∧ Later wr w'

theorem GS.cycle {W wr : World} {gb rb : Nat} {ws : List Nat} {bs : List Bool} (h : GS W gb rb ws bs wr) (st : Start W) (a : Int) :
    Calls Tryd.prog 28 #[.pointer (some ⟨gb, 0, none⟩), .int .i64 a] wr (CycG W gb rb ws bs (cycE (wf ws) a) wr) :=
  (cycle_any gb ws a wr h.g h.rel.gr (st.later h.later)).mono fun e w' ⟨A, c, he, hi, hl⟩ => ⟨A, c, he, hi, h.go hl, hl⟩

theorem GS.rcycle {W wr : World} {gb rb : Nat} {ws : List Nat} {bs : List Bool} (h : GS W gb rb ws bs wr) (a : Int) :
    Calls Tryd.prog 31 #[.pointer (some ⟨rb, 0, none⟩), .int .i64 a] wr (CycG W gb rb ws bs (cycE (wf ws) a) wr) :=
  (rcycle_all rb ws bs a wr h.r h.rel).mono fun e w' ⟨A, c, he, hi, hl⟩ => ⟨A, c, he, hi, h.go hl, hl⟩

theorem ints_same (L : List Nat) (hL : L.length ≤ 99) (A : Option Addr) (c : Nat) (A' : Option Addr) (c' : Nat) (w : World) (h0 : Ints w A (L.map Int.ofNat)) (h1 : Ints w A' (L.map Int.ofNat)) :
    Calls Tryd.prog 19 #[.slice A L.length c, .slice A' L.length c'] w fun e w' => e = .returned (.bool true) ∧ Later w w' := by
  have h := ints_any A c (L.map Int.ofNat) A' c' (L.map Int.ofNat) w h0 h1 (by simp; omega) (by simp; omega)
  rw [List.length_map] at h
  exact h.mono fun e w' ⟨he, n, hn⟩ => ⟨by rw [he]; simp, by rw [hn]; exact later_drewN _ _⟩
end Go.Proofs.YtmfjncbccaifiaaDoor
