/- slices.AppendSeq and slices.Collect over lock.members' closure. -/
import Derived.Test.YtmfjncbccaifiaaDoorA1
namespace Go.Proofs.YtmfjncbccaifiaaDoor
open Go.RowKit Go.Shelf
set_option linter.unusedVariables false
set_option linter.unusedSimpArgs false

def encN (x : Nat) : Value := .int .i64 (x : Int)

def apAssign : Code := (Code.region 2 #[{ dst := some 5, op := Op.assign (Operand.tmp 7), type := 3, pos := "iter.go:51", after := #[], guard := none }] false)
def apBody : Code := (Code.block 1 (Code.region 3 #[{ dst := some 8, op := Op.load 27 (Operand.tmp 2), type := 27, pos := "iter.go:52", after := #[], guard := none }, { dst := some 9, op := Op.move (Operand.tmp 5), type := 3, pos := "iter.go:52", after := #[], guard := none }, { dst := some 10, op := Op.buildSlice 27 1 #[(0, Operand.tmp 9)], type := 27, pos := "iter.go:52", after := #[{ on := 1, ground := Ground.data }], guard := none }, { dst := some 11, op := Op.call { callee := Callee.builtin Builtin.append, args := #[Operand.tmp 8, Operand.tmp 10], argTypes := #[27, 27] }, type := 27, pos := "iter.go:52", after := #[{ on := 0, ground := Ground.data }, { on := 2, ground := Ground.data }], guard := none }, { dst := none, op := Op.store 27 (Operand.tmp 2) (Operand.tmp 11), type := 0, pos := "iter.go:52", after := #[{ on := 3, ground := Ground.data }, { on := 3, ground := Ground.chain }, { on := 0, ground := Ground.phase }, { on := 1, ground := Ground.phase }, { on := 2, ground := Ground.phase }, { on := 3, ground := Ground.phase }], guard := none }] false))
def apRec (fn : FuncId) (sv : Value) (Bs D : Nat) (st : LoopState) (pend : Option Code) : Loop :=
  { state := st, pending := pend, fn, tmps := #[.slice none 0 0, sv, .pointer (some ⟨Bs, 0, none⟩), undef, .slice none 0 0, undef, sv, undef, undef, undef, undef, undef, undef], params := #[7], assign := apAssign, body := apBody, defers := D }

structure ApAt (n₀ : Nat) (w0 : World) (fn : FuncId) (sv : Value) (Bs l D Bm : Nat) (ss : List Nat) (W : World) : Prop where
  box : ∃ v, W.heap[Bs]? = some (.cells #[v] 27 (0, 0)) ∧ W.ownsRow n₀ 3 1 v ss.length (ss.map encN) ∧ (v = .slice none 0 0 ↔ ss = [])
  L : W.heap[l]? = some (.loop (apRec fn sv Bs D .ready none))
  K : W.heap[D]? = some (.deferred (some []))
  below : Below n₀ w0 W
  M : ∃ u, Boxed W Bm 22 u

theorem ownsRow_ne' {W : World} {base : Nat} {e : TypeId} {size : Nat} {v : Value} {k : Nat} {xs : List Value} (h : W.ownsRow base e size v k xs) {j : Nat} {o : Obj} (hj : W.heap[j]? = some o) (hno : ∀ cur, o ≠ .cells cur e (0, 0)) :
    v.ownBlock = none ∨ v.ownBlock ≠ some j := by
  rcases h.2 with ⟨rfl, _⟩ | ⟨g, cap, cur, rfl, _, hgb, _⟩
  · exact .inl rfl
  · refine .inr fun e' => ?_
    have : g = j := by simpa [Value.ownBlock] using e'
    subst this; rw [hgb] at hj; cases hj; exact hno cur rfl

theorem ApAt.set {n₀ : Nat} {w0 : World} {fn : FuncId} {sv : Value} {Bs l D Bm : Nat} {ss : List Nat} {W : World} (h : ApAt n₀ w0 fn sv Bs l D Bm ss W) (hm : n₀ ≤ Bm) (v' : Value) :
    ApAt n₀ w0 fn sv Bs l D Bm ss (W.setCell ⟨Bm, 0, none⟩ v') := by
  obtain ⟨v, hv, hr, hn⟩ := h.box
  obtain ⟨u, hu⟩ := h.M
  have hu' : W.heap[Bm]? = some (.cells #[u] 22 (0, 0)) := hu
  have ne1 : Bs ≠ Bm := by rintro rfl; rw [hv] at hu'; cases hu'
  have ne2 : l ≠ Bm := by rintro rfl; rw [h.L] at hu'; cases hu'
  have ne3 : D ≠ Bm := by rintro rfl; rw [h.K] at hu'; cases hu'
  exact ⟨⟨v, (Below.heap_setCell W _ v' Bs ne1).trans hv, hr.kept (grownBy_setCell' W Bm v') (ownsRow_ne' hr hu' (fun cur e => by cases e)), hn⟩,
    (Below.heap_setCell W _ v' l ne2).trans h.L, (Below.heap_setCell W _ v' D ne3).trans h.K, h.below.setCell (p := ⟨Bm, 0, none⟩) hm v', ⟨_, hu.set v'⟩⟩

theorem infoInt : (Tryd.prog.info? 3).map (fun i => (i.zero, i.size, i.bytes)) = some (some (.int .i64 0), 1, 8) := by kernel_rfl

theorem cell_of_box' {W : World} {B : Nat} {v : Value} {t : TypeId} (h : W.heap[B]? = some (.cells #[v] t (0, 0))) : W.cell? ⟨B, 0, none⟩ = some v ∧ W.frozen? ⟨B, 0, none⟩ = false := by
  constructor <;> simp [World.cell?, World.frozen?, h]

attribute [local go_sem] Oper.semAt_some
set_option maxRecDepth 100000 in
set_option maxHeartbeats 2000000 in
theorem apYield (F : Fence) (m : Nat) (n₀ : Nat) (w0 : World) (fn : FuncId) (hfn : F.fn fn) (sv : Value) (Bs l D Bm : Nat) (hBl : Bs ≠ l) (hDl : D ≠ l) (hDB : D ≠ Bs) (h0 : n₀ ≤ w0.heap.size) (h0B : n₀ ≤ Bs) (h0l : n₀ ≤ l)
    (ss : List Nat) (x : Nat) (W : World) (h : ApAt n₀ w0 fn sv Bs l D Bm ss W) (hlen : ss.length < 64) :
    YieldAt F m Tryd.prog l #[.int .i64 (x : Int)] W fun e W' => e = .returned (.bool true) ∧ ApAt n₀ w0 fn sv Bs l D Bm (ss ++ [x]) W' ∧ (∀ u, Boxed W Bm 22 u → Boxed W' Bm 22 u) := by
  obtain ⟨i0, hi, hz0, hz1, hz2⟩ := info_parts infoInt
  obtain ⟨v, hv, hrow, _⟩ := h.box
  obtain ⟨um, hum⟩ := h.M
  have hum' : W.heap[Bm]? = some (.cells #[um] 22 (0, 0)) := hum
  have neM1 : Bs ≠ Bm := by rintro rfl; rw [hv] at hum'; cases hum'
  have neM2 : l ≠ Bm := by rintro rfl; rw [h.L] at hum'; cases hum'
  refine ⟨fn, #[.slice none 0 0, sv, .pointer (some ⟨Bs, 0, none⟩), undef, .slice none 0 0, undef, sv, .int .i64 (x : Int), undef, undef, undef, undef, undef], apAssign, apBody, by simpa [apRec] using run_yield (P := Tryd.prog) (args := #[.int .i64 (x : Int)]) h.L rfl, roundIn_of_wpIn hfn ?_⟩
  have hl : l < W.heap.size := (Array.getElem?_eq_some_iff.1 h.L).1
  have hbr := run_beginRound (P := Tryd.prog) h.L rfl
  obtain ⟨W2, hW2⟩ : ∃ W2, W.putObj l (.loop { apRec fn sv Bs D .ready none with state := .busy }) = W2 := ⟨_, rfl⟩
  rw [hW2] at hbr
  have hg2 : W.grownBy W2 (some l) := by rw [← hW2]; exact grownBy_putObj' _ _ _
  have hv2 : W2.heap[Bs]? = some (.cells #[v] 27 (0, 0)) := by rw [← hW2]; exact (World.putObj_heap_other hBl).trans hv
  have hm2 : W2.heap[Bm]? = some (.cells #[um] 22 (0, 0)) := by rw [← hW2]; exact (World.putObj_heap_other (Ne.symm neM2)).trans hum'
  have hK2 : W2.heap[D]? = some (.deferred (some [])) := by rw [← hW2]; exact (World.putObj_heap_other hDl).trans h.K
  have hL2 : W2.heap[l]? = some (.loop { apRec fn sv Bs D .ready none with state := .busy }) := by rw [← hW2]; exact World.putObj_heap_same hl
  have hrow2 : W2.ownsRow n₀ 3 1 v ss.length (ss.map encN) := hrow.kept hg2 (ownsRow_ne' hrow h.L (fun cur e => by cases e))
  have hb2 : Below n₀ w0 W2 := h.below.grown hg2 (Nat.le_trans h0 h.below.size) (fun k e => by cases e; exact h0l)
  obtain ⟨hc2, hf2⟩ := cell_of_box' hv2
  have hBlt : Bs < W2.heap.size := (Array.getElem?_eq_some_iff.1 hv2).1
  have hMlt : Bm < W2.heap.size := (Array.getElem?_eq_some_iff.1 hm2).1
  have hl2 : l < W2.heap.size := (Array.getElem?_eq_some_iff.1 hL2).1
  have hDlt : D < W2.heap.size := (Array.getElem?_eq_some_iff.1 hK2).1
  have ne_of : ∀ {j : Nat} {o : Obj}, W2.heap[j]? = some o → (∀ cur, o ≠ .cells cur 3 (0, 0)) → some j ≠ v.ownBlock := fun hj hno => by
    rcases ownsRow_ne' hrow2 hj hno with e | e
    · rw [e]; simp
    · exact fun e' => e e'.symm
  clear hW2
  unfold apAssign
  gi_wp2
  unfold apBody
  gi_big_wp2_with (first
    | (gi_at_builtin; refine wpListIn_append_own _ rfl _ _ 27 rfl n₀ 3 i0 (.int .i64 0) 1 8 Tryd.underlying27 hi hz0 hz1 hz2 rfl (by decide) _ _ _ rfl (hrow2.alloc _) ⟨W2.heap.size, 0, none⟩ 1 1 [.int .i64 (x : Int)] rfl rfl (cell_one_new _ _ _) (by simp [Value.oneCell']) (by unfold maxLen; omega) (by omega) (by have := hb2.size; simp; omega) ?_; intro v' w3 hown' hg3 hnil3
       have hv3 : w3.heap[Bs]? = some (.cells #[v] 27 (0, 0)) := (hg3.block Bs (by simp; omega) (ne_of hv2 (fun cur e => by cases e))).trans ((Below.heap_alloc _ _ Bs hBlt).trans hv2)
       obtain ⟨hc3, hf3⟩ := cell_of_box' hv3
       obtain ⟨g', cap', rfl⟩ := ownsRow_succ hown'))
  have hg3' : (W2.alloc (.cells #[encN x] 3)).grownBy w3 v.ownBlock := hg3
  have hL3 : w3.heap[l]? = some (.loop { apRec fn sv Bs D .ready none with state := .busy }) := (hg3'.block l (by simp; omega) (ne_of hL2 (fun cur e => by cases e))).trans ((Below.heap_alloc _ _ l hl2).trans hL2)
  have hK3 : w3.heap[D]? = some (.deferred (some [])) := (hg3'.block D (by simp; omega) (ne_of hK2 (fun cur e => by cases e))).trans ((Below.heap_alloc _ _ D hDlt).trans hK2)
  have hm3 : w3.heap[Bm]? = some (.cells #[um] 22 (0, 0)) := (hg3'.block Bm (by simp; omega) (ne_of hm2 (fun cur e => by cases e))).trans ((Below.heap_alloc _ _ Bm hMlt).trans hm2)
  obtain ⟨w4, hw4⟩ : ∃ w4, w3.setCell ⟨Bs, 0, none⟩ (.slice (some ⟨g', 0, none⟩) (ss.length + 1) cap') = w4 := ⟨_, rfl⟩
  rw [hw4]
  have hg4 : w3.grownBy w4 (some Bs) := by rw [← hw4]; exact grownBy_setCell' _ _ _
  have hv4 : w4.heap[Bs]? = some (.cells #[.slice (some ⟨g', 0, none⟩) (ss.length + 1) cap'] 27 (0, 0)) := by rw [← hw4]; exact Boxed.set (B := Bs) (t := 27) _ hv3
  have hL4 : w4.heap[l]? = some (.loop { apRec fn sv Bs D .ready none with state := .busy }) := (hg4.block l (Array.getElem?_eq_some_iff.1 hL3).1 (fun e => hBl (by cases e; rfl))).trans hL3
  have hK4 : w4.heap[D]? = some (.deferred (some [])) := (hg4.block D (Array.getElem?_eq_some_iff.1 hK3).1 (fun e => hDB (by cases e; rfl))).trans hK3
  have hm4 : w4.heap[Bm]? = some (.cells #[um] 22 (0, 0)) := (hg4.block Bm (Array.getElem?_eq_some_iff.1 hm3).1 (fun e => neM1 (by cases e; rfl))).trans hm3
  have hrow4 := hown'.kept hg4 (ownsRow_ne' hown' hv3 (fun cur e => by cases e))
  have hl4 : l < w4.heap.size := (Array.getElem?_eq_some_iff.1 hL4).1
  have hn2 : n₀ ≤ W2.heap.size := Nat.le_trans h0 hb2.size
  have hb3 : Below n₀ w0 w3 := (hb2.alloc hn2 _).grown hg3' (by simp; omega) (fun k e => (hrow2.lt k e).1)
  have hb4 : Below n₀ w0 w4 := hb3.grown hg4 (Nat.le_trans h0 hb3.size) (fun k e => by cases e; exact h0B)
  clear hw4
  refine ⟨_, _, run_endRound none hL4, rfl, ⟨⟨_, (World.putObj_heap_other hBl).trans hv4, ?_, by simp⟩, World.putObj_heap_same hl4, (World.putObj_heap_other hDl).trans hK4, hb4.grown (grownBy_putObj' _ _ _) (Nat.le_trans h0 hb4.size) (fun k e => by cases e; exact h0l), ⟨_, (World.putObj_heap_other (Ne.symm neM2)).trans hm4⟩⟩, ?_⟩
  · have := hrow4.kept (grownBy_putObj' w4 l (.loop { { apRec fn sv Bs D .ready none with state := .busy } with state := if (none : Option Code).isNone then .ready else .done, pending := none })) (ownsRow_ne' hrow4 hL4 (fun cur e => by cases e))
    simpa [encN] using this
  · intro u hu
    have hu' : W.heap[Bm]? = some (.cells #[u] 22 (0, 0)) := hu
    rw [hum'] at hu'
    have : um = u := by simpa using hu'
    subst this
    exact (World.putObj_heap_other (Ne.symm neM2)).trans hm4

set_option maxRecDepth 100000 in
set_option maxHeartbeats 2000000 in
theorem appendSeq_in (F : Fence) (n : Nat) (h41 : F.fn 41) (h46 : F.fn 46) (h47 : F.fn 47) (hro : F.round = none) (hn : 4 ≤ n) (Bm m n₀ : Nat) (hm : m < 18446744073709551616) (w : World) (hM : Boxed w Bm 22 (.int .u64 (m : Int))) (hn₀ : n₀ ≤ Bm) (h0 : 0 < n₀) (hT : TabAt w) :
    CallsIn F n Tryd.prog 46 #[.slice none 0 0, .func (.func 47) #[] #[.pointer (some ⟨Bm, 0, none⟩)]] w fun e w' => ∃ (v : Value), e = .returned v ∧ w'.ownsRow n₀ 3 1 v (mem m).length ((mem m).map encN) ∧ (v = .slice none 0 0 ↔ mem m = []) ∧ Below n₀ w w' := by
  have h1 : 1 ≤ n := by omega
  have hMlt := hM.lt
  have hnw : n₀ ≤ w.heap.size := by omega
  refine callsIn_of_wp_marks Tryd.func46 rfl h46 ?_ hro
  simp only [Tryd.ntmps46, List.size_toArray, List.length_cons, List.length_nil, Nat.reduceAdd, Nat.reduceSub, Array.replicate_succ, Array.replicate_zero, List.push_toArray, List.append_toArray, List.nil_append, List.cons_append]
  gi_wp2
  refine wpIn_rangeFunc ?_
  intro fn hfn
  rw [hro]
  obtain ⟨W0, hW0⟩ : ∃ W0, w.alloc (.cells #[.slice none 0 0] 27) = W0 := ⟨_, rfl⟩
  have hs0 : W0.heap.size = w.heap.size + 1 := by rw [← hW0]; simp
  have hv0 : W0.heap[w.heap.size]? = some (.cells #[.slice none 0 0] 27 (0, 0)) := by rw [← hW0]; exact World.alloc_heap_new w _
  have hb0 : Below n₀ w W0 := by rw [← hW0]; exact (Below.refl _ w).alloc hnw _
  have hM0 : Boxed W0 Bm 22 (.int .u64 (m : Int)) := by rw [← hW0]; exact hM.alloc _
  rw [hW0]
  obtain ⟨W1, hW1⟩ : ∃ W1, (W0.alloc (.deferred (some []))).alloc (.loop (apRec fn (.func (.func 47) #[] #[.pointer (some ⟨Bm, 0, none⟩)]) w.heap.size W0.heap.size .ready none)) = W1 := ⟨_, rfl⟩
  have hold : ∀ k, k < W0.heap.size → W1.heap[k]? = W0.heap[k]? := fun k hk => by
    rw [← hW1]; exact (Below.heap_alloc _ _ k (by simp; omega)).trans (Below.heap_alloc _ _ k hk)
  have hb1 : Below n₀ w W1 := by rw [← hW1]; exact (hb0.alloc (by omega) _).alloc (by simp; omega) _
  have hs1 : W1.heap.size = W0.heap.size + 2 := by rw [← hW1]; simp
  have hM1 : Boxed W1 Bm 22 (.int .u64 (m : Int)) := by rw [← hW1]; exact (hM0.alloc _).alloc _
  have hA : ApAt n₀ w fn (.func (.func 47) #[] #[.pointer (some ⟨Bm, 0, none⟩)]) w.heap.size (W0.heap.size + 1) W0.heap.size Bm [] W1 :=
    ⟨⟨_, (hold w.heap.size (by omega)).trans hv0, ⟨rfl, .inl ⟨rfl, rfl⟩⟩, by simp⟩,
     by rw [← hW1]; have := World.alloc_heap_new (W0.alloc (.deferred (some []))) (.loop (apRec fn (.func (.func 47) #[] #[.pointer (some ⟨Bm, 0, none⟩)]) w.heap.size W0.heap.size .ready none)); rwa [World.size_alloc] at this,
     by rw [← hW1]; exact (Below.heap_alloc _ _ _ (by simp)).trans (World.alloc_heap_new W0 _), hb1, ⟨_, hM1⟩⟩
  refine ⟨W0.heap.size + 1, [{ target := .collected W0.heap.size, args := #[] }], W1, { target := .fn (.func 47) #[.pointer (some ⟨Bm, 0, none⟩)], args := #[.func (.yield (W0.heap.size + 1)) #[] #[]] }, W1, 47,
    #[.func (.yield (W0.heap.size + 1)) #[] #[]] ++ #[.pointer (some ⟨Bm, 0, none⟩)], W1, ?_, ?_, ?_, ?_, fun _ => h1, ?_⟩
  · rw [← hW1]; exact run_enterLoop_outer _ _ _ _ _
  · simp [resolve, go_sem]
  · intro f' hf'; simp [Target.leads] at hf'; subst hf'; exact h47
  · have eg : ∀ args w, (callFunc 47 args).run Tryd.prog w = .ok (.enter 47 args) w := enters_of Tryd.func47 (by kernel_rfl) rfl
    simp [invoke, go_sem, eg]
  · refine (mem1_in F (n - 1) h41 h47 hro (by omega) (W0.heap.size + 1) Bm m hm (ApAt n₀ w fn (.func (.func 47) #[] #[.pointer (some ⟨Bm, 0, none⟩)]) w.heap.size (W0.heap.size + 1) W0.heap.size Bm)
      (fun pre W hJ => fun j hj => (hJ.below.cell (p := ⟨0, j, none⟩) h0).trans (hT j hj))
      (fun pre W v hJ => hJ.set hn₀ v)
      (fun pre x W hJ hl _ => apYield F (n - 1 - 1) n₀ w fn hfn _ w.heap.size (W0.heap.size + 1) W0.heap.size Bm (by omega) (by omega) (by omega) hnw (by omega) (by omega) pre x W hJ hl) W1 hM1 hA).mono ?_
    rintro e W2 ⟨⟨v0, rfl⟩, h2⟩
    obtain ⟨v, hv, hrow, hnil⟩ := h2.box
    have hend := run_endLoop (P := Tryd.prog) h2.L (by simp [apRec])
    obtain ⟨W3, hW3⟩ : ∃ W3, W2.putObj (W0.heap.size + 1) (.loop { apRec fn (.func (.func 47) #[] #[.pointer (some ⟨Bm, 0, none⟩)]) w.heap.size W0.heap.size .ready none with state := .exhausted }) = W3 := ⟨_, rfl⟩
    rw [hW3] at hend
    have hg3 : W2.grownBy W3 (some (W0.heap.size + 1)) := by rw [← hW3]; exact grownBy_putObj' _ _ _
    have hv3 : W3.heap[w.heap.size]? = some (.cells #[v] 27 (0, 0)) := by rw [← hW3]; exact (World.putObj_heap_other (by omega)).trans hv
    have hK3 : W3.heap[W0.heap.size]? = some (.deferred (some [])) := by rw [← hW3]; exact (World.putObj_heap_other (by omega)).trans h2.K
    have hrow3 := hrow.kept hg3 (ownsRow_ne' hrow h2.L (fun cur e => by cases e))
    have hb3 : Below n₀ w W3 := h2.below.grown hg3 (Nat.le_trans hnw h2.below.size) (fun k e => by cases e; omega)
    obtain ⟨hc3, hf3⟩ := cell_of_box' hv3
    clear hW3
    refine ⟨none, W3, hend, ?_⟩
    gi_wp2
    rw [← hs0]
    refine ⟨by simp, .inl ⟨_, _, rfl, run_takeDeferred hK3, ?_⟩⟩
    exact ⟨_, results_tmp rfl _ _ _, v, rfl, hrow3.kept (grownBy_putObj' _ _ _) (ownsRow_ne' hrow3 hK3 (fun cur e => by cases e)), hnil, hb3.grown (grownBy_putObj' _ _ _) (Nat.le_trans hnw hb3.size) (fun k e => by cases e; omega)⟩

set_option maxHeartbeats 1000000 in
theorem collect_in (F : Fence) (n : Nat) (h35 : F.fn 35) (h41 : F.fn 41) (h46 : F.fn 46) (h47 : F.fn 47) (hro : F.round = none) (hn : 5 ≤ n) (Bm m n₀ : Nat) (hm : m < 18446744073709551616) (w : World) (hM : Boxed w Bm 22 (.int .u64 (m : Int))) (hn₀ : n₀ ≤ Bm) (h0 : 0 < n₀) (hT : TabAt w) :
    CallsIn F n Tryd.prog 35 #[.func (.func 47) #[] #[.pointer (some ⟨Bm, 0, none⟩)]] w fun e w' => ∃ (v : Value), e = .returned v ∧ w'.ownsRow n₀ 3 1 v (mem m).length ((mem m).map encN) ∧ (v = .slice none 0 0 ↔ mem m = []) ∧ Below n₀ w w' := by
  have h1 : 1 ≤ n := by omega
  refine callsIn_of_wp Tryd.func35 rfl h35 ?_ hro
  simp only [Tryd.ntmps35, List.size_toArray, List.length_cons, List.length_nil, Nat.reduceAdd, Nat.reduceSub, Array.replicate_succ, Array.replicate_zero, List.push_toArray, List.append_toArray, List.nil_append, List.cons_append]
  gi_big_wp2_with (gi_at_call 46; refine (appendSeq_in F (n - 1) h41 h46 h47 hro (by omega) Bm m n₀ hm _ hM hn₀ h0 hT).mono ?_; rintro e w' ⟨v, rfl, hrow, hnil, hb⟩)
  go_ret
  exact ⟨v, rfl, hrow, hnil, hb⟩

/-- slices.Collect(members(mask)): what 'Against' and 'Readers' hand back. -/
theorem collect_any (Bm m n₀ : Nat) (hm : m < 18446744073709551616) (w : World) (hM : Boxed w Bm 22 (.int .u64 (m : Int))) (hn₀ : n₀ ≤ Bm) (h0 : 0 < n₀) (hT : TabAt w) :
    Calls Tryd.prog 35 #[.func (.func 47) #[] #[.pointer (some ⟨Bm, 0, none⟩)]] w fun e w' => ∃ (v : Value), e = .returned v ∧ w'.ownsRow n₀ 3 1 v (mem m).length ((mem m).map encN) ∧ (v = .slice none 0 0 ↔ mem m = []) ∧ Below n₀ w w' :=
  (callsIn_wide (n := 5)).1 (collect_in Fence.wide 5 trivial trivial trivial trivial rfl (Nat.le_refl _) Bm m n₀ hm w hM hn₀ h0 hT)

theorem members_any (m : Int) (w : World) :
    Calls Tryd.prog 36 #[.int .u64 m] w fun e w' => e = .returned (.func (.func 47) #[] #[.pointer (some ⟨w.heap.size, 0, none⟩)]) ∧ w' = w.alloc (.cells #[.int .u64 m] 22) :=
  (callsIn_wide (n := 5)).1 (members_in Fence.wide 5 trivial rfl m w)
end Go.Proofs.YtmfjncbccaifiaaDoor
