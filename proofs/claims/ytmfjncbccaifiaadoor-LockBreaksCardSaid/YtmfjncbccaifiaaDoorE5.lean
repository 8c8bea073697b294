/- Ranges over functions: one that goes through, one that breaks at its first; slices.Backward; members' first. -/
import Derived.Test.YtmfjncbccaifiaaDoorE4
namespace Go.Proofs.YtmfjncbccaifiaaDoor
open Go.RowKit Go.Shelf
set_option linter.unusedVariables false
set_option linter.unusedSimpArgs false

section
variable {F : Fence} {n : Nat} {P : Program}

/-- A range over a function within a round of loop l₀, whose body leaves the loop at its first round. -/
theorem rf_break {g : Operand} {ps : Array Tmp} {assign body : Code} {Q : Exit → Act → World → Prop} {a : Act} {w : World}
    {l₀ : Nat} {r₀ : Loop} (hro : F.round = some l₀) (hl₀ : w.heap[l₀]? = some (.loop r₀)) (h1 : 1 ≤ n) {gf : Nat} {lb : Array Value} (hg : a.eval g = .func (.func gf) #[] lb) (hFg : F.fn gf) (eg : ∀ args w, (callFunc gf args).run P w = .ok (.enter gf args) w)
    {enc : Array Value} (hps : enc.size = ps.size)
    (hseq : ∀ (l : Nat) (Post : World → Prop) (W : World), Below w.heap.size w W → YieldAt F (n - 1 - 1) P l enc W (fun e W' => e = .returned (.bool false) ∧ Post W') →
      CallsIn F (n - 1) P gf (#[.func (.yield l) #[] #[]] ++ lb) W fun e W' => (∃ v, e = .returned v) ∧ Post W')
    {id : Nat} (I₀ Ix : World → Prop) (hI₀ : OwnFrom w.heap.size (fun (_ : Unit) => I₀)) (hIx : OwnFrom w.heap.size (fun (_ : Unit) => Ix)) (h0 : I₀ w) (a₁ : Act)
    (hassign : ∀ (W : World) (K : Act → World → Prop), K a₁ W → assign.wpIn (F.inRound w.heap.size) (n - 1 - 1) P (Exit.then K (fun _ _ _ => False)) { tmps := (ps.zip enc).foldl (fun t (p, v) => t.setIfInBounds p v) a.tmps, defers := [] } W)
    (hbody : ∀ W, I₀ W → body.wpIn (F.inRound w.heap.size) (n - 1 - 1) P (fun e _ W' => e = .exit id ∧ KeepsFrom w.heap.size W W' ∧ Ix W') a₁ W)
    (hstop : ∀ W, Ix W → (Code.exit id).wpIn F n P Q a W) :
    (Code.rangeFunc g ps assign body).wpIn F n P Q a w := by
  refine wpIn_rangeFunc ?_
  intro fn hfn
  rw [hro]
  obtain ⟨rec, hrec⟩ : ∃ rec : LoopState → Option Code → Loop, rec = fun st pe => { state := st, pending := pe, fn, tmps := a.tmps, params := ps, assign, body, defers := r₀.defers } := ⟨_, rfl⟩
  obtain ⟨W1, hW1⟩ : ∃ W1, w.alloc (.loop (rec .ready none)) = W1 := ⟨_, rfl⟩
  have hL1 : W1.heap[w.heap.size]? = some (.loop (rec .ready none)) := by rw [← hW1]; exact World.alloc_heap_new w _
  have hb1 : Below w.heap.size w W1 := by rw [← hW1]; exact (Below.refl _ w).alloc (Nat.le_refl _) _
  have hI1 : I₀ W1 := by rw [← hW1]; exact hI₀.alloc (s := ()) _ h0
  refine ⟨w.heap.size, [], W1, { target := .fn (.func gf) lb, args := #[.func (.yield w.heap.size) #[] #[]] }, W1, gf,
    #[.func (.yield w.heap.size) #[] #[]] ++ lb, W1, ?_, ?_, ?_, ?_, fun _ => h1, ?_⟩
  · rw [← hW1, hrec]; exact run_enterLoop_inner hl₀ _ _ _ _ _
  · simp only [resolve, hg]
    simp [go_sem]
  · intro f' hf'; simp [Target.leads] at hf'; subst hf'; exact hFg
  · simp [invoke, go_sem, eg]
  · refine (hseq w.heap.size (fun W => Ix W ∧ W.heap[w.heap.size]? = some (.loop (rec .done (some (.exit id))))) W1 hb1 ?_).mono ?_
    · have hlt : w.heap.size < W1.heap.size := (Array.getElem?_eq_some_iff.1 hL1).1
      have hy := run_yield (P := P) (args := enc) hL1 (by rw [hrec]; exact hps)
      rw [hrec] at hy
      refine ⟨fn, _, assign, body, hy, roundIn_of_wpIn hfn (hassign W1 _ ?_)⟩
      refine ⟨_, run_beginRound hL1 (by rw [hrec]), ?_⟩
      have hl2 : (W1.putObj w.heap.size (.loop { rec .ready none with state := .busy })).heap[w.heap.size]? = some (.loop { rec .ready none with state := .busy }) := World.putObj_heap_same hlt
      refine wpIn_mono (hbody _ (hI₀.putObj (s := ()) _ hI1 (Nat.le_refl _) hL1 rfl)) ?_
      rintro e a3 W3 ⟨rfl, hk3, hi3⟩
      have hl3 := hk3.same _ _ (Nat.le_refl _) hl2 rfl
      have hr := run_endRound (P := P) (some (.exit id)) hl3
      refine ⟨_, _, hr, rfl, hIx.putObj (s := ()) _ hi3 (Nat.le_refl _) hl3 rfl, ?_⟩
      rw [hrec]
      exact World.putObj_heap_same (Array.getElem?_eq_some_iff.1 hl3).1
    · rintro e W2 ⟨⟨v, rfl⟩, hi, hl⟩
      exact ⟨some (.exit id), _, by have := run_endLoop (P := P) hl (by rw [hrec]; simp); rw [hrec] at this; exact this, hstop _ (hIx.putObj (s := ()) _ hi (Nat.le_refl _) hl rfl)⟩

/-- A range over a function that goes through all of its N rounds. -/
theorem rf_all {g : Operand} {ps : Array Tmp} {assign body : Code} {Q : Exit → Act → World → Prop} {a : Act} {w : World}
    (hro : F.round = none) (h1 : 1 ≤ n) {gf : Nat} {lb : Array Value} (hg : a.eval g = .func (.func gf) #[] lb) (hFg : F.fn gf) (eg : ∀ args w, (callFunc gf args).run P w = .ok (.enter gf args) w)
    {encs : Nat → Array Value} {N : Nat} (hps : ∀ x, (encs x).size = ps.size) (Fact : World → Prop)
    (hseq : ∀ (l : Nat) (J : Nat → World → Prop) (W : World), (∀ k W, J k W → Fact W) → (∀ k W, k < N → J k W → YieldAt F (n - 1 - 1) P l (encs k) W (fun e W' => e = .returned (.bool true) ∧ J (k + 1) W')) → J 0 W →
      CallsIn F (n - 1) P gf (#[.func (.yield l) #[] #[]] ++ lb) W fun e W' => (∃ v, e = .returned v) ∧ J N W')
    (I : Nat → World → Prop) (hI : OwnFrom w.heap.size I) (hIF : ∀ k W, I k W → Fact W) (h0 : I 0 w) (a₁ : Nat → Act)
    (hassign : ∀ (l k : Nat) (W : World) (K : Act → World → Prop), K (a₁ k) W → assign.wpIn (F.inRound l) (n - 1 - 1) P (Exit.then K (fun _ _ _ => False)) { tmps := (ps.zip (encs k)).foldl (fun t (p, v) => t.setIfInBounds p v) a.tmps, defers := [] } W)
    (hbody : ∀ (l k : Nat) (W : World), w.heap.size ≤ l → (∃ r, W.heap[l]? = some (.loop r)) → I k W → k < N → body.wpIn (F.inRound l) (n - 1 - 1) P (fun e _ W' => e = .normal ∧ KeepsFrom w.heap.size W W' ∧ I (k + 1) W') (a₁ k) W)
    (hdone : ∀ (D : Nat) (W : World), w.heap.size ≤ D → I N W → W.heap[D]? = some (.deferred (some [])) → Q .normal { a with defers := { target := .collected D, args := #[] } :: a.defers } W) :
    (Code.rangeFunc g ps assign body).wpIn F n P Q a w := by
  refine wpIn_rangeFunc ?_
  intro fn hfn
  rw [hro]
  obtain ⟨rec, hrec⟩ : ∃ rec : LoopState → Option Code → Loop, rec = fun st pe => { state := st, pending := pe, fn, tmps := a.tmps, params := ps, assign, body, defers := w.heap.size } := ⟨_, rfl⟩
  obtain ⟨W1, hW1⟩ : ∃ W1, (w.alloc (.deferred (some []))).alloc (.loop (rec .ready none)) = W1 := ⟨_, rfl⟩
  have hL1 : W1.heap[w.heap.size + 1]? = some (.loop (rec .ready none)) := by
    rw [← hW1]; have := World.alloc_heap_new (w.alloc (.deferred (some []))) (.loop (rec .ready none)); rwa [World.size_alloc] at this
  have hK1 : W1.heap[w.heap.size]? = some (.deferred (some [])) := by
    rw [← hW1]; exact (Below.heap_alloc _ _ _ (by simp)).trans (World.alloc_heap_new w _)
  have hI1 : I 0 W1 := by rw [← hW1]; exact hI.alloc _ (hI.alloc _ h0)
  refine ⟨w.heap.size + 1, [{ target := .collected w.heap.size, args := #[] }], W1, { target := .fn (.func gf) lb, args := #[.func (.yield (w.heap.size + 1)) #[] #[]] }, W1, gf,
    #[.func (.yield (w.heap.size + 1)) #[] #[]] ++ lb, W1, ?_, ?_, ?_, ?_, fun _ => h1, ?_⟩
  · rw [← hW1, hrec]; exact run_enterLoop_outer _ _ _ _ _
  · simp only [resolve, hg]
    simp [go_sem]
  · intro f' hf'; simp [Target.leads] at hf'; subst hf'; exact hFg
  · simp [invoke, go_sem, eg]
  · refine (hseq (w.heap.size + 1) (fun k W => I k W ∧ W.heap[w.heap.size + 1]? = some (.loop (rec .ready none)) ∧ W.heap[w.heap.size]? = some (.deferred (some []))) W1 (fun k W h => hIF k W h.1) ?_ ⟨hI1, hL1, hK1⟩).mono ?_
    · rintro k W hk ⟨hi, hl, hd⟩
      have hlt : w.heap.size + 1 < W.heap.size := (Array.getElem?_eq_some_iff.1 hl).1
      have hy := run_yield (P := P) (args := encs k) hl (by rw [hrec]; exact hps k)
      rw [hrec] at hy
      refine ⟨fn, _, assign, body, hy, roundIn_of_wpIn hfn (hassign _ k W _ ?_)⟩
      refine ⟨_, run_beginRound hl (by rw [hrec]), ?_⟩
      have hl2 : (W.putObj (w.heap.size + 1) (.loop { rec .ready none with state := .busy })).heap[w.heap.size + 1]? = some (.loop { rec .ready none with state := .busy }) := World.putObj_heap_same hlt
      have hd2 : (W.putObj (w.heap.size + 1) (.loop { rec .ready none with state := .busy })).heap[w.heap.size]? = some (.deferred (some [])) := (World.putObj_heap_other (by omega)).trans hd
      refine wpIn_mono (hbody _ k _ (by omega) ⟨_, hl2⟩ (hI.putObj _ hi (by omega) hl rfl) hk) ?_
      rintro e a3 W3 ⟨rfl, hk3, hi3⟩
      have hl3 := hk3.same _ _ (by omega) hl2 rfl
      have hd3 := hk3.same _ _ (Nat.le_refl _) hd2 rfl
      have hr := run_endRound (P := P) none hl3
      refine ⟨_, _, hr, rfl, hI.putObj _ hi3 (by omega) hl3 rfl, ?_, (World.putObj_heap_other (by omega)).trans hd3⟩
      rw [hrec]
      exact World.putObj_heap_same (Array.getElem?_eq_some_iff.1 hl3).1
    · rintro e W2 ⟨⟨v, rfl⟩, hi, hl, hd⟩
      exact ⟨none, _, by have := run_endLoop (P := P) hl (by rw [hrec]; simp); rw [hrec] at this; exact this, hdone w.heap.size _ (Nat.le_refl _) (hI.putObj _ hi (by omega) hl rfl) ((World.putObj_heap_other (by omega)).trans hd)⟩
end

set_option maxRecDepth 100000 in
set_option maxHeartbeats 1000000 in
/-- lock.members' closure where its first round says 'no more'. -/
theorem mem1_first (F : Fence) (n : Nat) (h41 : F.fn 41) (h47 : F.fn 47) (hro : F.round = none) (hn : 2 ≤ n) (l Bm m : Nat) (hm : m < 18446744073709551616) (hm0 : m ≠ 0) (Post : World → Prop)
    (W : World) (hT : TabAt W) (hB : Boxed W Bm 22 (.int .u64 (m : Int)))
    (hY : YieldAt F (n - 1) Tryd.prog l #[.int .i64 ((Lib.ctz 64 m : Nat) : Int)] W fun e W' => e = .returned (.bool false) ∧ Post W') :
    CallsIn F n Tryd.prog 47 #[.func (.yield l) #[] #[], .pointer (some ⟨Bm, 0, none⟩)] W fun e W' => (∃ v, e = .returned v) ∧ Post W' := by
  have h1 : 1 ≤ n := by omega
  have htz := tz_in F (n - 1) h41 hro m hm hm0 W hT
  have hc := hB.cell
  have hf := hB.frozen
  have hc0 : decide (0 < m) = true := by rw [decide_eq_true_iff]; omega
  have hc1 : decide ((0 : Int) < (m : Int)) = true := by rw [decide_eq_true_iff]; omega
  have hk1 : (0 : Int) < (m : Int) := by omega
  obtain ⟨c, hcc⟩ : ∃ c, Lib.ctz 64 m = c := ⟨_, rfl⟩
  rw [hcc] at htz hY
  obtain ⟨fn, tmps, assign, body, hy, hR⟩ := hY
  clear hm hT hB hcc hm0
  refine callsIn_of_wp Tryd.func47 rfl h47 ?_ hro
  simp only [Tryd.ntmps47, List.size_toArray, List.length_cons, List.length_nil, Nat.reduceAdd, Nat.reduceSub, Array.replicate_succ, Array.replicate_zero, List.push_toArray, List.append_toArray, List.nil_append, List.cons_append]
  gi_wp2
  gi_loopw [3] (fun _ wr => wr = W) (fun _ wr => 0)
  case atStart => rfl
  case round =>
    subst hrel
    gi_big_wp2_with (gi_at_call 41; refine htz.mono ?_; rintro e w' ⟨rfl, rfl⟩)
    refine hR.mono ?_
    rintro e W3 ⟨rfl, hp⟩
    gi_wp2
    refine bodyPost_ret (results_none rfl _ _ _) rfl ?_
    exact ⟨⟨_, rfl⟩, hp⟩

/-- slices.Backward over masks. -/
theorem backward_in (F : Fence) (n : Nat) (h43 : F.fn 43) (hro : F.round = none) (A : Option Addr) (k c : Nat) (w : World) :
    CallsIn F n Tryd.prog 43 #[.slice A k c] w fun e w' => e = .returned (.func (.func 48) #[] #[.pointer (some ⟨w.heap.size, 0, none⟩)]) ∧ w' = w.alloc (.cells #[.slice A k c] 72) := by
  refine callsIn_of_wp Tryd.func43 rfl h43 ?_ hro
  simp only [Tryd.ntmps43, List.size_toArray, List.length_cons, List.length_nil, Nat.reduceAdd, Nat.reduceSub, Array.replicate_succ, Array.replicate_zero, List.push_toArray, List.append_toArray, List.nil_append, List.cons_append]
  gi_wp2
  go_ret
  exact ⟨rfl, rfl⟩

/-- What the iterator reads: its box, the row. -/
structure BackFact (Bb rb c N : Nat) (xs : Nat → Nat) (W : World) : Prop where
  box : Boxed W Bb 72 (.slice (some ⟨rb, 0, none⟩) N c)
  row : ∀ i, i < N → W.cell? ⟨rb, i, none⟩ = some (.int .u64 ((xs i : Nat) : Int))

set_option maxRecDepth 100000 in
set_option maxHeartbeats 1000000 in
theorem back1_in (F : Fence) (n : Nat) (h48 : F.fn 48) (hro : F.round = none) (hn : 1 ≤ n) (Bb rb c N : Nat) (xs : Nat → Nat) (hN : N ≤ 100) (l : Nat) (J : Nat → World → Prop) (W : World) (hJ : ∀ k W, J k W → BackFact Bb rb c N xs W)
    (hY : ∀ k W, k < N → J k W → YieldAt F (n - 1) Tryd.prog l #[.int .i64 ((N - 1 - k : Nat) : Int), .int .u64 ((xs (N - 1 - k) : Nat) : Int)] W (fun e W' => e = .returned (.bool true) ∧ J (k + 1) W')) (h0 : J 0 W) :
    CallsIn F n Tryd.prog 48 #[.func (.yield l) #[] #[], .pointer (some ⟨Bb, 0, none⟩)] W fun e W' => (∃ v, e = .returned v) ∧ J N W' := by
  have hF0 := hJ _ _ h0
  have hc := hF0.box.cell
  have HJ := Lib.hid hJ
  have HY := Lib.hid hY
  have H0 := Lib.hid h0
  clear hJ hY h0 hF0
  refine callsIn_of_wp Tryd.func48 rfl h48 ?_ hro
  simp only [Tryd.ntmps48, List.size_toArray, List.length_cons, List.length_nil, Nat.reduceAdd, Nat.reduceSub, Array.replicate_succ, Array.replicate_zero, List.push_toArray, List.append_toArray, List.nil_append, List.cons_append]
  gi_wp2
  gi_loopw [3] (fun i wr => ∃ k, k ≤ N ∧ i = .int .i64 ((N : Int) - 1 - k) ∧ Hid (J k wr)) (fun i _ => (intOf i + 1).toNat)
  case atStart => exact ⟨0, Nat.zero_le _, by simp, H0⟩
  case round =>
    clear hc
    obtain ⟨k, hk, rfl, hj⟩ := hrel
    by_cases hlt : k < N
    · have hB := HJ.out _ _ hj.out
      have hc := hB.box.cell
      obtain ⟨i, hi⟩ : ∃ i, i = N - 1 - k := ⟨_, rfl⟩
      have hr := hB.row i (by omega)
      obtain ⟨fn, tmps, assign, body, hy, hR⟩ := HY.out k wr hlt hj.out
      rw [← hi] at hy
      have e1 : (N : Int) - 1 - k = (i : Int) := by omega
      have HE := Lib.hid e1
      have HI := Lib.hid hi
      have hiN : i < N := by omega
      rw [e1]
      clear e1 hi hB
      gi_big_wp2_with (fail)
      refine hR.mono ?_
      rintro e W3 ⟨rfl, hp⟩
      gi_wp2
      go_roundw
      case rel => exact ⟨k + 1, by omega, by have := HE.out; congr 1 <;> omega, Lib.hid hp⟩
      case measure => have := HE.out; simp [intOf] <;> omega
    · have hkN : k = N := by omega
      subst hkN
      have e1 : (k : Int) - 1 - k = -1 := by omega
      rw [e1]
      gi_wp2
      go_end0
      exact ⟨⟨_, rfl⟩, hj.out⟩
end Go.Proofs.YtmfjncbccaifiaaDoor
