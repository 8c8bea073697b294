/- Graph.Cycle of the lock layer: the search. -/
import Derived.Test.YtmfjncbccaifiaaDoorE5
import Derived.Stop.RegionWithIn
import Derived.Lib.OwnKind
import Derived.BigRegionIn
namespace Go.Proofs.YtmfjncbccaifiaaDoor
open Go.RowKit Go.Shelf
set_option linter.unusedVariables false
set_option linter.unusedSimpArgs false

def metN (w : Nat → Nat) (g : Nat) : Nat → Nat
  | 0 => 0
  | n + 1 => M w g n
def ringN (w : Nat → Nat) (g : Nat) : Nat → Nat
  | 0 => 2 ^ g
  | n + 1 => R w g n
theorem metN_lt (w : Nat → Nat) (g n : Nat) : metN w g n < 65536 := by
  cases n with
  | zero => show 0 < 65536; decide
  | succ n => exact M_lt _
theorem ringN_lt {w : Nat → Nat} {g : Nat} (hg : g < 16) (n : Nat) : ringN w g n < 65536 := by
  cases n with
  | zero => exact pow_lt16 hg
  | succ n => exact R_lt _
theorem next_R (w : Nat → Nat) (g n : Nat) : pre w (ringN w g n) &&& (18446744073709551615 - metN w g n) = R w g n := by
  cases n with
  | zero =>
    apply Nat.eq_of_testBit_eq
    intro i
    rw [Nat.testBit_and, notMask (metN_lt w g 0)]
    show ((pre w (2 ^ g)).testBit i && (decide (i < 64) && !(0 : Nat).testBit i)) = (pre w (2 ^ g)).testBit i
    cases h : (pre w (2 ^ g)).testBit i
    · rfl
    · have := bits16 (pre_lt _ _) h
      have h64 : decide (i < 64) = true := by simp; omega
      rw [h64]; simp
  | succ n => rfl
theorem next_M (w : Nat → Nat) (g n : Nat) : metN w g n ||| pre w (ringN w g n) = M w g n := by
  cases n with
  | zero => exact Nat.zero_or _
  | succ n => rfl
theorem and_pow {x g : Nat} : x &&& 2 ^ g ≠ 0 ↔ x.testBit g = true := by
  rw [and_ne_zero]
  constructor
  · rintro ⟨k, h1, h2⟩
    rw [Nat.testBit_two_pow] at h2
    have : g = k := by simpa using h2
    subst this; exact h1
  · intro h; exact ⟨g, h, by rw [Nat.testBit_two_pow]; simp⟩
theorem next_goal {w : Nat → Nat} {g n : Nat} (hno : ∀ m, m < n → (R w g m).testBit g = false) : pre w (ringN w g n) &&& 2 ^ g ≠ 0 ↔ (R w g n).testBit g = true := by
  rw [and_pow]
  cases n with
  | zero => exact Iff.rfl
  | succ n =>
    have hM : (M w g n).testBit g = false := by
      cases h : (M w g n).testBit g
      · rfl
      · obtain ⟨m, hm, hR⟩ := R_of_M h
        rw [hno m (by omega)] at hR; cases hR
    rw [R_succ_bit, hM]
    simp [ringN]
theorem dd_none {w : Nat → Nat} {g n : Nat} (hno : ∀ m, m < n → (R w g m).testBit g = false) (h0 : R w g n = 0) : dd w g g = 99 := by
  rcases dd_cases (w := w) (g := g) g with ⟨m, _, hR, _⟩ | ⟨hd, _⟩
  · rcases Nat.lt_or_ge m n with h | h
    · rw [hno m h] at hR; cases hR
    · have hne : R w g m ≠ 0 := by intro h0'; rw [h0'] at hR; simp at hR
      exact absurd h0 (R_down hne n h)
  · exact hd

def encU (w : Nat → Nat) (g i : Nat) : Value := .int .u64 ((R w g i : Nat) : Int)

structure Bfs (W : World) (gb : Nat) (ws : List Nat) (g n : Nat) (A : Option Addr) (c : Nat) (wr : World) : Prop where
  later : Later W wr
  box : Boxed wr W.heap.size 40 (.pointer (some ⟨gb, 0, none⟩))
  row : wr.ownsRow W.heap.size 22 1 (.slice A n c) n ((List.range n).map (encU (wf ws) g))
  no : ∀ m, m < n → (R (wf ws) g m).testBit g = false
  le : n ≤ 16

theorem row_cell {W : World} {base g' k c j : Nat} {t : TypeId} {xs : List Value} {x : Value} (h : W.ownsRow base t 1 (.slice (some ⟨g', 0, none⟩) k c) k xs) (hx : xs[j]? = some x) : W.cell? ⟨g', j, none⟩ = some x := by
  have := h.cells (g := g') rfl j x hx
  have e : ((⟨g', 0, none⟩ : Addr).add j) = ⟨g', j, none⟩ := by
    unfold Addr.add
    split
    · rename_i hj; subst hj; rfl
    · simp
  rwa [e] at this

theorem Bfs.grow {W : World} {gb : Nat} {ws : List Nat} {g k : Nat} {A : Option Addr} {c : Nat} {wr : World} (h : Bfs W gb ws g k A c wr) (hne : R (wf ws) g k ≠ 0)
    {tmp : Obj} {v' : Value} {w1 : World} (hown : w1.ownsRow W.heap.size 22 1 v' (k + 1) ((List.range k).map (encU (wf ws) g) ++ [encU (wf ws) g k])) (hgrow : (wr.alloc tmp).grownBy w1 (Value.slice A k c).ownBlock) :
    ∃ g' c', v' = .slice (some ⟨g', 0, none⟩) (k + 1) c' ∧ Later W w1 ∧ Boxed w1 W.heap.size 40 (.pointer (some ⟨gb, 0, none⟩)) ∧
      w1.ownsRow W.heap.size 22 1 (.slice (some ⟨g', 0, none⟩) (k + 1) c') (k + 1) ((List.range (k + 1)).map (encU (wf ws) g)) ∧ w1.cell? ⟨g', k, none⟩ = some (encU (wf ws) g k) ∧ k + 1 ≤ 16 ∧ k ≤ c' := by
  obtain ⟨g', c', rfl⟩ := ownsRow_succ hown
  have hs := h.later.size
  have hbx : wr.heap[W.heap.size]? = some (.cells #[.pointer (some ⟨gb, 0, none⟩)] 40 (0, 0)) := h.box
  have hlt : W.heap.size < wr.heap.size := (Array.getElem?_eq_some_iff.1 hbx).1
  have hno : some W.heap.size ≠ (Value.slice A k c).ownBlock := by
    rcases ownsRow_ne' h.row hbx (fun cur e => by cases e) with e | e
    · rw [e]; simp
    · exact fun e' => e e'.symm
  have hrow : w1.ownsRow W.heap.size 22 1 (.slice (some ⟨g', 0, none⟩) (k + 1) c') (k + 1) ((List.range (k + 1)).map (encU (wf ws) g)) := by
    rw [List.range_succ, List.map_append]; exact hown
  refine ⟨g', c', rfl, (h.later.alloc hs tmp).grown hgrow (by simp; omega) (fun k e => (h.row.lt k e).1), (hgrow.block _ (by simp; omega) hno).trans ((Below.heap_alloc _ _ _ hlt).trans hbx), hrow, row_cell hrow (by simp), ?_, ?_⟩
  · have := cnt_M hne
    have := cnt_le (M (wf ws) g k)
    omega
  · rcases hown.2 with ⟨e, _⟩ | ⟨_, _, _, e, _, _, hle, _⟩
    · cases e
    · injection e with e1 e2 e3
      omega

theorem infoU64 : (Tryd.prog.info? 22).map (fun i => (i.zero, i.size, i.bytes)) = some (some (.int .u64 0), 1, 8) := by kernel_rfl

theorem GB.later {W W' : World} {g : Nat} {ws : List Nat} (h : GB W g ws) (hl : Later W W') : GB W' g ws := ⟨(hl.block g h.lt).trans h.1, h.2⟩

theorem worker_in (F : Fence) (n : Nat) (h33 : F.fn 33) (hro : F.round = none) (a : Int) (w : World) : CallsIn F n Tryd.prog 33 #[.int .i64 a] w fun e w' => e = .returned (.bool (isW a)) ∧ w = w' := by
  refine callsIn_of_wp Tryd.func33 rfl h33 ?_ hro
  simp only [Tryd.ntmps33, List.size_toArray, List.length_cons, List.length_nil, Nat.reduceAdd, Nat.reduceSub, Array.replicate_succ, Array.replicate_zero, List.push_toArray, List.append_toArray, List.nil_append, List.cons_append]
  by_cases h : 0 ≤ a
  · gi_wp2
    go_ret
    exact ⟨by simp [isW, h], rfl⟩
  · gi_wp2
    go_ret
    exact ⟨by simp [isW]; omega, rfl⟩

set_option maxHeartbeats 1000000 in
set_option maxRecDepth 100000 in
theorem cycle_no (F : Fence) (n : Nat) (h28 : F.fn 28) (h33 : F.fn 33) (hro : F.round = none) (hn : 1 ≤ n) (gb : Nat) (a : Int) (ha : isW a = false) (W : World) :
    CallsIn F n Tryd.prog 28 #[.pointer (some ⟨gb, 0, none⟩), .int .i64 a] W (CycPost [] false W) := by
  have h1 : 1 ≤ n := by omega
  have hw := fun w => worker_in F (n - 1) h33 hro a w
  rw [ha] at hw
  have HF : Hid (∀ w', Later W w' → CycPost [] false W (.returned (.tuple #[.slice none 0 0, .bool false])) w') := Lib.hid fun w' h => CycPost.nil W h
  clear ha
  refine callsIn_of_wp_marks Tryd.func28 rfl h28 ?_ hro
  simp only [Tryd.ntmps28, List.size_toArray, List.length_cons, List.length_nil, Nat.reduceAdd, Nat.reduceSub, Array.replicate_succ, Array.replicate_zero, List.push_toArray, List.append_toArray, List.nil_append, List.cons_append]
  gi_wp2_with (first | (gi_at_call 33; refine (hw _).mono ?_; rintro e w' ⟨rfl, rfl⟩))
  refine ⟨_, results_tmp2 (fn := Tryd.f28) rfl _ _ _, HF.out _ ((Below.refl _ W).alloc (Nat.le_refl _) _)⟩

theorem index16 (ws : List Nat) (j : Nat) (hj : j < 16) : ∀ w : World, (Instr.index 69 (.agg #[.int .u64 ((wf ws 0 : Nat) : Int), .int .u64 ((wf ws 1 : Nat) : Int), .int .u64 ((wf ws 2 : Nat) : Int), .int .u64 ((wf ws 3 : Nat) : Int), .int .u64 ((wf ws 4 : Nat) : Int), .int .u64 ((wf ws 5 : Nat) : Int), .int .u64 ((wf ws 6 : Nat) : Int), .int .u64 ((wf ws 7 : Nat) : Int), .int .u64 ((wf ws 8 : Nat) : Int), .int .u64 ((wf ws 9 : Nat) : Int), .int .u64 ((wf ws 10 : Nat) : Int), .int .u64 ((wf ws 11 : Nat) : Int), .int .u64 ((wf ws 12 : Nat) : Int), .int .u64 ((wf ws 13 : Nat) : Int), .int .u64 ((wf ws 14 : Nat) : Int), .int .u64 ((wf ws 15 : Nat) : Int)]) (.int .i64 (j : Int))).run Tryd.prog w = .ok (.int .u64 ((wf ws j : Nat) : Int)) w := by
  intro w
  obtain rfl | rfl | rfl | rfl | rfl | rfl | rfl | rfl | rfl | rfl | rfl | rfl | rfl | rfl | rfl | rfl : j = 0 ∨ j = 1 ∨ j = 2 ∨ j = 3 ∨ j = 4 ∨ j = 5 ∨ j = 6 ∨ j = 7 ∨ j = 8 ∨ j = 9 ∨ j = 10 ∨ j = 11 ∨ j = 12 ∨ j = 13 ∨ j = 14 ∨ j = 15 := by omega
  all_goals kernel_rfl

theorem slice_len {v : Value} {k : Nat} : (match v with | .slice _ n _ => n | _ => k) = (match v with | .slice _ n _ => n | _ => k) := rfl
def lenV : Value → Nat
  | .slice _ n _ => n
  | _ => 0

theorem Bfs.start {W : World} {gb : Nat} {ws : List Nat} {g : Nat} : Bfs W gb ws g 0 none 0 (W.alloc (.cells #[.pointer (some ⟨gb, 0, none⟩)] 40)) :=
  ⟨(Below.refl _ W).alloc (Nat.le_refl _) _, Boxed.new W 40 _, ⟨rfl, .inl ⟨rfl, rfl⟩⟩, fun m hm => by omega, by omega⟩

/-- The second half: the cycle grows by one a ring. -/
structure RingAt (W : World) (gb : Nat) (ws : List Nat) (g N g' c' C Bb kk : Nat) (v : Value) (L : List Nat) (a : Nat) (wr : World) : Prop where
  later : Later W wr
  box2 : Boxed wr W.heap.size 40 (.pointer (some ⟨gb, 0, none⟩))
  boxB : Boxed wr Bb 72 (.slice (some ⟨g', 0, none⟩) N c')
  rows : wr.ownsRow W.heap.size 22 1 (.slice (some ⟨g', 0, none⟩) (N + 1) c') (N + 1) ((List.range (N + 1)).map (encU (wf ws) g))
  boxC : Boxed wr C 27 v
  row : wr.ownsRow W.heap.size 3 1 v L.length (L.map encN)
  is : L ++ trail (wf ws) g (N - kk) a = g :: trail (wf ws) g N g
  dist : dd (wf ws) g a = N - kk + 1
  lt : a < 16
  last : ∃ L', L = L' ++ [a]
  len : L.length = kk + 1
  baseC : W.heap.size ≤ C

section
variable {W : World} {gb : Nat} {ws : List Nat} {g N g' c' C Bb kk : Nat} {v : Value} {L : List Nat} {a : Nat} {wr : World}

theorem own_keep {A B : World} {row : Option Nat} {base : Nat} {e : TypeId} {size : Nat} {v : Value} {k : Nat} {xs : List Value} (h : A.ownsRow base e size v k xs) (hg : A.grownBy B row)
    (hr : ∀ r, row = some r → ∃ o : Obj, A.heap[r]? = some o ∧ o.isCells = false) : B.ownsRow base e size v k xs := by
  refine h.kept hg ?_
  rcases row with _ | r
  · by_cases he : v.ownBlock = none
    · exact .inl he
    · exact .inr he
  · obtain ⟨o, ho, hc⟩ := hr r rfl
    exact ownsRow_ne' h ho (fun cur e => by subst e; simp [Obj.isCells] at hc)

theorem RingAt.own {B : Nat} (hB : W.heap.size ≤ B) : OwnFrom B (fun (_ : Unit) => RingAt W gb ws g N g' c' C Bb kk v L a) := fun s X Y row hs hg hr => by
  have hr' : ∀ r, row = some r → ∃ o : Obj, X.heap[r]? = some o ∧ o.isCells = false := fun r e => (hr r e).2
  exact ⟨hs.later.grown hg hs.later.size (fun r e => Nat.le_trans hB (hr r e).1),
    boxed_own _ _ (fun (_ : Unit) => Value.pointer (some ⟨gb, 0, none⟩)) () X Y row hs.box2 hg hr',
    boxed_own _ _ (fun (_ : Unit) => Value.slice (some ⟨g', 0, none⟩) N c') () X Y row hs.boxB hg hr',
    own_keep hs.rows hg hr', boxed_own _ _ (fun (_ : Unit) => v) () X Y row hs.boxC hg hr', own_keep hs.row hg hr', hs.is, hs.dist, hs.lt, hs.last, hs.len, hs.baseC⟩

theorem RingAt.drew (h : RingAt W gb ws g N g' c' C Bb kk v L a wr) : RingAt W gb ws g N g' c' C Bb kk v L a wr.drew :=
  ⟨h.later.drew, h.box2, h.boxB, h.rows, h.boxC, h.row, h.is, h.dist, h.lt, h.last, h.len, h.baseC⟩

def Ring (W : World) (gb : Nat) (ws : List Nat) (g N g' c' C Bb kk : Nat) (wr : World) : Prop := ∃ v L a, RingAt W gb ws g N g' c' C Bb kk v L a wr
theorem Ring.own {B : Nat} (hB : W.heap.size ≤ B) : OwnFrom B (Ring W gb ws g N g' c' C Bb) := fun s X Y row hs hg hr => by
  obtain ⟨v, L, a, h⟩ := hs
  exact ⟨v, L, a, RingAt.own hB () X Y row h hg hr⟩

theorem Ring.fact (h : Ring W gb ws g N g' c' C Bb kk wr) : BackFact Bb g' c' N (R (wf ws) g) wr := by
  obtain ⟨v, L, a, h⟩ := h
  refine ⟨h.boxB, fun i hi => ?_⟩
  have := row_cell (j := i) (x := encU (wf ws) g i) h.rows (by rw [List.getElem?_map, List.getElem?_range (by omega)]; rfl)
  exact this

theorem RingAt.lastCell (h : RingAt W gb ws g N g' c' C Bb kk v L a wr) : ∃ gc cc, v = .slice (some ⟨gc, 0, none⟩) (kk + 1) cc ∧ wr.cell? ⟨gc, kk, none⟩ = some (.int .i64 (a : Int)) := by
  obtain ⟨gc, cc, hv⟩ : ∃ gc cc, v = .slice (some ⟨gc, 0, none⟩) (kk + 1) cc := by
    have := h.row
    rw [h.len] at this
    exact ownsRow_succ this
  refine ⟨gc, cc, hv, ?_⟩
  have hr := h.row
  rw [hv, h.len] at hr
  refine row_cell hr ?_
  obtain ⟨L', hL⟩ := h.last
  have hlen := h.len
  rw [hL] at hlen ⊢
  simp at hlen
  subst hlen
  simp [encN]

theorem Ring.start {w3 : World} {k : Nat} (hg : g < 16) (hl3 : Later W w3) (hb3 : Boxed w3 W.heap.size 40 (.pointer (some ⟨gb, 0, none⟩))) (hr3 : w3.ownsRow W.heap.size 22 1 (.slice (some ⟨g', 0, none⟩) (k + 1) c') (k + 1) ((List.range (k + 1)).map (encU (wf ws) g))) (hdd : dd (wf ws) g g = k + 1) :
    Ring W gb ws g k g' c' (w3.heap.size + 1) (w3.heap.size + 1 + 1) 0 (((w3.alloc (.cells #[.int .i64 (g : Int)] 3)).alloc (.cells #[.slice (some ⟨w3.heap.size, 0, none⟩) 1 1] 27)).alloc (.cells #[.slice (some ⟨g', 0, none⟩) k c'] 72)) := by
  have hs := hl3.size
  have bC := Boxed.new (w3.alloc (.cells #[.int .i64 (g : Int)] 3)) 27 (.slice (some ⟨w3.heap.size, 0, none⟩) 1 1)
  have bB := Boxed.new ((w3.alloc (.cells #[.int .i64 (g : Int)] 3)).alloc (.cells #[.slice (some ⟨w3.heap.size, 0, none⟩) 1 1] 27)) 72 (.slice (some ⟨g', 0, none⟩) k c')
  simp only [World.size_alloc] at bC bB
  have b1 := Boxed.new w3 3 (.int .i64 (g : Int))
  refine ⟨_, [g], g, ((hl3.alloc hs _).alloc (by simp; omega) _).alloc (by simp; omega) _, ((hb3.alloc _).alloc _).alloc _, bB, ((hr3.alloc _).alloc _).alloc _, bC.alloc _, ⟨rfl, .inr ⟨w3.heap.size, 1, _, rfl, hs, (b1.alloc _).alloc _, Nat.le_refl _, by decide, rfl, rfl⟩⟩, rfl, by rw [hdd]; rfl, hg, ⟨[], rfl⟩, rfl, by omega⟩

theorem RingAt.append (h : RingAt W gb ws g N g' c' C Bb kk v L a wr) (hgr : Gr (wf ws)) (hkk : kk < N) (hN : N ≤ 90) {x : Nat} (hx : x = nxt (wf ws) g a (N - 1 - kk))
    {tmp : Obj} {v' : Value} {w1 : World} (hown : w1.ownsRow W.heap.size 3 1 v' (L.length + 1) (L.map encN ++ [.int .i64 (x : Int)])) (hgrow : (wr.alloc tmp).grownBy w1 v.ownBlock) :
    RingAt W gb ws g N g' c' C Bb (kk + 1) v' (L ++ [x]) x (w1.setCell ⟨C, 0, none⟩ v') := by
  have hs := h.later.size
  have b2 : wr.heap[W.heap.size]? = some (.cells #[.pointer (some ⟨gb, 0, none⟩)] 40 (0, 0)) := h.box2
  have bB : wr.heap[Bb]? = some (.cells #[.slice (some ⟨g', 0, none⟩) N c'] 72 (0, 0)) := h.boxB
  have bC : wr.heap[C]? = some (.cells #[v] 27 (0, 0)) := h.boxC
  have ne_of : ∀ {j : Nat} {o : Obj}, wr.heap[j]? = some o → (∀ cur, o ≠ .cells cur 3 (0, 0)) → some j ≠ v.ownBlock := fun hj hno => by
    rcases ownsRow_ne' h.row hj hno with e | e
    · rw [e]; simp
    · exact fun e' => e e'.symm
  have keep : ∀ {j : Nat} {o : Obj}, wr.heap[j]? = some o → (∀ cur, o ≠ .cells cur 3 (0, 0)) → w1.heap[j]? = some o := fun hj hno =>
    (hgrow.block _ (by simp; have := (Array.getElem?_eq_some_iff.1 hj).1; omega) (ne_of hj hno)).trans ((Below.heap_alloc _ _ _ (Array.getElem?_eq_some_iff.1 hj).1).trans hj)
  have c2 := keep b2 (fun cur e => by cases e)
  have cB := keep bB (fun cur e => by cases e)
  have cC := keep bC (fun cur e => by cases e)
  have hgC : w1.grownBy (w1.setCell ⟨C, 0, none⟩ v') (some C) := grownBy_setCell' _ _ _
  have n2 : W.heap.size ≠ C := by rintro e; rw [← e, b2] at bC; cases bC
  have nB : Bb ≠ C := by rintro e; rw [e, bC] at bB; cases bB
  have hlen := h.len
  have hm : N - kk = (N - 1 - kk) + 1 := by omega
  obtain ⟨h1, h2, h3, h4, h5⟩ := nxt_spec (hgr.lt a) (h.dist.trans (by rw [hm] : N - kk + 1 = N - 1 - kk + 2)) (by omega)
  rw [← hx] at h2 h3 h4
  have hrows1 : w1.ownsRow W.heap.size 22 1 (.slice (some ⟨g', 0, none⟩) (N + 1) c') (N + 1) ((List.range (N + 1)).map (encU (wf ws) g)) := by
    have hra := h.rows.alloc tmp
    refine hra.kept hgrow (.inr ?_)
    intro e
    obtain ⟨c1, f1, hc1⟩ := Lib.ownsRow_kind h.rows g' rfl
    obtain ⟨c2', f2, hc2⟩ := Lib.ownsRow_kind h.row g' e.symm
    rw [hc1] at hc2; cases hc2
  refine ⟨(((h.later.alloc hs tmp).grown hgrow (by simp; omega) (fun k e => (h.row.lt k e).1)).grown hgC (by have := ((h.later.alloc hs tmp).grown hgrow (by simp; omega) (fun k e => (h.row.lt k e).1)).size; exact this) (fun k e => by cases e; exact h.baseC)), ?_, ?_, ?_, Boxed.set (B := C) (t := 27) _ cC, ?_, ?_, ?_, h2, ⟨L, rfl⟩, by simp; omega, h.baseC⟩
  · exact (Below.heap_setCell w1 ⟨C, 0, none⟩ v' _ n2).trans c2
  · exact (Below.heap_setCell w1 ⟨C, 0, none⟩ v' _ nB).trans cB
  · exact hrows1.kept hgC (ownsRow_ne' hrows1 cC (fun cur e => by cases e))
  · have := hown.kept hgC (ownsRow_ne' hown cC (fun cur e => by cases e))
    simpa [encN] using this
  · have := h.is
    rw [hm, trail, ← hx] at this
    rw [List.append_assoc, show N - (kk + 1) = N - 1 - kk by omega]
    exact this
  · rw [h4]; omega

theorem RingAt.boxKeep (h : RingAt W gb ws g N g' c' C Bb kk v L a wr) {tmp : Obj} {w1 : World} (hgrow : (wr.alloc tmp).grownBy w1 v.ownBlock) : Boxed w1 C 27 v := by
  have bC : wr.heap[C]? = some (.cells #[v] 27 (0, 0)) := h.boxC
  have hlt := (Array.getElem?_eq_some_iff.1 bC).1
  refine (hgrow.block _ (by simp; omega) ?_).trans ((Below.heap_alloc _ _ _ hlt).trans bC)
  rcases ownsRow_ne' h.row bC (fun cur e => by cases e) with e | e
  · rw [e]; simp
  · exact fun e' => e e'.symm

theorem keeps_append {A B : World} {tmp : Obj} {v : Value} {k : Nat} {xs : List Value} {base C n : Nat} {v' : Value} {t : TypeId} (hr : A.ownsRow base 3 1 v k xs) (hg : (A.alloc tmp).grownBy B v.ownBlock) (hC : Boxed A C t v) (ht : t = 27) : KeepsFrom n A (B.setCell ⟨C, 0, none⟩ v') := by
  refine KeepsFrom.trans (Y := B) ⟨by have := hg.size; simp at this; omega, fun j o _ hj ho => ?_⟩ ((KeepsOthers.setCell _ _ _).from _)
  have hlt := (Array.getElem?_eq_some_iff.1 hj).1
  refine (hg.block j (by simp; omega) ?_).trans ((Below.heap_alloc _ _ _ hlt).trans hj)
  rcases ownsRow_ne' hr hj (fun cur e => by subst e; simp [Obj.isCells] at ho) with e | e
  · rw [e]; simp
  · exact fun e' => e e'.symm
end
end Go.Proofs.YtmfjncbccaifiaaDoor
