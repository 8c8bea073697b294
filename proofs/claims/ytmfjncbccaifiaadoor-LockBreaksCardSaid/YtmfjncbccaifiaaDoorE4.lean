/- Graph.Cycle of the document: the cycle that is told. -/
import Derived.Test.YtmfjncbccaifiaaDoorE3
import Derived.Test.YtmfjncbccaifiaaDoorA2
namespace Go.Proofs.YtmfjncbccaifiaaDoor
open Go.RowKit
set_option linter.unusedVariables false
set_option linter.unusedSimpArgs false

/-- What a Cycle hands back. -/
def CycPost (L : List Nat) (b : Bool) (W : World) (e : Ending) (W' : World) : Prop :=
  ∃ A c, e = .returned (.tuple #[.slice A L.length c, .bool b]) ∧ Ints W' A (L.map Int.ofNat) ∧ Later W W'
theorem CycPost.nil (W : World) {W' : World} (h : Later W W') : CycPost [] false W (.returned (.tuple #[.slice none 0 0, .bool false])) W' :=
  ⟨Option.none, 0, rfl, fun j hj => by simp at hj, h⟩

/-- The second half of Cycle: what is collected. -/
structure Coll (W : World) (b : Nat) (ls : List Int) (w : Nat → Nat) (g : Nat) (n a : Nat) (v : Value) (L : List Nat) (wr : World) : Prop where
  arr : LB wr b ls
  later : Later W wr
  row : wr.ownsRow W.heap.size 3 1 v L.length (L.map encN)
  dist : dd w g a = n + 1
  le : dd w g a ≤ dd w g g
  lt : a < 16
  is : L ++ trail w g n a = g :: trail w g (dd w g g - 1) g
  len : L.length ≤ 100

theorem trail_length (w : Nat → Nat) (g : Nat) : ∀ n a, (trail w g n a).length = n
  | 0, _ => rfl
  | n + 1, a => by rw [trail, List.length_cons, trail_length w g n]

theorem LB.ne_own {W : World} {b : Nat} {ls : List Int} (h : LB W b ls) {base : Nat} {v : Value} {k : Nat} {xs : List Value} (hr : W.ownsRow base 3 1 v k xs) : some b ≠ v.ownBlock := by
  rcases ownsRow_ne' hr h.1 (fun cur e => by cases e) with e | e
  · rw [e]; simp
  · exact fun e' => e e'.symm

theorem Coll.append {W : World} {b : Nat} {ls : List Int} {w : Nat → Nat} {g n a : Nat} {v : Value} {L : List Nat} {wr : World} (h : Coll W b ls w g (n + 1) a v L wr) (hw : w a < 65536) (hn : n < 97)
    {tmp : Obj} {v' : Value} {w1 : World} (hown : w1.ownsRow W.heap.size 3 1 v' (L.length + 1) (L.map encN ++ [.int .i64 ((nxt w g a n : Nat) : Int)])) (hgrow : (wr.alloc tmp).grownBy w1 v.ownBlock) :
    Coll W b ls w g n (nxt w g a n) v' (L ++ [nxt w g a n]) w1 := by
  obtain ⟨h1, h2, h3, h4, h5⟩ := nxt_spec hw h.dist hn
  have hlt : b < wr.heap.size := (Array.getElem?_eq_some_iff.1 h.arr.1).1
  refine ⟨⟨(hgrow.block b (by simp; omega) (h.arr.ne_own h.row)).trans ((Below.heap_alloc _ _ b hlt).trans h.arr.1), h.arr.2⟩,
    (h.later.alloc h.later.size tmp).grown hgrow (by simp; have := h.later.size; omega) (fun k e => (h.row.lt k e).1), ?_, h4, by have := h.le; have := h.dist; omega, h2, ?_, ?_⟩
  · simpa [encN] using hown
  · have := h.is
    rw [trail] at this
    rw [List.append_assoc]
    exact this
  · have h6 := congrArg List.length h.is
    simp only [List.length_append, List.length_cons, trail_length] at h6
    have := (dd_le (w := w) (g := g) g).2.1
    simp; omega

set_option maxHeartbeats 8000000 in
set_option maxRecDepth 100000 in
theorem rcycle_no (r : Nat) (a : Int) (ha : isW a = false) (W : World) :
    Calls Tryd.prog 31 #[.pointer (some ⟨r, 0, none⟩), .int .i64 a] W (CycPost [] false W) := by
  have hw := worker_any a W
  rw [ha] at hw
  have HF := Lib.hid (CycPost.nil W (Below.refl _ _))
  clear ha
  go_enter Tryd.func31, Tryd.ntmps31
  go_wp2_with (first | (go_at_call 38; refine hw.mono ?_; rintro e w' ⟨rfl, rfl⟩))
  go_ret2
  exact HF.out

theorem Coll.start {W w1 : World} {ls : List Int} {w : Nat → Nat} {g : Nat} (hg : g < 16) (hl : ls.length = 16) (hb1 : Later W w1) :
    Coll W w1.heap.size ls w g (dd w g g - 1) g (.slice (some ⟨w1.heap.size + 1, 0, none⟩) 1 1) [g] ((w1.alloc (.cells (ints64 ls) 76 (0, 0))).alloc (.cells #[.int .i64 (g : Int)] 3 (0, 0))) := by
  have hd := (dd_le (w := w) (g := g) g).1
  have hs := hb1.size
  refine ⟨⟨?_, hl⟩, (hb1.alloc hb1.size _).alloc (by simp; omega) _, ⟨rfl, .inr ⟨w1.heap.size + 1, 1, #[.int .i64 (g : Int)], rfl, by omega, ?_, Nat.le_refl _, by decide, rfl, rfl⟩⟩, by omega, Nat.le_refl _, hg, rfl, by simp⟩
  · show ((w1.heap.push _).push _)[w1.heap.size]? = _
    simp [Array.getElem?_push]
  · show ((w1.heap.push _).push _)[w1.heap.size + 1]? = _
    rw [Array.getElem?_push, if_pos (by simp)]
theorem Coll.done {W wr : World} {b : Nat} {ls : List Int} {w : Nat → Nat} {g a : Nat} {v : Value} {L : List Nat} (h : Coll W b ls w g 0 a v L wr) :
    CycPost (g :: trail w g (dd w g g - 1) g) true W (.returned (.tuple #[v, .bool true])) wr := by
  have hi := h.is
  rw [trail, List.append_nil] at hi
  obtain ⟨A, c, rfl, _⟩ := own_form h.row
  rw [← hi]
  exact ⟨A, c, rfl, own_ints h.row, h.later⟩

theorem Coll.drewN {W : World} {b : Nat} {ls : List Int} {w : Nat → Nat} {g n a : Nat} {v : Value} {L : List Nat} {wr : World} (h : Coll W b ls w g n a v L wr) (k : Nat) : Coll W b ls w g n a v L (wr.drewN k) :=
  ⟨h.arr, h.later.trans ⟨rfl, rfl, rfl, Nat.le_refl _, fun _ _ => rfl⟩, h.row, h.dist, h.le, h.lt, h.is, h.len⟩

set_option maxHeartbeats 8000000 in
set_option maxRecDepth 100000 in
theorem rcycle_any (r : Nat) (ws : List Nat) (bs : List Bool) (g : Nat) (hg : g < 16) (W : World) (hR : RB W r bs) (hrel : Rel ws bs) :
    Calls Tryd.prog 31 #[.pointer (some ⟨r, 0, none⟩), .int .i64 (g : Int)] W (CycPost (cyc (wf ws) g).1 (cyc (wf ws) g).2 W) := by
  have HR : Hid (∀ W' i k, Later W W' → i < 16 → k < 16 → W'.cell? ⟨r, i * 16 + k, none⟩ = some (.bool ((wf ws i).testBit k))) := Lib.hid fun W' i k hl hi hk => by
    have := hR.cell (show i * 16 + k < 256 by omega)
    rw [hrel.is i k hi hk] at this
    exact (hl.cell hR.lt).trans this
  have HGR := Lib.hid hrel.gr
  have hfar := far_any r ws bs g hg W hR hrel
  have hw := worker_any (g : Int) W
  rw [isW_true.2 ⟨by omega, by omega⟩] at hw
  obtain ⟨ls, hls⟩ : ∃ ls : List Int, ls = (List.range 16).map fun (x : Nat) => (dd (wf ws) g x : Int) := ⟨_, rfl⟩
  have HL : Hid (∀ x, x < 16 → ls.getD x 0 = (dd (wf ws) g x : Int)) := Lib.hid fun x hx => by rw [hls]; simp [List.getD_eq_getElem?_getD, hx]
  have harr : ddArr (wf ws) g = ints64 ls := by rw [hls]; rfl
  have hlen : ls.length = 16 := by rw [hls]; simp
  rw [harr] at hfar
  obtain ⟨d0, d1, d2, d3, d4, d5, d6, d7, d8, d9, d10, d11, d12, d13, d14, d15, hd⟩ : ∃ d0 d1 d2 d3 d4 d5 d6 d7 d8 d9 d10 d11 d12 d13 d14 d15 : Int, ls = [d0, d1, d2, d3, d4, d5, d6, d7, d8, d9, d10, d11, d12, d13, d14, d15] := by
    rw [hls]; exact ⟨_, _, _, _, _, _, _, _, _, _, _, _, _, _, _, _, rfl⟩
  have hints : ints64 ls = #[.int .i64 d0, .int .i64 d1, .int .i64 d2, .int .i64 d3, .int .i64 d4, .int .i64 d5, .int .i64 d6, .int .i64 d7, .int .i64 d8, .int .i64 d9, .int .i64 d10, .int .i64 d11, .int .i64 d12, .int .i64 d13, .int .i64 d14, .int .i64 d15] := by rw [hd]; rfl
  rw [hints] at hfar
  have HINTS := Lib.hid hints
  have HLEN := Lib.hid hlen
  have hgets : ∀ h, [Value.int .i64 d0, .int .i64 d1, .int .i64 d2, .int .i64 d3, .int .i64 d4, .int .i64 d5, .int .i64 d6, .int .i64 d7, .int .i64 d8, .int .i64 d9, .int .i64 d10, .int .i64 d11, .int .i64 d12, .int .i64 d13, .int .i64 d14, .int .i64 d15][g]'h = .int .i64 (dd (wf ws) g g : Int) := by
    intro h
    have e := HL.out g hg
    rw [hd] at e
    rw [← e]
    have : [Value.int .i64 d0, .int .i64 d1, .int .i64 d2, .int .i64 d3, .int .i64 d4, .int .i64 d5, .int .i64 d6, .int .i64 d7, .int .i64 d8, .int .i64 d9, .int .i64 d10, .int .i64 d11, .int .i64 d12, .int .i64 d13, .int .i64 d14, .int .i64 d15] = [d0, d1, d2, d3, d4, d5, d6, d7, d8, d9, d10, d11, d12, d13, d14, d15].map (Value.int .i64) := rfl
    simp only [this, List.getElem_map, List.getD_eq_getElem?_getD]
    rw [List.getElem?_eq_getElem (by simpa using hg)]
    rfl
  have HG16 := Lib.hid hg
  have HD1 := Lib.hid (dd_le (w := wf ws) (g := g) g)
  have HGET := Lib.hid hgets
  clear hR hrel hls harr hlen hd hints
  obtain ⟨D, hD⟩ : ∃ D : Int, D = (dd (wf ws) g g : Int) := ⟨_, rfl⟩
  rw [← hD] at hgets
  by_cases h99 : dd (wf ws) g g = 99
  · have t1 : D = 99 := by omega
    have HC : Hid (∀ w1, Later W w1 → CycPost (cyc (wf ws) g).1 (cyc (wf ws) g).2 W (.returned (.tuple #[.slice none 0 0, .bool false])) w1) := Lib.hid fun w1 h => by
      unfold cyc; rw [if_pos h99]; exact CycPost.nil W h
    clear h99
    subst t1
    go_enter Tryd.func31, Tryd.ntmps31
    go_wp2_with (first | (go_at_call 38; refine hw.mono ?_; rintro e w' ⟨rfl, rfl⟩) | (go_at_call 44; refine hfar.mono ?_; rintro e w1 ⟨rfl, hb1⟩))
    go_ret2
    exact HC.out _ (hb1.alloc hb1.size _)
  · have t1 : decide (99 ≤ D) = false := by have := HD1.out; simp; omega
    have t2 : D ≤ 16 := by have := HD1.out; omega
    have t3 : 1 ≤ D := by have := HD1.out; omega
    have HCY : Hid ((cyc (wf ws) g) = (g :: trail (wf ws) g (dd (wf ws) g g - 1) g, true)) := Lib.hid (by unfold cyc; rw [if_neg h99])
    have HD99 := Lib.hid h99
    clear h99
    go_enter Tryd.func31, Tryd.ntmps31
    go_wp2_with (first | (go_at_call 38; refine hw.mono ?_; rintro e w' ⟨rfl, rfl⟩) | (go_at_call 44; refine hfar.mono ?_; rintro e w1 ⟨rfl, hb1⟩))
    have hstart := Coll.start (w := wf ws) hg HLEN.out hb1
    rw [HINTS.out] at hstart
    have HST := Lib.hid hstart
    clear hstart
    obtain ⟨B, hB⟩ : ∃ B, B = w1.heap.size := ⟨_, rfl⟩
    rw [← hB] at HST
    rw [← hB]
    have HB := Lib.hid hB
    clear hB
    go_loopw [8, 9] (fun o i wr => ∃ (n a : Nat) (L : List Nat), i = .int .i64 a ∧ Hid (Coll W B ls (wf ws) g n a o L wr)) (fun o i wr => dd (wf ws) g (intOf i).toNat)
    case atStart => exact ⟨_, g, [g], rfl, HST⟩
    case round =>
      clear HST
      obtain ⟨n, a, L, rfl, HC⟩ := hrel
      have ha := HC.out.lt
      have ca := HC.out.arr.cell ha
      rw [HL.out a ha, HC.out.dist] at ca
      have hra := HC.out.le
      have hra2 := HC.out.dist
      rcases n with _ | m
      · have hca : wr.cell? ⟨B, a, none⟩ = some (.int .i64 1) := ca
        have HDONE := Lib.hid HC.out.done
        clear ca HC hra hra2
        go_wp2
        go_ret2
        rw [HCY.out]
        exact HDONE.out
      · have hw16 := HGR.out.lt a
        obtain ⟨n1, n2, n3, n4, n5⟩ := nxt_spec hw16 hra2 (by omega)
        have HN5 := Lib.hid n5
        have hm97 : m < 97 := by have := HD1.out; omega
        have hda1 : (1 : Int) < ((m + 1 + 1 : Nat) : Int) := by omega
        obtain ⟨da, hda⟩ : ∃ da : Int, da = ((m + 1 + 1 : Nat) : Int) := ⟨_, rfl⟩
        rw [← hda] at ca hda1
        have hda2 : da ≤ 99 := by omega
        obtain ⟨N, hN⟩ : ∃ N, N = nxt (wf ws) g a m := ⟨_, rfl⟩
        rw [← hN] at n2 n3 n4 HN5
        have hng : N ≠ g := by
          intro h
          have := dd_one.2 ⟨ha, h ▸ n3⟩
          omega
        have t5 : decide (1 < da) = true := by simp; omega
        clear n1
        have HDA : Hid (da = ((m + 1 + 1 : Nat) : Int)) := Lib.hid hda
        have HNN := Lib.hid hN
        have HRA := Lib.hid hra2
        clear hda hN hra2 hra
        go_wp2
        go_loopw [10] (fun i wr => ∃ (x : Nat), x ≤ N ∧ i = .int .i64 x ∧ Hid (Coll W B ls (wf ws) g (m + 1) a u8 L wr)) (fun i _ => 16 - (intOf i).toNat)
        case atStart => exact ⟨0, Nat.zero_le _, rfl, HC⟩
        case round =>
          clear HC ca
          obtain ⟨x, hx, rfl, HC⟩ := hrel
          have hx16 : x < 16 := by omega
          have cx := HC.out.arr.cell hx16
          rw [HL.out x hx16] at cx
          have cg := HC.out.arr.cell ha
          rw [HL.out a ha, HRA.out, ← HDA.out] at cg
          have hr := HR.out wr a x HC.out.later ha hx16
          have s4 := (dd_le (w := wf ws) (g := g) x).1
          have s5 := (dd_le (w := wf ws) (g := g) x).2.1
          obtain ⟨dx, hdx⟩ : ∃ dx : Int, dx = (dd (wf ws) g x : Int) := ⟨_, rfl⟩
          rw [← hdx] at cx
          by_cases hxN : x < N
          · have t1 : decide ((x : Int) < 15) = true := by simp; omega
            have t1' : decide (x < 15) = true := by simp; omega
            have hn5 := HN5.out x hxN
            by_cases he : (wf ws a).testBit x = true
            · by_cases hxg : x = g
              · have t2 : ((x : Int) != (g : Int)) = false := by rw [hxg]; simp
                have t3 : (x != g) = false := by simpa using hxg
                rw [he] at hr
                clear he hxg s4 s5 hdx hn5
                go_wp2
                go_quiet (fail)
                go_wp2
                exact ⟨⟨x + 1, by omega, by go_num, Lib.hid (HC.out.drewN _)⟩, by simp [intOf]; omega⟩
              · have t2 : ((x : Int) != (g : Int)) = true := by simp; omega
                have t3 : (x != g) = true := by simpa using hxg
                have hne : dd (wf ws) g x ≠ m + 1 := fun h => hn5 ⟨he, h⟩
                have hda3 := HDA.out
                have t4 : (dx == da - 1) = false := by simp; omega
                rw [he] at hr
                clear he hxg s4 s5 hdx hn5 hne hda3
                go_wp2
                go_quiet (fail)
                go_wp2
                exact ⟨⟨x + 1, by omega, by go_num, Lib.hid (HC.out.drewN _)⟩, by simp [intOf]; omega⟩
            · have he' : (wf ws a).testBit x = false := by simpa using he
              rw [he'] at hr
              clear he he' s4 s5 hdx hn5
              go_wp2
              go_quiet (fail)
              go_wp2
              exact ⟨⟨x + 1, by omega, by go_num, Lib.hid (HC.out.drewN _)⟩, by simp [intOf]; omega⟩
          · have hxe : x = N := by omega
            by_cases hx15 : x < 15
            · have t1 : decide ((x : Int) < 15) = true := by simp; omega
              have t1' : decide (x < 15) = true := by simp; omega
              have t2 : ((x : Int) != (g : Int)) = true := by simp; omega
              have t3 : (x != g) = true := by simp; omega
              have hda3 := HDA.out
              rw [hxe, n4] at hdx
              have t4 : (dx == da - 1) = true := by simp; omega
              rw [hxe, n3, ← hxe] at hr
              have HXE := Lib.hid hxe
              clear s4 s5 hdx hda3 n3 n4 hxe hxN
              go_wp2
              go_quiet (fail)
              obtain ⟨i0, hi, hz0, hz1, hz2⟩ := info_parts infoInt
              have hll := HC.out.len
              have hsz := HC.out.later.size
              go_wp2_with (at_builtin; refine wpList_append_own _ rfl _ _ 27 rfl W.heap.size 3 i0 (.int .i64 0) 1 8 Tryd.underlying27 hi hz0 hz1 hz2 rfl (by decide) _ _ _ rfl ((HC.out.drewN _).row.alloc _) ⟨wr.heap.size, 0, none⟩ 1 1 [.int .i64 (x : Int)] rfl rfl (cell_one_new _ _ _) (by simp [Value.oneCell']) (by unfold maxLen; omega) (by omega) (by simp; omega) ?_; intro v' w3 hown' hg3 hnil3)
              have hfin := (HC.out.drewN nq).append (v' := v') (w1 := w3) (tmp := .cells #[.int .i64 (x : Int)] 3 (0, 0)) hw16 (by omega) (by rw [← HNN.out, ← HXE.out]; exact hown') hg3
              rw [← HNN.out, ← HXE.out] at hfin
              have hd1 := hfin.dist
              have hd2 := HRA.out
              exact ⟨⟨m, x, _, rfl, Lib.hid hfin⟩, by simp [intOf]; omega⟩
            · have t1 : decide ((x : Int) < 15) = false := by simp; omega
              have t1' : decide (x < 15) = false := by simp; omega
              have HXE := Lib.hid hxe
              clear s4 s5 hdx n3 n4 hxe hxN
              go_wp2
              go_quiet (fail)
              obtain ⟨i0, hi, hz0, hz1, hz2⟩ := info_parts infoInt
              have hll := HC.out.len
              have hsz := HC.out.later.size
              go_wp2_with (at_builtin; refine wpList_append_own _ rfl _ _ 27 rfl W.heap.size 3 i0 (.int .i64 0) 1 8 Tryd.underlying27 hi hz0 hz1 hz2 rfl (by decide) _ _ _ rfl ((HC.out.drewN _).row.alloc _) ⟨wr.heap.size, 0, none⟩ 1 1 [.int .i64 (x : Int)] rfl rfl (cell_one_new _ _ _) (by simp [Value.oneCell']) (by unfold maxLen; omega) (by omega) (by simp; omega) ?_; intro v' w3 hown' hg3 hnil3)
              have hfin := (HC.out.drewN nq).append (v' := v') (w1 := w3) (tmp := .cells #[.int .i64 (x : Int)] 3 (0, 0)) hw16 (by omega) (by rw [← HNN.out, ← HXE.out]; exact hown') hg3
              rw [← HNN.out, ← HXE.out] at hfin
              have hd1 := hfin.dist
              have hd2 := HRA.out
              exact ⟨⟨m, x, _, rfl, Lib.hid hfin⟩, by simp [intOf]; omega⟩
end Go.Proofs.YtmfjncbccaifiaaDoor
