/- Graph.Cycle of the lock layer: the walk. -/
import Derived.Test.YtmfjncbccaifiaaDoorE65
namespace Go.Proofs.YtmfjncbccaifiaaDoor
open Go.RowKit Go.Shelf
set_option linter.unusedVariables false
set_option linter.unusedSimpArgs false
attribute [local go_sem] Oper.semAt_some

set_option maxHeartbeats 8000000 in
set_option maxRecDepth 100000 in
theorem cycle_in (F : Fence) (n : Nat) (h28 : F.fn 28) (h33 : F.fn 33) (h36 : F.fn 36) (h41 : F.fn 41) (h43 : F.fn 43) (h47 : F.fn 47) (h48 : F.fn 48) (hro : F.round = none) (hn : 8 ≤ n) (gb : Nat) (ws : List Nat) (g : Nat) (hg : g < 16) (W : World) (hG : GB W gb ws) (hgr : Gr (wf ws)) (hT : TabAt W) (hpos : 0 < W.heap.size) :
    CallsIn F n Tryd.prog 28 #[.pointer (some ⟨gb, 0, none⟩), .int .i64 (g : Int)] W (CycPost (cyc (wf ws) g).1 (cyc (wf ws) g).2 W) := by
  have h1 : 1 ≤ n := by omega
  have hw := fun w => worker_in F (n - 1) h33 hro (g : Int) w
  rw [isW_true.2 ⟨by omega, by omega⟩] at hw
  have HG := Lib.hid hG
  have HGR := Lib.hid hgr
  have HT := Lib.hid hT
  have HP := Lib.hid hpos
  have HN := Lib.hid hn
  have hs := shl1 hg
  have e2 : min g 64 = g := by omega
  obtain ⟨G, hGG⟩ : ∃ G, G = 2 ^ g := ⟨_, rfl⟩
  rw [← hGG] at hs
  have HGG := Lib.hid hGG
  clear hG hgr hT hpos hn hGG
  refine callsIn_of_wp_marks Tryd.func28 rfl h28 ?_ hro
  simp only [Tryd.ntmps28, List.size_toArray, List.length_cons, List.length_nil, Nat.reduceAdd, Nat.reduceSub, Array.replicate_succ, Array.replicate_zero, List.push_toArray, List.append_toArray, List.nil_append, List.cons_append]
  gi_big_wp2_with (first | (gi_at_call 33; refine (hw _).mono ?_; rintro e w' ⟨rfl, rfl⟩))
  have hst := Bfs.start (W := W) (gb := gb) (ws := ws) (g := g)
  have HST := Lib.hid hst
  clear hst
  gi_loopw [7, 8, 9] (fun v m r wr => ∃ (k : Nat) (A : Option Addr) (c : Nat), v = .slice A k c ∧ m = .int .u64 ((metN (wf ws) g k : Nat) : Int) ∧ r = .int .u64 ((ringN (wf ws) g k : Nat) : Int) ∧ Hid (Bfs W gb ws g k A c wr)) (fun v _ _ _ => 17 - lenV v)
  case atStart => exact ⟨0, none, 0, rfl, rfl, by show _ = Value.int .u64 ((2 ^ g : Nat) : Int); rw [← HGG.out], HST⟩
  case round =>
    clear HST
    obtain ⟨k, A, c, rfl, rfl, rfl, hB⟩ := hrel
    have hcb := hB.out.box.cell
    have hGB := HG.out.later hB.out.later
    have c0 := hGB.cell (show 0 < 16 by omega)
    have c1 := hGB.cell (show 1 < 16 by omega)
    have c2 := hGB.cell (show 2 < 16 by omega)
    have c3 := hGB.cell (show 3 < 16 by omega)
    have c4 := hGB.cell (show 4 < 16 by omega)
    have c5 := hGB.cell (show 5 < 16 by omega)
    have c6 := hGB.cell (show 6 < 16 by omega)
    have c7 := hGB.cell (show 7 < 16 by omega)
    have c8 := hGB.cell (show 8 < 16 by omega)
    have c9 := hGB.cell (show 9 < 16 by omega)
    have c10 := hGB.cell (show 10 < 16 by omega)
    have c11 := hGB.cell (show 11 < 16 by omega)
    have c12 := hGB.cell (show 12 < 16 by omega)
    have c13 := hGB.cell (show 13 < 16 by omega)
    have c14 := hGB.cell (show 14 < 16 by omega)
    have c15 := hGB.cell (show 15 < 16 by omega)
    have hwf : ∀ i, ws.getD i 0 = wf ws i := fun i => rfl
    simp only [hwf] at c0 c1 c2 c3 c4 c5 c6 c7 c8 c9 c10 c11 c12 c13 c14 c15
    clear hwf hGB
    obtain ⟨W1, rfl⟩ : ∃ W1 : World, W1 = wr := ⟨_, rfl⟩
    obtain ⟨rg, hrg⟩ : ∃ rg, rg = ringN (wf ws) g k := ⟨_, rfl⟩
    obtain ⟨mt, hmt⟩ : ∃ mt, mt = metN (wf ws) g k := ⟨_, rfl⟩
    have hrlt := ringN_lt (w := wf ws) hg k
    have hmlt := metN_lt (wf ws) g k
    rw [← hrg] at hrlt ⊢
    rw [← hmt] at hmlt ⊢
    have HRG := Lib.hid hrg
    have HMT := Lib.hid hmt
    have HRL := Lib.hid hrlt
    have HML := Lib.hid hmlt
    clear hrg hmt hrlt hmlt
    gi_wp2
    gi_loopw [10, 31] (fun x i wr => ∃ (j : Nat), j ≤ 16 ∧ i = .int .i64 j ∧ x = .int .u64 ((preN (wf ws) rg j : Nat) : Int) ∧ wr = W1) (fun _ i _ => 16 - (intOf i).toNat)
    case atStart => exact ⟨0, Nat.zero_le _, rfl, rfl, rfl⟩
    case round =>
      obtain ⟨j, hj, rfl, rfl, rfl⟩ := hrel
      by_cases hlt : j < 16
      · have hgets := index16 ws j hlt
        have hand := and64 (wf ws j) rg (Nat.lt_trans (HGR.out.lt j) (by decide)) (Nat.lt_trans HRL.out (by decide))
        have hplt : preN (wf ws) rg j < 65536 := Nat.lt_of_lt_of_le (preN_lt _ _ _) (Nat.pow_le_pow_right (n := 2) (by decide) hj)
        have hor := or64 (preN (wf ws) rg j) (2 ^ j) (Nat.lt_trans hplt (by decide)) (Nat.lt_trans (pow_lt16 hlt) (by decide))
        rw [show (((2 ^ j : Nat)) : Int) = (2 : Int) ^ j by simp] at hor
        have HOR := Lib.hid hor
        have hs2 := shl1 hlt
        have e3 : min j 64 = j := by omega
        have t1 : decide ((j : Int) < 16) = true := by simp; omega
        obtain ⟨x, hx⟩ : ∃ x, x = wf ws j := ⟨_, rfl⟩
        rw [← hx] at hgets hand
        obtain ⟨q, hq⟩ : ∃ q, q = x &&& rg := ⟨_, rfl⟩
        rw [← hq] at hand
        by_cases hq0 : q = 0
        · have hstep : preN (wf ws) rg (j + 1) = preN (wf ws) rg j := by
            rw [preN, if_neg]; rw [← hx, ← hq]; simp [hq0]
          have HS := Lib.hid hstep
          have t2 : ((q : Int) != 0) = false := by simp [hq0]
          have t3 : (q != 0) = false := by simp [hq0]
          clear hstep hq hq0 hx hplt hor
          gi_wp2
          go_roundw
          case rel => exact ⟨j + 1, by omega, by go_num, by rw [HS.out], trivial⟩
          case measure => simp [intOf]; omega
        · have hstep : preN (wf ws) rg (j + 1) = preN (wf ws) rg j ||| 2 ^ j := by
            rw [preN, if_pos]; rw [← hx, ← hq]; exact hq0
          have HS := Lib.hid hstep
          have t2 : ((q : Int) != 0) = true := by simp; omega
          have t3 : (q != 0) = true := by simp; omega
          clear hstep hq hq0 hx hplt hor
          obtain ⟨p, hp⟩ : ∃ p, p = preN (wf ws) rg j := ⟨_, rfl⟩
          rw [← hp] at HS HOR ⊢
          clear hp
          gi_wp2
          go_roundw
          case rel => exact ⟨j + 1, by omega, by go_num, by rw [HS.out, ← HOR.out], trivial⟩
          case measure => simp [intOf]; omega
      · have hj2 : j = 16 := by omega
        subst hj2
        have t1 : decide ((16 : Int) < 16) = false := rfl
        obtain ⟨nx, hnx⟩ : ∃ nx, nx = preN (wf ws) rg 16 := ⟨_, rfl⟩
        rw [← hnx]
        have hnlt : nx < 65536 := by rw [hnx]; exact preN_lt _ _ 16
        have hpre : nx = pre (wf ws) (ringN (wf ws) g k) := by rw [hnx, HRG.out]; rfl
        have hnot := andNot64 nx mt (Nat.lt_trans hnlt (by decide)) (Nat.lt_trans HML.out (by decide))
        rw [show nx &&& (18446744073709551615 - mt) = R (wf ws) g k by rw [hpre, HMT.out]; exact next_R _ _ _] at hnot
        have hor := or64 mt nx (Nat.lt_trans HML.out (by decide)) (Nat.lt_trans hnlt (by decide))
        rw [show mt ||| nx = M (wf ws) g k by rw [hpre, HMT.out]; exact next_M _ _ _] at hor
        have hGlt : G < 65536 := by rw [HGG.out]; exact pow_lt16 hg
        have hgo := and64 nx G (Nat.lt_trans hnlt (by decide)) (Nat.lt_trans hGlt (by decide))
        have hgoal := next_goal hB.out.no
        rw [← hpre, ← HGG.out] at hgoal
        obtain ⟨q, hq⟩ : ∃ q, q = nx &&& G := ⟨_, rfl⟩
        rw [← hq] at hgo hgoal
        obtain ⟨rk, hrk⟩ : ∃ rk, rk = R (wf ws) g k := ⟨_, rfl⟩
        rw [← hrk] at hnot
        have HRK := Lib.hid hrk
        have HGL := Lib.hid hgoal
        have HOR := Lib.hid hor
        clear hj hlt hnx hnlt hpre hGlt hq hor c0 c1 c2 c3 c4 c5 c6 c7 c8 c9 c10 c11 c12 c13 c14 c15
        by_cases hrk0 : rk = 0
        · have t2 : ((rk : Int) == 0) = true := by simp [hrk0]
          have t3 : (rk == 0) = true := by simp [hrk0]
          have hcy : cyc (wf ws) g = ([], false) := by
            unfold cyc; rw [if_pos (dd_none hB.out.no (by rw [← hrk, hrk0]))]
          have HF : Hid (CycPost (cyc (wf ws) g).1 (cyc (wf ws) g).2 W (.returned (.tuple #[.slice none 0 0, .bool false])) wr) := Lib.hid (by rw [hcy]; exact CycPost.nil W hB.out.later)
          clear hrk hrk0 hgoal hcy
          gi_wp2
          refine ⟨_, results_tmp2 (fn := Tryd.f28) rfl _ _ _, HF.out⟩
        · have t2 : ((rk : Int) == 0) = false := by simp; omega
          have t3 : (rk == 0) = false := by simp; omega
          have hne : R (wf ws) g k ≠ 0 := by rw [← hrk]; exact hrk0
          have HROW : Hid (∀ v' w1, w1.ownsRow W.heap.size 22 1 v' (k + 1) ((List.range k).map (encU (wf ws) g) ++ [.int .u64 (rk : Int)]) → (wr.alloc (.cells #[.int .u64 (rk : Int)] 22)).grownBy w1 (Value.slice A k c).ownBlock →
              ∃ g' c', v' = .slice (some ⟨g', 0, none⟩) (k + 1) c' ∧ Later W w1 ∧ Boxed w1 W.heap.size 40 (.pointer (some ⟨gb, 0, none⟩)) ∧
              w1.ownsRow W.heap.size 22 1 (.slice (some ⟨g', 0, none⟩) (k + 1) c') (k + 1) ((List.range (k + 1)).map (encU (wf ws) g)) ∧ w1.cell? ⟨g', k, none⟩ = some (.int .u64 (rk : Int)) ∧ k + 1 ≤ 16 ∧ k ≤ c') := Lib.hid fun v' w1 h1 h2 => by
            rw [hrk] at h1 h2 ⊢
            exact hB.out.grow hne h1 h2
          have hk16 := hB.out.le
          have hsz := hB.out.later.size
          obtain ⟨i0, hi, hz0, hz1, hz2⟩ := info_parts infoU64
          by_cases hq0 : q = 0
          · have t4 : ((q : Int) != 0) = false := by simp [hq0]
            have t5 : (q != 0) = false := by simp [hq0]
            have hno : (R (wf ws) g k).testBit g = false := by
              cases h : (R (wf ws) g k).testBit g
              · rfl
              · exact absurd hq0 (hgoal.2 h)
            have HNO := Lib.hid hno
            clear hrk hrk0 hgoal hq0 hne hno
            gi_big_wp2_with (gi_at_builtin; refine wpListIn_append_own _ rfl _ _ 72 rfl W.heap.size 22 i0 (.int .u64 0) 1 8 Tryd.underlying72 hi hz0 hz1 hz2 rfl (by decide) _ _ _ rfl (hB.out.row.alloc _) ⟨wr.heap.size, 0, none⟩ 1 1 [.int .u64 (rk : Int)] rfl rfl (cell_one_new _ _ _) (by simp [Value.oneCell']) (by unfold maxLen; omega) (by omega) (by simp; omega) ?_; intro v' w3 hown' hg3 hnil3; obtain ⟨g', c', rfl, hl3, hbx3, hrow3, hc3, hk3, hkc⟩ := HROW.out _ _ hown' hg3; have hcb3 := hbx3.cell)
            refine ⟨⟨k + 1, some ⟨g', 0, none⟩, c', rfl, by rw [HOR.out]; rfl, by rw [HRK.out]; rfl, Lib.hid ⟨hl3, hbx3, hrow3, fun m hm => ?_, hk3⟩⟩, by simp [lenV]; omega⟩
            rcases Nat.lt_or_ge m k with h | h
            · exact hB.out.no m h
            · rw [show m = k by omega]; exact HNO.out
          · have t4 : ((q : Int) != 0) = true := by simp; omega
            have t5 : (q != 0) = true := by simp; omega
            have hdd : dd (wf ws) g g = k + 1 := dd_of_R (hgoal.1 hq0)
            have HDD := Lib.hid hdd
            clear hrk hrk0 hgoal hq0 hne hdd
            gi_big_wp2_with (first | (gi_at_builtin; refine wpListIn_append_own _ rfl _ _ 72 rfl W.heap.size 22 i0 (.int .u64 0) 1 8 Tryd.underlying72 hi hz0 hz1 hz2 rfl (by decide) _ _ _ rfl (hB.out.row.alloc _) ⟨wr.heap.size, 0, none⟩ 1 1 [.int .u64 (rk : Int)] rfl rfl (cell_one_new _ _ _) (by simp [Value.oneCell']) (by unfold maxLen; omega) (by omega) (by simp; omega) ?_; intro v' w3 hown' hg3 hnil3; obtain ⟨g', c', rfl, hl3, hbx3, hrow3, hc3, hk3, hkc⟩ := HROW.out _ _ hown' hg3; have hcb3 := hbx3.cell) | (gi_at_call 43; refine (backward_in F (n - 1) h43 hro _ _ _ _).mono ?_; rintro e w' ⟨rfl, rfl⟩))
            have hn := HN.out
            have hR := Ring.start hg hl3 hbx3 hrow3 HDD.out
            obtain ⟨Wr, hWr⟩ : ∃ Wr, (((w3.alloc (.cells #[.int .i64 (g : Int)] 3)).alloc (.cells #[.slice (some ⟨w3.heap.size, 0, none⟩) 1 1] 27)).alloc (.cells #[.slice (some ⟨g', 0, none⟩) k c'] 72)) = Wr := ⟨_, rfl⟩
            rw [hWr] at hR ⊢
            have hsize : W.heap.size ≤ Wr.heap.size := by obtain ⟨_, _, _, h⟩ := hR; exact h.later.size
            clear hWr
            apply rf_all (F := F) (n := n) hro h1 (gf := 48) (lb := #[.pointer (some ⟨w3.heap.size + 1 + 1, 0, none⟩)]) (by rfl) h48 (enters_of Tryd.func48 (by kernel_rfl) rfl)
              (encs := fun kk => #[.int .i64 ((k - 1 - kk : Nat) : Int), .int .u64 ((R (wf ws) g (k - 1 - kk) : Nat) : Int)]) (N := k) (fun _ => rfl) (BackFact (w3.heap.size + 1 + 1) g' c' k (R (wf ws) g))
              (fun l J W hJ hY h0 => back1_in F (n - 1) h48 hro (by omega) _ g' c' k (R (wf ws) g) (by omega) l J W hJ hY h0)
              (Ring W gb ws g k g' c' (w3.heap.size + 1) (w3.heap.size + 1 + 1)) (Ring.own hsize) (fun _ _ h => h.fact) hR
            case hassign =>
              intro l kk W' K hK
              gi_wp2
              exact hK
            case hbody =>
              rintro l kk W' hl ⟨r, hr⟩ ⟨v, L, a, hA⟩ hkk
              obtain ⟨gc, cc, rfl, hlast⟩ := hA.lastCell
              have hc2 := hA.box2.cell
              have hcC := hA.boxC.cell
              have hfC := hA.boxC.frozen
              have ca : W'.cell? ⟨gb, a, none⟩ = some (.int .u64 ((wf ws a : Nat) : Int)) := (HG.out.later hA.later).cell hA.lt
              have ha16 := hA.lt
              obtain ⟨i, hi⟩ : ∃ i, k - 1 - kk = i := ⟨_, rfl⟩
              obtain ⟨ri, hri⟩ : ∃ ri, R (wf ws) g i = ri := ⟨_, rfl⟩
              rw [hi, hri]
              obtain ⟨n1, n2, n3, n4, n5⟩ := nxt_spec (n := i) (HGR.out.lt a) (hA.dist.trans (by omega)) (by omega)
              have hand := and64 (wf ws a) ri (Nat.lt_trans (HGR.out.lt a) (by decide)) (by rw [← hri]; exact Nat.lt_trans (R_lt _) (by decide))
              have hnx : nxt (wf ws) g a i = Lib.ctz 64 (wf ws a &&& ri) := by rw [← hri]; rfl
              rw [hri] at n1
              obtain ⟨wa, hwa⟩ : ∃ wa, wf ws a = wa := ⟨_, rfl⟩
              have hwlt : wa < 65536 := by rw [← hwa]; exact HGR.out.lt a
              rw [hwa] at n1 hand hnx ca
              obtain ⟨x, hx⟩ : ∃ x, wa &&& ri = x := ⟨_, rfl⟩
              have hxlt : x < 18446744073709551616 := by rw [← hx]; exact Nat.lt_of_le_of_lt Nat.and_le_left (Nat.lt_trans hwlt (by decide))
              rw [hx] at n1 hand hnx
              have HX1 := Lib.hid n1
              have HXL := Lib.hid hxlt
              have HNX := Lib.hid hnx
              have HI := Lib.hid hi
              clear n1 hxlt hnx hi hx hwlt hwa hri n2 n3 n4 n5
              have hkk16 : kk < 16 := by omega
              have h1' : 1 ≤ n - 1 - 1 := by omega
              gi_wp2
              refine region22_in F (n - 1 - 1) l h36 hro h1' _ _ gc cc gb kk a wa ri x W' _ _ _ _ _ _ _ _ _ _ _ _ _ _ _ _ _ _ _ _ _ _ _ _ _ _ _ _ _ _ _ _ _ _ _ _ _ _ _ _ _ _ _ _ _ _ _ _ _ _ _ _ _ _ _ _ _ _ _ _ _ _ _ _ _ _ _ _ _ _ _ _ _ _ _ _ _ _ _ _ _ _ _ _ _ _ _ _ _ _ _ _ _ _ _ hc2 hcC hlast ca ha16 hkk16 hand ?_
              gi_wp2
              have hA5 := (RingAt.own (W := W) (gb := gb) (ws := ws) (g := g) (N := k) (g' := g') (c' := c') (C := w3.heap.size + 1) (Bb := w3.heap.size + 1 + 1) (kk := kk) (B := W.heap.size) (Nat.le_refl _)).alloc (s := ()) (.cells #[.int .u64 (x : Int)] 22) hA.drew
              have bM := Boxed.new W'.drew 22 (.int .u64 (x : Int))
              have hl5 := (Array.getElem?_eq_some_iff.1 hr).1
              have hr5 : (W'.drew.alloc (.cells #[.int .u64 (x : Int)] 22)).heap[l]? = some (.loop r) := (Below.heap_alloc W'.drew _ l hl5).trans hr
              have hk5 : KeepsFrom Wr.heap.size W' (W'.drew.alloc (.cells #[.int .u64 (x : Int)] 22)) := by
                have h := (KeepsOthers.alloc W'.drew (.cells #[.int .u64 (x : Int)] 22)).from Wr.heap.size
                exact ⟨h.size, h.same⟩
              have hs5 : W'.heap.size < (W'.drew.alloc (.cells #[.int .u64 (x : Int)] 22)).heap.size := by show W'.heap.size < (W'.heap.push _).size; simp
              obtain ⟨W5, hW5⟩ : ∃ W5, W'.drew.alloc (.cells #[.int .u64 (x : Int)] 22) = W5 := ⟨_, rfl⟩
              rw [hW5] at hA5 bM hr5 hk5 hs5 ⊢
              clear hW5
              have bM5 : W5.heap[W'.heap.size]? = some (.cells #[.int .u64 (x : Int)] 22 (0, 0)) := bM
              obtain ⟨ct, hct⟩ : ∃ ct, Lib.ctz 64 x = ct := ⟨_, rfl⟩
              have hmem := fun l' Post W'' (hb : Below W5.heap.size W5 W'') hY => mem1_first F (n - 1 - 1 - 1) h41 h47 hro (by omega) l' W'.heap.size x HXL.out HX1.out Post W'' (tab_below HP.out (hA5.later.step hb) HT.out) ((hb.block _ hs5).trans bM5) hY
              rw [hct] at hmem
              have hwr5 : Wr.heap.size ≤ W5.heap.size := by have := hk5.size; omega
              have hsz5 := hA5.later.size
              apply rf_break (F := F.inRound l) (l₀ := l) (r₀ := r) rfl hr5 h1' (gf := 47) (lb := #[.pointer (some ⟨W'.heap.size, 0, none⟩)]) (by rfl) h47 (enters_of Tryd.func47 (by kernel_rfl) rfl)
                (enc := #[.int .i64 ((ct : Nat) : Int)]) rfl hmem (id := 6)
                (fun X => RingAt W gb ws g k g' c' (w3.heap.size + 1) (w3.heap.size + 1 + 1) kk (.slice (some ⟨gc, 0, none⟩) (kk + 1) cc) L a X ∧ KeepsFrom Wr.heap.size W' X)
                (fun X => Ring W gb ws g k g' c' (w3.heap.size + 1) (w3.heap.size + 1 + 1) (kk + 1) X ∧ KeepsFrom Wr.heap.size W' X)
                (OwnFrom.and (RingAt.own hsz5) (ownFrom_keepsFrom (Nat.le_of_lt hs5))) (OwnFrom.and (fun _ => Ring.own hsz5 (kk + 1)) (ownFrom_keepsFrom (Nat.le_of_lt hs5))) ⟨hA5, hk5⟩
              case hassign =>
                intro X K hK
                gi_wp2
                exact hK
              case hbody =>
                rintro X ⟨hX, hkX⟩
                have hcX := hX.boxC.cell
                have hfX := hX.boxC.frozen
                have hlenX := hX.len
                have hszX := hX.later.size
                obtain ⟨i0, hi, hz0, hz1, hz2⟩ := info_parts infoInt
                have hx' : ct = nxt (wf ws) g a (k - 1 - kk) := by rw [HI.out, HNX.out, hct]
                have HX' := Lib.hid hx'
                clear hx'
                gi_big_wp2_with (gi_at_builtin; refine wpListIn_append_own _ rfl _ _ 27 rfl W.heap.size 3 i0 (.int .i64 0) 1 8 Tryd.underlying27 hi hz0 hz1 hz2 rfl (by decide) _ _ _ rfl (hX.row.alloc _) ⟨X.heap.size, 0, none⟩ 1 1 [.int .i64 (ct : Int)] rfl rfl (cell_one_new _ _ _) (by simp [Value.oneCell']) (by unfold maxLen; omega) (by omega) (by simp; omega) ?_; intro v' w4 hown' hg4 hnil4; obtain ⟨gd, cd, rfl⟩ := ownsRow_succ hown'; have hc4 := (hX.boxKeep hg4).cell; have hf4 := (hX.boxKeep hg4).frozen)
                have hAP := hX.append HGR.out hkk (by omega) HX'.out hown' hg4
                rw [hlenX] at hAP
                exact ⟨keeps_append hX.row hg4 hX.boxC rfl, ⟨_, _, _, hAP⟩, hkX.trans (keeps_append hX.row hg4 hX.boxC rfl)⟩
              case hstop =>
                rintro X ⟨hX, hkX⟩
                gi_wp2
            case hdone =>
              rintro D W5 hD ⟨v, L, a, hA⟩ hK
              have hcC := hA.boxC.cell
              have hA2 := fun o' => RingAt.own (Nat.le_trans hsize hD) |>.putObj (s := ()) (l := D) o' hA (Nat.le_refl _) hK rfl
              have HA := Lib.hid (hA2 (.deferred none))
              clear hA hA2
              gi_wp2
              refine ⟨by simp, .inl ⟨_, _, rfl, run_takeDeferred hK, ?_⟩⟩
              refine ⟨_, results_tmp2 (fn := Tryd.f28) rfl _ _ _, ?_⟩
              have hB := HA.out
              have his := hB.is
              rw [Nat.sub_self, trail, List.append_nil] at his
              obtain ⟨A', c2, rfl, _⟩ := own_form hB.row
              have hcy : cyc (wf ws) g = (L, true) := by
                unfold cyc; rw [if_neg (by rw [HDD.out]; omega), his, HDD.out]; rfl
              rw [hcy]
              exact ⟨A', c2, rfl, own_ints hB.row, hB.later⟩
end Go.Proofs.YtmfjncbccaifiaaDoor
