/- LockBreaks: the walk. -/
import Derived.Test.YtmfjncbccaifiaaDoorF2
import Derived.Test.YtmfjncbccaifiaaDoorG1
import Derived.Deep.QuietTactic
import Derived.BigQuiet
namespace Go.Proofs.YtmfjncbccaifiaaDoor
open Go.RowKit
set_option linter.unusedVariables false
set_option linter.unusedSimpArgs false

theorem GS.drew {W wr : World} {gb rb : Nat} {ws : List Nat} {bs : List Bool} (h : GS W gb rb ws bs wr) : GS W gb rb ws bs wr.drew :=
  ⟨h.later.drew, h.g, h.r, h.rel, h.hg, h.hr, h.ne⟩

set_option maxHeartbeats 8000000 in
set_option maxRecDepth 100000 in
theorem breaks_start (A0 : Option Addr) (len0 cap0 : Nat) (a1 a2 : Int) (W : World) (st : Start W) (f : Nat → Wt) (hw : WRow W A0 len0 f) (hlen : len0 ≤ maxLen) (hwb : ∀ i, i < len0 → (f i).2.2.2.length * 8 ≤ reachBytes)
    (HS : Hid (∀ w', Later W w' → Calls Tryd.prog 11 #[] w' fun e w'' => e = .returned (.bool true) ∧ Later W w'')) :
    Calls Tryd.prog 10 #[.slice A0 len0 cap0, .int .i64 a1, .int .i64 a2] W fun e W' => e = .returned (.bool true) ∧ Later W W' := by
  have hb := Below.refl W.heap.size W
  have hzv : ∀ w, Sem.run Tryd.prog (zeroValue 51) w = .ok (.agg (bools (List.replicate 256 false))) w := fun w => by kernel_rfl
  obtain ⟨zr, hzr⟩ : ∃ zr, zr = bools (List.replicate 256 false) := ⟨_, rfl⟩
  obtain ⟨zg, hzg⟩ : ∃ zg, zg = u64s (List.replicate 16 0) := ⟨_, rfl⟩
  have HNG : Hid (∀ w, Calls Tryd.prog 29 #[] w fun e w' => e = .returned (.pointer (some ⟨w.heap.size, 0, none⟩)) ∧ w' = w.alloc (.cells zg 71)) := Lib.hid (by rw [hzg]; exact newGraph_any)
  rw [← hzr] at hzv
  have HZR := Lib.hid hzr
  have HZG := Lib.hid hzg
  clear hzr hzg
  go_enter Tryd.func10, Tryd.ntmps10
  go_wp2_with (first | (go_at_call 11; refine (HS.out _ hb).mono ?_; clear hb; rintro e w1 ⟨rfl, hb⟩) | (go_at_call 29; refine (HNG.out _).mono ?_; rintro e w2 ⟨rfl, rfl⟩))
  have hgs := GS.start hb
  rw [← HZG.out, ← HZR.out] at hgs
  have HGS := Lib.hid hgs
  clear hgs hzv
  obtain ⟨gb, hgb⟩ : ∃ gb, gb = w1.heap.size := ⟨_, rfl⟩
  obtain ⟨rb, hrb⟩ : ∃ rb, rb = w1.heap.size + 1 := ⟨_, rfl⟩
  rw [← hrb, ← hgb] at HGS
  rw [← hrb, ← hgb]
  have HW := Lib.hid hw
  have HWB := Lib.hid hwb
  clear hgb hrb hb hw hwb
  have hml : len0 ≤ 9223372036854775807 := hlen
  go_loopw [10] (fun i wr => ∃ (k : Nat) (ws : List Nat) (bs : List Bool), k ≤ len0 ∧ i = .int .i64 k ∧ Hid (GS W gb rb ws bs wr) ∧ Hid (Irr (wf ws))) (fun i _ => len0 - (intOf i).toNat)
  case atStart => exact ⟨0, _, _, Nat.zero_le _, rfl, HGS, Lib.hid Irr.zero⟩
  case round =>
    clear HGS
    obtain ⟨k, ws, bs, hk, rfl, HGS, HIR⟩ := hrel
    by_cases hlt : k < len0
    · obtain ⟨x, rfl, hc1, hc2, hblk, hin, hil, hwf⟩ := HW.out k hlt
      have hbk := HWB.out k hlt
      obtain ⟨⟨a, B, c, l⟩, hq⟩ : ∃ q, f k = q := ⟨_, rfl⟩
      rw [hq] at hc1 hc2 hin hil hwf hbk
      simp only at hc1 hc2 hin hil hwf hbk
      obtain ⟨p, hp⟩ : ∃ p, x.add (k * 2) = p := ⟨_, rfl⟩
      have hpb : p.block < W.heap.size := by rw [← hp, add_blk]; exact hblk
      rw [hp] at hc1
      rw [show x.add (k * 2 + 1) = ⟨p.block, p.off + 1, none⟩ by rw [← hp, ← Addr.add_add]; rfl] at hc2
      have HC1 : Hid (∀ X, Later W X → X.cell? p = some (.int .i64 a)) := Lib.hid fun X h => (h.cell hpb).trans hc1
      have HC2 : Hid (∀ X, Later W X → X.cell? ⟨p.block, p.off + 1, none⟩ = some (.slice B l.length c)) := Lib.hid fun X h => (h.cell (p := ⟨p.block, p.off + 1, none⟩) hpb).trans hc2
      have HINW : Hid (∀ X, Later W X → Ints X B l) := Lib.hid fun X h => hin.later h
      have HNE : Hid (∀ ad, B = some ad → 0 < l.length → ad.block ≠ rb) := Lib.hid fun ad e hl => by
        obtain ⟨ad', e', _, hlt'⟩ := hin 0 hl
        rw [e] at e'
        cases e'
        have := HGS.out.hr
        omega
      clear hin hq hc1 hc2
      have hbl : l.length ≤ 17592186044416 := by have := reachBytes_lt; omega
      have HGD := Lib.hid HGS.out.drew
      have hd1 := HC1.out wr.drew HGD.out.later
      have hd2 := HC2.out wr.drew HGD.out.later
      have hwt := wait_any gb ws a B c l wr.drew HGD.out.g (HINW.out _ HGD.out.later) (by omega)
      go_wp2
      go_still_tail 11, (by kernel_rfl)
      change wpList _ _ _ _ _ wr.drew
      go_wp2_with (go_at_call 27; refine hwt.mono ?_; rintro e w5 hp5; obtain ⟨rfl, hgm⟩ := HGD.out.wait hp5; clear hp5)
      have HGM := Lib.hid hgm.drew
      clear hgm hd1 hd2 hwt
      have hd1 := HC1.out w5.drew HGM.out.later
      have hd2 := HC2.out w5.drew HGM.out.later
      have hrw := rwait_any rb bs a B c l w5.drew HGM.out.r (HINW.out _ HGM.out.later) (by omega) HNE.out
      go_still_tail 11, (by kernel_rfl)
      change wpList _ _ _ _ _ w5.drew
      go_wp2_with (go_at_call 30; refine hrw.mono ?_; rintro e w6 hp6; obtain ⟨rfl, ws6, bs6, hgs6, hir6⟩ := HGM.out.wait_irr HIR.out hp6; clear hp6)
      go_round
      case rel => exact ⟨k + 1, ws6, bs6, by omega, by go_num, Lib.hid hgs6, Lib.hid hir6⟩
      case measure => simp [intOf]; omega
    · have hkl : k = len0 := by omega
      subst hkl
      clear hk hlt HW HWB HNG HZR HZG
      have hcy := HGS.out.cycle st a1
      rcases cycE_cases HGS.out.rel.gr HIR.out a1 with ⟨g, L, rfl, hg16, hq, hR⟩ | hq
      · rw [hq] at hcy
        have HR := Lib.hid hR
        have HQ := Lib.hid hq
        have hL2 := hR.two
        have hL16 := hR.most
        clear hR hq
        go_wp2_with (go_at_call 28; refine hcy.mono ?_; rintro e w2 ⟨A2, c2, rfl, hi2, hgs2, hl2⟩; obtain ⟨ad, rfl, _, hadl⟩ := hi2 0 (by simp; omega); (have HGS2 := Lib.hid hgs2); (have HL : Hid (∀ X j, Later w2 X → j < L.length → X.cell? (ad.add j) = some (.int .i64 ((L.getD j 0 : Nat) : Int))) := Lib.hid (fun X j hX hj => by obtain ⟨ad', e', hc', hl'⟩ := hi2 j (by simpa using hj); cases e'; rw [(hX.cell (p := ad.add j) (by rw [add_blk]; exact hl')), hc']; simp [List.getD_eq_getElem?_getD, hj])); (have hc0 : w2.cell? ad = some (.int .i64 (g : Int)) := (by have := HL.out w2 0 (Below.refl _ _) (by omega); rw [HR.out.first] at this; exact this)); clear hi2 hgs2 hl2 hcy)
        go_loopw [15] (fun i wr => ∃ n : Nat, n ≤ L.length ∧ i = .int .i64 n ∧ Hid (Later w2 wr)) (fun i _ => L.length - (intOf i).toNat)
        case atStart => exact ⟨0, Nat.zero_le _, rfl, Lib.hid (Below.refl _ _)⟩
        case round =>
          obtain ⟨n, hn, rfl, HL2⟩ := hrel
          by_cases hlt : n < L.length
          · obtain ⟨m, hm⟩ : ∃ m, (n + 1) % L.length = m := ⟨_, rfl⟩
            have hml2 : m < L.length := by rw [← hm]; exact Nat.mod_lt _ (by omega)
            have hrem : ((n : Int) + 1).tmod (L.length : Int) = (m : Int) := by
              rw [← hm]; rfl
            have hbit := HR.out.next n hlt
            rw [hm] at hbit
            have hx16 := HR.out.lt n hlt
            have hy16 := HR.out.lt m hml2
            have HNE : Hid (∀ k, k < n → L.getD k 0 ≠ L.getD n 0) := Lib.hid fun k hk => HR.out.ne hlt hk
            have HCX : Hid (∀ X, Later w2 X → X.cell? (ad.add n) = some (.int .i64 ((L.getD n 0 : Nat) : Int))) := Lib.hid fun X hX => HL.out X n hX hlt
            have HCY : Hid (∀ X, Later w2 X → X.cell? (ad.add m) = some (.int .i64 ((L.getD m 0 : Nat) : Int))) := Lib.hid fun X hX => HL.out X m hX hml2
            have HCB : Hid (∀ X, Later w2 X → X.cell? ⟨rb, L.getD n 0 * 16 + L.getD m 0, none⟩ = some (.bool true)) := Lib.hid fun X hX => by
              have hg := HGS2.out.go hX
              rw [hg.r.cell (by omega), hg.rel.is _ _ hx16 hy16, hbit]
            generalize L.getD n 0 = x at *
            generalize L.getD m 0 = y at *
            have cx := HCX.out wr HL2.out
            have cy := HCY.out wr HL2.out
            have cb := HCB.out wr HL2.out
            have g1 : decide ((x : Int) < 0) = false := decide_eq_false (by omega)
            have g2 : decide ((16 : Int) ≤ x) = false := decide_eq_false (by omega)
            have g3 : decide ((y : Int) < 0) = false := decide_eq_false (by omega)
            have g4 : decide ((16 : Int) ≤ y) = false := decide_eq_false (by omega)
            clear hm hbit
            go_wp2
            go_quiet (fail)
            have HLQ : Hid (Later w2 (wr.drewN nq)) := Lib.hid (HL2.out.step (later_drewN _ _))
            generalize wr.drewN nq = wq at HLQ ⊢
            clear cx cy cb g1 g2 g3 g4 hrem
            go_wp2
            go_loopw [17] (fun i wr => ∃ q : Nat, q ≤ n ∧ i = .int .i64 q ∧ Hid (Later w2 wr)) (fun i _ => n - (intOf i).toNat)
            case atStart => exact ⟨0, Nat.zero_le _, rfl, HLQ⟩
            case round =>
              clear HLQ
              obtain ⟨q, hqn, rfl, HL3⟩ := hrel
              by_cases hlt3 : q < n
              · have hql : q < L.length := by omega
                have cq := HL.out _ q HL3.out hql
                have cx := HCX.out _ HL3.out
                have hne := HNE.out q hlt3
                generalize L.getD q 0 = z at cq hne
                have t1 : ((z : Int) == (x : Int)) = false := by simp; omega
                have t2 : (z == x) = false := by simpa using hne
                clear hne
                rename_i wq3 _ _ _ _ _ _ _
                go_wp2
                go_quiet (fail)
                have HLQ : Hid (Later w2 (World.drewN _ nq)) := Lib.hid (HL3.out.step (later_drewN _ nq))
                generalize World.drewN _ nq = wq at HLQ ⊢
                clear cq cx t1 t2
                go_wp2
                exact ⟨⟨q + 1, by omega, by go_num, HLQ⟩, by simp [intOf]; omega⟩
              · go_wp2
                exact ⟨⟨n + 1, by omega, by go_num, HL3⟩, by simp [intOf]; omega⟩
          · have hnl : L.length ≤ n := by omega
            obtain ⟨hp1, hp2, hp3, hp4⟩ := pick_spec a2 L.length (by omega)
            have hv16 := HR.out.lt _ hp2
            have hgone := cyc_gone HGS.out.rel.gr HIR.out HGS.out.rel.len hg16 hv16 HR.out
            have cv := HL.out wr _ HL2.out hp2
            generalize pick a2 L.length = pk at *
            generalize L.getD pk 0 = v at *
            obtain ⟨t, ht⟩ : ∃ t, a2.tmod (L.length : Int) = t := ⟨_, rfl⟩
            rw [ht] at hp1 hp3 hp4
            have hw1 : IntKind.i64.wrap (t + (L.length : Int)) = t + (L.length : Int) := by rw [IntKind.wrap_i64]; omega
            have HGL := Lib.hid (HGS2.out.go HL2.out)
            have hwn := HGL.out.wait_none hv16
            have HCA : Hid (∀ X, GB X gb (ws.set v 0) → Later W X → Calls Tryd.prog 28 #[.pointer (some ⟨gb, 0, none⟩), .int .i64 (g : Int)] X (CycPost (cycE (wf (ws.set v 0)) (g : Int)).1 (cycE (wf (ws.set v 0)) (g : Int)).2 X)) := Lib.hid fun X hG hX => cycle_any gb (ws.set v 0) (g : Int) X hG hgone.2.2 (st.later hX)
            obtain ⟨hg1, hg2, _⟩ := hgone
            have hDl := cycE_length (wf (ws.set v 0)) (g : Int)
            generalize cycE (wf (ws.set v 0)) (g : Int) = qq at hg1 hg2 HCA hDl
            obtain ⟨D, b⟩ := qq
            simp only at hg1 hg2 HCA hDl
            have HG1 := Lib.hid hg1
            have HG2 := Lib.hid hg2
            clear hg1 hg2
            go_wp2_with (first
              | (go_at_call 27; refine hwn.mono ?_; rintro e w3 ⟨rfl, hgb3, hl3⟩; have HGB3 := Lib.hid (And.intro hgb3 hl3); clear hgb3 hl3)
              | (go_at_call 28; refine (HCA.out _ HGB3.out.1 HGB3.out.2).mono ?_; rintro e w4 ⟨A4, c4, rfl, hi4, hl4⟩; have HI4 := Lib.hid hi4; have HL4 := Lib.hid (HGB3.out.2.step hl4); clear hi4 hl4))
            have HGB3' := HGB3
            clear HGB3 HGB3' cv hp1 hw1 ht hwn hp2 hp3 hp4 hnl hlt hn
            go_loopw [22] (fun i wr => ∃ q : Nat, q ≤ D.length ∧ i = .int .i64 q ∧ wr = w4) (fun i _ => D.length - (intOf i).toNat)
            case atStart => exact ⟨0, Nat.zero_le _, rfl, rfl⟩
            case round =>
              obtain ⟨q, hq4, rfl, rfl⟩ := hrel
              by_cases hlt4 : q < D.length
              · obtain ⟨ad4, rfl, hc4, hb4⟩ := HI4.out q (by simpa using hlt4)
                have hc5 : wr.cell? (ad4.add q) = some (.int .i64 ((D.getD q 0 : Nat) : Int)) := by rw [hc4]; simp [List.getD_eq_getElem?_getD, hlt4]
                have hne := HG1.out q hlt4
                generalize D.getD q 0 = z at hc5 hne
                have t1 : ((z : Int) == (v : Int)) = false := by simp; omega
                have t2 : (z == v) = false := by simpa using hne
                clear hne hc4
                go_wp2
                go_round
                case rel => exact ⟨q + 1, by omega, by go_num, trivial⟩
                case measure => simp [intOf]; omega
              · have hfin := HL4.out
                have hg2 := HG2.out
                cases b with
                | false =>
                  clear hg2
                  go_wp2
                  go_ret
                  exact ⟨rfl, HL4.out⟩
                | true =>
                  have hge : L.length ≤ D.length := by
                    rcases hg2 with h | h
                    · cases h
                    · exact h
                  have t3 : decide ((L.length : Int) ≤ (D.length : Int)) = true := decide_eq_true (by omega)
                  clear hg2
                  go_wp2
                  go_ret
                  exact ⟨rfl, HL4.out⟩
      · rw [hq] at hcy
        clear hq
        go_wp2_with (go_at_call 28; refine hcy.mono ?_; rintro e w2 ⟨A2, c2, rfl, hi2, hgs2, _⟩; have HGS2 := Lib.hid hgs2; clear hi2 hgs2 hcy)
        go_ret
        exact ⟨rfl, HGS2.out.later⟩

theorem LockBreaks.walk (A0 : Option Addr) (len0 cap0 : Nat) (f : Nat → Wt) (a1 a2 : Int) {W : World} (hw : WRow W A0 len0 f) (hlen : len0 ≤ maxLen) (hwb : ∀ i, i < len0 → (f i).2.2.2.length * 8 ≤ reachBytes) (_h1 : (Lit.int .i64 a1).wf = true) (_h2 : (Lit.int .i64 a2).wf = true) (st : Start W) :
    Calls Tryd.prog 10 #[.slice A0 len0 cap0, .int .i64 a1, .int .i64 a2] W fun e W' => e = .returned (.bool true) ∧ Later W W' :=
  breaks_start A0 len0 cap0 a1 a2 W st f hw hlen hwb (Lib.hid fun w' h => shown_at st w' h)
end Go.Proofs.YtmfjncbccaifiaaDoor
