/- NewGraph; what both graphs are at the start. -/
import Derived.Test.YtmfjncbccaifiaaDoorF15
import Derived.Deep.RegionLaw
import Derived.Laws.MakeOwn
import Derived.StillTailTactics
namespace Go.Proofs.YtmfjncbccaifiaaDoor
open Go.RowKit
set_option linter.unusedVariables false
set_option linter.unusedSimpArgs false

theorem newGraph_any (w : World) : Calls Tryd.prog 29 #[] w fun e w' => e = .returned (.pointer (some ⟨w.heap.size, 0, none⟩)) ∧ w' = w.alloc (.cells (u64s (List.replicate 16 0)) 71) := by
  go_enter Tryd.func29, Tryd.ntmps29
  go_wp2
  go_ret
  exact ⟨rfl, rfl⟩

theorem Rel.start : Rel (List.replicate 16 0) (List.replicate 256 false) := by
  have h0 : ∀ i, wf (List.replicate 16 0) i = 0 := fun i => by
    unfold wf
    rw [List.getD_eq_getElem?_getD, List.getElem?_replicate]
    split <;> rfl
  refine ⟨by simp, ⟨fun i => by rw [h0]; decide, fun i _ => h0 i⟩, fun i k hi hk => ?_⟩
  rw [h0, Nat.zero_testBit, List.getD_eq_getElem?_getD, List.getElem?_replicate, if_pos (by omega)]
  rfl

theorem GS.start {W w1 : World} (h : Later W w1) : GS W w1.heap.size (w1.heap.size + 1) (List.replicate 16 0) (List.replicate 256 false) ((w1.alloc (.cells (u64s (List.replicate 16 0)) 71)).alloc (.cells (bools (List.replicate 256 false)) 51)) := by
  have hs := h.size
  refine ⟨(h.alloc hs _).alloc (by rw [World.size_alloc]; omega) _, ⟨?_, List.length_replicate⟩, ⟨?_, List.length_replicate⟩, Rel.start, hs, by omega, by omega⟩
  · exact (Below.heap_alloc _ _ _ (by rw [World.size_alloc]; omega)).trans (World.alloc_heap_new w1 _)
  · have := World.alloc_heap_new (w1.alloc (.cells (u64s (List.replicate 16 0)) 71)) (.cells (bools (List.replicate 256 false)) 51)
    rwa [World.size_alloc] at this

theorem GS.other {W wr : World} {gb rb X : Nat} {ws : List Nat} {bs : List Bool} (h : GS W gb rb ws bs wr) (h1 : X ≠ gb) (h2 : X ≠ rb) (h3 : W.heap.size ≤ X) (i : Nat) (v : Value) : GS W gb rb ws bs (wr.setCell ⟨X, i, none⟩ v) := by
  have ho := only_set wr X i v
  exact ⟨Only.later h.later ho h3, ⟨(ho.same gb h.g.lt (Ne.symm h1)).trans h.g.1, h.g.2⟩, ⟨(ho.same rb h.r.lt (Ne.symm h2)).trans h.r.1, h.r.2⟩, h.rel, h.hg, h.hr, h.ne⟩

theorem GM.drew {W wr : World} {gb rb : Nat} {ws : List Nat} {bs : List Bool} {a : Int} {l : List Int} (h : GM W gb rb ws bs a l wr) : GM W gb rb ws bs a l wr.drew :=
  ⟨h.later.drew, h.g, h.r, h.rel, h.hg, h.hr, h.ne⟩

set_option maxHeartbeats 8000000 in
set_option maxRecDepth 100000 in
theorem graphs_start (A0 : Option Addr) (len0 cap0 : Nat) (a1 : Int) (W : World) (st : Start W) (f : Nat → Wt) (hw : WRow W A0 len0 f) (hlen : len0 ≤ maxLen) (hwb : ∀ i, i < len0 → (f i).2.2.2.length * 8 ≤ reachBytes)
    (HS : Hid (∀ w', Later W w' → Calls Tryd.prog 11 #[] w' fun e w'' => e = .returned (.bool true) ∧ Later W w'')) :
    Calls Tryd.prog 9 #[.slice A0 len0 cap0, .int .i64 a1] W fun e W' => e = .returned (.bool true) ∧ Later W W' := by
  have hb := Below.refl W.heap.size W
  have hzv : ∀ w, Sem.run Tryd.prog (zeroValue 51) w = .ok (.agg (bools (List.replicate 256 false))) w := fun w => by kernel_rfl
  obtain ⟨zr, hzr⟩ : ∃ zr, zr = bools (List.replicate 256 false) := ⟨_, rfl⟩
  obtain ⟨zg, hzg⟩ : ∃ zg, zg = u64s (List.replicate 16 0) := ⟨_, rfl⟩
  have HNG : Hid (∀ w, Calls Tryd.prog 29 #[] w fun e w' => e = .returned (.pointer (some ⟨w.heap.size, 0, none⟩)) ∧ w' = w.alloc (.cells zg 71)) := Lib.hid (by rw [hzg]; exact newGraph_any)
  rw [← hzr] at hzv
  have HZR := Lib.hid hzr
  have HZG := Lib.hid hzg
  clear hzr hzg
  go_enter Tryd.func9, Tryd.ntmps9
  go_wp2_with (first | (go_at_call 11; refine (HS.out _ hb).mono ?_; clear hb; rintro e w1 ⟨rfl, hb⟩) | (go_at_call 29; refine (HNG.out _).mono ?_; rintro e w2 ⟨rfl, rfl⟩))
  have hgs := GS.start hb
  rw [← HZG.out, ← HZR.out] at hgs
  have HGS := Lib.hid hgs
  clear hgs hzv
  obtain ⟨gb, hgb⟩ : ∃ gb, gb = w1.heap.size := ⟨_, rfl⟩
  obtain ⟨rb, hrb⟩ : ∃ rb, rb = w1.heap.size + 1 := ⟨_, rfl⟩
  rw [← hrb, ← hgb] at HGS
  rw [← hrb, ← hgb]
  have HGB := Lib.hid hgb
  have HRB := Lib.hid hrb
  have HW := Lib.hid hw
  have HWB := Lib.hid hwb
  clear hgb hrb hb hw hwb
  have hml : len0 ≤ 9223372036854775807 := hlen
  go_loopw [8] (fun i wr => ∃ (k : Nat) (ws : List Nat) (bs : List Bool), k ≤ len0 ∧ i = .int .i64 k ∧ Hid (GS W gb rb ws bs wr)) (fun i _ => len0 - (intOf i).toNat)
  case atStart => exact ⟨0, _, _, Nat.zero_le _, rfl, HGS⟩
  case round =>
    clear HGS
    obtain ⟨k, ws, bs, hk, rfl, HGS⟩ := hrel
    by_cases hlt : k < len0
    · obtain ⟨x, rfl, hc1, hc2, hblk, hin, hil, hwf⟩ := HW.out k hlt
      have hbk := HWB.out k hlt
      obtain ⟨⟨a, B, c, l⟩, hq⟩ : ∃ q, f k = q := ⟨_, rfl⟩
      rw [hq] at hc1 hc2 hin hil hwf hbk
      simp only at hc1 hc2 hin hil hwf hbk
      obtain ⟨p, hp⟩ : ∃ p, x.add (k * 2) = p := ⟨_, rfl⟩
      have hpb : p.block < W.heap.size := by rw [← hp, add_blk]; exact hblk
      rw [hp] at hc1
      rw [show x.add (k * 2 + 1) = ⟨p.block, p.off + 1, none⟩ by rw [← hp, ← Addr.add_add]; rfl] at hc2
      have HC1 : Hid (∀ X, Later W X → X.cell? p = some (.int .i64 a)) := Lib.hid fun X h => (h.cell hpb).trans hc1
      have HC2 : Hid (∀ X, Later W X → X.cell? ⟨p.block, p.off + 1, none⟩ = some (.slice B l.length c)) := Lib.hid fun X h => (h.cell (p := ⟨p.block, p.off + 1, none⟩) hpb).trans hc2
      have HINW : Hid (∀ X, Later W X → Ints X B l) := Lib.hid fun X h => hin.later h
      have HNE : Hid (∀ ad, B = some ad → 0 < l.length → ad.block ≠ rb) := Lib.hid fun ad e hl => by
        obtain ⟨ad', e', _, hlt'⟩ := hin 0 hl
        rw [e] at e'
        cases e'
        have := HGS.out.hr
        omega
      have HIN : Hid (Ints wr B l) := Lib.hid (hin.later HGS.out.later)
      have hc2w := HC2.out wr HGS.out.later
      have hpbw : p.block < wr.heap.size := Nat.lt_of_lt_of_le hpb HGS.out.later.size
      clear hin hq hc1 hc2
      go_wp2
      have hbl : l.length ≤ 17592186044416 := by have := reachBytes_lt; omega
      have hwr : IntKind.i64.wrap ((l.length : Int) + 1) = (l.length : Int) + 1 := by rw [IntKind.wrap_i64]; omega
      obtain ⟨i0, hi, hz0, hz1, hz2⟩ := info_parts infoInt
      obtain ⟨zs, hzs⟩ : ∃ zs, zs = madeCells (Value.int .i64 0).cells ((l.length + 1) * 1) := ⟨_, rfl⟩
      have hmk : ∀ w, Sem.run Tryd.prog (Instr.makeSlice 27 (.int .i64 0) (.int .i64 ((l.length : Int) + 1))) w = .ok (.slice (some ⟨w.heap.size, 0, none⟩) 0 (l.length + 1)) (w.alloc (.cells zs 3)) := fun w => by
        have h := run_make (P := Tryd.prog) w 27 3 i0 (.int .i64 0) Tryd.underlying27 hi hz0 .i64 .i64 0 ((l.length : Int) + 1) (Int.le_refl _) (by omega) (by rw [hz2]; omega) (by omega)
        rw [h, hzs, hz1]
        congr 2
      have hzl : zs.size = l.length + 1 := by rw [hzs]; simp [madeCells, Value.cells]
      have HSRC : Hid (∀ o, Src Tryd.prog 1 27 (.slice B l.length c) l.length (l.map (Value.int .i64)) (wr.alloc o).drew) := Lib.hid fun o => Ints.src Tryd.underlying27 (HINW.out _ (HGS.out.later.alloc HGS.out.later.size o).drew)
      have HROW : Hid (RowAt (wr.alloc (.cells zs 3)).drew wr.heap.size l.length) := Lib.hid (RowAt.fresh (by omega))
      have HSP : Hid (∀ j, j < (l.map (Value.int .i64)).length → ((wr.alloc (.cells zs 3)).drew.cell? ⟨wr.heap.size, 0 + 0 * 1 + j, none⟩).isSome = true ∧ (wr.alloc (.cells zs 3)).drew.frozen? ⟨wr.heap.size, 0 + 0 * 1 + j, none⟩ = false) := Lib.hid fun j hj => by
        rw [List.length_map] at hj
        obtain ⟨u, hu⟩ := HROW.out.is j hj
        refine ⟨?_, ?_⟩
        · rw [show 0 + 0 * 1 + j = j by omega, hu]; rfl
        · exact HROW.out.free _
      have HZS := Lib.hid hzs
      clear hzs hzl
      go_region_law (first | (refine step_append_src rfl (.tmp 40) (.tmp 45) 27 rfl 3 i0 1 Tryd.underlying27 hi hz1 wr.heap.size 0 0 (l.length + 1) rfl (.slice B l.length c) l.length (l.map (Value.int .i64)) rfl (HSRC.out _) (by omega) HSP.out ?_))
      all_goals go_simp
      all_goals have hgs := HGS.out.fresh (.cells zs 3) (l.map (Value.int .i64))
      all_goals have hra := RowAt.setCells (c := wr.heap.size) (l.map (Value.int .i64)) 0 HROW.out
      all_goals have hrow := fresh_row (wr := wr) (zs := zs) (l := l) (by rw [HZS.out]; simp [madeCells, Value.cells])
      all_goals have hbg : wr.heap.size ≠ gb := fun e => Nat.lt_irrefl _ (e ▸ HGS.out.g.lt)
      all_goals have hbr : wr.heap.size ≠ rb := fun e => Nat.lt_irrefl _ (e ▸ HGS.out.r.lt)
      all_goals have hbW : W.heap.size ≤ wr.heap.size := HGS.out.later.size
      all_goals generalize (wr.alloc (.cells zs 3)).drew.setCells wr.heap.size 0 (l.map (Value.int .i64)) = wf2 at hgs hrow hra ⊢
      all_goals generalize wr.heap.size = X at *
      all_goals have hd1 := HC1.out wf2 hgs.later
      all_goals have hd2 := HC2.out wf2 hgs.later
      all_goals have HG2 := Lib.hid hgs
      all_goals have HRA := Lib.hid hra
      all_goals have HBG := Lib.hid (And.intro hbg (And.intro hbr hbW))
      all_goals have hwt := wait_any gb ws a (some ⟨X, 0, none⟩) (l.length + 1) l wf2 hgs.g hrow (by omega)
      all_goals clear hgs hrow hra hbg hbr hbW
      all_goals go_wp2_with (go_at_call 27; refine hwt.mono ?_; rintro e w5 hp5; have HR5 := Lib.hid (HRA.out.only hp5.2.2 HBG.out.1); obtain ⟨rfl, hgm⟩ := HG2.out.wait hp5; clear hp5)
      all_goals have hd1 := HC1.out w5 hgm.later
      all_goals have hd2 := HC2.out w5 hgm.later
      all_goals have hgd := hgm.drew
      all_goals have HGD := Lib.hid hgd
      all_goals have hrw := rwait_any rb bs a B c l w5.drew hgd.r (HINW.out _ hgd.later) (by omega) HNE.out
      all_goals clear hgm hgd
      all_goals go_still_tail 11, (by kernel_rfl)
      all_goals change wpList _ _ _ _ _ w5.drew
      all_goals go_wp2_with (go_at_call 30; refine hrw.mono ?_; rintro e w6 hp6; have HR6 := Lib.hid (HR5.out.drew.only hp6.2.2 HBG.out.2.1); obtain ⟨rfl, ws6, bs6, hgs6⟩ := HGD.out.wait hp6; clear hp6)
      all_goals clear hrw hwt hd1 hd2 hc2w
      all_goals have HG6 := Lib.hid hgs6
      all_goals clear hgs6
      all_goals go_loopw [12] (fun i wr => ∃ m : Nat, m ≤ l.length ∧ i = .int .i64 m ∧ Hid (GS W gb rb ws6 bs6 wr) ∧ Hid (RowAt wr X l.length)) (fun i _ => l.length - (intOf i).toNat)
      all_goals first | exact ⟨0, Nat.zero_le _, rfl, HG6, HR6⟩ | skip
      all_goals clear HG6 HR6 HR5 HRA HG2 HGD HSRC HROW HSP HGS HIN
      all_goals
        rename_i wq
        obtain ⟨m, hm, rfl, HG7, HR7⟩ := hrel
        by_cases hmt : m < l.length
        · obtain ⟨u, hu⟩ := HR7.out.is m hmt
          have hfz := HR7.out.free m
          go_wp2
          go_round
          case rel => exact ⟨m + 1, by omega, by go_num, Lib.hid (HG7.out.other HBG.out.1 HBG.out.2.1 HBG.out.2.2 m _), Lib.hid (HR7.out.set _ _)⟩
          case measure => simp [intOf]; omega
        · go_wp2
          go_round
          case rel => exact ⟨k + 1, ws6, bs6, by omega, by go_num, HG7⟩
          case measure => simp [intOf]; omega
    · have hkl : k = len0 := by omega
      subst hkl
      clear hk hlt HW HWB HNG HZR HZG HGB HRB
      go_wp2
      go_loopw [13] (fun i wr => ∃ z : Int, -1 ≤ z ∧ z ≤ 17 ∧ i = .int .i64 z ∧ Hid (GS W gb rb ws bs wr)) (fun i _ => (17 - intOf i).toNat)
      case atStart => exact ⟨-1, by omega, by omega, rfl, HGS⟩
      case round =>
        clear HGS
        obtain ⟨z, hz1, hz2, rfl, HGS⟩ := hrel
        by_cases hlt : z ≤ 16
        · have hcy := HGS.out.cycle st z
          have HRC : Hid (∀ wr, GS W gb rb ws bs wr → Calls Tryd.prog 31 #[.pointer (some ⟨rb, 0, none⟩), .int .i64 z] wr (CycG W gb rb ws bs (cycE (wf ws) z) wr)) := Lib.hid fun _ h => h.rcycle z
          have hL := cycE_length (wf ws) z
          generalize cycE (wf ws) z = q at hcy HRC hL
          obtain ⟨L, b⟩ := q
          have HL := Lib.hid hL
          clear hL
          go_wp2_with (first
            | (go_at_call 28; refine hcy.mono ?_; rintro e w2 ⟨A2, c2, rfl, hi2, hgs2, _⟩; have HI2 := Lib.hid hi2; have HGS2 := Lib.hid hgs2; clear hi2 hgs2)
            | (go_at_call 31; refine (HRC.out _ HGS2.out).mono ?_; rintro e w3 ⟨A3, c3, rfl, hi3, hgs3, hl3⟩; have HI3 := Lib.hid hi3; have HGS3 := Lib.hid hgs3; have HL3 := Lib.hid hl3; clear hi3 hgs3 hl3)
            | (go_at_call 19; refine (ints_same L HL.out _ _ _ _ _ (HI2.out.later HL3.out) HI3.out).mono ?_; rintro e w4 ⟨rfl, hl4⟩))
          go_round
          case rel => exact ⟨z + 1, by omega, by omega, by go_num, Lib.hid (HGS3.out.go hl4)⟩
          case measure => simp [intOf]; omega
        · have hcy := HGS.out.cycle st a1
          have HRC : Hid (∀ wr, GS W gb rb ws bs wr → Calls Tryd.prog 31 #[.pointer (some ⟨rb, 0, none⟩), .int .i64 a1] wr (CycG W gb rb ws bs (cycE (wf ws) a1) wr)) := Lib.hid fun _ h => h.rcycle a1
          have hL := cycE_length (wf ws) a1
          generalize cycE (wf ws) a1 = q at hcy HRC hL
          obtain ⟨L, b⟩ := q
          have HL := Lib.hid hL
          clear hL
          go_wp2_with (first
            | (go_at_call 28; refine hcy.mono ?_; rintro e w2 ⟨A2, c2, rfl, hi2, hgs2, _⟩; have HI2 := Lib.hid hi2; have HGS2 := Lib.hid hgs2; clear hi2 hgs2)
            | (go_at_call 31; refine (HRC.out _ HGS2.out).mono ?_; rintro e w3 ⟨A3, c3, rfl, hi3, hgs3, hl3⟩; have HI3 := Lib.hid hi3; have HGS3 := Lib.hid hgs3; have HL3 := Lib.hid hl3; clear hi3 hgs3 hl3)
            | (go_at_call 19; refine (ints_same L HL.out _ _ _ _ _ (HI2.out.later HL3.out) HI3.out).mono ?_; rintro e w4 ⟨rfl, hl4⟩; have HL4 := Lib.hid hl4; clear hl4))
          go_ret
          exact ⟨rfl, (HGS3.out.go HL4.out).later⟩

theorem LockGraphs.walk (A0 : Option Addr) (len0 cap0 : Nat) (f : Nat → Wt) (a1 : Int) {W : World} (hw : WRow W A0 len0 f) (hlen : len0 ≤ maxLen) (hwb : ∀ i, i < len0 → (f i).2.2.2.length * 8 ≤ reachBytes) (_h1 : (Lit.int .i64 a1).wf = true) (st : Start W) :
    Calls Tryd.prog 9 #[.slice A0 len0 cap0, .int .i64 a1] W fun e W' => e = .returned (.bool true) ∧ Later W W' :=
  graphs_start A0 len0 cap0 a1 W st f hw hlen hwb (Lib.hid fun w' h => shown_at st w' h)
end Go.Proofs.YtmfjncbccaifiaaDoor
