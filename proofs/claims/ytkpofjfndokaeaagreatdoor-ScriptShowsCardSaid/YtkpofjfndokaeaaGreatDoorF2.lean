/- script.call: the walk of its loop. -/
import Derived.Test.YtkpofjfndokaeaaGreatDoorF15
import Derived.IntWalk
namespace Go.Proofs.YtkpofjfndokaeaaGreatDoor
open Go.RowKit
attribute [local go_sem] run_store_func run_store_nilFunc neq_func neq_nilFunc
set_option linter.unusedVariables false
set_option linter.unusedSimpArgs false

set_option maxRecDepth 100000 in
set_option maxHeartbeats 20000000 in
theorem call_fill (k : Int) (sl : Nat → Value) (fs : List Fd) (t : List UInt8) (r : List (List UInt8)) (v : Value) (W : World) (hW : Sp W) (hws : Ws W v (t :: r))
    (HLK : Hid (∀ (w : World) (base b : Nat), w.heap[b]? = some (.map (formsE base) 11) → (Instr.lookup 93 (.map (some b)) (.string ⟨t.toArray⟩) true).run Tryz.prog w = .ok (.tuple #[.agg #[.int .i64 k, sl base], .bool true]) w))
    (HFR : Hid (∀ (X w1 : World) (base b : Nat), Forms X w1 base b → FRow w1 base (sl base) fs)) (hsm : ∀ s ∈ r, s.length ≤ 4294967295)
    (hcb : callB (t :: r) = fillB (Cl.zero k) fs r) (hf3 : fs.length ≤ 3) (hrl : r.length = fs.length) : Calls Tryz.prog 47 #[v] W fun e w' => CallR (t :: r) e ∧ Below W.heap.size W w' := by
  have HRL := Lib.hid hrl
  have HCB0 := Lib.hid hcb
  clear hrl hcb
  have HF : Hid (∀ w n, w.heap.size = n → Calls Tryz.prog 49 #[] w fun e w' => e = .returned (.map (some (n + 6))) ∧ Forms w w' n (n + 6)) := Lib.hid fun w n h => by subst h; exact forms_any w
  obtain ⟨X, hX⟩ : ∃ X, X = W.alloc (.cells (Cl.zero 0).cells 25) := ⟨_, rfl⟩
  have hXs : X.heap.size = W.heap.size + 1 := by rw [hX, World.size_alloc]
  have hb0 : Below W.heap.size W X := by rw [hX]; exact (Below.refl W.heap.size W).alloc (Nat.le_refl _) _
  have hca : ClAt X W.heap.size (Cl.zero 0) := by rw [hX]; exact ClAt.fresh W _
  have HB := Lib.hid hb0
  have HCA := Lib.hid hca
  have HWS : Hid (∀ w', Below W.heap.size W w' → Ws w' v (t :: r)) := Lib.hid fun w' h => hws.later h (Nat.le_refl _)
  obtain ⟨A, c, rfl, hlc, hcell⟩ := HWS.out X hb0
  obtain ⟨b, o, rfl, hbl, hc0⟩ := hcell 0 t rfl
  have HD0 : Hid (∀ w', Below X.heap.size X w' → w'.cell? ⟨b, o, none⟩ = some (.string ⟨t.toArray⟩)) := Lib.hid fun w' h => (World.cell?_of_block (a := ⟨b, o, none⟩) (h.block b hbl)).trans hc0
  clear hcell hb0 hca hws
  have hml : (t :: r).length = r.length + 1 := rfl
  rw [hml] at hlc ⊢
  unfold strv at hc0
  unfold Cl.cells Cl.zero at hX
  go_enter Tryz.func47, Tryz.ntmps47
  go_upto_region 1 with fail
  rw [← hX]
  have HX := Lib.hid hX
  clear hX
  have hd5 := HD0.out (X.alloc (.cells #[.int .i64 0, .slice none 0 0] 68)).drew ((Below.refl X.heap.size X).alloc (Nat.le_refl _) _).drew
  have hd7 := HD0.out (X.alloc (.cells #[.int .i64 0, .slice none 0 0] 68)) ((Below.refl X.heap.size X).alloc (Nat.le_refl _) _)
  have hd6 := HD0.out X.drew (Below.refl X.heap.size X).drew
  go_cut [4, 5] (fun s4 s5 wx => ∃ q : Nat, s4 = .pointer (some ⟨q, 0, none⟩) ∧ s5 = .bool true ∧ Hid (PC X k fs q wx))
  case first =>
    go_region_with (first | (go_at_call 49; refine (HF.out _ (W.heap.size + 1) (by exact hXs)).mono ?_; rintro e w1 ⟨rfl, hf1⟩; have HF1 := Lib.hid hf1; have hbx := (Below.refl X.heap.size X).drew.trans hf1.below; have HBX := Lib.hid hbx; obtain ⟨A, hA, _⟩ := HFR.out _ _ _ _ hf1; have hlk := HLK.out _ _ _ hf1.map; have hd0 := HD0.out _ hbx; have hlk2 := HLK.out (w1.alloc (.cells #[.int .i64 0, .slice none 0 0] 68)) _ _ (((Below.refl w1.heap.size w1).alloc (Nat.le_refl _) _).block _ (Array.getElem?_eq_some_iff.1 hf1.map).1 |>.trans hf1.map); have hd2 := HD0.out (w1.alloc (.cells #[.int .i64 0, .slice none 0 0] 68)) (hbx.alloc hbx.size _); rw [hA] at hlk hlk2; have HAA := Lib.hid hA; have hn10 : True := trivial; clear hf1 hbx hA) | (go_at_call 49; refine (HF.out _ (W.heap.size + 1 + 1) (by show (X.alloc _).heap.size = _; rw [World.size_alloc]; exact congrArg (· + 1) hXs)).mono ?_; rintro e w1 ⟨rfl, hf1⟩; have HF1 := Lib.hid hf1; have hbx := ((Below.refl X.heap.size X).alloc (Nat.le_refl _) (.cells #[.int .i64 0, .slice none 0 0] 68)).drew.trans (hf1.below.mono (by show _ ≤ (X.alloc _).heap.size; rw [World.size_alloc]; exact Nat.le_succ _)); have HBX := Lib.hid hbx; obtain ⟨A, hA, _⟩ := HFR.out _ _ _ _ hf1; have hlk := HLK.out _ _ _ hf1.map; have hd0 := HD0.out _ hbx; rw [hA] at hlk; have HAA := Lib.hid hA; obtain ⟨z0, z1, z2, z3, z4⟩ := form_cells hXs hf1; clear hf1 hbx hA))
    all_goals go_wp2_with fail
    all_goals go_meet
    all_goals first
      | exact ⟨_, rfl, rfl, Lib.hid (pc_alloc HBX.out (by have := HFR.out _ _ _ _ HF1.out; rwa [HAA.out] at this))⟩
      | exact ⟨_, rfl, rfl, Lib.hid (pc_set hXs HF1.out HBX.out (by have := HFR.out _ _ _ _ HF1.out; rwa [HAA.out] at this))⟩
  case rest =>
    have hrl := HRL.out
    have hcb := HCB0.out
    clear HRL HCB0
    obtain ⟨q, rfl, rfl, HPC⟩ := hcut
    obtain ⟨wo, rfl⟩ : ∃ wo : World, wo = wc := ⟨_, rfl⟩
    obtain ⟨A, hq, hrow⟩ := HPC.out.at'
    have c0 : wo.cell? ⟨q, 0, none⟩ = some (.int .i64 k) := by simp [World.cell?, hq]
    have c1 : wo.cell? ⟨q, 1, none⟩ = some (.slice A fs.length fs.length) := by simp [World.cell?, hq]
    have hqlt : q < wo.heap.size := (Array.getElem?_eq_some_iff.1 hq).1
    have hz := HCA.out.go HPC.out.below (by omega)
    have hbw := HB.out.trans (HPC.out.below.mono HB.out.size)
    have hXl := HPC.out.below.size
    have HL : Hid (∀ w', Below wo.heap.size wo w' → Ws w' (.slice (some ⟨b, o, none⟩) (t :: r).length c) (t :: r) ∧ FRow w' 0 (.slice A fs.length fs.length) fs ∧ ClAt w' W.heap.size (Cl.zero 0) ∧ Sp w' ∧ Below W.heap.size W w' ∧ W.heap.size < w'.heap.size) := Lib.hid fun w' h => by
      have hb := hbw.trans (h.mono hbw.size)
      refine ⟨HWS.out w' hb, hrow.later h (Nat.le_refl _), hz.go h hz.lt, hW.later hb, hb, ?_⟩
      have := hz.lt
      have := h.size
      omega
    have hck : ClAt (wo.alloc (.cells (Cl.zero k).cells 25)) wo.heap.size (Cl.zero k) := ClAt.fresh wo _
    have hbk : Below wo.heap.size wo (wo.alloc (.cells (Cl.zero k).cells 25)) := (Below.refl wo.heap.size wo).alloc (Nat.le_refl _) _
    have HCK := Lib.hid hck
    have HBK := Lib.hid hbk
    clear hq hrow hbw hz hd5 hd6 hd7 HB HCA HWS HLK HFR HF HD0 hc0 hbk hck HX HPC
    have hr1 : r.length ≤ fs.length := by omega
    have hr2 : fs.length ≤ r.length := by omega
    have hbne : (((r.length : Int) + 1) != 1 + (fs.length : Int)) = false := by rw [bne_eq_false_iff_eq]; omega
    have hnb : fs.length < 9223372036854775807 := by omega
    clear hrl hml
    go_wp2_with fail
    obtain ⟨R, hR⟩ : ∃ R, R = wo.heap.size := ⟨_, rfl⟩
    have hRW : W.heap.size < R := by omega
    have hbR : b < R := by omega
    rw [← hR] at HCK HBK HL
    rw [← hR]
    have HR := Lib.hid hR
    clear hR c0 c1
    unfold Cl.cells Cl.zero at HCK HBK
    have HCB := Lib.hid hcb
    clear hcb
    go_loopw [36] (fun j wr => ∃ (n : Nat) (cc : Cl), n ≤ fs.length ∧ j = .int .i64 n ∧ Hid (Below R wo wr) ∧ Hid (ClAt wr R cc) ∧ Hid (callB (t :: r) = fillB cc (fs.drop n) (r.drop n))) (fun j _ => fs.length - (intOf j).toNat)
    case atStart => exact ⟨0, Cl.zero k, Nat.zero_le _, rfl, HBK, HCK, HCB⟩
    case round =>
      clear HCK HBK HCB
      obtain ⟨n, cc, hn, rfl, HBR, HCL, HCB⟩ := hrel
      obtain ⟨hws, hrow, hz, hsp, hbw, hlt⟩ := HL.out _ HBR.out
      have hRlt := HCL.out.lt
      by_cases hnl : n < fs.length
      · obtain ⟨f, hf⟩ : ∃ f, fs[n]? = some f := ⟨fs[n], List.getElem?_eq_getElem hnl⟩
        obtain ⟨s, hs⟩ : ∃ s, r[n]? = some s := ⟨_, List.getElem?_eq_getElem (by omega)⟩
        obtain ⟨A1, c1, hA1, _, hwd⟩ := hws
        obtain ⟨b1, o1, hbo, hbl1, hw⟩ := hwd (n + 1) s (by simpa using hs)
        injection hA1 with hA1 _ hcc1
        subst hcc1
        rw [← hA1] at hbo
        injection hbo with hbo
        injection hbo with hb1 ho1 _
        subst hb1; subst ho1
        obtain ⟨A2, hA2, hfr⟩ := hrow
        injection hA2 with hA2
        subst hA2
        obtain ⟨b2, hAb, _, hb2l, hc1, hc2⟩ := hfr n f hf
        subst hAb
        have hCB := HCB.out
        rw [List.drop_eq_getElem_cons hnl, List.drop_eq_getElem_cons (show n < r.length by omega), show fs[n] = f from Option.some.inj ((List.getElem?_eq_getElem hnl).symm.trans hf), show r[n]'(by omega) = s from Option.some.inj ((List.getElem?_eq_getElem (by omega)).symm.trans hs)] at hCB
        have HCB2 := Lib.hid (show callB (t :: r) = (f.put cc s).bind fun c => fillB c (fs.drop (n + 1)) (r.drop (n + 1)) from hCB)
        have hssm := hsm s (List.mem_of_getElem? hs)
        obtain ⟨S, hS⟩ : ∃ S : ByteArray, S = ⟨s.toArray⟩ := ⟨_, rfl⟩
        have hSl : S.data.toList = s := by rw [hS]
        have hw' : wr.cell? ⟨b, o + (n + 1), none⟩ = some (.string S) := by rw [hw, hS]; rfl
        have hw2 : wr.cell? ⟨b, o + (1 + n), none⟩ = some (.string S) := by rw [Nat.add_comm 1 n]; exact hw'
        have hw3 : wr.drew.cell? ⟨b, o + (1 + n), none⟩ = some (.string S) := hw2
        have hn2 : n ≤ 2 := by omega
        have hib : 1 + (n : Int) < (r.length : Int) + 1 := by omega
        have hib2 : 1 + n < r.length + 1 := by omega
        have hib0 : 0 ≤ 1 + (n : Int) := by omega
        have htn : (1 + (n : Int)).toNat = 1 + n := by omega
        have hSz : S.size ≤ 4294967295 := by rw [ba_size, hSl]; exact hssm
        have HBL := Lib.hid hbl1
        have HSP := Lib.hid hsp
        have HZ := Lib.hid hz
        have HBW := Lib.hid hbw
        obtain ⟨pb, hpb⟩ : ∃ pb, pb = (f.put cc s).isSome := ⟨_, rfl⟩
        have HPB := Lib.hid hpb
        have HTS := Lib.hid (text_got S hSz s hSl)
        have HNS := Lib.hid (num_got S hSz s hSl)
        clear hwd hfr hs hf hCB hw hS hssm hA1 HCB hbl1 hsp hz hbw hpb hw' hSl hSz
        cases f with
        | mode =>
          simp only [Fd.txt, Fd.num] at hc1 hc2
          have HT : Hid (∀ w, Sp w → Calls Tryz.prog 46 #[.string S] w fun e w' => ∃ z : Int, e = .returned (.tuple #[.int .i64 z, .bool pb]) ∧ PutR cc .mode s { cc with mode := z } ∧ Below w.heap.size w w') := Lib.hid fun w hw => (HNS.out w hw).mono fun e w' ⟨X, he, hx, hb⟩ => by
            have e1 : (Fd.put cc s .mode).isSome = (numB s).isSome := by unfold Fd.put; cases numB s <;> rfl
            refine ⟨X, by rw [he, HPB.out, e1], fun c'' h => ?_, hb⟩
            unfold Fd.put at h
            cases ht : numB s with
            | none => simp [ht] at h
            | some Y => simp only [ht, Option.map_some, Option.some.injEq] at h; rw [hx Y ht]; exact h
          clear HTS HNS
          go_upto_region 11 with fail
          go_cut [9] (fun s9 wx => ∃ c', s9 = .bool pb ∧ Hid (PutR cc .mode s c' ∧ ClAt wx R c' ∧ Below R wo wx))
          case first =>
            have hwk : IntKind.i64.wrap (1 + (n : Int)) = 1 + (n : Int) := IntWalk.i64_in _ (by omega)
            have hwr : wrap64 (1 + (n : Int)) = 1 + (n : Int) := by unfold wrap64; omega
            have hbl1 := HBL.out
            have HFD : Hid (∀ w, Calls Tryz.prog 67 #[.pointer (some ⟨R, 0, none⟩)] w fun e w' => e = .returned (.pointer (some ⟨R, 1, none⟩)) ∧ w' = w) := Lib.hid fun w => field_any .mode R w
            go_region_with (first | (go_at_call 67; refine (HFD.out _).mono ?_; rintro e w4 ⟨rfl, hw4⟩; subst hw4) | (go_at_call 46; refine (HT.out _ (HSP.out.later ((Below.refl wr.heap.size wr).alloc (Nat.le_refl _) _).drew)).mono ?_; rintro e w5 ⟨X, rfl, hp5, hb5⟩; have z8 := cell_ad hb5 1; simp only [List.getElem?_toArray, List.getElem?_cons_zero, List.getElem?_cons_succ] at z8; have hb6 := below_ad hb5; have hc5 := HCL.out.go hb6 hRlt; have z5 := hc5.frozen 1; have l5 := hc5.lt; have y5 := hc5.facts; have HB5 := Lib.hid hb6; have HC5 := Lib.hid hc5; have HP5 := Lib.hid hp5; obtain ⟨y0, y1, y2, y3, y4, y5, y6⟩ := y5; clear hb5 hb6 hc5 hp5))
            all_goals go_wp2_with fail
            all_goals go_meet
            all_goals exact ⟨{ cc with mode := X }, rfl, Lib.hid ⟨HP5.out, HC5.out.put (c' := { cc with mode := X }) (by unfold Cl.cells; simp only [List.setIfInBounds_toArray, List.set]), (HBR.out.trans (HB5.out.mono (by omega))).setCell (p := ⟨R, 1, none⟩) (Nat.le_refl _) _⟩⟩
          case rest =>
            obtain ⟨c', rfl, HQ⟩ := hcut
            have hqb := HQ.out.2.2
            have hqc := HQ.out.2.1
            obtain ⟨_, _, hz, _, hbw, hlt2⟩ := HL.out _ hqb
            have HBW2 := Lib.hid hbw
            have HZ2 := Lib.hid hz
            obtain ⟨d0, d1, d2, d3, d4, d5, d6⟩ := hz.facts
            have g0 := hz.frozen 0
            have g1 := hz.frozen 1
            have g2 := hz.frozen 2
            have g3 := hz.frozen 3
            have g4 := hz.frozen 4
            have g5 := hz.frozen 5
            have g6 := hz.frozen 6
            obtain ⟨e0, e1, e2, e3, e4, e5, e6⟩ := hqc.facts
            have hRl2 := hqc.lt
            clear hqb hqc hz hbw HBL HSP HZ HBW hc1 hc2 hw2 hw3 HT
            unfold Cl.zero at d0 d1 d2 d3 d4 d5 d6
            cases pb with
            | true =>
              go_wp2_with fail
              refine ⟨⟨n + 1, c', by omega, by go_num, Lib.hid HQ.out.2.2, Lib.hid HQ.out.2.1, Lib.hid ?_⟩, by simp [intOf]; omega⟩
              rw [HCB2.out]
              cases hq : Fd.put cc s .mode with
              | none => have := HPB.out; rw [hq] at this; cases this
              | some c2 => rw [HQ.out.1 c2 hq]; rfl
            | false =>
              have hno : callB (t :: r) = none := by
                rw [HCB2.out]
                cases hq : Fd.put cc s .mode with
                | none => rfl
                | some c2 => have := HPB.out; rw [hq] at this; cases this
              have HNO := Lib.hid hno
              clear hno
              go_wp2_with fail
              change bodyPost _ _ _ _ _ (clStore wc W.heap.size c')
              have hz2 := clStore_at HZ2.out c'
              have hb2 := clStore_below HBW2.out (Nat.le_refl _) c'
              generalize clStore wc W.heap.size c' = wF at *
              clear d0 d1 d2 d3 d4 d5 d6 e0 e1 e2 e3 e4 e5 e6 g0 g1 g2 g3 g4 g5 g6
              obtain ⟨d0, d1, d2, d3, d4, d5, d6⟩ := hz2.facts
              exact bodyPost_ret_by (v := .tuple #[c'.v, .bool false]) (by rw [results_cell_tmp (fn := Tryz.f47) rfl]; go_simp; rfl) rfl ⟨callR_none HNO.out c', hb2⟩
        | key =>
          simp only [Fd.txt, Fd.num] at hc1 hc2
          have HT : Hid (∀ w, Calls Tryz.prog 63 #[.string S] w fun e w' => ∃ X : ByteArray, e = .returned (.tuple #[.string X, .bool pb]) ∧ PutR cc .key s { cc with key := X } ∧ Below w.heap.size w w') := Lib.hid fun w => (HTS.out w).mono fun e w' ⟨X, he, hx, hb⟩ => by
            have e1 : (Fd.put cc s .key).isSome = (textB s).isSome := by unfold Fd.put; cases textB s <;> rfl
            refine ⟨X, by rw [he, HPB.out, e1], fun c'' h => ?_, hb⟩
            unfold Fd.put at h
            cases ht : textB s with
            | none => simp [ht] at h
            | some Y => simp only [ht, Option.map_some, Option.some.injEq] at h; rw [hx Y ht]; exact h
          clear HTS HNS
          go_upto_region 10 with fail
          go_cut [9] (fun s9 wx => ∃ c', s9 = .bool pb ∧ Hid (PutR cc .key s c' ∧ ClAt wx R c' ∧ Below R wo wx))
          case first =>
            have hwk : IntKind.i64.wrap (1 + (n : Int)) = 1 + (n : Int) := IntWalk.i64_in _ (by omega)
            have hwr : wrap64 (1 + (n : Int)) = 1 + (n : Int) := by unfold wrap64; omega
            have hbl1 := HBL.out
            have HFD : Hid (∀ w, Calls Tryz.prog 64 #[.pointer (some ⟨R, 0, none⟩)] w fun e w' => e = .returned (.pointer (some ⟨R, 2, none⟩)) ∧ w' = w) := Lib.hid fun w => field_any .key R w
            go_region_with (first | (go_at_call 64; refine (HFD.out _).mono ?_; rintro e w4 ⟨rfl, hw4⟩; subst hw4) | (go_at_call 63; refine (HT.out _).mono ?_; rintro e w5 ⟨X, rfl, hp5, hb5⟩; have z8 := cell_ad hb5 0; simp only [List.getElem?_toArray, List.getElem?_cons_zero, List.getElem?_cons_succ] at z8; have hb6 := below_ad hb5; have hc5 := HCL.out.go hb6 hRlt; have z5 := hc5.frozen 2; have l5 := hc5.lt; have y5 := hc5.facts; have HB5 := Lib.hid hb6; have HC5 := Lib.hid hc5; have HP5 := Lib.hid hp5; obtain ⟨y0, y1, y2, y3, y4, y5, y6⟩ := y5; clear hb5 hb6 hc5 hp5))
            all_goals go_wp2_with fail
            all_goals go_meet
            all_goals exact ⟨{ cc with key := X }, rfl, Lib.hid ⟨HP5.out, HC5.out.put (c' := { cc with key := X }) (by unfold Cl.cells; simp only [List.setIfInBounds_toArray, List.set]), (HBR.out.trans (HB5.out.mono (by omega))).setCell (p := ⟨R, 2, none⟩) (Nat.le_refl _) _⟩⟩
          case rest =>
            obtain ⟨c', rfl, HQ⟩ := hcut
            have hqb := HQ.out.2.2
            have hqc := HQ.out.2.1
            obtain ⟨_, _, hz, _, hbw, hlt2⟩ := HL.out _ hqb
            have HBW2 := Lib.hid hbw
            have HZ2 := Lib.hid hz
            obtain ⟨d0, d1, d2, d3, d4, d5, d6⟩ := hz.facts
            have g0 := hz.frozen 0
            have g1 := hz.frozen 1
            have g2 := hz.frozen 2
            have g3 := hz.frozen 3
            have g4 := hz.frozen 4
            have g5 := hz.frozen 5
            have g6 := hz.frozen 6
            obtain ⟨e0, e1, e2, e3, e4, e5, e6⟩ := hqc.facts
            have hRl2 := hqc.lt
            clear hqb hqc hz hbw HBL HSP HZ HBW hc1 hc2 hw2 hw3 HT
            unfold Cl.zero at d0 d1 d2 d3 d4 d5 d6
            cases pb with
            | true =>
              go_wp2_with fail
              refine ⟨⟨n + 1, c', by omega, by go_num, Lib.hid HQ.out.2.2, Lib.hid HQ.out.2.1, Lib.hid ?_⟩, by simp [intOf]; omega⟩
              rw [HCB2.out]
              cases hq : Fd.put cc s .key with
              | none => have := HPB.out; rw [hq] at this; cases this
              | some c2 => rw [HQ.out.1 c2 hq]; rfl
            | false =>
              have hno : callB (t :: r) = none := by
                rw [HCB2.out]
                cases hq : Fd.put cc s .key with
                | none => rfl
                | some c2 => have := HPB.out; rw [hq] at this; cases this
              have HNO := Lib.hid hno
              clear hno
              go_wp2_with fail
              change bodyPost _ _ _ _ _ (clStore wc W.heap.size c')
              have hz2 := clStore_at HZ2.out c'
              have hb2 := clStore_below HBW2.out (Nat.le_refl _) c'
              generalize clStore wc W.heap.size c' = wF at *
              clear d0 d1 d2 d3 d4 d5 d6 e0 e1 e2 e3 e4 e5 e6 g0 g1 g2 g3 g4 g5 g6
              obtain ⟨d0, d1, d2, d3, d4, d5, d6⟩ := hz2.facts
              exact bodyPost_ret_by (v := .tuple #[c'.v, .bool false]) (by rw [results_cell_tmp (fn := Tryz.f47) rfl]; go_simp; rfl) rfl ⟨callR_none HNO.out c', hb2⟩
        | high =>
          simp only [Fd.txt, Fd.num] at hc1 hc2
          have HT : Hid (∀ w, Calls Tryz.prog 63 #[.string S] w fun e w' => ∃ X : ByteArray, e = .returned (.tuple #[.string X, .bool pb]) ∧ PutR cc .high s { cc with high := X } ∧ Below w.heap.size w w') := Lib.hid fun w => (HTS.out w).mono fun e w' ⟨X, he, hx, hb⟩ => by
            have e1 : (Fd.put cc s .high).isSome = (textB s).isSome := by unfold Fd.put; cases textB s <;> rfl
            refine ⟨X, by rw [he, HPB.out, e1], fun c'' h => ?_, hb⟩
            unfold Fd.put at h
            cases ht : textB s with
            | none => simp [ht] at h
            | some Y => simp only [ht, Option.map_some, Option.some.injEq] at h; rw [hx Y ht]; exact h
          clear HTS HNS
          go_upto_region 10 with fail
          go_cut [9] (fun s9 wx => ∃ c', s9 = .bool pb ∧ Hid (PutR cc .high s c' ∧ ClAt wx R c' ∧ Below R wo wx))
          case first =>
            have hwk : IntKind.i64.wrap (1 + (n : Int)) = 1 + (n : Int) := IntWalk.i64_in _ (by omega)
            have hwr : wrap64 (1 + (n : Int)) = 1 + (n : Int) := by unfold wrap64; omega
            have hbl1 := HBL.out
            have HFD : Hid (∀ w, Calls Tryz.prog 65 #[.pointer (some ⟨R, 0, none⟩)] w fun e w' => e = .returned (.pointer (some ⟨R, 3, none⟩)) ∧ w' = w) := Lib.hid fun w => field_any .high R w
            go_region_with (first | (go_at_call 65; refine (HFD.out _).mono ?_; rintro e w4 ⟨rfl, hw4⟩; subst hw4) | (go_at_call 63; refine (HT.out _).mono ?_; rintro e w5 ⟨X, rfl, hp5, hb5⟩; have z8 := cell_ad hb5 0; simp only [List.getElem?_toArray, List.getElem?_cons_zero, List.getElem?_cons_succ] at z8; have hb6 := below_ad hb5; have hc5 := HCL.out.go hb6 hRlt; have z5 := hc5.frozen 3; have l5 := hc5.lt; have y5 := hc5.facts; have HB5 := Lib.hid hb6; have HC5 := Lib.hid hc5; have HP5 := Lib.hid hp5; obtain ⟨y0, y1, y2, y3, y4, y5, y6⟩ := y5; clear hb5 hb6 hc5 hp5))
            all_goals go_wp2_with fail
            all_goals go_meet
            all_goals exact ⟨{ cc with high := X }, rfl, Lib.hid ⟨HP5.out, HC5.out.put (c' := { cc with high := X }) (by unfold Cl.cells; simp only [List.setIfInBounds_toArray, List.set]), (HBR.out.trans (HB5.out.mono (by omega))).setCell (p := ⟨R, 3, none⟩) (Nat.le_refl _) _⟩⟩
          case rest =>
            obtain ⟨c', rfl, HQ⟩ := hcut
            have hqb := HQ.out.2.2
            have hqc := HQ.out.2.1
            obtain ⟨_, _, hz, _, hbw, hlt2⟩ := HL.out _ hqb
            have HBW2 := Lib.hid hbw
            have HZ2 := Lib.hid hz
            obtain ⟨d0, d1, d2, d3, d4, d5, d6⟩ := hz.facts
            have g0 := hz.frozen 0
            have g1 := hz.frozen 1
            have g2 := hz.frozen 2
            have g3 := hz.frozen 3
            have g4 := hz.frozen 4
            have g5 := hz.frozen 5
            have g6 := hz.frozen 6
            obtain ⟨e0, e1, e2, e3, e4, e5, e6⟩ := hqc.facts
            have hRl2 := hqc.lt
            clear hqb hqc hz hbw HBL HSP HZ HBW hc1 hc2 hw2 hw3 HT
            unfold Cl.zero at d0 d1 d2 d3 d4 d5 d6
            cases pb with
            | true =>
              go_wp2_with fail
              refine ⟨⟨n + 1, c', by omega, by go_num, Lib.hid HQ.out.2.2, Lib.hid HQ.out.2.1, Lib.hid ?_⟩, by simp [intOf]; omega⟩
              rw [HCB2.out]
              cases hq : Fd.put cc s .high with
              | none => have := HPB.out; rw [hq] at this; cases this
              | some c2 => rw [HQ.out.1 c2 hq]; rfl
            | false =>
              have hno : callB (t :: r) = none := by
                rw [HCB2.out]
                cases hq : Fd.put cc s .high with
                | none => rfl
                | some c2 => have := HPB.out; rw [hq] at this; cases this
              have HNO := Lib.hid hno
              clear hno
              go_wp2_with fail
              change bodyPost _ _ _ _ _ (clStore wc W.heap.size c')
              have hz2 := clStore_at HZ2.out c'
              have hb2 := clStore_below HBW2.out (Nat.le_refl _) c'
              generalize clStore wc W.heap.size c' = wF at *
              clear d0 d1 d2 d3 d4 d5 d6 e0 e1 e2 e3 e4 e5 e6 g0 g1 g2 g3 g4 g5 g6
              obtain ⟨d0, d1, d2, d3, d4, d5, d6⟩ := hz2.facts
              exact bodyPost_ret_by (v := .tuple #[c'.v, .bool false]) (by rw [results_cell_tmp (fn := Tryz.f47) rfl]; go_simp; rfl) rfl ⟨callR_none HNO.out c', hb2⟩
        | val =>
          simp only [Fd.txt, Fd.num] at hc1 hc2
          have HT : Hid (∀ w, Calls Tryz.prog 63 #[.string S] w fun e w' => ∃ X : ByteArray, e = .returned (.tuple #[.string X, .bool pb]) ∧ PutR cc .val s { cc with val := X } ∧ Below w.heap.size w w') := Lib.hid fun w => (HTS.out w).mono fun e w' ⟨X, he, hx, hb⟩ => by
            have e1 : (Fd.put cc s .val).isSome = (textB s).isSome := by unfold Fd.put; cases textB s <;> rfl
            refine ⟨X, by rw [he, HPB.out, e1], fun c'' h => ?_, hb⟩
            unfold Fd.put at h
            cases ht : textB s with
            | none => simp [ht] at h
            | some Y => simp only [ht, Option.map_some, Option.some.injEq] at h; rw [hx Y ht]; exact h
          clear HTS HNS
          go_upto_region 10 with fail
          go_cut [9] (fun s9 wx => ∃ c', s9 = .bool pb ∧ Hid (PutR cc .val s c' ∧ ClAt wx R c' ∧ Below R wo wx))
          case first =>
            have hwk : IntKind.i64.wrap (1 + (n : Int)) = 1 + (n : Int) := IntWalk.i64_in _ (by omega)
            have hwr : wrap64 (1 + (n : Int)) = 1 + (n : Int) := by unfold wrap64; omega
            have hbl1 := HBL.out
            have HFD : Hid (∀ w, Calls Tryz.prog 66 #[.pointer (some ⟨R, 0, none⟩)] w fun e w' => e = .returned (.pointer (some ⟨R, 4, none⟩)) ∧ w' = w) := Lib.hid fun w => field_any .val R w
            go_region_with (first | (go_at_call 66; refine (HFD.out _).mono ?_; rintro e w4 ⟨rfl, hw4⟩; subst hw4) | (go_at_call 63; refine (HT.out _).mono ?_; rintro e w5 ⟨X, rfl, hp5, hb5⟩; have z8 := cell_ad hb5 0; simp only [List.getElem?_toArray, List.getElem?_cons_zero, List.getElem?_cons_succ] at z8; have hb6 := below_ad hb5; have hc5 := HCL.out.go hb6 hRlt; have z5 := hc5.frozen 4; have l5 := hc5.lt; have y5 := hc5.facts; have HB5 := Lib.hid hb6; have HC5 := Lib.hid hc5; have HP5 := Lib.hid hp5; obtain ⟨y0, y1, y2, y3, y4, y5, y6⟩ := y5; clear hb5 hb6 hc5 hp5))
            all_goals go_wp2_with fail
            all_goals go_meet
            all_goals exact ⟨{ cc with val := X }, rfl, Lib.hid ⟨HP5.out, HC5.out.put (c' := { cc with val := X }) (by unfold Cl.cells; simp only [List.setIfInBounds_toArray, List.set]), (HBR.out.trans (HB5.out.mono (by omega))).setCell (p := ⟨R, 4, none⟩) (Nat.le_refl _) _⟩⟩
          case rest =>
            obtain ⟨c', rfl, HQ⟩ := hcut
            have hqb := HQ.out.2.2
            have hqc := HQ.out.2.1
            obtain ⟨_, _, hz, _, hbw, hlt2⟩ := HL.out _ hqb
            have HBW2 := Lib.hid hbw
            have HZ2 := Lib.hid hz
            obtain ⟨d0, d1, d2, d3, d4, d5, d6⟩ := hz.facts
            have g0 := hz.frozen 0
            have g1 := hz.frozen 1
            have g2 := hz.frozen 2
            have g3 := hz.frozen 3
            have g4 := hz.frozen 4
            have g5 := hz.frozen 5
            have g6 := hz.frozen 6
            obtain ⟨e0, e1, e2, e3, e4, e5, e6⟩ := hqc.facts
            have hRl2 := hqc.lt
            clear hqb hqc hz hbw HBL HSP HZ HBW hc1 hc2 hw2 hw3 HT
            unfold Cl.zero at d0 d1 d2 d3 d4 d5 d6
            cases pb with
            | true =>
              go_wp2_with fail
              refine ⟨⟨n + 1, c', by omega, by go_num, Lib.hid HQ.out.2.2, Lib.hid HQ.out.2.1, Lib.hid ?_⟩, by simp [intOf]; omega⟩
              rw [HCB2.out]
              cases hq : Fd.put cc s .val with
              | none => have := HPB.out; rw [hq] at this; cases this
              | some c2 => rw [HQ.out.1 c2 hq]; rfl
            | false =>
              have hno : callB (t :: r) = none := by
                rw [HCB2.out]
                cases hq : Fd.put cc s .val with
                | none => rfl
                | some c2 => have := HPB.out; rw [hq] at this; cases this
              have HNO := Lib.hid hno
              clear hno
              go_wp2_with fail
              change bodyPost _ _ _ _ _ (clStore wc W.heap.size c')
              have hz2 := clStore_at HZ2.out c'
              have hb2 := clStore_below HBW2.out (Nat.le_refl _) c'
              generalize clStore wc W.heap.size c' = wF at *
              clear d0 d1 d2 d3 d4 d5 d6 e0 e1 e2 e3 e4 e5 e6 g0 g1 g2 g3 g4 g5 g6
              obtain ⟨d0, d1, d2, d3, d4, d5, d6⟩ := hz2.facts
              exact bodyPost_ret_by (v := .tuple #[c'.v, .bool false]) (by rw [results_cell_tmp (fn := Tryz.f47) rfl]; go_simp; rfl) rfl ⟨callR_none HNO.out c', hb2⟩
        | draw =>
          simp only [Fd.txt, Fd.num] at hc1 hc2
          have HT : Hid (∀ w, Sp w → Calls Tryz.prog 46 #[.string S] w fun e w' => ∃ z : Int, e = .returned (.tuple #[.int .i64 z, .bool pb]) ∧ PutR cc .draw s { cc with draw := z } ∧ Below w.heap.size w w') := Lib.hid fun w hw => (HNS.out w hw).mono fun e w' ⟨X, he, hx, hb⟩ => by
            have e1 : (Fd.put cc s .draw).isSome = (numB s).isSome := by unfold Fd.put; cases numB s <;> rfl
            refine ⟨X, by rw [he, HPB.out, e1], fun c'' h => ?_, hb⟩
            unfold Fd.put at h
            cases ht : numB s with
            | none => simp [ht] at h
            | some Y => simp only [ht, Option.map_some, Option.some.injEq] at h; rw [hx Y ht]; exact h
          clear HTS HNS
          go_upto_region 11 with fail
          go_cut [9] (fun s9 wx => ∃ c', s9 = .bool pb ∧ Hid (PutR cc .draw s c' ∧ ClAt wx R c' ∧ Below R wo wx))
          case first =>
            have hwk : IntKind.i64.wrap (1 + (n : Int)) = 1 + (n : Int) := IntWalk.i64_in _ (by omega)
            have hwr : wrap64 (1 + (n : Int)) = 1 + (n : Int) := by unfold wrap64; omega
            have hbl1 := HBL.out
            have HFD : Hid (∀ w, Calls Tryz.prog 68 #[.pointer (some ⟨R, 0, none⟩)] w fun e w' => e = .returned (.pointer (some ⟨R, 5, none⟩)) ∧ w' = w) := Lib.hid fun w => field_any .draw R w
            go_region_with (first | (go_at_call 68; refine (HFD.out _).mono ?_; rintro e w4 ⟨rfl, hw4⟩; subst hw4) | (go_at_call 46; refine (HT.out _ (HSP.out.later ((Below.refl wr.heap.size wr).alloc (Nat.le_refl _) _).drew)).mono ?_; rintro e w5 ⟨X, rfl, hp5, hb5⟩; have z8 := cell_ad hb5 1; simp only [List.getElem?_toArray, List.getElem?_cons_zero, List.getElem?_cons_succ] at z8; have hb6 := below_ad hb5; have hc5 := HCL.out.go hb6 hRlt; have z5 := hc5.frozen 5; have l5 := hc5.lt; have y5 := hc5.facts; have HB5 := Lib.hid hb6; have HC5 := Lib.hid hc5; have HP5 := Lib.hid hp5; obtain ⟨y0, y1, y2, y3, y4, y5, y6⟩ := y5; clear hb5 hb6 hc5 hp5))
            all_goals go_wp2_with fail
            all_goals go_meet
            all_goals exact ⟨{ cc with draw := X }, rfl, Lib.hid ⟨HP5.out, HC5.out.put (c' := { cc with draw := X }) (by unfold Cl.cells; simp only [List.setIfInBounds_toArray, List.set]), (HBR.out.trans (HB5.out.mono (by omega))).setCell (p := ⟨R, 5, none⟩) (Nat.le_refl _) _⟩⟩
          case rest =>
            obtain ⟨c', rfl, HQ⟩ := hcut
            have hqb := HQ.out.2.2
            have hqc := HQ.out.2.1
            obtain ⟨_, _, hz, _, hbw, hlt2⟩ := HL.out _ hqb
            have HBW2 := Lib.hid hbw
            have HZ2 := Lib.hid hz
            obtain ⟨d0, d1, d2, d3, d4, d5, d6⟩ := hz.facts
            have g0 := hz.frozen 0
            have g1 := hz.frozen 1
            have g2 := hz.frozen 2
            have g3 := hz.frozen 3
            have g4 := hz.frozen 4
            have g5 := hz.frozen 5
            have g6 := hz.frozen 6
            obtain ⟨e0, e1, e2, e3, e4, e5, e6⟩ := hqc.facts
            have hRl2 := hqc.lt
            clear hqb hqc hz hbw HBL HSP HZ HBW hc1 hc2 hw2 hw3 HT
            unfold Cl.zero at d0 d1 d2 d3 d4 d5 d6
            cases pb with
            | true =>
              go_wp2_with fail
              refine ⟨⟨n + 1, c', by omega, by go_num, Lib.hid HQ.out.2.2, Lib.hid HQ.out.2.1, Lib.hid ?_⟩, by simp [intOf]; omega⟩
              rw [HCB2.out]
              cases hq : Fd.put cc s .draw with
              | none => have := HPB.out; rw [hq] at this; cases this
              | some c2 => rw [HQ.out.1 c2 hq]; rfl
            | false =>
              have hno : callB (t :: r) = none := by
                rw [HCB2.out]
                cases hq : Fd.put cc s .draw with
                | none => rfl
                | some c2 => have := HPB.out; rw [hq] at this; cases this
              have HNO := Lib.hid hno
              clear hno
              go_wp2_with fail
              change bodyPost _ _ _ _ _ (clStore wc W.heap.size c')
              have hz2 := clStore_at HZ2.out c'
              have hb2 := clStore_below HBW2.out (Nat.le_refl _) c'
              generalize clStore wc W.heap.size c' = wF at *
              clear d0 d1 d2 d3 d4 d5 d6 e0 e1 e2 e3 e4 e5 e6 g0 g1 g2 g3 g4 g5 g6
              obtain ⟨d0, d1, d2, d3, d4, d5, d6⟩ := hz2.facts
              exact bodyPost_ret_by (v := .tuple #[c'.v, .bool false]) (by rw [results_cell_tmp (fn := Tryz.f47) rfl]; go_simp; rfl) rfl ⟨callR_none HNO.out c', hb2⟩
        | n =>
          simp only [Fd.txt, Fd.num] at hc1 hc2
          have HT : Hid (∀ w, Sp w → Calls Tryz.prog 46 #[.string S] w fun e w' => ∃ z : Int, e = .returned (.tuple #[.int .i64 z, .bool pb]) ∧ PutR cc .n s { cc with n := z } ∧ Below w.heap.size w w') := Lib.hid fun w hw => (HNS.out w hw).mono fun e w' ⟨X, he, hx, hb⟩ => by
            have e1 : (Fd.put cc s .n).isSome = (numB s).isSome := by unfold Fd.put; cases numB s <;> rfl
            refine ⟨X, by rw [he, HPB.out, e1], fun c'' h => ?_, hb⟩
            unfold Fd.put at h
            cases ht : numB s with
            | none => simp [ht] at h
            | some Y => simp only [ht, Option.map_some, Option.some.injEq] at h; rw [hx Y ht]; exact h
          clear HTS HNS
          go_upto_region 11 with fail
          go_cut [9] (fun s9 wx => ∃ c', s9 = .bool pb ∧ Hid (PutR cc .n s c' ∧ ClAt wx R c' ∧ Below R wo wx))
          case first =>
            have hwk : IntKind.i64.wrap (1 + (n : Int)) = 1 + (n : Int) := IntWalk.i64_in _ (by omega)
            have hwr : wrap64 (1 + (n : Int)) = 1 + (n : Int) := by unfold wrap64; omega
            have hbl1 := HBL.out
            have HFD : Hid (∀ w, Calls Tryz.prog 69 #[.pointer (some ⟨R, 0, none⟩)] w fun e w' => e = .returned (.pointer (some ⟨R, 6, none⟩)) ∧ w' = w) := Lib.hid fun w => field_any .n R w
            go_region_with (first | (go_at_call 69; refine (HFD.out _).mono ?_; rintro e w4 ⟨rfl, hw4⟩; subst hw4) | (go_at_call 46; refine (HT.out _ (HSP.out.later ((Below.refl wr.heap.size wr).alloc (Nat.le_refl _) _).drew)).mono ?_; rintro e w5 ⟨X, rfl, hp5, hb5⟩; have z8 := cell_ad hb5 1; simp only [List.getElem?_toArray, List.getElem?_cons_zero, List.getElem?_cons_succ] at z8; have hb6 := below_ad hb5; have hc5 := HCL.out.go hb6 hRlt; have z5 := hc5.frozen 6; have l5 := hc5.lt; have y5 := hc5.facts; have HB5 := Lib.hid hb6; have HC5 := Lib.hid hc5; have HP5 := Lib.hid hp5; obtain ⟨y0, y1, y2, y3, y4, y5, y6⟩ := y5; clear hb5 hb6 hc5 hp5))
            all_goals go_wp2_with fail
            all_goals go_meet
            all_goals exact ⟨{ cc with n := X }, rfl, Lib.hid ⟨HP5.out, HC5.out.put (c' := { cc with n := X }) (by unfold Cl.cells; simp only [List.setIfInBounds_toArray, List.set]), (HBR.out.trans (HB5.out.mono (by omega))).setCell (p := ⟨R, 6, none⟩) (Nat.le_refl _) _⟩⟩
          case rest =>
            obtain ⟨c', rfl, HQ⟩ := hcut
            have hqb := HQ.out.2.2
            have hqc := HQ.out.2.1
            obtain ⟨_, _, hz, _, hbw, hlt2⟩ := HL.out _ hqb
            have HBW2 := Lib.hid hbw
            have HZ2 := Lib.hid hz
            obtain ⟨d0, d1, d2, d3, d4, d5, d6⟩ := hz.facts
            have g0 := hz.frozen 0
            have g1 := hz.frozen 1
            have g2 := hz.frozen 2
            have g3 := hz.frozen 3
            have g4 := hz.frozen 4
            have g5 := hz.frozen 5
            have g6 := hz.frozen 6
            obtain ⟨e0, e1, e2, e3, e4, e5, e6⟩ := hqc.facts
            have hRl2 := hqc.lt
            clear hqb hqc hz hbw HBL HSP HZ HBW hc1 hc2 hw2 hw3 HT
            unfold Cl.zero at d0 d1 d2 d3 d4 d5 d6
            cases pb with
            | true =>
              go_wp2_with fail
              refine ⟨⟨n + 1, c', by omega, by go_num, Lib.hid HQ.out.2.2, Lib.hid HQ.out.2.1, Lib.hid ?_⟩, by simp [intOf]; omega⟩
              rw [HCB2.out]
              cases hq : Fd.put cc s .n with
              | none => have := HPB.out; rw [hq] at this; cases this
              | some c2 => rw [HQ.out.1 c2 hq]; rfl
            | false =>
              have hno : callB (t :: r) = none := by
                rw [HCB2.out]
                cases hq : Fd.put cc s .n with
                | none => rfl
                | some c2 => have := HPB.out; rw [hq] at this; cases this
              have HNO := Lib.hid hno
              clear hno
              go_wp2_with fail
              change bodyPost _ _ _ _ _ (clStore wc W.heap.size c')
              have hz2 := clStore_at HZ2.out c'
              have hb2 := clStore_below HBW2.out (Nat.le_refl _) c'
              generalize clStore wc W.heap.size c' = wF at *
              clear d0 d1 d2 d3 d4 d5 d6 e0 e1 e2 e3 e4 e5 e6 g0 g1 g2 g3 g4 g5 g6
              obtain ⟨d0, d1, d2, d3, d4, d5, d6⟩ := hz2.facts
              exact bodyPost_ret_by (v := .tuple #[c'.v, .bool false]) (by rw [results_cell_tmp (fn := Tryz.f47) rfl]; go_simp; rfl) rfl ⟨callR_none HNO.out c', hb2⟩
      · have hnl2 : n = fs.length := by omega
        have hcc : callB (t :: r) = some cc := by
          have := HCB.out
          rw [List.drop_of_length_le (by omega)] at this
          exact this
        have HCC := Lib.hid hcc
        have HZ := Lib.hid hz
        have HBW := Lib.hid hbw
        obtain ⟨d0, d1, d2, d3, d4, d5, d6⟩ := hz.facts
        have g0 := hz.frozen 0
        have g1 := hz.frozen 1
        have g2 := hz.frozen 2
        have g3 := hz.frozen 3
        have g4 := hz.frozen 4
        have g5 := hz.frozen 5
        have g6 := hz.frozen 6
        obtain ⟨e0, e1, e2, e3, e4, e5, e6⟩ := HCL.out.facts
        clear hcc hws hrow hz hsp hbw
        unfold Cl.zero at d0 d1 d2 d3 d4 d5 d6
        go_wp2_with fail
        change bodyPost _ _ _ _ _ (clStore wr W.heap.size cc)
        have hz2 := clStore_at HZ.out cc
        have hb2 := clStore_below HBW.out (Nat.le_refl _) cc
        generalize clStore wr W.heap.size cc = wF at *
        clear d0 d1 d2 d3 d4 d5 d6 e0 e1 e2 e3 e4 e5 e6 g0 g1 g2 g3 g4 g5 g6
        obtain ⟨d0, d1, d2, d3, d4, d5, d6⟩ := hz2.facts
        exact bodyPost_ret_by (v := .tuple #[cc.v, .bool true]) (by rw [results_cell_tmp (fn := Tryz.f47) rfl]; go_simp; rfl) rfl ⟨⟨cc, by rw [HCC.out]; rfl, fun c' h' => by rw [HCC.out] at h'; injection h'⟩, hb2⟩
end Go.Proofs.YtkpofjfndokaeaaGreatDoor
