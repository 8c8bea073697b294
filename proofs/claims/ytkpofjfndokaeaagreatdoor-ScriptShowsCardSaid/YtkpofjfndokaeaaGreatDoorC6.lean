/- script.line of calls: the walk. -/
import Derived.Test.YtkpofjfndokaeaaGreatDoorC5
namespace Go.Proofs.YtkpofjfndokaeaaGreatDoor
open Go.RowKit
attribute [local go_sem] run_store_func run_store_nilFunc neq_func neq_nilFunc
set_option linter.unusedVariables false
set_option linter.unusedSimpArgs false

set_option maxRecDepth 100000 in
set_option maxHeartbeats 4000000 in
theorem line_1 (x : Ev) (hk : x.kind = 1) (hr : revent x = true) (W : World) (hs : St W) : Calls Tryz.prog 18 #[x.v] W fun e w' => e = .returned (.string ⟨(lineB x).toArray⟩) ∧ Below W.heap.size W w' := by
  have HI : Hid (∀ n, -9223372036854775808 ≤ n → n ≤ 9223372036854775807 → ∀ w, St w → Calls Tryz.prog 24 #[.int .i64 n] w fun e w' => e = .returned (.string ⟨(Lib.itoa n).toArray⟩) ∧ Below w.heap.size w w') := Lib.hid fun n h0 h1 w h => itoa_any n h0 h1 w h
  have HQ : Hid (∀ s, s.size ≤ 80 → ∀ w, Calls Tryz.prog 25 #[.string s] w fun e w' => e = .returned (.string ⟨(quoB s).toArray⟩) ∧ Below w.heap.size w w') := Lib.hid fun s h w => quoteB_any s (by omega) w
  obtain ⟨_, hw1, hw2, hn1, hn2, _, _, hrc⟩ := revent_bounds hr
  obtain ⟨⟨i, hi11, hci⟩, hok⟩ := rcall_kind (hrc hk)
  have HF : Hid (∀ w, Calls Tryz.prog 34 #[.int .i64 x.call.kind] w fun e w' => ∃ A, e = .returned (.tuple #[.string (nameOf (i + 1)), .agg #[.int .i64 ((i + 1 : Nat) : Int), .slice A (flds (i + 1)).length (flds (i + 1)).length]]) ∧
      Below w.heap.size w w' ∧ FRow w' w.heap.size (.slice A (flds (i + 1)).length (flds (i + 1)).length) (flds (i + 1))) := Lib.hid fun w => by rw [hci]; exact formOf_ok i hi11 w
  have HLB : Hid (lineB x = Lib.join (Lib.itoa x.w :: (nameOf (i + 1)).data.toList :: (flds (i + 1)).map (Fd.text x.call)) [32]) := Lib.hid (by unfold lineB; simp [hk, hci])
  have HOK : Hid (∀ f ∈ flds (i + 1), f.small x.call) := Lib.hid fun f hf => Fd.small_of (hok f (by rw [hci, Int.toNat_natCast]; exact hf))
  have hfl := flds_le (i + 1)
  have hnl := nameOf_le (i + 1)
  obtain ⟨i0, hi, hz0, hz1, hz2⟩ := info_parts (show (Tryz.prog.info? 9).map (fun i => (i.zero, i.size, i.bytes)) = some (some (.string ByteArray.empty), 1, 16) by kernel_rfl)
  clear hok hci hrc
  obtain ⟨X, hX⟩ : ∃ X, X = W.alloc (.cells x.cells 27) := ⟨_, rfl⟩
  have HL := Lib.hid (line_start x W hs X hX)
  have c0 := (HL.out _ (Below.refl _ _)).1.facts
  unfold Ev.v
  unfold Ev.cells at hX ⊢
  rw [hk] at hX
  go_enter Tryz.func18, Tryz.ntmps18
  go_wp2_with fail
  rw [← hX]
  clear hX
  rw [hk] at c0
  obtain ⟨c0, c1, c2, c3, c4, c5, c6, c7, c8, c9, c10⟩ := c0
  go_region_with (first
    | (go_at_call 24; refine (HI.out _ (by omega) (by omega) _ (HL.out _ (Below.refl _ X).drew).2.2.1).mono ?_; rintro e w2 ⟨rfl, hb2⟩; have HB2 := Lib.hid ((Below.refl X.heap.size X).drew.trans hb2); obtain ⟨d0, d1, d2, d3, d4, d5, d6, d7, d8, d9, d10⟩ := (HL.out _ HB2.out).1.facts; rw [hk] at d0; clear hb2)
    | (go_at_call 24; refine (HI.out _ (by omega) (by omega) _ (HL.out _ HB2.out).2.2.1).mono ?_; rintro e w3 ⟨rfl, hb3⟩; have HB3 := Lib.hid (HB2.out.trans (hb3.mono HB2.out.size)); obtain ⟨f0, f1, f2, f3, f4, f5, f6, f7, f8, f9, f10⟩ := (HL.out _ HB3.out).1.facts; rw [hk] at f0; clear hb3))
  all_goals go_simp
  all_goals clear c0 c1 c2 c3 c4 c5 c6 c7 c8 c9 c10 d0 d1 d2 d3 d4 d5 d6 d7 d8 d9 d10
  all_goals go_wp2_with (first | (go_at_call 34; refine (HF.out _).mono ?_; rintro e w4 ⟨A, rfl, hb4, hrow⟩; have HB4 := Lib.hid (HB3.out.trans (hb4.mono HB3.out.size)); have HROW := Lib.hid hrow; clear hb4 hrow))
  all_goals obtain ⟨wB, hwB⟩ : ∃ wB, wB = w4.alloc (.cells #[.int .i64 ((i : Int) + 1), .slice A (flds (i + 1)).length (flds (i + 1)).length] 68) := ⟨_, rfl⟩
  all_goals have hwBs : wB.heap.size = w4.heap.size + 1 := by rw [hwB, World.size_alloc]
  all_goals have HD : Hid (∀ w', Below wB.heap.size wB w' → EvAt w' W.heap.size x ∧ St w' ∧ Below W.heap.size W w' ∧ W.heap.size < w'.heap.size) := Lib.hid (by rw [hwB]; exact line_mid x W X w4 HL.out HB4.out _)
  all_goals have HRW : Hid (∀ w', Below wB.heap.size wB w' → FRow w' 0 (.slice A (flds (i + 1)).length (flds (i + 1)).length) (flds (i + 1))) := Lib.hid (by rw [hwB]; exact line_row w4 HROW.out _)
  all_goals have hls := LS.start wB (Lib.itoa x.w) (nameOf (i + 1)).data.toList
  all_goals rw [← strv_of, hwBs] at hls
  all_goals rw [← hwB]
  all_goals have HLS := Lib.hid hls
  all_goals have hwBl : 1 ≤ wB.heap.size := by omega
  all_goals have HWB := Lib.hid hwB
  all_goals clear hls hwB
  all_goals generalize flds (i + 1) = fs at *
  all_goals have hml : fs.length ≤ 9223372036854775807 := by omega
  all_goals go_loopw [7, 55] (fun v j wr => ∃ n : Nat, n ≤ fs.length ∧ j = .int .i64 n ∧ Hid (LS wB ([Lib.itoa x.w, (nameOf (i + 1)).data.toList] ++ (fs.take n).map (Fd.text x.call)) v wr)) (fun _ j _ => fs.length - (intOf j).toNat)
  all_goals first | exact ⟨0, Nat.zero_le _, rfl, HLS⟩ | skip
  all_goals clear HLS HB4 HB3 HB2 HROW
  all_goals
    obtain ⟨n, hn, rfl, HLS⟩ := hrel
    obtain ⟨d0, d1, d2, d3, d4, d5, d6, d7, d8, d9, d10⟩ := (HD.out _ HLS.out.below).1.facts
    have hlt0 := (HD.out _ HLS.out.below).2.2.2
    by_cases hlt : n < fs.length
    · obtain ⟨f, hf⟩ : ∃ f, fs[n]? = some f := ⟨fs[n], List.getElem?_eq_getElem hlt⟩
      obtain ⟨A', hA', hrw⟩ := HRW.out _ HLS.out.below
      injection hA' with hA'
      subst hA'
      obtain ⟨b, rfl, _, hblt, hc1, hc2⟩ := hrw n f hf
      have HSM := Lib.hid (HOK.out f (List.mem_of_getElem? hf))
      have HTS : Hid ([Lib.itoa x.w, (nameOf (i + 1)).data.toList] ++ (fs.take (n + 1)).map (Fd.text x.call) = ([Lib.itoa x.w, (nameOf (i + 1)).data.toList] ++ (fs.take n).map (Fd.text x.call)) ++ [Fd.text x.call f]) := Lib.hid (by
        rw [List.take_succ_eq_append_getElem hlt, List.map_append, show fs[n] = f from Option.some.inj ((List.getElem?_eq_getElem hlt).symm.trans hf)]; simp)
      have hlen : ([Lib.itoa x.w, (nameOf (i + 1)).data.toList] ++ (fs.take n).map (Fd.text x.call)).length ≤ 5 := by simp; omega
      generalize [Lib.itoa x.w, (nameOf (i + 1)).data.toList] ++ (fs.take n).map (Fd.text x.call) = ts at *
      clear hf hrw
      cases f with
      | mode =>
        simp only [Fd.txt, Fd.num] at hc1 hc2
        have hsm : Fd.small x.call .mode := HSM.out
        simp only [Fd.small] at hsm
        go_wp2_with (first | (go_at_call 25; refine (HQ.out _ (by omega) _).mono ?_; rintro e w5 ⟨rfl, hb5⟩; have HS5 := Lib.hid ((HLS.out.alloc _).later hb5); have hown := HS5.out.own) | (go_at_call 24; refine (HI.out _ (by omega) (by omega) _ (HD.out _ (HLS.out.alloc _).below).2.1).mono ?_; rintro e w5 ⟨rfl, hb5⟩; have HS5 := Lib.hid ((HLS.out.alloc _).later hb5); have hown := HS5.out.own) | (at_builtin; refine wpList_append_own _ rfl _ _ 43 rfl wB.heap.size 9 i0 (.string ByteArray.empty) 1 16 Tryz.underlying43 hi hz0 hz1 hz2 rfl (by decide) _ _ _ rfl (hown.alloc _) ⟨w5.heap.size, 0, none⟩ 1 1 [strv (Fd.text x.call .mode)] rfl rfl (cell_one_new _ _ _) (by simp [Value.oneCell', strv]) (by unfold maxLen; omega) (by omega) (by have := HS5.out.below.size; simp; omega) ?_; intro v' w6 hown' hg6 hnil6) | go_in)
        have hfin := (HS5.out.alloc (.cells #[strv (Fd.text x.call .mode)] 9)).append (Fd.text x.call .mode) rfl rfl hown' hg6
        refine ⟨⟨n + 1, by omega, by go_num, Lib.hid ?_⟩, by simp [intOf]; omega⟩
        rw [HTS.out]
        exact hfin
      | key =>
        simp only [Fd.txt, Fd.num] at hc1 hc2
        have hsm : Fd.small x.call .key := HSM.out
        simp only [Fd.small] at hsm
        go_wp2_with (first | (go_at_call 25; refine (HQ.out _ (by omega) _).mono ?_; rintro e w5 ⟨rfl, hb5⟩; have HS5 := Lib.hid ((HLS.out.alloc _).later hb5); have hown := HS5.out.own) | (go_at_call 24; refine (HI.out _ (by omega) (by omega) _ (HD.out _ (HLS.out.alloc _).below).2.1).mono ?_; rintro e w5 ⟨rfl, hb5⟩; have HS5 := Lib.hid ((HLS.out.alloc _).later hb5); have hown := HS5.out.own) | (at_builtin; refine wpList_append_own _ rfl _ _ 43 rfl wB.heap.size 9 i0 (.string ByteArray.empty) 1 16 Tryz.underlying43 hi hz0 hz1 hz2 rfl (by decide) _ _ _ rfl (hown.alloc _) ⟨w5.heap.size, 0, none⟩ 1 1 [strv (Fd.text x.call .key)] rfl rfl (cell_one_new _ _ _) (by simp [Value.oneCell', strv]) (by unfold maxLen; omega) (by omega) (by have := HS5.out.below.size; simp; omega) ?_; intro v' w6 hown' hg6 hnil6) | go_in)
        have hfin := (HS5.out.alloc (.cells #[strv (Fd.text x.call .key)] 9)).append (Fd.text x.call .key) rfl rfl hown' hg6
        refine ⟨⟨n + 1, by omega, by go_num, Lib.hid ?_⟩, by simp [intOf]; omega⟩
        rw [HTS.out]
        exact hfin
      | high =>
        simp only [Fd.txt, Fd.num] at hc1 hc2
        have hsm : Fd.small x.call .high := HSM.out
        simp only [Fd.small] at hsm
        go_wp2_with (first | (go_at_call 25; refine (HQ.out _ (by omega) _).mono ?_; rintro e w5 ⟨rfl, hb5⟩; have HS5 := Lib.hid ((HLS.out.alloc _).later hb5); have hown := HS5.out.own) | (go_at_call 24; refine (HI.out _ (by omega) (by omega) _ (HD.out _ (HLS.out.alloc _).below).2.1).mono ?_; rintro e w5 ⟨rfl, hb5⟩; have HS5 := Lib.hid ((HLS.out.alloc _).later hb5); have hown := HS5.out.own) | (at_builtin; refine wpList_append_own _ rfl _ _ 43 rfl wB.heap.size 9 i0 (.string ByteArray.empty) 1 16 Tryz.underlying43 hi hz0 hz1 hz2 rfl (by decide) _ _ _ rfl (hown.alloc _) ⟨w5.heap.size, 0, none⟩ 1 1 [strv (Fd.text x.call .high)] rfl rfl (cell_one_new _ _ _) (by simp [Value.oneCell', strv]) (by unfold maxLen; omega) (by omega) (by have := HS5.out.below.size; simp; omega) ?_; intro v' w6 hown' hg6 hnil6) | go_in)
        have hfin := (HS5.out.alloc (.cells #[strv (Fd.text x.call .high)] 9)).append (Fd.text x.call .high) rfl rfl hown' hg6
        refine ⟨⟨n + 1, by omega, by go_num, Lib.hid ?_⟩, by simp [intOf]; omega⟩
        rw [HTS.out]
        exact hfin
      | val =>
        simp only [Fd.txt, Fd.num] at hc1 hc2
        have hsm : Fd.small x.call .val := HSM.out
        simp only [Fd.small] at hsm
        go_wp2_with (first | (go_at_call 25; refine (HQ.out _ (by omega) _).mono ?_; rintro e w5 ⟨rfl, hb5⟩; have HS5 := Lib.hid ((HLS.out.alloc _).later hb5); have hown := HS5.out.own) | (go_at_call 24; refine (HI.out _ (by omega) (by omega) _ (HD.out _ (HLS.out.alloc _).below).2.1).mono ?_; rintro e w5 ⟨rfl, hb5⟩; have HS5 := Lib.hid ((HLS.out.alloc _).later hb5); have hown := HS5.out.own) | (at_builtin; refine wpList_append_own _ rfl _ _ 43 rfl wB.heap.size 9 i0 (.string ByteArray.empty) 1 16 Tryz.underlying43 hi hz0 hz1 hz2 rfl (by decide) _ _ _ rfl (hown.alloc _) ⟨w5.heap.size, 0, none⟩ 1 1 [strv (Fd.text x.call .val)] rfl rfl (cell_one_new _ _ _) (by simp [Value.oneCell', strv]) (by unfold maxLen; omega) (by omega) (by have := HS5.out.below.size; simp; omega) ?_; intro v' w6 hown' hg6 hnil6) | go_in)
        have hfin := (HS5.out.alloc (.cells #[strv (Fd.text x.call .val)] 9)).append (Fd.text x.call .val) rfl rfl hown' hg6
        refine ⟨⟨n + 1, by omega, by go_num, Lib.hid ?_⟩, by simp [intOf]; omega⟩
        rw [HTS.out]
        exact hfin
      | draw =>
        simp only [Fd.txt, Fd.num] at hc1 hc2
        have hsm : Fd.small x.call .draw := HSM.out
        simp only [Fd.small] at hsm
        go_wp2_with (first | (go_at_call 25; refine (HQ.out _ (by omega) _).mono ?_; rintro e w5 ⟨rfl, hb5⟩; have HS5 := Lib.hid ((HLS.out.alloc _).later hb5); have hown := HS5.out.own) | (go_at_call 24; refine (HI.out _ (by omega) (by omega) _ (HD.out _ (HLS.out.alloc _).below).2.1).mono ?_; rintro e w5 ⟨rfl, hb5⟩; have HS5 := Lib.hid ((HLS.out.alloc _).later hb5); have hown := HS5.out.own) | (at_builtin; refine wpList_append_own _ rfl _ _ 43 rfl wB.heap.size 9 i0 (.string ByteArray.empty) 1 16 Tryz.underlying43 hi hz0 hz1 hz2 rfl (by decide) _ _ _ rfl (hown.alloc _) ⟨w5.heap.size, 0, none⟩ 1 1 [strv (Fd.text x.call .draw)] rfl rfl (cell_one_new _ _ _) (by simp [Value.oneCell', strv]) (by unfold maxLen; omega) (by omega) (by have := HS5.out.below.size; simp; omega) ?_; intro v' w6 hown' hg6 hnil6) | go_in)
        have hfin := (HS5.out.alloc (.cells #[strv (Fd.text x.call .draw)] 9)).append (Fd.text x.call .draw) rfl rfl hown' hg6
        refine ⟨⟨n + 1, by omega, by go_num, Lib.hid ?_⟩, by simp [intOf]; omega⟩
        rw [HTS.out]
        exact hfin
      | n =>
        simp only [Fd.txt, Fd.num] at hc1 hc2
        have hsm : Fd.small x.call .n := HSM.out
        simp only [Fd.small] at hsm
        go_wp2_with (first | (go_at_call 25; refine (HQ.out _ (by omega) _).mono ?_; rintro e w5 ⟨rfl, hb5⟩; have HS5 := Lib.hid ((HLS.out.alloc _).later hb5); have hown := HS5.out.own) | (go_at_call 24; refine (HI.out _ (by omega) (by omega) _ (HD.out _ (HLS.out.alloc _).below).2.1).mono ?_; rintro e w5 ⟨rfl, hb5⟩; have HS5 := Lib.hid ((HLS.out.alloc _).later hb5); have hown := HS5.out.own) | (at_builtin; refine wpList_append_own _ rfl _ _ 43 rfl wB.heap.size 9 i0 (.string ByteArray.empty) 1 16 Tryz.underlying43 hi hz0 hz1 hz2 rfl (by decide) _ _ _ rfl (hown.alloc _) ⟨w5.heap.size, 0, none⟩ 1 1 [strv (Fd.text x.call .n)] rfl rfl (cell_one_new _ _ _) (by simp [Value.oneCell', strv]) (by unfold maxLen; omega) (by omega) (by have := HS5.out.below.size; simp; omega) ?_; intro v' w6 hown' hg6 hnil6) | go_in)
        have hfin := (HS5.out.alloc (.cells #[strv (Fd.text x.call .n)] 9)).append (Fd.text x.call .n) rfl rfl hown' hg6
        refine ⟨⟨n + 1, by omega, by go_num, Lib.hid ?_⟩, by simp [intOf]; omega⟩
        rw [HTS.out]
        exact hfin
    · have hnl2 : n = fs.length := by omega
      have hls := HLS.out
      rw [hnl2, List.take_length] at hls
      have hjl : ([Lib.itoa x.w, (nameOf (i + 1)).data.toList] ++ fs.map (Fd.text x.call)).length ≤ 5 := by simp; omega
      have hja : ∀ t ∈ [Lib.itoa x.w, (nameOf (i + 1)).data.toList] ++ fs.map (Fd.text x.call), t.length ≤ 400 := by
        intro t ht
        simp only [List.cons_append, List.nil_append, List.mem_cons, List.mem_map] at ht
        rcases ht with rfl | rfl | ⟨f, hf, rfl⟩
        · have := Lib.itoa_length_le x.w (by omega) (by omega); omega
        · omega
        · exact Fd.text_le (HOK.out f hf)
      have hjj := join_le [32] 400 _ hja
      have hlb : lineB x = Lib.join ([Lib.itoa x.w, (nameOf (i + 1)).data.toList] ++ fs.map (Fd.text x.call)) [32] := HLB.out
      have h0 : 0 < ([Lib.itoa x.w, (nameOf (i + 1)).data.toList] ++ fs.map (Fd.text x.call)).length := by simp
      generalize [Lib.itoa x.w, (nameOf (i + 1)).data.toList] ++ fs.map (Fd.text x.call) = ts at *
      obtain ⟨g, cap, rfl, hg, hcap, hcells⟩ := hls.join h0
      have hjc := Tryz.strings_Join g 0 cap (ts.map fun t => (⟨t.toArray⟩ : ByteArray)) ⟨#[32]⟩ wr hcells hg (by rw [List.length_map]; omega) (by rw [List.length_map]; exact hcap) (by
        rw [List.map_map]
        rw [ts_back]
        have : (Lib.join ts [32]).length ≤ 2005 := Nat.le_trans hjj (by have := Nat.mul_le_mul_right ([32].length + 400) hjl; simpa using this)
        exact Nat.le_trans this (by decide))
      rw [List.length_map, List.map_map, ts_back] at hjc
      have HLB2 := Lib.hid hlb
      have HBW := Lib.hid ((HD.out _ HLS.out.below).2.2.1)
      clear hls hja hjj hlb hcells hnl2
      go_wp2_with (first | (go_at_call 26; refine hjc.mono ?_; rintro e w7 ⟨rfl, hb7⟩; have HB7 := Lib.hid hb7; clear hb7))
      go_ret
      exact ⟨by rw [HLB2.out]; rfl, HBW.out.trans (HB7.out.mono HBW.out.size)⟩
end Go.Proofs.YtkpofjfndokaeaaGreatDoor
