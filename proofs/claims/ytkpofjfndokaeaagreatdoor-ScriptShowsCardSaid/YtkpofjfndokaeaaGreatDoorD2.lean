/- script.words: the walk. -/
import Derived.Test.YtkpofjfndokaeaaGreatDoorD1
namespace Go.Proofs.YtkpofjfndokaeaaGreatDoor
open Go.RowKit
set_option linter.unusedVariables false
set_option linter.unusedSimpArgs false

set_option maxRecDepth 100000 in
set_option maxHeartbeats 1000000 in
theorem words_any (s : ByteArray) (hs : s.size ≤ 4294967295) (W : World) : Calls Tryz.prog 31 #[.string s] W fun e w' => ∃ v, e = .returned v ∧ w'.ownsRow (W.heap.size + 1) 9 1 v (wordsB s.data.toList).length ((wordsB s.data.toList).map strv) ∧ Below W.heap.size W w' := by
  obtain ⟨i0, hi, hz0, hz1, hz2⟩ := info_parts (show (Tryz.prog.info? 9).map (fun i => (i.zero, i.size, i.bytes)) = some (some (.string ByteArray.empty), 1, 16) by kernel_rfl)
  have HD := Lib.hid (WD.start W s)
  have hll : s.data.toList.length = s.size := by rw [Array.length_toList]; rfl
  have HWE := Lib.hid (wend s.data.toList s.size hll)
  have HWL := Lib.hid (fun n => wrun_len s.data.toList n)
  have HFR := Lib.hid (fun n => wrun_fr s.data.toList n)
  go_enter Tryz.func31, Tryz.ntmps31
  go_wp2_with fail
  go_loopw [3, 4, 5] (fun v fr q wr => ∃ p, p ≤ s.size ∧ fr = .int .i64 (wrun s.data.toList p).fr ∧ q = .bool (wrun s.data.toList p).q ∧ Hid (WD W s p (wrun s.data.toList p).out v wr)) (fun _ _ _ wr => s.size - wr.iterPos W.heap.size)
  case atStart => exact ⟨0, Nat.zero_le _, rfl, rfl, HD⟩
  case round =>
    clear HD
    obtain ⟨p, hp, rfl, rfl, HD⟩ := hrel
    have hpos : wr.iterPos W.heap.size = p := iterPos_of HD.out.it
    have hfr := HFR.out p
    have hlen := HWL.out p
    by_cases hlt : p < s.size
    · have hnx : ∀ ty, (Instr.next (.pointer (some ⟨W.heap.size, 0, none⟩)) true ty).run Tryz.prog wr = _ := fun ty => Lib.run_next_any_at wr W.heap.size s p ty HD.out.it hlt
      obtain ⟨hst, hd1, hd2⟩ := wrun_decode s p hlt
      have hc1 := decode_le s p
      have HD2 := Lib.hid (HD.out.move (p + (Utf8.decode s p).2))
      have hown := HD2.out.own
      have hsz := HD2.out.below.size
      have hlt2 := HD2.out.lt
      have hpos2 : (wr.iterAt W.heap.size s (p + (Utf8.decode s p).2)).iterPos W.heap.size = p + (Utf8.decode s p).2 := iterPos_of HD2.out.it
      have HN := Lib.hid hnx
      generalize wr.iterAt W.heap.size s (p + (Utf8.decode s p).2) = w1 at *
      generalize (Utf8.decode s p).2 = d at *
      generalize (Utf8.decode s p).1 = r at *
      have HST := Lib.hid hst
      clear hst
      generalize hst : wrun s.data.toList p = st at *
      obtain ⟨out, fr, q⟩ := st
      simp only at hfr hlen hown
      clear hnx HD hst
      have hnx : ∀ ty, (Instr.next (.pointer (some ⟨W.heap.size, 0, none⟩)) true ty).run Tryz.prog wr = .ok (.tuple #[.bool true, .int .i64 p, .int .i32 r]) w1 := HN.out
      have hrr : (r : Int) ≤ 2147483647 := by omega
      by_cases hq : r = 32 ∧ q = false
      · obtain ⟨rfl, rfl⟩ := hq
        by_cases h0 : 0 ≤ fr
        · have he : wrun s.data.toList (p + d) = ⟨out ++ [(s.data.toList.take p).drop fr.toNat], -1, false⟩ := by rw [HST.out]; unfold wstep; simp [h0]
          have HE := Lib.hid he
          clear he HST
          obtain ⟨f, rfl⟩ := Int.eq_ofNat_of_zero_le h0
          have HX := Lib.hid (strv_extract s f p)
          have hsl := fun w => run_slice_string (P := Tryz.prog) w 9 s .i64 .i64 (f : Int) (p : Int) Tryz.underlying9 (by omega) (by omega) (by omega)
          simp only [Int.toNat_natCast] at hsl
          go_wp2_with (at_builtin; refine wpList_append_own _ rfl _ _ 43 rfl (W.heap.size + 1) 9 i0 (.string ByteArray.empty) 1 16 Tryz.underlying43 hi hz0 hz1 hz2 rfl (by decide) _ _ _ rfl (hown.alloc _) ⟨w1.heap.size, 0, none⟩ 1 1 [.string (s.extract f p)] rfl rfl (cell_one_new _ _ _) (by simp [Value.oneCell']) (by unfold maxLen; omega) (by omega) (by simp; omega) ?_; intro v' w' hown' hg3 hiff)
          refine ⟨⟨p + d, hd2, by rw [HE.out], by rw [HE.out], Lib.hid ?_⟩, ?_⟩
          · rw [HE.out]
            exact (HD2.out.alloc _).append ((s.data.toList.take p).drop f) rfl (by rw [HX.out]) hown' hg3
          · rw [iterPos_of ((HD2.out.alloc _).append ((s.data.toList.take p).drop f) rfl (by rw [HX.out]) hown' hg3).it, hpos]
            omega
        · have he : wrun s.data.toList (p + d) = ⟨out, -1, false⟩ := by rw [HST.out]; unfold wstep; simp [h0]
          have HE := Lib.hid he
          clear he HST
          go_wp2_with fail
          exact ⟨⟨p + d, hd2, by rw [HE.out], by rw [HE.out], Lib.hid (by rw [HE.out]; exact HD2.out)⟩, by omega⟩
      · by_cases h0 : fr < 0
        · have he : wrun s.data.toList (p + d) = ⟨out, p, r == 34⟩ := by rw [HST.out]; unfold wstep; rw [if_neg hq, if_pos h0]
          have HE := Lib.hid he
          clear he HST
          obtain ⟨b1, hb1⟩ : ∃ b, (((r : Nat) : Int) == 34) = b := ⟨_, rfl⟩
          have hb2 : (r == 34) = b1 := by rw [← hb1, Bool.eq_iff_iff]; simp; omega
          rw [hb2] at HE
          rcases Classical.em (r = 32) with rfl | hr
          · have hq1 : q = true := by simpa using hq
            subst hq1
            clear hq
            go_wp2_with fail
            exact ⟨⟨p + d, hd2, by rw [HE.out], by rw [HE.out, ← hb1]; rfl, Lib.hid (by rw [HE.out]; exact HD2.out)⟩, by omega⟩
          · clear hq
            have hr' : ¬ (r : Int) = 32 := by omega
            cases q <;> go_wp2_with fail
            all_goals exact ⟨⟨p + d, hd2, by rw [HE.out], by rw [HE.out, ← hb1], Lib.hid (by rw [HE.out]; exact HD2.out)⟩, by omega⟩
        · by_cases h34 : r = 34 ∧ q = true
          · have he : wrun s.data.toList (p + d) = ⟨out, fr, false⟩ := by rw [HST.out]; unfold wstep; rw [if_neg hq, if_neg h0, if_pos h34]
            have HE := Lib.hid he
            obtain ⟨rfl, rfl⟩ := h34
            clear he HST hq
            go_wp2_with fail
            exact ⟨⟨p + d, hd2, by rw [HE.out], by rw [HE.out], Lib.hid (by rw [HE.out]; exact HD2.out)⟩, by omega⟩
          · have he : wrun s.data.toList (p + d) = ⟨out, fr, q⟩ := by rw [HST.out]; unfold wstep; rw [if_neg hq, if_neg h0, if_neg h34]
            have HE := Lib.hid he
            clear he HST
            cases q with
            | false =>
              have hr' : ¬ (r : Int) = 32 := by simp at hq; omega
              clear hq h34
              go_wp2_with fail
              all_goals exact ⟨⟨p + d, hd2, by rw [HE.out], by rw [HE.out], Lib.hid (by rw [HE.out]; exact HD2.out)⟩, by omega⟩
            | true =>
              have hr' : ¬ (r : Int) = 34 := by simp at h34; omega
              clear hq h34
              go_wp2_with fail
              all_goals exact ⟨⟨p + d, hd2, by rw [HE.out], by rw [HE.out], Lib.hid (by rw [HE.out]; exact HD2.out)⟩, by omega⟩
    · have hnx : ∀ ty, (Instr.next (.pointer (some ⟨W.heap.size, 0, none⟩)) true ty).run Tryz.prog wr = _ := fun ty => Lib.run_next_end_at wr W.heap.size s p ty HD.out.it hlt
      obtain rfl : p = s.size := by omega
      generalize hst : wrun s.data.toList s.size = st at *
      obtain ⟨out, fr, q⟩ := st
      simp only at hfr hlen
      have hown := HD.out.own
      simp only at hown
      have hsz := HD.out.below.size
      have hlt2 := HD.out.lt
      by_cases h0 : 0 ≤ fr
      · have HE := Lib.hid (HWE.out.trans (if_pos h0))
        obtain ⟨f, rfl⟩ := Int.eq_ofNat_of_zero_le h0
        have HX := Lib.hid (strv_extract s f s.size)
        have hsl := fun w => (run_slice_string_from_if (P := Tryz.prog) w 9 s .i64 (f : Int) Tryz.underlying9).trans (if_pos (by omega))
        simp only [Int.toNat_natCast] at hsl
        clear HWE hst
        go_wp2_with (at_builtin; refine wpList_append_own _ rfl _ _ 43 rfl (W.heap.size + 1) 9 i0 (.string ByteArray.empty) 1 16 Tryz.underlying43 hi hz0 hz1 hz2 rfl (by decide) _ _ _ rfl (hown.alloc _) ⟨wr.heap.size, 0, none⟩ 1 1 [.string (s.extract f s.size)] rfl rfl (cell_one_new _ _ _) (by simp [Value.oneCell']) (by unfold maxLen; omega) (by omega) (by simp; omega) ?_; intro v' w' hown' hg3 hiff)
        go_ret
        have hh := (HD.out.alloc (.cells #[.string (s.extract f s.size)] 9)).append (s.data.toList.drop f) rfl (by rw [HX.out, ← hll, List.take_length]) hown' hg3
        exact ⟨_, rfl, by rw [HE.out]; exact hh.own, hh.below⟩
      · have HE := Lib.hid (HWE.out.trans (if_neg h0))
        clear HWE hst
        go_wp2_with fail
        go_ret
        exact ⟨_, rfl, by rw [HE.out]; exact HD.out.own, HD.out.below⟩
end Go.Proofs.YtkpofjfndokaeaaGreatDoor
