/- varvelaw20.lines: the walk. -/
import Derived.Test.YtkpofjfndokaeaaGreatDoorY0
import Derived.Test.YtkpofjfndokaeaaGreatDoorR2
namespace Go.Proofs.YtkpofjfndokaeaaGreatDoor
open Go.RowKit
set_option linter.unusedVariables false
set_option linter.unusedSimpArgs false

set_option maxRecDepth 100000 in
set_option maxHeartbeats 4000000 in
theorem lines_any (s : ByteArray) (hs : s.size ≤ 20000) (W : World) : Calls Tryz.prog 16 #[.string s] W fun e w' => ∃ v, e = .returned v ∧ LS W (linesL s.data.toList) v w' := by
  obtain ⟨i0, hi, hz0, hz1, hz2⟩ := info_parts (show (Tryz.prog.info? 9).map (fun i => (i.zero, i.size, i.bytes)) = some (some (.string ByteArray.empty), 1, 16) by kernel_rfl)
  have hll : s.data.toList.length = s.size := by rw [Array.length_toList]; rfl
  have HLA : Hid ((lrun s.data.toList (s.size + 1)).1 = linesL s.data.toList) := Lib.hid (by have := lrun_all s.data.toList; rwa [hll] at this)
  have HLE := Lib.hid (fun n => lrun_len s.data.toList n)
  have HLS := Lib.hid (LS.nil W)
  have HLL := Lib.hid hll
  clear hll
  go_enter Tryz.func16, Tryz.ntmps16
  go_wp2_with fail
  go_loopw [3, 4, 5] (fun v fr i wr => ∃ k : Nat, k ≤ s.size + 1 ∧ i = .int .i64 k ∧ fr = .int .i64 ((lrun s.data.toList k).2 : Int) ∧ Hid (LS W (lrun s.data.toList k).1 v wr)) (fun _ _ i _ => s.size + 1 - (intOf i).toNat)
  case atStart => exact ⟨0, Nat.zero_le _, rfl, rfl, HLS⟩
  case round =>
    clear HLS
    obtain ⟨k, hk, rfl, rfl, HLS⟩ := hrel
    obtain ⟨hle1, hle2⟩ := HLE.out k
    by_cases hkl : k ≤ s.size
    · have HST : Hid (lrun s.data.toList (k + 1) = if k = s.data.toList.length ∨ s.data.toList[k]? = some 10 then ((lrun s.data.toList k).1 ++ [(s.data.toList.take k).drop (lrun s.data.toList k).2], k + 1) else lrun s.data.toList k) := Lib.hid rfl
      generalize hst : lrun s.data.toList k = st at *
      obtain ⟨ts, f⟩ := st
      simp only at hle1 hle2
      have hown := HLS.out.own
      have hsz := HLS.out.below.size
      have HX := Lib.hid (strv_extract s f k)
      have hsl := fun w => run_slice_string (P := Tryz.prog) w 9 s .i64 .i64 (f : Int) (k : Int) Tryz.underlying9 (by omega) (by omega) (by omega)
      simp only [Int.toNat_natCast] at hsl
      clear hst
      by_cases hke : k = s.size
      · have HE := Lib.hid (HST.out.trans (if_pos (.inl (by rw [HLL.out]; exact hke))))
        have hkb : ((k : Int) == (s.size : Int)) = true := by rw [beq_iff_eq]; omega
        clear HST hke
        go_wp2_with (at_builtin; refine wpList_append_own _ rfl _ _ 43 rfl W.heap.size 9 i0 (.string ByteArray.empty) 1 16 Tryz.underlying43 hi hz0 hz1 hz2 rfl (by decide) _ _ _ rfl (hown.alloc _) ⟨wr.heap.size, 0, none⟩ 1 1 [.string (s.extract f k)] rfl rfl (cell_one_new _ _ _) (by simp [Value.oneCell']) (by unfold maxLen; simp only; omega) (by simp only; omega) (by simp; omega) ?_; intro v' w' hown' hg3 hiff)
        refine ⟨⟨k + 1, by omega, by go_num, by rw [HE.out]; go_num, Lib.hid ?_⟩, by simp [intOf]; omega⟩
        rw [HE.out]
        exact (HLS.out.alloc _).append ((s.data.toList.take k).drop f) rfl (by rw [HX.out]) hown' hg3
      · have hkb : ((k : Int) == (s.size : Int)) = false := by rw [beq_eq_false_iff_ne]; omega
        have hks : k < s.size := by omega
        obtain ⟨c, hc⟩ : ∃ c, s.data.toList[k]? = some c := ⟨_, List.getElem?_eq_getElem (by rw [HLL.out]; exact hks)⟩
        obtain ⟨n, hn⟩ : ∃ n, c.toNat = n := ⟨_, rfl⟩
        have hgn : ∀ h : k < s.size, (s[k]'h).toNat = n := fun h => by rw [ba_get s k h c hc, hn]
        by_cases h10 : n = 10
        · have HE := Lib.hid (HST.out.trans (if_pos (.inr (by rw [hc]; exact congrArg some (UInt8.toNat_inj.1 (hn.trans h10))))))
          have hnb : ((n : Int) == 10) = true := by rw [beq_iff_eq]; omega
          clear HST hke hc hn h10
          go_wp2_with (at_builtin; refine wpList_append_own _ rfl _ _ 43 rfl W.heap.size 9 i0 (.string ByteArray.empty) 1 16 Tryz.underlying43 hi hz0 hz1 hz2 rfl (by decide) _ _ _ rfl (hown.alloc _) ⟨wr.heap.size, 0, none⟩ 1 1 [.string (s.extract f k)] rfl rfl (cell_one_new _ _ _) (by simp [Value.oneCell']) (by unfold maxLen; simp only; omega) (by simp only; omega) (by simp; omega) ?_; intro v' w' hown' hg3 hiff)
          refine ⟨⟨k + 1, by omega, by go_num, by rw [HE.out]; go_num, Lib.hid ?_⟩, by simp [intOf]; omega⟩
          rw [HE.out]
          exact (HLS.out.alloc _).append ((s.data.toList.take k).drop f) rfl (by rw [HX.out]) hown' hg3
        · have HE := Lib.hid (HST.out.trans (if_neg (fun h => by
            rcases h with h | h
            · rw [HLL.out] at h; exact hke h
            · rw [hc] at h; exact h10 (by rw [← hn, Option.some.inj h]; rfl))))
          have hnb : ((n : Int) == 10) = false := by rw [beq_eq_false_iff_ne]; omega
          clear HST hke hc hn h10
          go_wp2_with fail
          exact ⟨⟨k + 1, by omega, by go_num, by rw [HE.out], Lib.hid (by rw [HE.out]; exact HLS.out)⟩, by simp [intOf]; omega⟩
    · have HK : Hid (k = s.size + 1) := Lib.hid (by omega)
      go_wp2_with fail
      go_ret
      exact ⟨_, rfl, by rw [← HLA.out, ← HK.out]; exact HLS.out⟩
end Go.Proofs.YtkpofjfndokaeaaGreatDoor
