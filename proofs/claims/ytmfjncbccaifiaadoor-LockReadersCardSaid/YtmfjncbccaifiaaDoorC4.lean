/- LockReaders: the walk of the law. -/
import Derived.Test.YtmfjncbccaifiaaDoorC3
namespace Go.Proofs.YtmfjncbccaifiaaDoor
open Go.RowKit
set_option linter.unusedVariables false
set_option linter.unusedSimpArgs false

theorem Ints.all {w : World} {A : Option Addr} {l : List Int} (h : Ints w A l) {j : Nat} (hj : j < l.length) : ∃ ad, A = some ad ∧ ∀ W, Later w W → W.cell? (ad.add j) = some (.int .i64 (l.getD j 0)) := by
  obtain ⟨ad, e, hc, hl⟩ := h j hj
  exact ⟨ad, e, fun W hb => (hb.cell (by rw [add_blk]; exact hl)).trans hc⟩

set_option maxHeartbeats 8000000 in
set_option maxRecDepth 100000 in
theorem readers_walk (A0 : Option Addr) (c0 : Nat) (l : List Int) (w : World) (s : Start w) (h0 : Ints w A0 l) (hl : l.length ≤ 9223372036854775807) :
    Calls Tryd.prog 5 #[.slice A0 l.length c0] w fun e w' => e = .returned (.bool true) ∧ Later w w' := by
  have HS := Lib.hid (shown_at s)
  have H0 := Lib.hid h0
  have hb : Later w w := Below.refl _ _
  have HRD := Lib.hid fun (m : Nat) (hm : m < 65536) (a : Int) => read_at s m a (Nat.lt_trans hm (by decide))
  have HRS := Lib.hid fun (m : Nat) (hm : m < 65536) => readers_at s m (Nat.lt_trans hm (by decide))
  have HLV := Lib.hid fun (m : Nat) (hm : m < 65536) (a : Int) => leave_at s m a (Nat.lt_trans hm (by decide))
  clear h0
  go_enter Tryd.func5, Tryd.ntmps5
  go_wp2_with (first | (go_at_call 11; refine (HS.out _ hb).mono ?_; clear hb; rintro e w1 ⟨rfl, hb⟩))
  go_loopw [4, 5, 6] (fun a b i wr => ∃ k x y : Nat, k ≤ l.length ∧ i = .int .i64 k ∧ a = .int .u64 x ∧ b = .int .u64 y ∧ Hid ((l.take k).foldl come 0 = x ∧ (l.reverse.take k).foldl come 0 = y) ∧ Hid (Later w wr)) (fun _ _ i _ => l.length - (intOf i).toNat)
  case atStart => exact ⟨0, 0, 0, Nat.zero_le _, rfl, rfl, rfl, Lib.hid ⟨by simp, by simp⟩, Lib.hid hb⟩
  case round =>
    clear hb
    obtain ⟨k, x, y, hk, rfl, rfl, rfl, hxy, HB⟩ := hrel
    have hb := HB.out
    clear HB
    have hxl : x < 65536 := by rw [← hxy.out.1]; exact comes_lt _ 0 (by decide)
    have hyl : y < 65536 := by rw [← hxy.out.2]; exact comes_lt _ 0 (by decide)
    by_cases hlt : k < l.length
    · have hlt2 : l.length - 1 - k < l.length := by omega
      obtain ⟨ad, rfl, hc1⟩ := H0.out.all hlt
      obtain ⟨ad', had, hc2⟩ := H0.out.all hlt2
      obtain rfl : ad = ad' := by simpa using had
      have hxs : (l.take (k + 1)).foldl come 0 = come x (l.getD k 0) := by
        rw [List.take_succ_eq_append_getElem hlt, List.foldl_append, hxy.out.1, List.getD_eq_getElem?_getD, List.getElem?_eq_getElem hlt]; rfl
      have hys : (l.reverse.take (k + 1)).foldl come 0 = come y (l.getD (l.length - 1 - k) 0) := by
        have hk3 : k < l.reverse.length := by simpa using hlt
        rw [List.take_succ_eq_append_getElem hk3, List.foldl_append, hxy.out.2, List.getElem_reverse, List.getD_eq_getElem?_getD, List.getElem?_eq_getElem hlt2]; rfl
      obtain ⟨p, hp⟩ : ∃ p, l.getD k 0 = p := ⟨_, rfl⟩
      obtain ⟨q, hq⟩ : ∃ q, l.getD (l.length - 1 - k) 0 = q := ⟨_, rfl⟩
      rw [hp] at hc1 hxs
      rw [hq] at hc2 hys
      have HX := Lib.hid hxs
      have HY := Lib.hid hys
      have hR1 := HRD.out x hxl p
      have hR2 := HRD.out y hyl q
      rw [rdW_low hxl] at hR1
      rw [rdW_low hyl] at hR2
      have HXL := Lib.hid hxl
      have HYL := Lib.hid hyl
      clear hxs hys hp hq hxl hyl had
      by_cases hpw : isW p = true <;> by_cases hqw : isW q = true
      · rw [if_pos hpw] at hR1
        rw [if_pos hqw] at hR2
        have HR1 := Lib.hid hR1
        have HR2 := Lib.hid hR2
        have HPW := Lib.hid hpw
        have HQW := Lib.hid hqw
        clear hR1 hR2 hpw hqw
        go_wp2_with (first | (go_at_call 12; refine (HR1.out _ hb).mono ?_; clear HR1 hb; rintro e w1 ⟨rfl, hb⟩) | (go_at_call 12; refine (HR2.out _ hb).mono ?_; clear HR2 hb; rintro e w1 ⟨rfl, hb⟩))
        exact ⟨⟨k + 1, come x p, come y q, by omega, by go_num, by unfold come; rw [if_pos HPW.out], by unfold come; rw [if_pos HQW.out], Lib.hid ⟨HX.out, HY.out⟩, Lib.hid hb⟩, by simp [intOf]; omega⟩
      · rw [if_pos hpw] at hR1
        rw [if_neg hqw] at hR2
        have HR1 := Lib.hid hR1
        have HR2 := Lib.hid hR2
        have HPW := Lib.hid hpw
        have HQW := Lib.hid hqw
        clear hR1 hR2 hpw hqw
        go_wp2_with (first | (go_at_call 12; refine (HR1.out _ hb).mono ?_; clear HR1 hb; rintro e w1 ⟨rfl, hb⟩) | (go_at_call 12; refine (HR2.out _ hb).mono ?_; clear HR2 hb; rintro e w1 ⟨rfl, hb⟩))
        exact ⟨⟨k + 1, come x p, come y q, by omega, by go_num, by unfold come; rw [if_pos HPW.out], by unfold come; rw [if_neg HQW.out], Lib.hid ⟨HX.out, HY.out⟩, Lib.hid hb⟩, by simp [intOf]; omega⟩
      · rw [if_neg hpw] at hR1
        rw [if_pos hqw] at hR2
        have HR1 := Lib.hid hR1
        have HR2 := Lib.hid hR2
        have HPW := Lib.hid hpw
        have HQW := Lib.hid hqw
        clear hR1 hR2 hpw hqw
        go_wp2_with (first | (go_at_call 12; refine (HR1.out _ hb).mono ?_; clear HR1 hb; rintro e w1 ⟨rfl, hb⟩) | (go_at_call 12; refine (HR2.out _ hb).mono ?_; clear HR2 hb; rintro e w1 ⟨rfl, hb⟩))
        exact ⟨⟨k + 1, come x p, come y q, by omega, by go_num, by unfold come; rw [if_neg HPW.out], by unfold come; rw [if_pos HQW.out], Lib.hid ⟨HX.out, HY.out⟩, Lib.hid hb⟩, by simp [intOf]; omega⟩
      · rw [if_neg hpw] at hR1
        rw [if_neg hqw] at hR2
        have HR1 := Lib.hid hR1
        have HR2 := Lib.hid hR2
        have HPW := Lib.hid hpw
        have HQW := Lib.hid hqw
        clear hR1 hR2 hpw hqw
        go_wp2_with (first | (go_at_call 12; refine (HR1.out _ hb).mono ?_; clear HR1 hb; rintro e w1 ⟨rfl, hb⟩) | (go_at_call 12; refine (HR2.out _ hb).mono ?_; clear HR2 hb; rintro e w1 ⟨rfl, hb⟩))
        exact ⟨⟨k + 1, come x p, come y q, by omega, by go_num, by unfold come; rw [if_neg HPW.out], by unfold come; rw [if_neg HQW.out], Lib.hid ⟨HX.out, HY.out⟩, Lib.hid hb⟩, by simp [intOf]; omega⟩
    · have hk2 : k = l.length := by omega
      have hxy2 : x = y := by
        obtain ⟨h1, h2⟩ := hxy.out
        rw [hk2, List.take_length] at h1
        rw [hk2, ← List.length_reverse, List.take_length, comes_reverse] at h2
        omega
      have hr1 := readers_any x (Nat.lt_trans hxl (by decide)) wr (s.later hb).tab (s.later hb).pos
      rw [(low_rgt hxl).2.1] at hr1
      have HXL := Lib.hid hxl
      have HXY := Lib.hid hxy2
      clear hxy hxy2 hk2 HRD hxl hyl
      go_wp2_with (first | (go_at_call 17; refine hr1.mono ?_; rintro e w2 ⟨A, c, rfl, hrow, hb2⟩))
      have hI := own_ints hrow
      have hlater2 : Later w w2 := hb.step hb2
      have s2 := s.later hlater2
      obtain ⟨r, hr⟩ : ∃ r, mem x = r := ⟨_, rfl⟩
      have hrl : r.length ≤ 64 := by rw [← hr]; exact mem_length_le x
      have hL0 : LeftAt r 0 x := ⟨HXL.out, by rw [hr]; rfl⟩
      have hr3 := readers_any x (Nat.lt_trans HXL.out (by decide)) w2 s2.tab s2.pos
      rw [(low_rgt HXL.out).2.1, hr] at hr3
      rw [hr] at hI hrow
      simp only [hr]
      have HI := Lib.hid hI
      have HR3 := Lib.hid hr3
      have HL0 := Lib.hid hL0
      have HY := HXY.out
      clear hI hr3 hL0 hrow hr HXY hr1
      subst HY
      go_loop [4, 14] (fun a i => ∃ k z : Nat, k ≤ r.length ∧ i = .int .i64 k ∧ a = .int .u64 z ∧ Hid (LeftAt r k z)) (fun _ i => r.length - (intOf i).toNat)
      case atStart => exact ⟨0, x, Nat.zero_le _, rfl, rfl, HL0⟩
      case round =>
        obtain ⟨i, z, hi, rfl, rfl, hz⟩ := hrel
        by_cases hil : i < r.length
        · obtain ⟨j, hj, hj16, hnext, hless⟩ := hz.out.step hil
          obtain ⟨ad2, rfl, hcell⟩ := HI.out.at_ (Below.refl _ _) (j := i) (by simpa using hil)
          have hv : (r.map Int.ofNat).getD i 0 = (j : Int) := by
            rw [List.getD_eq_getElem?_getD, List.getElem?_map, hj]; rfl
          rw [hv] at hcell
          have hlv := HLV.out z hz.out.lt (j : Int) w2 hlater2
          rw [lvW_low hz.out.lt j hj16] at hlv
          have hd : decide (z ≤ lv1 z j) = false := by simpa using hless
          have HN := Lib.hid hnext
          obtain ⟨z', hz'⟩ : ∃ z', lv1 z j = z' := ⟨_, rfl⟩
          rw [hz'] at hlv hd HN hless
          clear hv hnext hz' hj
          go_wp2_with (first | (go_at_call 18; refine hlv.mono ?_; rintro e w3 ⟨rfl, rfl⟩))
          go_round
          case rel => exact ⟨i + 1, z', by omega, by go_num, rfl, HN⟩
          case measure => simp [intOf]; omega
        · have hi2 : i = r.length := by omega
          have hz0 : z = 0 := by
            have h := hz.out.is
            rw [hi2, List.drop_length] at h
            exact mem_nil (Nat.lt_trans hz.out.lt (by decide)) h
          subst hz0
          clear hz hi2
          go_wp2_with (first | (go_at_call 17; refine HR3.out.mono ?_; rintro e w3 ⟨A2, c2, rfl, hrow3, hb3⟩; have hcall := ints_any A c (r.map Int.ofNat) A2 c2 (r.map Int.ofNat) w3 (HI.out.later hb3) (own_ints hrow3) (by simp; omega) (by simp; omega); rw [List.length_map] at hcall; simp only [decide_true] at hcall) | (go_at_call 19; refine hcall.mono ?_; rintro e w4 ⟨rfl, n4, rfl⟩))
          go_ret
          exact ⟨rfl, (hlater2.step hb3).step (later_drewN _ _)⟩

theorem LockReaders.walk (a0 : Option Addr) (len0 cap0 : Nat) (z0 : List Int) {w : World} (w0 : IsRow .i64 w a0 len0 cap0 z0) (y0 : len0 * 8 ≤ 140737488351232) (s : Start w) :
    Calls Tryd.prog 5 #[.slice a0 len0 cap0] w fun e w' => e = .returned (.bool true) ∧ Below w.heap.size w w' := by
  obtain ⟨l, rfl, hl, _⟩ := w0.ints
  exact readers_walk a0 cap0 l w s hl (by omega)
end Go.Proofs.YtmfjncbccaifiaaDoor
