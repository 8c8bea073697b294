/- LockVictims: the document's Victim, walked; the law. -/
import Derived.Test.YtmfjncbccaifiaaDoorB2
import Derived.WalkLawsBesides
namespace Go.Proofs.YtmfjncbccaifiaaDoor
open Go.RowKit Go.Shelf
set_option linter.unusedVariables false
set_option linter.unusedSimpArgs false

theorem worker_any (a : Int) (w : World) : Calls Tryd.prog 38 #[.int .i64 a] w fun e w' => e = .returned (.bool (isW a)) ∧ w = w' := by
  by_cases h : 0 ≤ a
  · go_enter Tryd.func38, Tryd.ntmps38
    go_wp2
    go_ret
    exact ⟨by simp [isW, h], rfl⟩
  · go_enter Tryd.func38, Tryd.ntmps38
    go_wp2
    go_ret
    exact ⟨by simp [isW]; omega, rfl⟩

set_option maxHeartbeats 8000000 in
set_option maxRecDepth 100000 in
theorem rvictim_any (A0 : Option Addr) (c0 : Nat) (l : List Int) (A1 : Option Addr) (c1 : Nat) (ages : List Int) (w : World) (h0 : Ints w A0 l) (h1 : Ints w A1 ages) (hl : l.length ≤ 9223372036854775807) (hl1 : ages.length ≤ 9223372036854775807) :
    Calls Tryd.prog 16 #[.slice A0 l.length c0, .slice A1 ages.length c1] w fun e w' => e = .returned (.tuple #[.int .i64 (vicL ages l).1, .bool (vicL ages l).2]) ∧ w = w' := by
  have hW : Later w w := Below.refl _ _
  have H0 := Lib.hid h0
  have H1 := Lib.hid h1
  have HW := Lib.hid hW
  clear h0 h1 hW
  go_enter Tryd.func16, Tryd.ntmps16
  go_wp2
  go_loop [6, 7, 8] (fun b o i => ∃ (k : Nat) (bi oi : Int), k ≤ l.length ∧ i = .int .i64 k ∧ b = .int .i64 bi ∧ o = .int .i64 oi ∧ ((k = 0 ∧ bi = -1 ∧ oi = 0) ∨ (0 < k ∧ Hid (isW bi = true ∧ oi = ageOf ages bi.toNat ∧ vic ages bi (l.drop k) = vic ages (l.getD 0 0) l)))) (fun _ _ i => l.length - (intOf i).toNat)
  case atStart => exact ⟨0, -1, 0, Nat.zero_le _, rfl, rfl, rfl, .inl ⟨rfl, rfl, rfl⟩⟩
  case round =>
    obtain ⟨k, bi, oi, hk, rfl, rfl, rfl, hb⟩ := hrel
    by_cases hlt : k < l.length
    · obtain ⟨ad, rfl, hcell⟩ := H0.out.at_ HW.out hlt
      have hd := drop_getD hlt
      have hzero : k = 0 → l.getD 0 0 = l.getD k 0 := by rintro rfl; rfl
      obtain ⟨x, hx⟩ : ∃ x, l.getD k 0 = x := ⟨_, rfl⟩
      rw [hx] at hcell hd hzero
      have HD := Lib.hid hd; clear hd
      clear hx
      have hlt2 : decide (k < l.length) = true := by simpa using hlt
      by_cases hxw : isW x = true
      · obtain ⟨hx0, hx16⟩ := isW_true.1 hxw
        obtain ⟨xn, rfl⟩ := Int.eq_ofNat_of_zero_le hx0
        have hw33 := worker_any (xn : Int) w
        rw [hxw] at hw33
        have HXW := Lib.hid hxw
        clear hxw hx0
        rcases hb with ⟨rfl, rfl, rfl⟩ | ⟨hk0, hb⟩
        · have hfin : Hid (isW (xn : Int) = true ∧ ageOf ages xn = ageOf ages (xn : Int).toNat ∧ vic ages (xn : Int) (l.drop (0 + 1)) = vic ages (l.getD 0 0) l) := Lib.hid ⟨HXW.out, rfl, by
            rw [hzero rfl]
            have hD := HD.out
            rw [List.drop_zero] at hD
            conv => rhs; rw [hD]
            simp only [vic, HXW.out, if_true]
            have e : (if better ages (xn : Int).toNat (xn : Int).toNat = true then (xn : Int) else (xn : Int)) = xn := by split <;> rfl
            rw [e]⟩
          have hneg : decide ((-1 : Int) < 0) = true := rfl
          rw [show ad.add 0 = ad by simp [Addr.add]] at hcell
          clear hzero HD
          by_cases ha : xn < ages.length
          · obtain ⟨ad1, rfl, hcell1⟩ := H1.out.at_ HW.out ha
            have e : ageOf ages xn = ages.getD xn 0 := by unfold ageOf; rw [if_pos ha]
            rw [e] at hfin
            generalize ages.getD xn 0 = ax at hcell1 hfin
            clear e
            go_wp2_with (first | (go_at_call 38; refine hw33.mono ?_; rintro e w' ⟨rfl, rfl⟩))
            go_round
            case rel => exact ⟨0 + 1, xn, ax, by omega, by go_num, rfl, rfl, .inr ⟨by omega, hfin⟩⟩
            case measure => simp [intOf]; omega
          · have e : ageOf ages xn = 0 := by unfold ageOf; rw [if_neg ha]
            rw [e] at hfin
            clear e
            have ax : Unit := ()
            go_wp2_with (first | (go_at_call 38; refine hw33.mono ?_; rintro e w' ⟨rfl, rfl⟩))
            go_round
            case rel => exact ⟨0 + 1, xn, 0, by omega, by go_num, rfl, rfl, .inr ⟨by omega, hfin⟩⟩
            case measure => simp [intOf]; omega
        · obtain ⟨hbw, rfl, hv⟩ := hb.out
          obtain ⟨hbi0, hbi16⟩ := isW_true.1 hbw
          obtain ⟨bn, rfl⟩ := Int.eq_ofNat_of_zero_le hbi0
          have hstep : vic ages (bn : Int) (l.drop k) = vic ages (if better ages xn bn = true then (xn : Int) else (bn : Int)) (l.drop (k + 1)) := by
            rw [HD.out]; simp only [vic, HXW.out, if_true, Int.toNat_natCast]
          rw [hstep] at hv
          rw [Int.toNat_natCast]
          have HBW := Lib.hid hbw
          have HV := Lib.hid hv
          clear hb hbw hv hbi0 hzero HD hstep
          have hneg : decide ((bn : Int) < 0) = false := by simp
          by_cases ha : xn < ages.length
          · obtain ⟨ad1, rfl, hcell1⟩ := H1.out.at_ HW.out ha
            have e : ageOf ages xn = ages.getD xn 0 := by unfold ageOf; rw [if_pos ha]
            have HE := Lib.hid e
            generalize ages.getD xn 0 = ax at hcell1 HE
            clear e
            by_cases g1 : ageOf ages bn < ax
            · have t1 : decide (ageOf ages bn < ax) = true := by simpa using g1
              have HBT : Hid (better ages xn bn = true) := Lib.hid (by unfold better; rw [HE.out]; simp [g1])
              clear g1
              go_wp2_with (first | (go_at_call 38; refine hw33.mono ?_; rintro e w' ⟨rfl, rfl⟩))
              go_round
              case rel => exact ⟨k + 1, xn, ax, by omega, by go_num, rfl, rfl, .inr ⟨by omega, Lib.hid ⟨HXW.out, HE.out.symm, by rw [← HV.out, HBT.out]; rfl⟩⟩⟩
              case measure => simp [intOf]; omega
            · have t1 : decide (ageOf ages bn < ax) = false := by simpa using g1
              by_cases g2 : ax = ageOf ages bn
              · have t2 : (ax == ageOf ages bn) = true := by simpa using g2
                by_cases g3 : xn < bn
                · have t3 : decide (xn < bn) = true := by simpa using g3
                  have HBT : Hid (better ages xn bn = true) := Lib.hid (by unfold better; rw [HE.out]; simp [g2, g3])
                  clear g1 g2
                  go_wp2_with (first | (go_at_call 38; refine hw33.mono ?_; rintro e w' ⟨rfl, rfl⟩))
                  go_round
                  case rel => exact ⟨k + 1, xn, ax, by omega, by go_num, rfl, rfl, .inr ⟨by omega, Lib.hid ⟨HXW.out, HE.out.symm, by rw [← HV.out, HBT.out]; rfl⟩⟩⟩
                  case measure => simp [intOf]; omega
                · have t3 : decide (xn < bn) = false := by simpa using g3
                  have HBT : Hid (better ages xn bn = false) := Lib.hid (by unfold better; rw [HE.out]; simp [g2, g3])
                  clear g1 g2
                  go_wp2_with (first | (go_at_call 38; refine hw33.mono ?_; rintro e w' ⟨rfl, rfl⟩))
                  go_round
                  case rel => exact ⟨k + 1, bn, ageOf ages bn, by omega, by go_num, rfl, rfl, .inr ⟨by omega, Lib.hid ⟨HBW.out, rfl, by rw [← HV.out, HBT.out]; rfl⟩⟩⟩
                  case measure => simp [intOf]; omega
              · have t2 : (ax == ageOf ages bn) = false := by simpa using g2
                have HBT : Hid (better ages xn bn = false) := Lib.hid (by unfold better; rw [HE.out]; simp [g1, g2])
                clear g1 g2
                go_wp2_with (first | (go_at_call 38; refine hw33.mono ?_; rintro e w' ⟨rfl, rfl⟩))
                go_round
                case rel => exact ⟨k + 1, bn, ageOf ages bn, by omega, by go_num, rfl, rfl, .inr ⟨by omega, Lib.hid ⟨HBW.out, rfl, by rw [← HV.out, HBT.out]; rfl⟩⟩⟩
                case measure => simp [intOf]; omega
          · have e : ageOf ages xn = 0 := by unfold ageOf; rw [if_neg ha]
            have HE := Lib.hid e
            clear e
            by_cases g1 : ageOf ages bn < (0 : Int)
            · have t1 : decide (ageOf ages bn < (0 : Int)) = true := by simpa using g1
              have HBT : Hid (better ages xn bn = true) := Lib.hid (by unfold better; rw [HE.out]; simp [g1])
              clear g1
              go_wp2_with (first | (go_at_call 38; refine hw33.mono ?_; rintro e w' ⟨rfl, rfl⟩))
              go_round
              case rel => exact ⟨k + 1, xn, (0 : Int), by omega, by go_num, rfl, rfl, .inr ⟨by omega, Lib.hid ⟨HXW.out, HE.out.symm, by rw [← HV.out, HBT.out]; rfl⟩⟩⟩
              case measure => simp [intOf]; omega
            · have t1 : decide (ageOf ages bn < (0 : Int)) = false := by simpa using g1
              by_cases g2 : (0 : Int) = ageOf ages bn
              · have t2 : ((0 : Int) == ageOf ages bn) = true := by simpa using g2
                by_cases g3 : xn < bn
                · have t3 : decide (xn < bn) = true := by simpa using g3
                  have HBT : Hid (better ages xn bn = true) := Lib.hid (by unfold better; rw [HE.out]; simp [g2, g3])
                  clear g1 g2
                  go_wp2_with (first | (go_at_call 38; refine hw33.mono ?_; rintro e w' ⟨rfl, rfl⟩))
                  go_round
                  case rel => exact ⟨k + 1, xn, (0 : Int), by omega, by go_num, rfl, rfl, .inr ⟨by omega, Lib.hid ⟨HXW.out, HE.out.symm, by rw [← HV.out, HBT.out]; rfl⟩⟩⟩
                  case measure => simp [intOf]; omega
                · have t3 : decide (xn < bn) = false := by simpa using g3
                  have HBT : Hid (better ages xn bn = false) := Lib.hid (by unfold better; rw [HE.out]; simp [g2, g3])
                  clear g1 g2
                  go_wp2_with (first | (go_at_call 38; refine hw33.mono ?_; rintro e w' ⟨rfl, rfl⟩))
                  go_round
                  case rel => exact ⟨k + 1, bn, ageOf ages bn, by omega, by go_num, rfl, rfl, .inr ⟨by omega, Lib.hid ⟨HBW.out, rfl, by rw [← HV.out, HBT.out]; rfl⟩⟩⟩
                  case measure => simp [intOf]; omega
              · have t2 : ((0 : Int) == ageOf ages bn) = false := by simpa using g2
                have HBT : Hid (better ages xn bn = false) := Lib.hid (by unfold better; rw [HE.out]; simp [g1, g2])
                clear g1 g2
                go_wp2_with (first | (go_at_call 38; refine hw33.mono ?_; rintro e w' ⟨rfl, rfl⟩))
                go_round
                case rel => exact ⟨k + 1, bn, ageOf ages bn, by omega, by go_num, rfl, rfl, .inr ⟨by omega, Lib.hid ⟨HBW.out, rfl, by rw [← HV.out, HBT.out]; rfl⟩⟩⟩
                case measure => simp [intOf]; omega
      · have hxw' : isW x = false := by simpa using hxw
        have hw33 := worker_any x w
        rw [hxw'] at hw33
        have hvl : vicL ages l = vout (vic ages (l.getD 0 0) l) := by
          have hpos : 0 < l.length := by omega
          have hx0 : l.getD 0 0 :: l.drop 1 = l := by have := drop_getD hpos; simpa using this.symm
          conv => lhs; rw [← hx0]
          unfold vicL
          simp only [hx0]
        have hres : vicL ages l = (0, false) := by
          rw [hvl]
          rcases hb with ⟨rfl, rfl, rfl⟩ | ⟨hk0, hb⟩
          · have hD := HD.out
            rw [List.drop_zero] at hD
            rw [hD]; simp only [vic, hxw', Bool.false_eq_true, if_false]; rfl
          · rw [← hb.out.2.2, HD.out]; simp only [vic, hxw', Bool.false_eq_true, if_false]; rfl
        have HRES := Lib.hid hres
        clear hxw hxw' hb hzero hres hvl
        go_wp2_with (first | (go_at_call 38; refine hw33.mono ?_; rintro e w' ⟨rfl, rfl⟩))
        go_ret2
        exact ⟨by rw [HRES.out]; rfl, rfl⟩
    · have hk2 : k = l.length := by omega
      have hlt2 : decide (k < l.length) = false := by simpa using hlt
      rcases hb with ⟨rfl, rfl, rfl⟩ | ⟨hk0, hb⟩
      · have hl0 : l = [] := List.length_eq_zero_iff.1 hk2.symm
        subst hl0
        clear hk2
        go_wp2
        go_ret2
        exact ⟨rfl, rfl⟩
      · obtain ⟨hbw, rfl, hv⟩ := hb.out
        obtain ⟨hbi0, hbi16⟩ := isW_true.1 hbw
        obtain ⟨bn, rfl⟩ := Int.eq_ofNat_of_zero_le hbi0
        have hvl : vicL ages l = vout (vic ages (l.getD 0 0) l) := by
          have hpos : 0 < l.length := by omega
          have hx0 : l.getD 0 0 :: l.drop 1 = l := by have := drop_getD hpos; simpa using this.symm
          conv => lhs; rw [← hx0]
          unfold vicL
          simp only [hx0]
        have hres : vicL ages l = ((bn : Int), true) := by
          rw [hvl, ← hv, hk2, List.drop_length]; rfl
        have HRES := Lib.hid hres
        clear hb hv hbw hvl hres hk2
        go_wp2
        go_ret2
        exact ⟨by rw [HRES.out]; rfl, rfl⟩
end Go.Proofs.YtmfjncbccaifiaaDoor
