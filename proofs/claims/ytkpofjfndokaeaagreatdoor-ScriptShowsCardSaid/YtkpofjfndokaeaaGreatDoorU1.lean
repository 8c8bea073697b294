/- ScriptBack: the walk. -/
import Derived.Test.YtkpofjfndokaeaaGreatDoorU0
import Derived.Test.YtkpofjfndokaeaaGreatDoorN3
import Derived.Test.YtkpofjfndokaeaaGreatDoorT1
namespace Go.Proofs.YtkpofjfndokaeaaGreatDoor
open Go.RowKit
set_option linter.unusedVariables false
set_option linter.unusedSimpArgs false

theorem parse_any (s : ByteArray) (W : World) (hW : Sp W) (hs : s.size ≤ 9223372036854775807) (R : List Ev × Nat × Int) (hR : parseB s.data.toList = R) :
    Calls Tryz.prog 15 #[.string s] W fun e w' => ∃ M c, e = .returned (.tuple #[.slice M R.1.length c, .int .i64 (R.2.1 : Int), .int .i64 R.2.2]) ∧ Evs w' M R.1 ∧ Below W.heap.size W w' := by
  subst hR
  have key : ∀ e w', ParseR W W.heap.size (parseB s.data.toList) e w' ∧ Below W.heap.size W w' → ∃ M c, e = .returned (.tuple #[.slice M (parseB s.data.toList).1.length c, .int .i64 ((parseB s.data.toList).2.1 : Int), .int .i64 (parseB s.data.toList).2.2]) ∧ Evs w' M (parseB s.data.toList).1 ∧ Below W.heap.size W w' := by
    rintro e w' ⟨⟨v, he, M, c, hv, _, hev, _⟩, hb⟩
    exact ⟨M, c, by rw [he, hv], hev, hb⟩
  by_cases h : 65536 < s.size
  · exact (parse_long s W hs h).mono key
  · exact (parse_short s W hW (by omega)).mono key
theorem right_len {l : List Ev} (h : right l = true) : l.length ≤ 4096 := by
  unfold right at h
  simp only [Bool.and_eq_true, decide_eq_true_eq] at h
  exact h.2
/-- Show writes it, or it is none of a script's (or too long). -/
theorem showR_two (l : List Ev) : (right l = true ∧ (showB l).length ≤ 65536 ∧ showR l = (showB l, 0)) ∨ showR l = ([], 200) := by
  unfold showR
  cases h : right l with
  | false => exact .inr (by simp)
  | true =>
    by_cases h2 : (showB l).length ≤ 65536
    · exact .inl ⟨rfl, h2, by simp [h2]⟩
    · exact .inr (by simp [h2])

/-- What one who has events in memory can do with them. -/
structure Has (W : World) (A : Option Addr) (l : List Ev) : Prop where
  sh : ∀ w, Below W.heap.size W w → ∀ c, Calls Tryz.prog 8 #[.slice A l.length c] w fun e w' => e = .returned (.tuple #[.string ⟨(showR l).1.toArray⟩, .int .i64 (showR l).2]) ∧ Below W.heap.size W w'
  ri : ∀ w, Below W.heap.size W w → ∀ c, Calls Tryz.prog 10 #[.slice A l.length c] w fun e w' => e = .returned (.bool (right l)) ∧ Below W.heap.size W w'
theorem Has.mk' {W : World} {A : Option Addr} {l : List Ev} (hW : Sp W) (h : Evs W A l) (hl : l.length ≤ 9223372036854775807) : Has W A l :=
  ⟨fun w hb c => (show_any A c l w (hW.later hb).st (h.later hb (Nat.le_refl _)) hl).mono fun e w' ⟨he, hb2⟩ => ⟨he, hb.trans (hb2.mono hb.size)⟩,
   fun w hb c => (right_any A c l w (h.later hb (Nat.le_refl _)) hl).mono fun e w' ⟨he, hb2⟩ => ⟨he, hb.trans (hb2.mono hb.size)⟩⟩

set_option maxRecDepth 100000 in
set_option maxHeartbeats 4000000 in
/-- From the text on. -/
theorem back_any (A : Option Addr) (ca : Nat) (l : List Ev) (s : ByteArray) (W : World) (hW : Sp W) (hl : Evs W A l) (hll : l.length ≤ 9223372036854775807) (hs : s.size ≤ 9223372036854775807) :
    Calls Tryz.prog 5 #[.slice A l.length ca, .string s] W fun e w' => e = .returned (.bool true) ∧ Below W.heap.size W w' := by
  have HSW : Hid (∀ w, Below W.heap.size W w → Sp w) := Lib.hid fun w hb => hW.later hb
  have HSN : Hid (Calls Tryz.prog 7 #[] W fun e w' => e = .returned (.bool true) ∧ Below W.heap.size W w') := Lib.hid (shown_any W hW)
  have HL := Lib.hid (Has.mk' hW hl (by omega))
  have HEV : Hid (∀ w, Below W.heap.size W w → Evs w A l) := Lib.hid fun w hb => hl.later hb (Nat.le_refl _)
  have HP : Hid (∀ (t : ByteArray) (R : List Ev × Nat × Int) (a : Int), t.size ≤ 9223372036854775807 → parseB t.data.toList = R → (R.2.1 : Int) = a → ∀ w, Below W.heap.size W w → Calls Tryz.prog 15 #[.string t] w fun e w' => ∃ M c, e = .returned (.tuple #[.slice M R.1.length c, .int .i64 a, .int .i64 R.2.2]) ∧ Evs w' M R.1 ∧ Below w.heap.size w w' ∧ Below W.heap.size W w') := Lib.hid fun t R a ht hR ha w hb => (parse_any t w (HSW.out w hb) ht R hR).mono fun e w' h => by
    obtain ⟨M, c, he, hev, hb2⟩ := h
    rw [ha] at he
    exact ⟨M, c, he, hev, hb2, hb.trans (hb2.mono hb.size)⟩
  have HSM : Hid (∀ (B C : Option Addr) (cb cc : Nat) (b c : List Ev) (w : World), Below W.heap.size W w → Evs w B b → Evs w C c → b = c → b.length ≤ 9223372036854775807 → Calls Tryz.prog 11 #[.slice B b.length cb, .slice C c.length cc] w fun e w' => e = .returned (.bool true) ∧ Below w.heap.size w w' ∧ Below W.heap.size W w') := Lib.hid fun B C cb cc b c w hb h1 h2 hbc hn => by
    refine (same_any B C cb cc b c w h1 h2 hn (by rw [← hbc]; exact hn)).mono ?_
    rintro e w' ⟨rfl, hb2⟩
    exact ⟨by rw [decide_eq_true hbc], hb2, hb.trans (hb2.mono hb.size)⟩
  have hrest := parseB_right s.data.toList
  obtain ⟨⟨m, at', code⟩, hR⟩ : ∃ R, parseB s.data.toList = R := ⟨_, rfl⟩
  rw [hR] at hrest
  have HPT := Lib.hid (HP.out s _ at' hs hR rfl)
  simp only at hrest HPT
  have h1 := showR_two l
  clear hW hl hR
  rcases h1 with ⟨hr1, hs1, he1⟩ | he1
  · have HSH := Lib.hid HL.out.sh
    rw [he1] at HSH
    simp only at HSH
    clear he1
    rcases hrest with ⟨rfl, hrm⟩ | ⟨hc, rfl⟩
    · have hml := right_len hrm
      have h2 := showR_two m
      have HRM := Lib.hid hrm
      clear hrm
      rcases h2 with ⟨_, hs2, he2⟩ | he2
      · have HPL := Lib.hid (HP.out ⟨(showB l).toArray⟩ _ 0 (by show (showB l).length ≤ _; omega) (parse_show hr1 hs1) rfl)
        simp only at HPL
        have HE2 := Lib.hid he2
        clear he2
        have HPM := Lib.hid (HP.out ⟨(showB m).toArray⟩ _ 0 (by show (showB m).length ≤ _; omega) (parse_show HRM.out hs2) rfl)
        simp only at HPM
        clear HP
        go_enter Tryz.func5, Tryz.ntmps5
        go_wp2_with (first | (go_at_call 7; refine HSN.out.mono ?_; rintro e w1 ⟨rfl, hb1⟩; have HB1 := Lib.hid hb1; clear hb1 HSN) | (go_at_call 8; refine (HSH.out _ HB1.out _).mono ?_; rintro e w2 ⟨rfl, hb2⟩; have HB2 := Lib.hid hb2; clear hb2 HSH) | (go_at_call 15; refine (HPL.out _ HB2.out).mono ?_; rintro e w3 ⟨M1, c3, rfl, hev3, hbx3, hb3⟩; have HE3 := Lib.hid hev3; have HX3 := Lib.hid hbx3; have HB3 := Lib.hid hb3; clear hb3 hbx3 hev3 HPL) | (go_at_call 11; refine (HSM.out A M1 _ _ l l w3 HB3.out (HEV.out _ HB3.out) HE3.out rfl (by omega)).mono ?_; rintro e w4 ⟨rfl, _, hb4⟩; have HB4 := Lib.hid hb4; clear hb4 HE3) | (go_at_call 15; refine (HPT.out _ HB4.out).mono ?_; rintro e w5 ⟨M2, c5, rfl, hev5, hbx5, hb5⟩; have HE5 := Lib.hid hev5; have HX5 := Lib.hid hbx5; have HB5 := Lib.hid hb5; have HM := Lib.hid (Has.mk' (HSW.out _ hb5) hev5 (by omega)); clear hb5 hbx5 hev5 HPT) | (go_at_call 10; refine (HM.out.ri _ (Below.refl _ _) _).mono ?_; rintro e w6 ⟨rfl, hb6⟩; rw [HRM.out]; have HB6 := Lib.hid hb6; clear hb6) | (go_at_call 8; refine (HM.out.sh _ HB6.out _).mono ?_; rintro e w7 ⟨rfl, hb7⟩; rw [HE2.out]; have HB7 := Lib.hid hb7; have HB8 := Lib.hid (HB5.out.trans (hb7.mono HB5.out.size)); clear hb7) | (go_at_call 15; refine (HPM.out _ HB8.out).mono ?_; rintro e w9 ⟨M3, c9, rfl, hev9, hbx9, hb9⟩; have HE9 := Lib.hid hev9; have HX9 := Lib.hid hbx9; have HB9 := Lib.hid hb9; clear hb9 hbx9 hev9 HPM) | (go_at_call 11; refine (HSM.out M2 M3 _ _ m m w9 HB9.out (HE5.out.later (HB7.out.trans (HX9.out.mono HB7.out.size)) (Nat.le_refl _)) HE9.out rfl (by omega)).mono ?_; rintro e w10 ⟨rfl, _, hb10⟩; have HB10 := Lib.hid hb10; clear hb10))
        go_ret
        exact ⟨rfl, HB10.out⟩
      · have HPL := Lib.hid (HP.out ⟨(showB l).toArray⟩ _ 0 (by show (showB l).length ≤ _; omega) (parse_show hr1 hs1) rfl)
        simp only at HPL
        have HE2 := Lib.hid he2
        clear he2
        clear HP
        go_enter Tryz.func5, Tryz.ntmps5
        go_wp2_with (first | (go_at_call 7; refine HSN.out.mono ?_; rintro e w1 ⟨rfl, hb1⟩; have HB1 := Lib.hid hb1; clear hb1 HSN) | (go_at_call 8; refine (HSH.out _ HB1.out _).mono ?_; rintro e w2 ⟨rfl, hb2⟩; have HB2 := Lib.hid hb2; clear hb2 HSH) | (go_at_call 15; refine (HPL.out _ HB2.out).mono ?_; rintro e w3 ⟨M1, c3, rfl, hev3, hbx3, hb3⟩; have HE3 := Lib.hid hev3; have HX3 := Lib.hid hbx3; have HB3 := Lib.hid hb3; clear hb3 hbx3 hev3 HPL) | (go_at_call 11; refine (HSM.out A M1 _ _ l l w3 HB3.out (HEV.out _ HB3.out) HE3.out rfl (by omega)).mono ?_; rintro e w4 ⟨rfl, _, hb4⟩; have HB4 := Lib.hid hb4; clear hb4 HE3) | (go_at_call 15; refine (HPT.out _ HB4.out).mono ?_; rintro e w5 ⟨M2, c5, rfl, hev5, hbx5, hb5⟩; have HE5 := Lib.hid hev5; have HX5 := Lib.hid hbx5; have HB5 := Lib.hid hb5; have HM := Lib.hid (Has.mk' (HSW.out _ hb5) hev5 (by omega)); clear hb5 hbx5 hev5 HPT) | (go_at_call 10; refine (HM.out.ri _ (Below.refl _ _) _).mono ?_; rintro e w6 ⟨rfl, hb6⟩; rw [HRM.out]; have HB6 := Lib.hid hb6; clear hb6) | (go_at_call 8; refine (HM.out.sh _ HB6.out _).mono ?_; rintro e w7 ⟨rfl, hb7⟩; rw [HE2.out]; have HB7 := Lib.hid hb7; have HB8 := Lib.hid (HB5.out.trans (hb7.mono HB5.out.size)); clear hb7))
        go_ret
        exact ⟨rfl, HB8.out⟩
    · have HPL := Lib.hid (HP.out ⟨(showB l).toArray⟩ _ 0 (by show (showB l).length ≤ _; omega) (parse_show hr1 hs1) rfl)
      simp only at HPL
      have hcb : (code != 0) = true := by rw [bne_iff_ne]; exact hc
      clear HP
      go_enter Tryz.func5, Tryz.ntmps5
      go_wp2_with (first | (go_at_call 7; refine HSN.out.mono ?_; rintro e w1 ⟨rfl, hb1⟩; have HB1 := Lib.hid hb1; clear hb1 HSN) | (go_at_call 8; refine (HSH.out _ HB1.out _).mono ?_; rintro e w2 ⟨rfl, hb2⟩; have HB2 := Lib.hid hb2; clear hb2 HSH) | (go_at_call 15; refine (HPL.out _ HB2.out).mono ?_; rintro e w3 ⟨M1, c3, rfl, hev3, hbx3, hb3⟩; have HE3 := Lib.hid hev3; have HX3 := Lib.hid hbx3; have HB3 := Lib.hid hb3; clear hb3 hbx3 hev3 HPL) | (go_at_call 11; refine (HSM.out A M1 _ _ l l w3 HB3.out (HEV.out _ HB3.out) HE3.out rfl (by omega)).mono ?_; rintro e w4 ⟨rfl, _, hb4⟩; have HB4 := Lib.hid hb4; clear hb4 HE3) | (go_at_call 15; refine (HPT.out _ HB4.out).mono ?_; rintro e w5 ⟨M2, c5, rfl, hev5, hbx5, hb5⟩; have HE5 := Lib.hid hev5; have HX5 := Lib.hid hbx5; have HB5 := Lib.hid hb5; clear hb5 hbx5 hev5 HPT))
      go_ret
      exact ⟨rfl, HB5.out⟩
  · have HSH := Lib.hid HL.out.sh
    rw [he1] at HSH
    simp only at HSH
    clear he1
    rcases hrest with ⟨rfl, hrm⟩ | ⟨hc, rfl⟩
    · have hml := right_len hrm
      have h2 := showR_two m
      have HRM := Lib.hid hrm
      clear hrm
      rcases h2 with ⟨_, hs2, he2⟩ | he2
      · have HE2 := Lib.hid he2
        clear he2
        have HPM := Lib.hid (HP.out ⟨(showB m).toArray⟩ _ 0 (by show (showB m).length ≤ _; omega) (parse_show HRM.out hs2) rfl)
        simp only at HPM
        clear HP
        go_enter Tryz.func5, Tryz.ntmps5
        go_wp2_with (first | (go_at_call 7; refine HSN.out.mono ?_; rintro e w1 ⟨rfl, hb1⟩; have HB1 := Lib.hid hb1; clear hb1 HSN) | (go_at_call 8; refine (HSH.out _ HB1.out _).mono ?_; rintro e w2 ⟨rfl, hb2⟩; have HB2 := Lib.hid hb2; clear hb2 HSH) | (go_at_call 15; refine (HPT.out _ HB2.out).mono ?_; rintro e w5 ⟨M2, c5, rfl, hev5, hbx5, hb5⟩; have HE5 := Lib.hid hev5; have HX5 := Lib.hid hbx5; have HB5 := Lib.hid hb5; have HM := Lib.hid (Has.mk' (HSW.out _ hb5) hev5 (by omega)); clear hb5 hbx5 hev5 HPT) | (go_at_call 10; refine (HM.out.ri _ (Below.refl _ _) _).mono ?_; rintro e w6 ⟨rfl, hb6⟩; rw [HRM.out]; have HB6 := Lib.hid hb6; clear hb6) | (go_at_call 8; refine (HM.out.sh _ HB6.out _).mono ?_; rintro e w7 ⟨rfl, hb7⟩; rw [HE2.out]; have HB7 := Lib.hid hb7; have HB8 := Lib.hid (HB5.out.trans (hb7.mono HB5.out.size)); clear hb7) | (go_at_call 15; refine (HPM.out _ HB8.out).mono ?_; rintro e w9 ⟨M3, c9, rfl, hev9, hbx9, hb9⟩; have HE9 := Lib.hid hev9; have HX9 := Lib.hid hbx9; have HB9 := Lib.hid hb9; clear hb9 hbx9 hev9 HPM) | (go_at_call 11; refine (HSM.out M2 M3 _ _ m m w9 HB9.out (HE5.out.later (HB7.out.trans (HX9.out.mono HB7.out.size)) (Nat.le_refl _)) HE9.out rfl (by omega)).mono ?_; rintro e w10 ⟨rfl, _, hb10⟩; have HB10 := Lib.hid hb10; clear hb10))
        go_ret
        exact ⟨rfl, HB10.out⟩
      · have HE2 := Lib.hid he2
        clear he2
        clear HP
        go_enter Tryz.func5, Tryz.ntmps5
        go_wp2_with (first | (go_at_call 7; refine HSN.out.mono ?_; rintro e w1 ⟨rfl, hb1⟩; have HB1 := Lib.hid hb1; clear hb1 HSN) | (go_at_call 8; refine (HSH.out _ HB1.out _).mono ?_; rintro e w2 ⟨rfl, hb2⟩; have HB2 := Lib.hid hb2; clear hb2 HSH) | (go_at_call 15; refine (HPT.out _ HB2.out).mono ?_; rintro e w5 ⟨M2, c5, rfl, hev5, hbx5, hb5⟩; have HE5 := Lib.hid hev5; have HX5 := Lib.hid hbx5; have HB5 := Lib.hid hb5; have HM := Lib.hid (Has.mk' (HSW.out _ hb5) hev5 (by omega)); clear hb5 hbx5 hev5 HPT) | (go_at_call 10; refine (HM.out.ri _ (Below.refl _ _) _).mono ?_; rintro e w6 ⟨rfl, hb6⟩; rw [HRM.out]; have HB6 := Lib.hid hb6; clear hb6) | (go_at_call 8; refine (HM.out.sh _ HB6.out _).mono ?_; rintro e w7 ⟨rfl, hb7⟩; rw [HE2.out]; have HB7 := Lib.hid hb7; have HB8 := Lib.hid (HB5.out.trans (hb7.mono HB5.out.size)); clear hb7))
        go_ret
        exact ⟨rfl, HB8.out⟩
    · have hcb : (code != 0) = true := by rw [bne_iff_ne]; exact hc
      clear HP
      go_enter Tryz.func5, Tryz.ntmps5
      go_wp2_with (first | (go_at_call 7; refine HSN.out.mono ?_; rintro e w1 ⟨rfl, hb1⟩; have HB1 := Lib.hid hb1; clear hb1 HSN) | (go_at_call 8; refine (HSH.out _ HB1.out _).mono ?_; rintro e w2 ⟨rfl, hb2⟩; have HB2 := Lib.hid hb2; clear hb2 HSH) | (go_at_call 15; refine (HPT.out _ HB2.out).mono ?_; rintro e w5 ⟨M2, c5, rfl, hev5, hbx5, hb5⟩; have HE5 := Lib.hid hev5; have HX5 := Lib.hid hbx5; have HB5 := Lib.hid hb5; clear hb5 hbx5 hev5 HPT))
      go_ret
      exact ⟨rfl, HB5.out⟩
theorem back_law (a : Option Addr) (cap : Nat) (l : List Ev) (s : ByteArray) {W : World} (w0 : Evs W a l) (x0 : l.length ≤ cap) (y0 : cap ≤ maxLen) (w1 : s.size ≤ maxLen) (st : Sp W) :
    Calls Tryz.prog 5 #[.slice a l.length cap, .string s] W fun e w' => e = .returned (.bool true) ∧ Below W.heap.size W w' := by
  unfold maxLen at y0 w1
  exact back_any a cap l s W st w0 (by omega) (by omega)
end Go.Proofs.YtkpofjfndokaeaaGreatDoor
