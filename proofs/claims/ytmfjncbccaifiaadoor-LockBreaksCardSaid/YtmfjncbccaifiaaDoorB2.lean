/- LockVictims, walked: lock.Victim and the document's, over any lists. -/
import Derived.Test.YtmfjncbccaifiaaDoorB1
import Derived.Deep.LoopGhost
namespace Go.Proofs.YtmfjncbccaifiaaDoor
open Go.RowKit Go.Shelf
set_option linter.unusedVariables false
set_option linter.unusedSimpArgs false

/-- A slice of ints that reads as a list. -/
def Ints (w : World) (A : Option Addr) (l : List Int) : Prop := ∀ j, j < l.length → ∃ ad, A = some ad ∧ w.cell? (ad.add j) = some (.int .i64 (l.getD j 0)) ∧ ad.block < w.heap.size

theorem Ints.later {w w' : World} {A : Option Addr} {l : List Int} (h : Ints w A l) (hb : Later w w') : Ints w' A l := fun j hj => by
  obtain ⟨ad, e, hc, hl⟩ := h j hj
  have hbk : (ad.add j).block = ad.block := by unfold Addr.add; split <;> rfl
  exact ⟨ad, e, (hb.cell (by rw [hbk]; exact hl)).trans hc, Nat.lt_of_lt_of_le hl hb.size⟩

theorem Ints.at_ {w w' : World} {A : Option Addr} {l : List Int} (h : Ints w A l) (hb : Later w w') {j : Nat} (hj : j < l.length) : ∃ ad, A = some ad ∧ w'.cell? (ad.add j) = some (.int .i64 (l.getD j 0)) := by
  obtain ⟨ad, e, hc, _⟩ := h.later hb j hj
  exact ⟨ad, e, hc⟩

def ageOf (ages : List Int) (w : Nat) : Int := if w < ages.length then ages.getD w 0 else 0

/-- The closure 'age'. -/
theorem age_any (B : Nat) (A : Option Addr) (c : Nat) (ages : List Int) (v : Nat) (w : World) (hc : w.cell? ⟨B, 0, none⟩ = some (.slice A ages.length c)) (hI : Ints w A ages) :
    Calls Tryd.prog 37 #[.int .i64 (v : Int), .pointer (some ⟨B, 0, none⟩)] w fun e w' => e = .returned (.int .i64 (ageOf ages v)) ∧ w = w' := by
  by_cases h : v < ages.length
  · obtain ⟨ad, rfl, hcell, _⟩ := hI v h
    have e : ageOf ages v = ages.getD v 0 := by unfold ageOf; rw [if_pos h]
    rw [e]
    generalize ages.getD v 0 = x at hcell
    clear e hI
    go_enter Tryd.func37, Tryd.ntmps37
    go_wp2
    go_ret
    exact ⟨rfl, rfl⟩
  · have e : ageOf ages v = 0 := by unfold ageOf; rw [if_neg h]
    rw [e]
    clear e hI
    go_enter Tryd.func37, Tryd.ntmps37
    go_wp2
    go_ret
    exact ⟨rfl, rfl⟩

/-- Is x ahead of b? -/
def better (ages : List Int) (x b : Nat) : Bool := decide (ageOf ages b < ageOf ages x) || (ageOf ages x == ageOf ages b && decide (x < b))
def vic (ages : List Int) : Int → List Int → Option Int
  | b, [] => some b
  | b, x :: r => if isW x = true then vic ages (if better ages x.toNat b.toNat = true then x else b) r else none

theorem drop_getD {l : List Int} {k : Nat} (h : k < l.length) : l.drop k = l.getD k 0 :: l.drop (k + 1) := by
  rw [List.drop_eq_getElem_cons h, List.getD_eq_getElem?_getD, List.getElem?_eq_getElem h]; rfl

/-- What lock.Victim hands back. -/
def vout : Option Int → Int × Bool
  | some b => (b, true)
  | none => (0, false)
def vicL (ages : List Int) (l : List Int) : Int × Bool := match l with
  | [] => (0, false)
  | x :: r => vout (vic ages x (x :: r))

set_option maxHeartbeats 4000000 in
set_option maxRecDepth 100000 in
theorem victim_any (A0 : Option Addr) (c0 : Nat) (l : List Int) (A1 : Option Addr) (c1 : Nat) (ages : List Int) (w : World) (h0 : Ints w A0 l) (h1 : Ints w A1 ages) (hl : l.length ≤ 9223372036854775807) (hl1 : ages.length ≤ 9223372036854775807) :
    Calls Tryd.prog 15 #[.slice A0 l.length c0, .slice A1 ages.length c1] w fun e w' => e = .returned (.tuple #[.int .i64 (vicL ages l).1, .bool (vicL ages l).2]) ∧ Later w w' := by
  have hW : Later w (w.alloc (.cells #[.slice A1 ages.length c1] 27)) := (Below.refl _ _).alloc (Nat.le_refl _) _
  have H0 := Lib.hid h0
  have HA := Lib.hid fun v => age_any w.heap.size A1 c1 ages v (w.alloc (.cells #[.slice A1 ages.length c1] 27)) (by simp) (h1.later hW)
  have HW := Lib.hid hW
  clear h0 h1 hW
  by_cases hn : l = []
  · subst hn
    go_enter Tryd.func15, Tryd.ntmps15
    go_wp2
    go_ret2
    exact ⟨rfl, HW.out⟩
  · have hpos : 0 < l.length := List.length_pos_iff.2 hn
    obtain ⟨ad, rfl, hfirst⟩ := H0.out.at_ HW.out hpos
    have hx0 : l.getD 0 0 :: l.drop 1 = l := by have := drop_getD hpos; simpa using this.symm
    have hres : vicL ages l = vout (vic ages (l.getD 0 0) l) := by
      conv => lhs; rw [← hx0]
      unfold vicL
      simp only [hx0]
    rw [hres]
    have hq : (l.length == 0) = false := by simpa using hn
    have hq2 : ((l.length : Int) == 0) = false := by simp; exact hn
    have hadd : ad.add 0 = ad := by simp [Addr.add]
    obtain ⟨x0, hx⟩ : ∃ x0, l.getD 0 0 = x0 := ⟨_, rfl⟩
    have HX := Lib.hid hx
    rw [hx] at hfirst hx0 ⊢
    rw [hadd] at hfirst
    clear hres hx0 hx hadd hn
    go_enter Tryd.func15, Tryd.ntmps15
    go_wp2
    go_loop [7, 19] (fun b i => ∃ (k : Nat) (bi : Int), k ≤ l.length ∧ i = .int .i64 k ∧ b = .int .i64 bi ∧ Hid (0 < k → isW bi = true) ∧ Hid (k = 0 → bi = x0) ∧ Hid (vic ages bi (l.drop k) = vic ages x0 l)) (fun _ i => l.length - (intOf i).toNat)
    case atStart => exact ⟨0, x0, Nat.zero_le _, rfl, rfl, Lib.hid (by omega), Lib.hid (fun _ => rfl), Lib.hid (by simp)⟩
    case round =>
      obtain ⟨k, bi, hk, rfl, rfl, hb1, hb2, hb3⟩ := hrel
      by_cases hlt : k < l.length
      · obtain ⟨ad2, had, hcell⟩ := H0.out.at_ HW.out hlt
        obtain rfl : ad = ad2 := by simpa using had
        have hd := drop_getD hlt
        have hzero : k = 0 → l.getD k 0 = x0 := by rintro rfl; exact HX.out
        obtain ⟨x, hx⟩ : ∃ x, l.getD k 0 = x := ⟨_, rfl⟩
        rw [hx] at hcell hd hzero
        have HD := Lib.hid hd; clear hd
        clear hx had
        have hlt2 : decide (k < l.length) = true := by simpa using hlt
        by_cases hxw : isW x = true
        · obtain ⟨hx0, hx16⟩ := isW_true.1 hxw
          obtain ⟨xn, rfl⟩ := Int.eq_ofNat_of_zero_le hx0
          have hbw : isW bi = true := by
            rcases Nat.eq_zero_or_pos k with h | h
            · rw [hb2.out h, ← hzero h]; exact hxw
            · exact hb1.out h
          obtain ⟨hbi0, hbi16⟩ := isW_true.1 hbw
          obtain ⟨bn, rfl⟩ := Int.eq_ofNat_of_zero_le hbi0
          have hw33 := isWorker_any (xn : Int) (w.alloc (.cells #[.slice A1 ages.length c1] 27))
          rw [hxw] at hw33
          have hstep : vic ages (bn : Int) (l.drop k) = vic ages (if better ages xn bn = true then (xn : Int) else (bn : Int)) (l.drop (k + 1)) := by
            rw [HD.out]; simp only [vic, hxw, if_true, Int.toNat_natCast]
          have HS := Lib.hid hstep; clear hstep
          have HXW := Lib.hid hxw; have HBW := Lib.hid hbw
          clear hxw hbw hbi0 hx0 hzero hb1 hb2
          by_cases g1 : ageOf ages bn < ageOf ages xn
          · have t1 : decide (ageOf ages bn < ageOf ages xn) = true := by simpa using g1
            have e : better ages xn bn = true := by unfold better; simp [g1]
            rw [e] at HS
            clear g1 e
            go_wp2_with (first | (go_at_call 33; refine hw33.mono ?_; rintro e w' ⟨rfl, rfl⟩) | (go_at_call 37; refine (HA.out _).mono ?_; rintro e w' ⟨rfl, rfl⟩))
            go_round
            case rel => exact ⟨k + 1, xn, by omega, by go_num, rfl, Lib.hid (fun _ => HXW.out), Lib.hid (by omega), Lib.hid (by rw [← hb3.out, HS.out]; rfl)⟩
            case measure => simp [intOf]; omega
          · have t1 : decide (ageOf ages bn < ageOf ages xn) = false := by simpa using g1
            by_cases g2 : ageOf ages xn = ageOf ages bn
            · have t2 : (ageOf ages xn == ageOf ages bn) = true := by simpa using g2
              by_cases g3 : xn < bn
              · have t3 : decide (xn < bn) = true := by simpa using g3
                have e : better ages xn bn = true := by unfold better; simp [g2, g3]
                rw [e] at HS
                clear g1 g2 g3 e
                go_wp2_with (first | (go_at_call 33; refine hw33.mono ?_; rintro e w' ⟨rfl, rfl⟩) | (go_at_call 37; refine (HA.out _).mono ?_; rintro e w' ⟨rfl, rfl⟩))
                go_round
                case rel => exact ⟨k + 1, xn, by omega, by go_num, rfl, Lib.hid (fun _ => HXW.out), Lib.hid (by omega), Lib.hid (by rw [← hb3.out, HS.out]; rfl)⟩
                case measure => simp [intOf]; omega
              · have t3 : decide (xn < bn) = false := by simpa using g3
                have e : better ages xn bn = false := by unfold better; simp [g2, g3]
                rw [e] at HS
                clear g1 g2 g3 e
                go_wp2_with (first | (go_at_call 33; refine hw33.mono ?_; rintro e w' ⟨rfl, rfl⟩) | (go_at_call 37; refine (HA.out _).mono ?_; rintro e w' ⟨rfl, rfl⟩))
                go_round
                case rel => exact ⟨k + 1, bn, by omega, by go_num, rfl, Lib.hid (fun _ => HBW.out), Lib.hid (by omega), Lib.hid (by rw [← hb3.out, HS.out]; rfl)⟩
                case measure => simp [intOf]; omega
            · have t2 : (ageOf ages xn == ageOf ages bn) = false := by simpa using g2
              have e : better ages xn bn = false := by unfold better; simp [g1, g2]
              rw [e] at HS
              clear g1 g2 e
              go_wp2_with (first | (go_at_call 33; refine hw33.mono ?_; rintro e w' ⟨rfl, rfl⟩) | (go_at_call 37; refine (HA.out _).mono ?_; rintro e w' ⟨rfl, rfl⟩))
              go_round
              case rel => exact ⟨k + 1, bn, by omega, by go_num, rfl, Lib.hid (fun _ => HBW.out), Lib.hid (by omega), Lib.hid (by rw [← hb3.out, HS.out]; rfl)⟩
              case measure => simp [intOf]; omega
        · have hxw' : isW x = false := by simpa using hxw
          have hw33 := isWorker_any x (w.alloc (.cells #[.slice A1 ages.length c1] 27))
          rw [hxw'] at hw33
          have hres : vic ages x0 l = none := by
            rw [← hb3.out, HD.out]; simp only [vic, hxw', Bool.false_eq_true, if_false]
          have HRES := Lib.hid hres
          clear hxw hxw' hb1 hb2 hzero hres
          go_wp2_with (first | (go_at_call 33; refine hw33.mono ?_; rintro e w' ⟨rfl, rfl⟩) | (go_at_call 37; refine (HA.out _).mono ?_; rintro e w' ⟨rfl, rfl⟩))
          go_ret2
          exact ⟨by rw [HRES.out]; rfl, HW.out⟩
      · have hk2 : k = l.length := by omega
        have hres : vic ages x0 l = some bi := by
          rw [← hb3.out, hk2]; simp [vic]
        have HRES := Lib.hid hres
        clear hb1 hb2 hres hk2
        go_wp2_with (first | (go_at_call 33; refine (isWorker_any _ _).mono ?_; rintro e w' ⟨rfl, rfl⟩) | (go_at_call 37; refine (HA.out _).mono ?_; rintro e w' ⟨rfl, rfl⟩))
        go_ret2
        exact ⟨by rw [HRES.out]; rfl, HW.out⟩
end Go.Proofs.YtmfjncbccaifiaaDoor
