/- Graph.Wait of the document: what it leaves. -/
import Derived.Test.YtmfjncbccaifiaaDoorE1
import Derived.Test.YtmfjncbccaifiaaDoorB3
namespace Go.Proofs.YtmfjncbccaifiaaDoor
open Go.RowKit
set_option linter.unusedVariables false
set_option linter.unusedSimpArgs false

def bools (bs : List Bool) : Array Value := (bs.map Value.bool).toArray
/-- Block r is a graph of the document's. -/
def RB (W : World) (r : Nat) (bs : List Bool) : Prop := W.heap[r]? = some (.cells (bools bs) 51 (0, 0)) ∧ bs.length = 256
theorem RB.cell {W : World} {r : Nat} {bs : List Bool} (h : RB W r bs) {i : Nat} (hi : i < 256) : W.cell? ⟨r, i, none⟩ = some (.bool (bs.getD i false)) := by
  have hl := h.2
  simp only [World.cell?, h.1, bools]
  simp [List.getD_eq_getElem?_getD, hl, hi]
theorem RB.frozen {W : World} {r : Nat} {bs : List Bool} (h : RB W r bs) (i : Nat) : W.frozen? ⟨r, i, none⟩ = false := by
  simp [World.frozen?, h.1]
theorem RB.lt {W : World} {r : Nat} {bs : List Bool} (h : RB W r bs) : r < W.heap.size := (Array.getElem?_eq_some_iff.1 h.1).1
theorem RB.set {W : World} {r : Nat} {bs : List Bool} (h : RB W r bs) {i : Nat} (hi : i < 256) (x : Bool) : RB (W.setCell ⟨r, i, none⟩ (.bool x)) r (bs.set i x) := by
  refine ⟨?_, by rw [List.length_set]; exact h.2⟩
  obtain ⟨hlt, hk⟩ := Array.getElem?_eq_some_iff.1 h.1
  show (W.heap.modify r _)[r]? = _
  rw [Array.getElem?_eq_getElem (by rw [Array.size_modify]; exact hlt), Array.getElem_modify_self, hk]
  simp [bools, List.map_set]

theorem Only.cell {g : Nat} {W W' : World} (h : Only g W W') {a : Addr} (hb : a.block ≠ g) {v : Value} (hc : W.cell? a = some v) : W'.cell? a = some v := by
  have := h.same a.block (lt_of_cell hc) hb
  rw [World.cell?_of_block this]; exact hc
theorem Only.trans {g : Nat} {A B C : World} (h : Only g A B) (k : Only g B C) : Only g A C :=
  ⟨k.os.trans h.os, k.tape.trans h.tape, k.output.trans h.output, Nat.le_trans h.size k.size, fun i hi hne => (k.same i (Nat.lt_of_lt_of_le hi h.size) hne).trans (h.same i hi hne)⟩
theorem Only.refl (g : Nat) (W : World) : Only g W W := ⟨rfl, rfl, rfl, Nat.le_refl _, fun _ _ _ => rfl⟩

/-- Row k is cleared. -/
def clr (bs : List Bool) (k : Nat) : Nat → List Bool
  | 0 => bs
  | n + 1 => (clr bs k n).set (k * 16 + n) false
theorem clr_length (bs : List Bool) (k : Nat) : ∀ n, (clr bs k n).length = bs.length
  | 0 => rfl
  | n + 1 => by rw [clr, List.length_set, clr_length bs k n]
theorem getD_set' (bs : List Bool) (i x : Nat) (b : Bool) (hi : i < bs.length) : (bs.set i b).getD x false = if x = i then b else bs.getD x false := by
  rw [List.getD_eq_getElem?_getD, List.getElem?_set, List.getD_eq_getElem?_getD]
  by_cases h : i = x
  · subst h; simp [hi]
  · simp [h, Ne.symm h]
theorem clr_get (bs : List Bool) (k x : Nat) (hk : k < 16) (hl : bs.length = 256) : ∀ n, n ≤ 16 → (clr bs k n).getD x false = if k * 16 ≤ x ∧ x < k * 16 + n then false else bs.getD x false
  | 0, _ => by rw [if_neg (by omega)]; rfl
  | n + 1, hn => by
    rw [clr, getD_set' _ _ _ _ (by rw [clr_length]; omega), clr_get bs k x hk hl n (by omega)]
    by_cases h : x = k * 16 + n
    · rw [if_pos h, if_pos (by omega)]
    · rw [if_neg h]
      by_cases h2 : k * 16 ≤ x ∧ x < k * 16 + n
      · rw [if_pos h2, if_pos (by omega)]
      · rw [if_neg h2, if_neg (by omega)]

/-- What the document's graph holds behind a Wait. -/
def rowsAt (k : Nat) (m : Nat) (bs : List Bool) (bs' : List Bool) : Prop := ∀ x, x < 256 → bs'.getD x false = if x / 16 = k then m.testBit (x % 16) else bs.getD x false

def RWaitPost (r : Nat) (bs : List Bool) (a : Int) (l : List Int) (W : World) (e : Ending) (W' : World) : Prop :=
  e = .returned (.int .i64 (wtE a l)) ∧ (∃ bs', RB W' r bs' ∧ if wtE a l = 0 then rowsAt a.toNat (wtM a l) bs bs' else bs' = bs) ∧ Only r W W'
theorem RWaitPost.no {r : Nat} {bs : List Bool} {a : Int} {l : List Int} {W : World} (he : wtE a l = 2) (hG : RB W r bs) : RWaitPost r bs a l W (.returned (.int .i64 2)) W :=
  ⟨by rw [he], ⟨bs, hG, by rw [he, if_neg (by decide)]⟩, Only.refl _ _⟩

theorem wtM_zero (k : Nat) : wtM (k : Int) [] = 0 := by unfold wtM lv1; simp
theorem wtM_snoc (k : Nat) (hk : k < 16) (l : List Int) (on : Nat) (hon : on < 16) (y : Nat) :
    (wtM (k : Int) (l ++ [(on : Int)])).testBit y = ((wtM (k : Int) l).testBit y || (decide (y = on) && !decide (on = k))) := by
  have h1 : (l ++ [(on : Int)]).foldl come 0 = l.foldl come 0 ||| 2 ^ on := by
    rw [List.foldl_append]; show come _ _ = _; unfold come; rw [if_pos (isW_true.2 ⟨by omega, by omega⟩)]; simp
  have hl := comes_lt l 0 (by decide)
  unfold wtM
  rw [h1, Int.toNat_natCast, lv1_bit _ _ _ (Nat.lt_trans (Nat.or_lt_two_pow (n := 16) hl (Nat.pow_lt_pow_right (by decide) hon)) (by decide)) (by omega), lv1_bit _ _ _ (Nat.lt_trans hl (by decide)) (by omega), Nat.testBit_or, Nat.testBit_two_pow]
  by_cases h2 : y = k
  · subst h2
    by_cases h3 : y = on
    · simp [h3]
    · simp [h3, Ne.symm h3]
  · by_cases h3 : y = on
    · subst h3; simp [h2]
    · simp [h2, h3, Ne.symm h3]

set_option maxHeartbeats 8000000 in
set_option maxRecDepth 100000 in
theorem rwait_any (r : Nat) (bs : List Bool) (a : Int) (A : Option Addr) (c : Nat) (l : List Int) (W : World) (hG : RB W r bs) (hI : Ints W A l) (hl : l.length ≤ 9223372036854775807) (hne : ∀ ad, A = some ad → 0 < l.length → ad.block ≠ r) :
    Calls Tryd.prog 30 #[.pointer (some ⟨r, 0, none⟩), .int .i64 a, .slice A l.length c] W (RWaitPost r bs a l W) := by
  have hw := worker_any a W
  have HI := Lib.hid hI
  have HW : Hid (Later W W) := Lib.hid (Below.refl _ _)
  have HG := Lib.hid hG
  have HNE := Lib.hid hne
  clear hI hG hne
  go_enter Tryd.func30, Tryd.ntmps30
  go_wp2_with (first | (go_at_call 38; refine hw.mono ?_; rintro e w' ⟨rfl, rfl⟩))
  go_loop [7, 8] (fun m i => ∃ j : Nat, j ≤ l.length ∧ i = .int .i64 j ∧ m = .bool (isW a && (l.take j).all isW)) (fun _ i => l.length - (intOf i).toNat)
  case atStart => exact ⟨0, Nat.zero_le _, rfl, by simp⟩
  case round =>
    obtain ⟨j, hj, rfl, rfl⟩ := hrel
    by_cases hlt : j < l.length
    · obtain ⟨ad, rfl, hcell⟩ := HI.out.at_ HW.out hlt
      have htake : l.take (j + 1) = l.take j ++ [l.getD j 0] := by
        rw [List.take_succ_eq_append_getElem hlt, List.getD_eq_getElem?_getD, List.getElem?_eq_getElem hlt]; rfl
      obtain ⟨x, hx⟩ : ∃ x, l.getD j 0 = x := ⟨_, rfl⟩
      rw [hx] at hcell htake
      have HT := Lib.hid htake
      clear htake hx
      have hw2 := worker_any x W
      have hnew : (isW a && (l.take (j + 1)).all isW) = ((isW a && (l.take j).all isW) && isW x) := by
        rw [HT.out, List.all_append, Bool.and_assoc]; simp
      have HN := Lib.hid hnew
      clear hnew
      generalize isW x = p at hw2 HN
      generalize (isW a && (l.take j).all isW) = q at HN ⊢
      cases q <;> cases p
      all_goals
        go_wp2_with (first | (go_at_call 38; refine hw2.mono ?_; rintro e w' ⟨rfl, rfl⟩))
        go_round
        case rel => exact ⟨j + 1, by omega, by go_num, by rw [HN.out]; rfl⟩
        case measure => simp [intOf]; omega
    · have hj2 : j = l.length := by omega
      have hq : (isW a && (l.take j).all isW) = (isW a && l.all isW) := by rw [hj2, List.take_length]
      rw [hq]
      by_cases ho : (isW a && l.all isW) = true
      · have he : wtE a l = 0 := by unfold wtE; rw [if_pos (by simpa using ho)]
        obtain ⟨ha, hal⟩ : isW a = true ∧ l.all isW = true := by simpa using ho
        obtain ⟨h1, h2⟩ := isW_true.1 ha
        obtain ⟨k, rfl⟩ := Int.eq_ofNat_of_zero_le h1
        have hk : k < 16 := by omega
        have HE := Lib.hid he
        rw [ho]
        have HAL := Lib.hid hal
        have HA := Lib.hid ha
        clear ho hq he ha hal
        have c0 := HG.out.cell (show k * 16 < 256 by omega)
        have f0 := HG.out.frozen (k * 16)
        generalize bs.getD (k * 16) false = b0 at c0
        have c1 := HG.out.cell (show k * 16 + 1 < 256 by omega)
        have f1 := HG.out.frozen (k * 16 + 1)
        generalize bs.getD (k * 16 + 1) false = b1 at c1
        have c2 := HG.out.cell (show k * 16 + 2 < 256 by omega)
        have f2 := HG.out.frozen (k * 16 + 2)
        generalize bs.getD (k * 16 + 2) false = b2 at c2
        have c3 := HG.out.cell (show k * 16 + 3 < 256 by omega)
        have f3 := HG.out.frozen (k * 16 + 3)
        generalize bs.getD (k * 16 + 3) false = b3 at c3
        have c4 := HG.out.cell (show k * 16 + 4 < 256 by omega)
        have f4 := HG.out.frozen (k * 16 + 4)
        generalize bs.getD (k * 16 + 4) false = b4 at c4
        have c5 := HG.out.cell (show k * 16 + 5 < 256 by omega)
        have f5 := HG.out.frozen (k * 16 + 5)
        generalize bs.getD (k * 16 + 5) false = b5 at c5
        have c6 := HG.out.cell (show k * 16 + 6 < 256 by omega)
        have f6 := HG.out.frozen (k * 16 + 6)
        generalize bs.getD (k * 16 + 6) false = b6 at c6
        have c7 := HG.out.cell (show k * 16 + 7 < 256 by omega)
        have f7 := HG.out.frozen (k * 16 + 7)
        generalize bs.getD (k * 16 + 7) false = b7 at c7
        have c8 := HG.out.cell (show k * 16 + 8 < 256 by omega)
        have f8 := HG.out.frozen (k * 16 + 8)
        generalize bs.getD (k * 16 + 8) false = b8 at c8
        have c9 := HG.out.cell (show k * 16 + 9 < 256 by omega)
        have f9 := HG.out.frozen (k * 16 + 9)
        generalize bs.getD (k * 16 + 9) false = b9 at c9
        have c10 := HG.out.cell (show k * 16 + 10 < 256 by omega)
        have f10 := HG.out.frozen (k * 16 + 10)
        generalize bs.getD (k * 16 + 10) false = b10 at c10
        have c11 := HG.out.cell (show k * 16 + 11 < 256 by omega)
        have f11 := HG.out.frozen (k * 16 + 11)
        generalize bs.getD (k * 16 + 11) false = b11 at c11
        have c12 := HG.out.cell (show k * 16 + 12 < 256 by omega)
        have f12 := HG.out.frozen (k * 16 + 12)
        generalize bs.getD (k * 16 + 12) false = b12 at c12
        have c13 := HG.out.cell (show k * 16 + 13 < 256 by omega)
        have f13 := HG.out.frozen (k * 16 + 13)
        generalize bs.getD (k * 16 + 13) false = b13 at c13
        have c14 := HG.out.cell (show k * 16 + 14 < 256 by omega)
        have f14 := HG.out.frozen (k * 16 + 14)
        generalize bs.getD (k * 16 + 14) false = b14 at c14
        have c15 := HG.out.cell (show k * 16 + 15 < 256 by omega)
        have f15 := HG.out.frozen (k * 16 + 15)
        generalize bs.getD (k * 16 + 15) false = b15 at c15
        have hrb := ((((((((((((((((HG.out.set (show k * 16 < 256 by omega) false).set (show k * 16 + 1 < 256 by omega) false).set (show k * 16 + 2 < 256 by omega) false).set (show k * 16 + 3 < 256 by omega) false).set (show k * 16 + 4 < 256 by omega) false).set (show k * 16 + 5 < 256 by omega) false).set (show k * 16 + 6 < 256 by omega) false).set (show k * 16 + 7 < 256 by omega) false).set (show k * 16 + 8 < 256 by omega) false).set (show k * 16 + 9 < 256 by omega) false).set (show k * 16 + 10 < 256 by omega) false).set (show k * 16 + 11 < 256 by omega) false).set (show k * 16 + 12 < 256 by omega) false).set (show k * 16 + 13 < 256 by omega) false).set (show k * 16 + 14 < 256 by omega) false).set (show k * 16 + 15 < 256 by omega) false)
        have hon : Only r W _ := ((((((((((((((((Only.refl r W).trans (only_set _ r (k * 16) (.bool false))).trans (only_set _ r (k * 16 + 1) (.bool false))).trans (only_set _ r (k * 16 + 2) (.bool false))).trans (only_set _ r (k * 16 + 3) (.bool false))).trans (only_set _ r (k * 16 + 4) (.bool false))).trans (only_set _ r (k * 16 + 5) (.bool false))).trans (only_set _ r (k * 16 + 6) (.bool false))).trans (only_set _ r (k * 16 + 7) (.bool false))).trans (only_set _ r (k * 16 + 8) (.bool false))).trans (only_set _ r (k * 16 + 9) (.bool false))).trans (only_set _ r (k * 16 + 10) (.bool false))).trans (only_set _ r (k * 16 + 11) (.bool false))).trans (only_set _ r (k * 16 + 12) (.bool false))).trans (only_set _ r (k * 16 + 13) (.bool false))).trans (only_set _ r (k * 16 + 14) (.bool false))).trans (only_set _ r (k * 16 + 15) (.bool false))
        go_wp2
        obtain ⟨W1, hW1⟩ : ∃ W1, ((((((((((((((((W).setCell ⟨r, k * 16, none⟩ (.bool false)).setCell ⟨r, k * 16 + 1, none⟩ (.bool false)).setCell ⟨r, k * 16 + 2, none⟩ (.bool false)).setCell ⟨r, k * 16 + 3, none⟩ (.bool false)).setCell ⟨r, k * 16 + 4, none⟩ (.bool false)).setCell ⟨r, k * 16 + 5, none⟩ (.bool false)).setCell ⟨r, k * 16 + 6, none⟩ (.bool false)).setCell ⟨r, k * 16 + 7, none⟩ (.bool false)).setCell ⟨r, k * 16 + 8, none⟩ (.bool false)).setCell ⟨r, k * 16 + 9, none⟩ (.bool false)).setCell ⟨r, k * 16 + 10, none⟩ (.bool false)).setCell ⟨r, k * 16 + 11, none⟩ (.bool false)).setCell ⟨r, k * 16 + 12, none⟩ (.bool false)).setCell ⟨r, k * 16 + 13, none⟩ (.bool false)).setCell ⟨r, k * 16 + 14, none⟩ (.bool false)).setCell ⟨r, k * 16 + 15, none⟩ (.bool false) = W1 := ⟨_, rfl⟩
        rw [hW1]
        rw [hW1] at hrb hon
        have hrb1 : RB W1 r (clr bs k 16) := hrb
        have HR1 := Lib.hid hrb1
        have HO1 := Lib.hid hon
        clear hW1 hrb hrb1 hon c0 f0 c1 f1 c2 f2 c3 f3 c4 f4 c5 f5 c6 f6 c7 f7 c8 f8 c9 f9 c10 f10 c11 f11 c12 f12 c13 f13 c14 f14 c15 f15
        go_loopw [10] (fun i wr => ∃ (j : Nat) (bj : List Bool), j ≤ l.length ∧ i = .int .i64 j ∧ Hid (RB wr r bj) ∧ Hid (Only r W wr) ∧ Hid (rowsAt k (wtM (k : Int) (l.take j)) bs bj)) (fun i _ => l.length - (intOf i).toNat)
        case atStart =>
          refine ⟨0, clr bs k 16, Nat.zero_le _, rfl, HR1, HO1, Lib.hid fun x hx => ?_⟩
          rw [clr_get bs k x hk HG.out.2 16 (Nat.le_refl _), List.take_zero, wtM_zero]
          by_cases hx2 : x / 16 = k
          · rw [if_pos (by omega), if_pos hx2]; simp
          · rw [if_neg (by omega), if_neg hx2]
        case round =>
          obtain ⟨j, bj, hj, rfl, hrb, hon, hrow⟩ := hrel
          by_cases hlt : j < l.length
          · obtain ⟨ad, rfl, hcell0⟩ := HI.out.at_ HW.out hlt
            have hadne : (ad.add j).block ≠ r := by rw [add_blk]; exact HNE.out ad rfl (by omega)
            have hcell := hon.out.cell hadne hcell0
            have hxw : isW (l.getD j 0) = true := by
              have := List.all_eq_true.1 HAL.out (l.getD j 0)
              apply this
              rw [List.getD_eq_getElem?_getD, List.getElem?_eq_getElem hlt]; exact List.getElem_mem hlt
            have htake : l.take (j + 1) = l.take j ++ [l.getD j 0] := by
              rw [List.take_succ_eq_append_getElem hlt, List.getD_eq_getElem?_getD, List.getElem?_eq_getElem hlt]; rfl
            obtain ⟨x, hx⟩ : ∃ x, l.getD j 0 = x := ⟨_, rfl⟩
            rw [hx] at hcell htake hxw
            obtain ⟨hx1, hx2⟩ := isW_true.1 hxw
            obtain ⟨on, rfl⟩ := Int.eq_ofNat_of_zero_le hx1
            have hon16 : on < 16 := by omega
            have HT := Lib.hid htake
            clear htake hx hcell0 hxw hadne hx1
            by_cases hok : on = k
            · subst hok
              have t1 : ((on : Int) != (on : Int)) = false := by simp
              go_wp2
              go_roundw
              case rel => exact ⟨j + 1, bj, by omega, by go_num, hrb, hon, Lib.hid fun x hx => by
                rw [hrow.out x hx, HT.out]
                by_cases hx2 : x / 16 = on
                · rw [if_pos hx2, if_pos hx2, wtM_snoc on hk _ on hk]; simp
                · rw [if_neg hx2, if_neg hx2]⟩
              case measure => simp [intOf]; omega
            · have t1 : ((on : Int) != (k : Int)) = true := by simp; omega
              have t2 : (on != k) = true := by simpa using hok
              have hidx : k * 16 + on < 256 := by omega
              have cr := hrb.out.cell hidx
              have fr := hrb.out.frozen (k * 16 + on)
              have hset := hrb.out.set hidx true
              have HSET := Lib.hid hset
              generalize bj.getD (k * 16 + on) false = old at cr
              clear hset
              go_wp2
              go_region
              go_wp2
              go_roundw
              case rel => exact ⟨j + 1, bj.set (k * 16 + on) true, by omega, by go_num, Lib.hid HSET.out, Lib.hid ⟨hon.out.os, hon.out.tape, hon.out.output, (hon.out.trans (only_set wr r (k * 16 + on) (.bool true))).size, (hon.out.trans (only_set wr r (k * 16 + on) (.bool true))).same⟩, Lib.hid fun x hx => by
                rw [getD_set' _ _ _ _ (by rw [hrb.out.2]; exact hidx), hrow.out x hx, HT.out]
                by_cases hx2 : x / 16 = k
                · rw [if_pos hx2, if_pos hx2, wtM_snoc k hk _ on hon16]
                  by_cases hx3 : x = k * 16 + on
                  · rw [if_pos hx3]
                    have : x % 16 = on := by omega
                    simp [this, hok]
                  · rw [if_neg hx3]
                    have : ¬ x % 16 = on := by omega
                    simp [this]
                · rw [if_neg hx2, if_neg hx2, if_neg (by omega)]⟩
              case measure => simp [intOf]; omega
          · have hj3 : j = l.length := by omega
            have hfin : RWaitPost r bs (k : Int) l W (.returned (.int .i64 0)) wr := by
              refine ⟨by rw [HE.out], ⟨bj, hrb.out, ?_⟩, hon.out⟩
              rw [if_pos HE.out, Int.toNat_natCast]
              have := hrow.out
              rw [hj3, List.take_length] at this
              exact this
            have HFIN := Lib.hid hfin
            clear hfin hj3
            go_wp2
            go_ret
            exact HFIN.out
      · have hq2 : (isW a && l.all isW) = false := by simpa using ho
        have he : wtE a l = 2 := by unfold wtE; rw [if_neg (fun h => by rw [h.1, h.2] at hq2; cases hq2)]
        have HE := Lib.hid he
        rw [hq2]
        clear ho hq he hq2
        go_wp2
        go_ret
        exact RWaitPost.no HE.out HG.out
end Go.Proofs.YtmfjncbccaifiaaDoor
