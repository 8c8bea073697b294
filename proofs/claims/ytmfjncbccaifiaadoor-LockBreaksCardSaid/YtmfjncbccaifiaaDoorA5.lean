/- lock words: Write, Leave, and the laws' example: what each hands back. -/
import Derived.Test.YtmfjncbccaifiaaDoorA4
namespace Go.Proofs.YtmfjncbccaifiaaDoor
open Go.RowKit Go.Shelf
set_option linter.unusedVariables false
set_option linter.unusedSimpArgs false

set_option maxHeartbeats 1000000 in
theorem write_any (m : Nat) (a : Int) (hm : m < 18446744073709551616) (w : World) (hT : TabAt w) (h0 : 0 < w.heap.size) :
    Calls Tryd.prog 13 #[.int .u64 (m : Int), .int .i64 a] w fun e w' => e = .returned (.tuple #[.int .u64 ((wrW m a).1 : Nat), .bool (wrW m a).2.1, .int .i64 (wrW m a).2.2]) ∧ Below w.heap.size w w' := by
  have hwr := wrong_any m a hm w
  by_cases he : wrg m a = 0
  · obtain ⟨hw1, hw2⟩ := wrg_zero.1 he
    obtain ⟨h1, h2⟩ := isW_true.1 hw1
    obtain ⟨k, rfl⟩ := Int.eq_ofNat_of_zero_le h1
    have hag := against_any m (k : Int) true hm w hT h0
    have hk : k < 16 := by omega
    rw [he] at hwr
    by_cases hl : agn m (k : Int) true = []
    · have er : wrW m (k : Int) = (m % 65536 ||| (k + 1) * 4294967296, true, 0) := by unfold wrW; rw [if_pos ⟨he, hl⟩]; simp
      rw [er]
      have hand := and64 m 65535 hm (by decide)
      rw [low16] at hand
      have hor := or64 (m % 65536) ((k + 1) * 4294967296) (by omega) (by omega)
      have HA := Lib.hid hand
      rw [hl] at hag
      have HOR := Lib.hid hor
      have HT := Lib.hid hT
      clear hor hand er hm hl he hw1 hw2 hT
      go_enter Tryd.func13, Tryd.ntmps13
      go_wp2_with (first | (go_at_call 32; refine hwr.mono ?_; rintro e w' ⟨rfl, rfl⟩) | (go_at_call 14; refine hag.mono ?_; rintro e w' ⟨A, c, rfl, hrow, hb⟩))
      go_ret3
      refine ⟨?_, hb⟩
      rw [← HOR.out, ← HA.out]
      rw [show (((k + 1) * 4294967296 : Nat) : Int) = ((k : Int) + 1) * 4294967296 by simp]
      rfl
    · have er : wrW m (k : Int) = (0, false, 0) := by unfold wrW; rw [if_neg (by intro h; exact hl h.2), he]
      rw [er]
      have hpos : 0 < (agn m (k : Int) true).length := List.length_pos_iff.2 hl
      have hpd : decide (0 < (agn m (k : Int) true).length) = true := by simpa using hpos
      have HT := Lib.hid hT
      obtain ⟨L, hL⟩ : ∃ L, agn m (k : Int) true = L := ⟨_, rfl⟩
      rw [hL] at hag hpd hpos
      clear er hm hl he hw1 hw2 hT hL
      go_enter Tryd.func13, Tryd.ntmps13
      go_wp2_with (first | (go_at_call 32; refine hwr.mono ?_; rintro e w' ⟨rfl, rfl⟩) | (go_at_call 14; refine hag.mono ?_; rintro e w' ⟨A, c, rfl, hrow, hb⟩))
      go_ret3
      exact ⟨rfl, hb⟩
  · have er : wrW m a = (0, false, wrg m a) := by unfold wrW; rw [if_neg (by intro h; exact he h.1)]
    rw [er]
    have ht1 : ((wrg m a : Int) == 0) = false := by simpa using he
    have ht2 : ((wrg m a : Int) != 0) = true := by simpa using he
    obtain ⟨x, hx⟩ : ∃ x, wrg m a = x := ⟨_, rfl⟩
    rw [hx] at hwr ht1 ht2 ⊢
    have HT := Lib.hid hT
    clear er hm hT hx he
    go_enter Tryd.func13, Tryd.ntmps13
    go_wp2_with (first | (go_at_call 32; refine hwr.mono ?_; rintro e w' ⟨rfl, rfl⟩))
    go_ret3
    exact ⟨rfl, Below.refl _ _⟩

def lv1 (m k : Nat) : Nat := m &&& (18446744073709551615 - 2 ^ k)
def lvW (m : Nat) (a : Int) : Nat × Int :=
  if wrg m a = 0 then (if wrM (lv1 m a.toNat) ≠ 0 ∧ Lib.ctz 64 (wrM (lv1 m a.toNat)) = a.toNat then lv1 m a.toNat % 65536 else lv1 m a.toNat, 0) else (0, wrg m a)

set_option maxHeartbeats 1000000 in
theorem leave_any (m : Nat) (a : Int) (hm : m < 18446744073709551616) (w : World) (hT : TabAt w) :
    Calls Tryd.prog 18 #[.int .u64 (m : Int), .int .i64 a] w fun e w' => e = .returned (.tuple #[.int .u64 ((lvW m a).1 : Nat), .int .i64 (lvW m a).2]) ∧ w = w' := by
  have hwr := wrong_any m a hm w
  by_cases he : wrg m a = 0
  · obtain ⟨hw1, hw2⟩ := wrg_zero.1 he
    obtain ⟨h1, h2⟩ := isW_true.1 hw1
    obtain ⟨k, rfl⟩ := Int.eq_ofNat_of_zero_le h1
    have hk : k < 16 := by omega
    rw [he] at hwr
    have hlt : lv1 m k < 18446744073709551616 := Nat.lt_of_le_of_lt Nat.and_le_left hm
    have e3 : (((2 ^ k : Nat)) : Int) = (2 : Int) ^ k := by simp
    have hand := andNot64 m (2 ^ k) hm (Nat.lt_of_lt_of_le (pow_lt16 hk) (by decide))
    rw [e3, show m &&& (18446744073709551615 - 2 ^ k) = lv1 m k from rfl] at hand
    have hs := shl1 hk
    have e2 : min k 64 = k := by omega
    have hlow := and64 (lv1 m k) 65535 hlt (by decide)
    rw [low16] at hlow
    by_cases hz : wrM (lv1 m k) = 0
    · have er : lvW m (k : Int) = (lv1 m k, 0) := by unfold lvW; rw [if_pos he, if_neg (by intro h; exact h.1 (by simpa using hz))]; simp
      rw [er]
      have hwn := writer_none (lv1 m k) hlt hz w
      obtain ⟨x, hx⟩ : ∃ x, lv1 m k = x := ⟨_, rfl⟩
      rw [hx] at hwn hand ⊢
      rw [← hand] at hwn
      have HA := Lib.hid hand
      have HT := Lib.hid hT
      clear er hm hT hx he hw1 hw2 hand hlt e3 hlow hz
      go_enter Tryd.func18, Tryd.ntmps18
      go_wp2_with (first | (go_at_call 32; refine hwr.mono ?_; rintro e w' ⟨rfl, rfl⟩) | (go_at_call 23; refine hwn.mono ?_; rintro e w' ⟨rfl, rfl⟩))
      go_ret2
      exact ⟨by rw [← HA.out]; rfl, rfl⟩
    · have hws := writer_some (lv1 m k) hlt hz w hT
      by_cases hc : Lib.ctz 64 (wrM (lv1 m k)) = k
      · have er : lvW m (k : Int) = (lv1 m k % 65536, 0) := by unfold lvW; rw [if_pos he, if_pos ⟨by simpa using hz, by simpa using hc⟩]; simp
        rw [er]
        rw [hc] at hws
        obtain ⟨x, hx⟩ : ∃ x, lv1 m k = x := ⟨_, rfl⟩
        rw [hx] at hws hand hlow ⊢
        rw [← hand] at hws hlow
        have HA := Lib.hid hlow
        have HT := Lib.hid hT
        clear er hm hT hx he hw1 hw2 hand hlt e3 hlow hz hc
        go_enter Tryd.func18, Tryd.ntmps18
        go_wp2_with (first | (go_at_call 32; refine hwr.mono ?_; rintro e w' ⟨rfl, rfl⟩) | (go_at_call 23; refine hws.mono ?_; rintro e w' ⟨rfl, rfl⟩))
        go_ret2
        exact ⟨by rw [← HA.out]; rfl, rfl⟩
      · have er : lvW m (k : Int) = (lv1 m k, 0) := by unfold lvW; rw [if_pos he, if_neg (by intro h; exact hc (by simpa using h.2))]; simp
        rw [er]
        obtain ⟨c, hcc⟩ : ∃ c, Lib.ctz 64 (wrM (lv1 m k)) = c := ⟨_, rfl⟩
        rw [hcc] at hws hc
        obtain ⟨x, hx⟩ : ∃ x, lv1 m k = x := ⟨_, rfl⟩
        rw [hx] at hws hand ⊢
        rw [← hand] at hws
        have HA := Lib.hid hand
        have HT := Lib.hid hT
        have ht1 : ((c : Int) == (k : Int)) = false := by simp; omega
        have ht2 : decide (c = k) = false := by simpa using hc
        have ht3 : (c == k) = false := by simpa using hc
        clear er hm hT hx he hw1 hw2 hand hlt e3 hlow hz hcc
        go_enter Tryd.func18, Tryd.ntmps18
        go_wp2_with (first | (go_at_call 32; refine hwr.mono ?_; rintro e w' ⟨rfl, rfl⟩) | (go_at_call 23; refine hws.mono ?_; rintro e w' ⟨rfl, rfl⟩))
        go_ret2
        exact ⟨by rw [← HA.out]; rfl, rfl⟩
  · have er : lvW m a = (0, wrg m a) := by unfold lvW; rw [if_neg he]
    rw [er]
    have ht1 : ((wrg m a : Int) == 0) = false := by simpa using he
    have ht2 : ((wrg m a : Int) != 0) = true := by simpa using he
    obtain ⟨x, hx⟩ : ∃ x, wrg m a = x := ⟨_, rfl⟩
    rw [hx] at hwr ht1 ht2 ⊢
    have HT := Lib.hid hT
    clear er hm hT hx he
    go_enter Tryd.func18, Tryd.ntmps18
    go_wp2_with (first | (go_at_call 32; refine hwr.mono ?_; rintro e w' ⟨rfl, rfl⟩))
    go_ret2
    exact ⟨rfl, rfl⟩

/-- The laws' example: a first reader may read. -/
theorem shown_any (w : World) (hT : TabAt w) (h0 : 0 < w.heap.size) :
    Calls Tryd.prog 11 #[] w fun e w' => e = .returned (.bool true) ∧ Below w.heap.size w w' := by
  have hr := read_any 0 1 (by decide) w hT h0
  have e : rdW 0 1 = (2, true, 0) := by decide +kernel
  rw [e] at hr
  have HT := Lib.hid hT; clear hT e
  go_enter Tryd.func11, Tryd.ntmps11
  go_wp2_with (go_at_call 12; refine hr.mono ?_; rintro e w' ⟨rfl, hb⟩)
  go_ret
  exact ⟨rfl, hb⟩
end Go.Proofs.YtmfjncbccaifiaaDoor
