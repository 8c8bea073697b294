/- lock words: wrong, Writer, Readers, Read, Write, Leave: what each hands back. -/
import Derived.Test.YtmfjncbccaifiaaDoorA3
namespace Go.Proofs.YtmfjncbccaifiaaDoor
open Go.RowKit Go.Shelf
set_option linter.unusedVariables false
set_option linter.unusedSimpArgs false

theorem against_any (m : Nat) (a : Int) (b : Bool) (hm : m < 18446744073709551616) (w : World) (hT : TabAt w) (h0 : 0 < w.heap.size) :
    Calls Tryd.prog 14 #[.int .u64 (m : Int), .int .i64 a, .bool b] w fun e w' => ∃ A c, e = .returned (.slice A (agn m a b).length c) ∧ w'.ownsRow w.heap.size 3 1 (.slice A (agn m a b).length c) (agn m a b).length ((agn m a b).map encN) ∧ Below w.heap.size w w' := by
  by_cases ha : isW a = true
  · obtain ⟨h1, h2⟩ := isW_true.1 ha
    obtain ⟨k, rfl⟩ := Int.eq_ofNat_of_zero_le h1
    have e : agn m (k : Int) b = mem (inWay m k b) := by unfold agn; rw [if_pos ha]; simp
    rw [e]
    exact against_in m k b hm (by omega) w hT h0
  · have ha' : isW a = false := by simpa using ha
    have e : agn m a b = [] := by unfold agn; rw [if_neg ha]
    rw [e]
    refine (against_out m a b ha' w).mono ?_
    rintro e w' ⟨rfl, rfl⟩
    exact ⟨none, 0, rfl, own_nil _ _, Below.refl _ _⟩

/-- The error of a call. -/
def wrg (m : Nat) (a : Int) : Int := if isW a = true then if rgt m = true then 0 else 130 else 2

theorem wrong_any (m : Nat) (a : Int) (hm : m < 18446744073709551616) (w : World) : Calls Tryd.prog 32 #[.int .u64 (m : Int), .int .i64 a] w fun e w' => e = .returned (.int .i64 (wrg m a)) ∧ w = w' := by
  have h1 := isWorker_any a w
  have h2 := right_any m hm w
  clear hm
  unfold wrg
  generalize isW a = p at h1 ⊢
  generalize rgt m = q at h2 ⊢
  cases p <;> cases q
  all_goals
    go_enter Tryd.func32, Tryd.ntmps32
    go_wp2_with (first | (go_at_call 33; refine h1.mono ?_; rintro e w' ⟨rfl, rfl⟩) | (go_at_call 45; refine h2.mono ?_; rintro e w' ⟨rfl, rfl⟩))
    go_ret
    exact ⟨rfl, rfl⟩

theorem readers_any (m : Nat) (hm : m < 18446744073709551616) (w : World) (hT : TabAt w) (h0 : 0 < w.heap.size) :
    Calls Tryd.prog 17 #[.int .u64 (m : Int)] w fun e w' => ∃ A c, e = .returned (.slice A (mem (rdM m)).length c) ∧ w'.ownsRow w.heap.size 3 1 (.slice A (mem (rdM m)).length c) (mem (rdM m)).length ((mem (rdM m)).map encN) ∧ Below w.heap.size w w' := by
  have hh := holders_any m hm w
  have hmem := members_any (rdM m : Int) w
  have hcol := collect_any w.heap.size (rdM m) w.heap.size (Nat.lt_of_lt_of_le (rdM_lt m) (by decide)) (w.alloc (.cells #[.int .u64 (rdM m : Int)] 22)) (Boxed.new w 22 _) (Nat.le_refl _) h0
    (fun j hj => (World.cell?_alloc_lt w _ ⟨0, j, none⟩ h0).trans (hT j hj))
  have hbel : ∀ w', Below w.heap.size (w.alloc (.cells #[.int .u64 (rdM m : Int)] 22)) w' → Below w.heap.size w w' := fun w' h => ((Below.refl _ w).alloc (Nat.le_refl _) _).trans h
  have HBEL := Lib.hid hbel; clear hbel
  have HT := Lib.hid hT; clear hT
  clear hm
  go_enter Tryd.func17, Tryd.ntmps17
  go_wp2_with (first | (go_at_call 34; refine hh.mono ?_; rintro e w' ⟨rfl, rfl⟩) | (go_at_call 36; refine hmem.mono ?_; rintro e w' ⟨rfl, rfl⟩) | (go_at_call 35; refine hcol.mono ?_; rintro e w' ⟨v, rfl, hrow, hnil, hb⟩))
  go_ret
  obtain ⟨A, c, rfl, _⟩ := own_form hrow
  exact ⟨A, c, rfl, hrow, HBEL.out _ hb⟩

/-- Who writes: the number, if any. -/
theorem writer_none (m : Nat) (hm : m < 18446744073709551616) (hw : wrM m = 0) (w : World) :
    Calls Tryd.prog 23 #[.int .u64 (m : Int)] w fun e w' => e = .returned (.tuple #[.int .i64 0, .bool false]) ∧ w = w' := by
  have hh := holders_any m hm w
  rw [hw] at hh
  clear hm hw
  go_enter Tryd.func23, Tryd.ntmps23
  go_wp2_with (go_at_call 34; refine hh.mono ?_; rintro e w' ⟨rfl, rfl⟩)
  go_ret2
  exact ⟨rfl, rfl⟩

theorem writer_some (m : Nat) (hm : m < 18446744073709551616) (hw : wrM m ≠ 0) (w : World) (hT : TabAt w) :
    Calls Tryd.prog 23 #[.int .u64 (m : Int)] w fun e w' => e = .returned (.tuple #[.int .i64 (Lib.ctz 64 (wrM m) : Nat), .bool true]) ∧ w = w' := by
  have hh := holders_any m hm w
  have ht := tz_any (wrM m) (Nat.lt_of_lt_of_le (wrM_le m) (by decide)) hw w hT
  have h0 : ((wrM m : Int) == 0) = false := by simp; omega
  have HT := Lib.hid hT
  clear hm hw hT
  go_enter Tryd.func23, Tryd.ntmps23
  go_wp2_with (first | (go_at_call 34; refine hh.mono ?_; rintro e w' ⟨rfl, rfl⟩) | (go_at_call 41; refine ht.mono ?_; rintro e w' ⟨rfl, rfl⟩))
  go_ret2
  exact ⟨rfl, rfl⟩

/-- lock.Read: the word, whether, the error. -/
def rdW (m : Nat) (a : Int) : Nat × Bool × Int :=
  if wrg m a = 0 ∧ agn m a false = [] then (m ||| 2 ^ a.toNat, true, 0) else (0, false, wrg m a)
def wrW (m : Nat) (a : Int) : Nat × Bool × Int :=
  if wrg m a = 0 ∧ agn m a true = [] then (m % 65536 ||| (a.toNat + 1) * 4294967296, true, 0) else (0, false, wrg m a)

theorem wrg_zero {m : Nat} {a : Int} : wrg m a = 0 ↔ isW a = true ∧ rgt m = true := by
  unfold wrg
  cases isW a <;> cases rgt m <;> simp

set_option maxHeartbeats 1000000 in
theorem read_any (m : Nat) (a : Int) (hm : m < 18446744073709551616) (w : World) (hT : TabAt w) (h0 : 0 < w.heap.size) :
    Calls Tryd.prog 12 #[.int .u64 (m : Int), .int .i64 a] w fun e w' => e = .returned (.tuple #[.int .u64 ((rdW m a).1 : Nat), .bool (rdW m a).2.1, .int .i64 (rdW m a).2.2]) ∧ Below w.heap.size w w' := by
  have hwr := wrong_any m a hm w
  by_cases he : wrg m a = 0
  · obtain ⟨hw1, hw2⟩ := wrg_zero.1 he
    obtain ⟨h1, h2⟩ := isW_true.1 hw1
    obtain ⟨k, rfl⟩ := Int.eq_ofNat_of_zero_le h1
    have hag := against_any m (k : Int) false hm w hT h0
    have hk : k < 16 := by omega
    rw [he] at hwr
    by_cases hl : agn m (k : Int) false = []
    · have er : rdW m (k : Int) = (m ||| 2 ^ k, true, 0) := by unfold rdW; rw [if_pos ⟨he, hl⟩]; simp
      rw [er]
      have e3 : (((2 ^ k : Nat)) : Int) = (2 : Int) ^ k := by simp
      have hor := or64 m (2 ^ k) hm (Nat.lt_of_lt_of_le (pow_lt16 hk) (by decide))
      rw [e3] at hor
      rw [hl] at hag
      have hs := shl1 hk
      have e2 : min k 64 = k := by omega
      have HOR := Lib.hid hor
      have HT := Lib.hid hT
      clear hor e3 er hm hl he hw1 hw2 hT
      go_enter Tryd.func12, Tryd.ntmps12
      go_wp2_with (first | (go_at_call 32; refine hwr.mono ?_; rintro e w' ⟨rfl, rfl⟩) | (go_at_call 14; refine hag.mono ?_; rintro e w' ⟨A, c, rfl, hrow, hb⟩))
      go_ret3
      exact ⟨by rw [HOR.out]; rfl, hb⟩
    · have er : rdW m (k : Int) = (0, false, 0) := by unfold rdW; rw [if_neg (by intro h; exact hl h.2), he]
      rw [er]
      have hpos : 0 < (agn m (k : Int) false).length := List.length_pos_iff.2 hl
      have hpd : decide (0 < (agn m (k : Int) false).length) = true := by simpa using hpos
      have HT := Lib.hid hT
      obtain ⟨L, hL⟩ : ∃ L, agn m (k : Int) false = L := ⟨_, rfl⟩
      rw [hL] at hag hpd hpos
      clear er hm hl he hw1 hw2 hT hL
      go_enter Tryd.func12, Tryd.ntmps12
      go_wp2_with (first | (go_at_call 32; refine hwr.mono ?_; rintro e w' ⟨rfl, rfl⟩) | (go_at_call 14; refine hag.mono ?_; rintro e w' ⟨A, c, rfl, hrow, hb⟩))
      go_ret3
      exact ⟨rfl, hb⟩
  · have er : rdW m a = (0, false, wrg m a) := by unfold rdW; rw [if_neg (by intro h; exact he h.1)]
    rw [er]
    have ht1 : ((wrg m a : Int) == 0) = false := by simpa using he
    have ht2 : ((wrg m a : Int) != 0) = true := by simpa using he
    obtain ⟨x, hx⟩ : ∃ x, wrg m a = x := ⟨_, rfl⟩
    rw [hx] at hwr ht1 ht2 ⊢
    have HT := Lib.hid hT
    clear er hm hT hx he
    go_enter Tryd.func12, Tryd.ntmps12
    go_wp2_with (first | (go_at_call 32; refine hwr.mono ?_; rintro e w' ⟨rfl, rfl⟩))
    go_ret3
    exact ⟨rfl, Below.refl _ _⟩
end Go.Proofs.YtmfjncbccaifiaaDoor
