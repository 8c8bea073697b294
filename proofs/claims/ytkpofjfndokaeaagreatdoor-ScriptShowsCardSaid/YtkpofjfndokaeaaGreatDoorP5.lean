/- The document's small functions: text, number, shape, names. -/
import Derived.Test.YtkpofjfndokaeaaGreatDoorX1
import Derived.Test.YtkpofjfndokaeaaGreatDoorC3
import Derived.Test.YtkpofjfndokaeaaGreatDoorF1
import Derived.Test.YtkpofjfndokaeaaGreatDoorA6
namespace Go.Proofs.YtkpofjfndokaeaaGreatDoor
open Go.RowKit
set_option linter.unusedVariables false
set_option linter.unusedSimpArgs false

set_option maxRecDepth 100000 in
set_option maxHeartbeats 4000000 in
theorem dtext_any (s : ByteArray) (W : World) : Calls Tryz.prog 51 #[.string s] W fun e w' => e = .returned (.bool (decide (s.size ≤ 80))) ∧ w' = W := by
  go_enter Tryz.func51, Tryz.ntmps51
  go_wp2_with fail
  go_ret
  exact ⟨by simp; omega, rfl⟩
set_option maxRecDepth 100000 in
set_option maxHeartbeats 4000000 in
theorem dnumber_any (n : Int) (W : World) : Calls Tryz.prog 52 #[.int .i64 n] W fun e w' => e = .returned (.bool (decide (-2147483648 ≤ n) && decide (n ≤ 2147483647))) ∧ w' = W := by
  by_cases h : -2147483648 ≤ n
  · go_enter Tryz.func52, Tryz.ntmps52
    go_wp2_with fail
    go_ret
    exact ⟨by simp [h] <;> omega, rfl⟩
  · go_enter Tryz.func52, Tryz.ntmps52
    go_wp2_with fail
    go_ret
    exact ⟨by simp [h] <;> omega, rfl⟩
/-- What stands behind a call's name. -/
def shapeB : Nat → List UInt8
  | 1 => [109] | 2 => [107] | 3 => [107, 104] | 4 => [107, 118, 100] | 5 => [107, 118] | 6 => [107] | 10 => [110] | _ => []
set_option maxRecDepth 100000 in
set_option maxHeartbeats 4000000 in
theorem dshape_any (k : Nat) (h1 : 1 ≤ k) (h2 : k ≤ 11) (W : World) : Calls Tryz.prog 36 #[.int .i64 (k : Int)] W fun e w' => e = .returned (.string ⟨(shapeB k).toArray⟩) ∧ Below W.heap.size W w' := by
  have hk : k = 1 ∨ k = 2 ∨ k = 3 ∨ k = 4 ∨ k = 5 ∨ k = 6 ∨ k = 7 ∨ k = 8 ∨ k = 9 ∨ k = 10 ∨ k = 11 := by omega
  have HB := fun o => Lib.hid ((Below.refl W.heap.size W).alloc (Nat.le_refl _) o)
  rcases hk with rfl | rfl | rfl | rfl | rfl | rfl | rfl | rfl | rfl | rfl | rfl <;>
  · go_enter Tryz.func36, Tryz.ntmps36
    go_wp2_with fail
    go_ret
    exact ⟨rfl, (HB _).out⟩
end Go.Proofs.YtkpofjfndokaeaaGreatDoor

/- The document's field: the walk. -/
namespace Go.Proofs.YtkpofjfndokaeaaGreatDoor
open Go.RowKit
set_option linter.unusedVariables false
set_option linter.unusedSimpArgs false

/-- Which letter a field is in the document's shape. -/
def Fd.letter : Fd → Nat
  | .mode => 109 | .key => 107 | .high => 104 | .val => 118 | .draw => 100 | .n => 110
theorem shapeB_flds : ∀ k, k < 12 → (shapeB k).map UInt8.toNat = (flds k).map Fd.letter := by decide
/-- What a call's fields must keep to. -/
structure ClOk (c : Cl) : Prop where
  m0 : -9223372036854775808 ≤ c.mode
  m1 : c.mode ≤ 9223372036854775807
  d0 : -9223372036854775808 ≤ c.draw
  d1 : c.draw ≤ 9223372036854775807
  n0 : -9223372036854775808 ≤ c.n
  n1 : c.n ≤ 9223372036854775807
  k : c.key.size ≤ 17592186044416
  h : c.high.size ≤ 17592186044416
  v : c.val.size ≤ 17592186044416

set_option maxRecDepth 100000 in
set_option maxHeartbeats 4000000 in
theorem dfield_any (f : Fd) (c : Cl) (W : World) (hc : ClOk c) : Calls Tryz.prog 37 #[.int .u8 (f.letter : Int), c.v] W fun e w' => e = .returned (.string ⟨(Fd.text c f).toArray⟩) ∧ Below W.heap.size W w' := by
  have HI : Hid (∀ n : Int, -9223372036854775808 ≤ n → n ≤ 9223372036854775807 → ∀ w, Calls Tryz.prog 28 #[.int .i64 n] w fun e w' => e = .returned (.string ⟨(Lib.itoa n).toArray⟩) ∧ w' = w) := Lib.hid fun n h0 h1 w => digits_any n h0 h1 w
  have HQ : Hid (∀ s : ByteArray, s.size ≤ 17592186044416 → ∀ w, Calls Tryz.prog 29 #[.string s] w fun e w' => e = .returned (.string ⟨(quoB s).toArray⟩) ∧ Below w.heap.size w w') := Lib.hid fun s hs w => dquoted_any s hs w
  obtain ⟨kind, mode, key, high, val, draw, cn⟩ := c
  obtain ⟨m0, m1, d0, d1, n0, n1, hk, hh, hv⟩ := hc
  simp only at m0 m1 d0 d1 n0 n1 hk hh hv
  have HB := Lib.hid ((Below.refl W.heap.size W).alloc (Nat.le_refl _) (.cells (Cl.mk kind mode key high val draw cn).cells 25))
  have hz : W.heap.size ≤ W.heap.size + 1 := by omega
  unfold Cl.cells at HB
  unfold Cl.v
  cases f
  case mode =>
    show Calls Tryz.prog 37 #[.int .u8 109, _] W _
    go_enter Tryz.func37, Tryz.ntmps37
    go_wp2_with (first | (go_at_call 28; refine (HI.out _ m0 m1 _).mono ?_; rintro e w1 ⟨rfl, hw⟩; subst hw))
    go_ret
    exact ⟨rfl, HB.out⟩
  case draw =>
    show Calls Tryz.prog 37 #[.int .u8 100, _] W _
    go_enter Tryz.func37, Tryz.ntmps37
    go_wp2_with (first | (go_at_call 28; refine (HI.out _ d0 d1 _).mono ?_; rintro e w1 ⟨rfl, hw⟩; subst hw))
    go_ret
    exact ⟨rfl, HB.out⟩
  case n =>
    show Calls Tryz.prog 37 #[.int .u8 110, _] W _
    go_enter Tryz.func37, Tryz.ntmps37
    go_wp2_with (first | (go_at_call 28; refine (HI.out _ n0 n1 _).mono ?_; rintro e w1 ⟨rfl, hw⟩; subst hw))
    go_ret
    exact ⟨rfl, HB.out⟩
  case key =>
    show Calls Tryz.prog 37 #[.int .u8 107, _] W _
    go_enter Tryz.func37, Tryz.ntmps37
    go_wp2_with (first | (go_at_call 29; refine (HQ.out _ hk _).mono ?_; rintro e w1 ⟨rfl, hb1⟩; have HB1 := Lib.hid (HB.out.trans (hb1.mono (by rw [World.size_alloc]; exact hz))); clear hb1))
    go_ret
    exact ⟨rfl, HB1.out⟩
  case high =>
    show Calls Tryz.prog 37 #[.int .u8 104, _] W _
    go_enter Tryz.func37, Tryz.ntmps37
    go_wp2_with (first | (go_at_call 29; refine (HQ.out _ hh _).mono ?_; rintro e w1 ⟨rfl, hb1⟩; have HB1 := Lib.hid (HB.out.trans (hb1.mono (by rw [World.size_alloc]; exact hz))); clear hb1))
    go_ret
    exact ⟨rfl, HB1.out⟩
  case val =>
    show Calls Tryz.prog 37 #[.int .u8 118, _] W _
    go_enter Tryz.func37, Tryz.ntmps37
    go_wp2_with (first | (go_at_call 29; refine (HQ.out _ hv _).mono ?_; rintro e w1 ⟨rfl, hb1⟩; have HB1 := Lib.hid (HB.out.trans (hb1.mono (by rw [World.size_alloc]; exact hz))); clear hb1))
    go_ret
    exact ⟨rfl, HB1.out⟩
end Go.Proofs.YtkpofjfndokaeaaGreatDoor

/- The document's bare: the walk. -/
namespace Go.Proofs.YtkpofjfndokaeaaGreatDoor
open Go.RowKit
set_option linter.unusedVariables false
set_option linter.unusedSimpArgs false

theorem results_cell {fn : Func} {p : Tmp} {ty : TypeId} (h : fn.results = #[.cell p ty]) (tmps : Array Value) (P : Program) (w : World) :
    (results fn tmps).run P w = ((asAddr (tmps.getD p undef)).run P w).andThen fun a w₁ => (loadVar ty a).run P w₁ := by
  simp only [results, h]
  simp [Sem.run_bind, Result.andThen]
theorem flds_ix : ∀ k, k < 12 → ∀ j, j < (flds k).length → (shapeB k)[j]? = ((flds k)[j]?).map fun f => UInt8.ofNat f.letter := by decide
theorem flds_len : ∀ k, k < 12 → (shapeB k).length = (flds k).length ∧ (flds k).length ≤ 3 := by decide
theorem letter_nat : ∀ f : Fd, (UInt8.ofNat f.letter).toNat = f.letter := fun f => by cases f <;> rfl
set_option maxRecDepth 100000 in
set_option maxHeartbeats 4000000 in
theorem dbare_any (c : Cl) (k : Nat) (h1 : 1 ≤ k) (h2 : k ≤ 11) (hk : c.kind = (k : Int)) (W : World) : Calls Tryz.prog 50 #[c.v] W fun e w' => e = .returned ((flds k).foldl Cl.clear c).v ∧ Below W.heap.size W w' := by
  have HS : Hid (∀ w, Calls Tryz.prog 36 #[.int .i64 (k : Int)] w fun e w' => e = .returned (.string ⟨(shapeB k).toArray⟩) ∧ Below w.heap.size w w') := Lib.hid fun w => dshape_any k h1 h2 w
  obtain ⟨S, hS⟩ : ∃ S : ByteArray, S = ⟨(shapeB k).toArray⟩ := ⟨_, rfl⟩
  obtain ⟨hl1, hl2⟩ := flds_len k (by omega)
  have hSz : S.size = (flds k).length := by rw [hS]; exact hl1
  have hS3 : S.size ≤ 3 := by omega
  have HIX : Hid (∀ j f, (flds k)[j]? = some f → ∀ h : j < S.size, (S[j]'h).toNat = f.letter) := Lib.hid fun j f hf h => by
    have hx := flds_ix k (by omega) j (by omega)
    rw [hf] at hx
    rw [ba_get S j h _ (by rw [hS]; exact hx), letter_nat]
  rw [← hS] at HS
  have HSZ := Lib.hid hSz
  obtain ⟨wB, hwB⟩ : ∃ wB, wB = (W.alloc (.cells c.cells 25)).alloc (.cells #[.int .i64 0, .int .i64 0, .string ⟨#[]⟩, .string ⟨#[]⟩, .string ⟨#[]⟩, .int .i64 0, .int .i64 0] 25) := ⟨_, rfl⟩
  have hsz1 : (W.alloc (.cells c.cells 25)).heap.size = W.heap.size + 1 := World.size_alloc _ _
  have hb1 := (Below.refl W.heap.size W).alloc (Nat.le_refl _) (.cells c.cells 25)
  have hbB : Below W.heap.size W wB := by rw [hwB]; exact hb1.alloc hb1.size _
  have hBz : wB.heap.size = W.heap.size + 2 := by rw [hwB, World.size_alloc, hsz1]
  have hcB : ClAt wB W.heap.size c := by
    rw [hwB]
    exact (heap_alloc_past _ _ (by omega)).trans (ClAt.fresh W c)
  have hzB : ClAt wB (W.heap.size + 1) (Cl.zero 0) := by
    rw [hwB]
    exact heap_alloc_at _ _ (by rw [hsz1])
  have HBB := Lib.hid hbB
  have HCB : Hid (∀ w, Below wB.heap.size wB w → ClAt w W.heap.size c ∧ ClAt w (W.heap.size + 1) (Cl.zero 0) ∧ Below W.heap.size W w) := Lib.hid fun w hb => ⟨hcB.go hb (by omega), hzB.go hb (by omega), hbB.trans (hb.mono (by omega))⟩
  obtain ⟨e0, _⟩ := hcB.facts
  have HK := Lib.hid hk
  have HF := Lib.hid (show (flds k).length = (flds k).length from rfl)
  rw [hk] at e0
  clear hS hbB hBz hcB hzB hsz1 hb1 hl1 hSz hk h1 h2
  unfold Cl.cells at hwB
  unfold Cl.v
  go_enter Tryz.func50, Tryz.ntmps50
  go_upto_region 1 with fail
  rw [← hwB]
  clear hwB
  go_wp2_with (first | (go_at_call 36; refine (HS.out wB).mono ?_; rintro e w1 ⟨rfl, hb1⟩; have HB1 := Lib.hid hb1; clear hb1 e0))
  obtain ⟨hc1, hz1, hw1⟩ := HCB.out w1 HB1.out
  have HC1 := Lib.hid hc1
  have HZ1 := Lib.hid hz1
  have HW1 := Lib.hid hw1
  clear hc1 hz1 hw1
  go_loopw [4] (fun i wr => ∃ j : Nat, j ≤ S.size ∧ i = .int .i64 j ∧ Hid (ClAt wr W.heap.size (((flds k).take j).foldl Cl.clear c)) ∧ Hid (ClAt wr (W.heap.size + 1) (Cl.zero 0)) ∧ Hid (Below W.heap.size W wr)) (fun i _ => S.size - (intOf i).toNat)
  case atStart => exact ⟨0, Nat.zero_le _, rfl, HC1, HZ1, HW1⟩
  case round =>
    clear HC1 HZ1 HW1
    obtain ⟨j, hj, rfl, HC, HZ, HW⟩ := hrel
    have hf0 := HC.out.frozen
    by_cases hjl : j < S.size
    · obtain ⟨f, hf⟩ : ∃ f, (flds k)[j]? = some f := ⟨_, List.getElem?_eq_getElem (by rw [← HSZ.out]; exact hjl)⟩
      have hgn := HIX.out j f hf
      have HTK : Hid (((flds k).take (j + 1)).foldl Cl.clear c = (((flds k).take j).foldl Cl.clear c).clear f) := Lib.hid (by
        obtain ⟨q1, q2⟩ := List.getElem?_eq_some_iff.1 hf
        rw [List.take_succ_eq_append_getElem q1, List.foldl_append, q2]
        rfl)
      obtain ⟨e0, e1, e2, e3, e4, e5, e6⟩ := HC.out.facts
      have t0 := hf0 1
      have t1 := hf0 2
      have t2 := hf0 3
      have t3 := hf0 4
      have t4 := hf0 5
      have t5 := hf0 6
      have HNX := Lib.hid (HC.out.clear f)
      have HZX : Hid (∀ p v, p.block = W.heap.size → ClAt (wr.setCell p v) (W.heap.size + 1) (Cl.zero 0)) := Lib.hid fun p v hp => HZ.out.other p v (by omega)
      have HWX : Hid (∀ p v, p.block = W.heap.size → Below W.heap.size W (wr.setCell p v)) := Lib.hid fun p v hp => HW.out.setCell (p := p) (by omega) v
      generalize ((flds k).take j).foldl Cl.clear c = c2 at *
      clear hf hf0
      cases f
      all_goals
        simp only [Fd.letter] at hgn
        go_wp2_with fail
        exact ⟨⟨j + 1, by omega, by go_num, Lib.hid (by rw [HTK.out]; exact HNX.out), Lib.hid (HZX.out _ _ rfl), Lib.hid (HWX.out _ _ rfl)⟩, by simp [intOf]; omega⟩
    · have hjr : j = S.size := by omega
      have hc := HC.out
      rw [hjr, HSZ.out, List.take_length] at hc
      have HCE := Lib.hid hc
      obtain ⟨e0, e1, e2, e3, e4, e5, e6⟩ := hc.facts
      obtain ⟨z0, z1, z2, z3, z4, z5, z6⟩ := HZ.out.facts
      have hz0 := HZ.out.frozen
      have t0 := hz0 0
      have t1 := hz0 1
      have t2 := hz0 2
      have t3 := hz0 3
      have t4 := hz0 4
      have t5 := hz0 5
      have t6 := hz0 6
      obtain ⟨c2, hc2⟩ : ∃ c2, c2 = (flds k).foldl Cl.clear c := ⟨_, rfl⟩
      rw [← hc2] at e0 e1 e2 e3 e4 e5 e6
      have HC2 := Lib.hid hc2
      clear hc hjr hz0 hf0 HCE hc2
      go_wp2_with fail
      change bodyPost _ _ _ _ _ (clStore wr (W.heap.size + 1) c2)
      have hz2 := clStore_at HZ.out c2
      have hb2 := clStore_below HW.out (show W.heap.size ≤ W.heap.size + 1 by omega) c2
      generalize clStore wr (W.heap.size + 1) c2 = wF at *
      obtain ⟨e0, e1, e2, e3, e4, e5, e6⟩ := hz2.facts
      exact bodyPost_ret_by (v := c2.v) (by rw [results_cell (fn := Tryz.f50) rfl]; unfold Cl.v; go_simp) rfl ⟨by rw [HC2.out]; rfl, hb2⟩
end Go.Proofs.YtkpofjfndokaeaaGreatDoor

/- The document's call: the walk; it says what the program's rightCall says. -/
namespace Go.Proofs.YtkpofjfndokaeaaGreatDoor
open Go.RowKit
set_option linter.unusedVariables false
set_option linter.unusedSimpArgs false

theorem int32_two (z : Int) : (decide (-2147483648 ≤ z) && decide (z ≤ 2147483647)) = int32B z := by
  unfold int32B
  rw [Bool.eq_iff_iff]
  simp
/-- The document's rule for calls. -/
def dcallB (c : Cl) : Bool := decide (c.key.size ≤ 80) && decide (c.high.size ≤ 80) && decide (c.val.size ≤ 80) && (int32B c.mode && int32B c.draw && int32B c.n) && decide ((flds c.kind.toNat).foldl Cl.clear c = Cl.zero c.kind)
set_option maxRecDepth 20000 in
theorem dcallB_eq (c : Cl) (h1 : 1 ≤ c.kind) (h2 : c.kind ≤ 11) : rcall c = dcallB c := by
  obtain ⟨kind, mode, key, high, val, draw, cn⟩ := c
  simp only at h1 h2
  obtain ⟨k, rfl⟩ := Int.eq_ofNat_of_zero_le (show 0 ≤ kind by omega)
  have hk : k = 1 ∨ k = 2 ∨ k = 3 ∨ k = 4 ∨ k = 5 ∨ k = 6 ∨ k = 7 ∨ k = 8 ∨ k = 9 ∨ k = 10 ∨ k = 11 := by omega
  have z0 : int32B 0 = true := by decide
  have s0 : (⟨#[]⟩ : ByteArray).size ≤ 80 := by decide
  rw [Bool.eq_iff_iff]
  unfold rcall dcallB
  rcases hk with rfl | rfl | rfl | rfl | rfl | rfl | rfl | rfl | rfl | rfl | rfl
  all_goals
    simp only [Int.toNat_natCast, flds, List.all_cons, List.all_nil, List.foldl_cons, List.foldl_nil, Fd.ok, Cl.clear, Cl.zero, Cl.mk.injEq, Bool.and_eq_true, decide_eq_true_eq, Bool.and_true, true_and, and_true]
    constructor
    · intro h
      simp_all
    · intro h
      simp_all
end Go.Proofs.YtkpofjfndokaeaaGreatDoor

/- The document's call: the walk. -/
namespace Go.Proofs.YtkpofjfndokaeaaGreatDoor
open Go.RowKit
set_option linter.unusedVariables false
set_option linter.unusedSimpArgs false

set_option maxRecDepth 100000 in
set_option maxHeartbeats 4000000 in
theorem dcall_out (c : Cl) (W : World) (h : c.kind < 1 ∨ 11 < c.kind) : Calls Tryz.prog 39 #[c.v] W fun e w' => e = .returned (.bool (rcall c)) ∧ Below W.heap.size W w' := by
  have hr : rcall c = false := by
    unfold rcall
    rw [show decide (1 ≤ c.kind ∧ c.kind ≤ 11) = false from decide_eq_false (by omega)]
    rfl
  rw [hr]
  have HB := Lib.hid ((Below.refl W.heap.size W).alloc (Nat.le_refl _) (.cells c.cells 25))
  clear hr
  unfold Cl.v
  unfold Cl.cells at HB
  by_cases h1 : c.kind < 1
  · clear h
    go_enter Tryz.func39, Tryz.ntmps39
    go_wp2_with fail
    go_ret
    exact ⟨rfl, HB.out⟩
  · have h2 : 11 < c.kind := by omega
    clear h
    go_enter Tryz.func39, Tryz.ntmps39
    go_wp2_with fail
    go_ret
    exact ⟨rfl, HB.out⟩
set_option maxRecDepth 100000 in
set_option maxHeartbeats 20000000 in
theorem dcall_in (c : Cl) (W : World) (h1 : 1 ≤ c.kind) (h2 : c.kind ≤ 11) : Calls Tryz.prog 39 #[c.v] W fun e w' => e = .returned (.bool (rcall c)) ∧ Below W.heap.size W w' := by
  obtain ⟨k, hk⟩ := Int.eq_ofNat_of_zero_le (show 0 ≤ c.kind by omega)
  have HB5 : Hid (∀ w, Calls Tryz.prog 50 #[c.v] w fun e w' => e = .returned ((flds k).foldl Cl.clear c).v ∧ Below w.heap.size w w') := Lib.hid fun w => dbare_any c k (by omega) (by omega) hk w
  have HD := Lib.hid (dcallB_eq c h1 h2)
  have hb0 := (Below.refl W.heap.size W).alloc (Nat.le_refl _) (.cells c.cells 25)
  have hca := ClAt.fresh W c
  obtain ⟨B, hB⟩ : ∃ B, B = (flds k).foldl Cl.clear c := ⟨_, rfl⟩
  rw [← hB] at HB5
  have heql := fun w => eql_cl B (Cl.zero c.kind) w
  obtain ⟨bq, hbq⟩ : ∃ b, b = decide (B = Cl.zero c.kind) := ⟨_, rfl⟩
  rw [← hbq] at heql
  obtain ⟨b1, hb1⟩ : ∃ b, b = decide (c.key.size ≤ 80) := ⟨_, rfl⟩
  obtain ⟨b2, hb2⟩ : ∃ b, b = decide (c.high.size ≤ 80) := ⟨_, rfl⟩
  obtain ⟨b3, hb3⟩ : ∃ b, b = decide (c.val.size ≤ 80) := ⟨_, rfl⟩
  obtain ⟨n1, hn1⟩ : ∃ b, b = int32B c.mode := ⟨_, rfl⟩
  obtain ⟨n2, hn2⟩ : ∃ b, b = int32B c.draw := ⟨_, rfl⟩
  obtain ⟨n3, hn3⟩ : ∃ b, b = int32B c.n := ⟨_, rfl⟩
  have HR : Hid (rcall c = (b1 && b2 && b3 && (n1 && n2 && n3) && bq)) := Lib.hid (by
    rw [HD.out, hbq, hb1, hb2, hb3, hn1, hn2, hn3, hB]
    unfold dcallB
    rw [hk]
    rfl)
  have HT1 : Hid (∀ w, Calls Tryz.prog 51 #[.string c.key] w fun e w' => e = .returned (.bool b1) ∧ w' = w) := Lib.hid fun w => by rw [hb1]; exact dtext_any _ w
  have HT2 : Hid (∀ w, Calls Tryz.prog 51 #[.string c.high] w fun e w' => e = .returned (.bool b2) ∧ w' = w) := Lib.hid fun w => by rw [hb2]; exact dtext_any _ w
  have HT3 : Hid (∀ w, Calls Tryz.prog 51 #[.string c.val] w fun e w' => e = .returned (.bool b3) ∧ w' = w) := Lib.hid fun w => by rw [hb3]; exact dtext_any _ w
  have HN1 : Hid (∀ w, Calls Tryz.prog 52 #[.int .i64 c.mode] w fun e w' => e = .returned (.bool n1) ∧ w' = w) := Lib.hid fun w => by rw [hn1, ← int32_two]; exact dnumber_any _ w
  have HN2 : Hid (∀ w, Calls Tryz.prog 52 #[.int .i64 c.draw] w fun e w' => e = .returned (.bool n2) ∧ w' = w) := Lib.hid fun w => by rw [hn2, ← int32_two]; exact dnumber_any _ w
  have HN3 : Hid (∀ w, Calls Tryz.prog 52 #[.int .i64 c.n] w fun e w' => e = .returned (.bool n3) ∧ w' = w) := Lib.hid fun w => by rw [hn3, ← int32_two]; exact dnumber_any _ w
  have HB0 := Lib.hid hb0
  have HCA := Lib.hid hca
  clear hB hbq hb1 hb2 hb3 hn1 hn2 hn3 HD hk hb0 hca
  obtain ⟨e0, e1, e2, e3, e4, e5, e6⟩ := HCA.out.facts
  have hz0 : W.heap.size + 1 = (W.alloc (.cells c.cells 25)).heap.size := (World.size_alloc _ _).symm
  have HZ0 := Lib.hid hz0
  clear hz0 e0 e1 e2 e3 e4 e5 e6
  unfold Cl.cells at HB0 HCA HZ0
  unfold Cl.v at HB5 heql ⊢
  unfold Cl.zero at heql
  have hT : (b1 = false ∨ (b1 = true ∧ b2 = false) ∨ (b1 = true ∧ b2 = true ∧ b3 = false) ∨ (b1 = true ∧ b2 = true ∧ b3 = true)) := by cases b1 <;> cases b2 <;> cases b3 <;> simp
  have hN : (n1 = false ∨ (n1 = true ∧ n2 = false) ∨ (n1 = true ∧ n2 = true ∧ n3 = false) ∨ (n1 = true ∧ n2 = true ∧ n3 = true)) := by cases n1 <;> cases n2 <;> cases n3 <;> simp
  rcases hT with rfl | ⟨rfl, rfl⟩ | ⟨rfl, rfl, rfl⟩ | ⟨rfl, rfl, rfl⟩ <;> rcases hN with rfl | ⟨rfl, rfl⟩ | ⟨rfl, rfl, rfl⟩ | ⟨rfl, rfl, rfl⟩
  all_goals
    go_enter Tryz.func39, Tryz.ntmps39
    go_wp2_with (first | (go_at_call 50; refine (HB5.out _).mono ?_; rintro e w1 ⟨rfl, hb1⟩; have HB1 := Lib.hid hb1; have hx1 := HCA.out.go hb1 HCA.out.lt; have hlt := hx1.lt; obtain ⟨e0, e1, e2, e3, e4, e5, e6⟩ := hx1.facts; clear hb1 hx1) | (go_at_call 51; (with_reducible refine (HT1.out _).mono ?_); rintro e w2 ⟨rfl, hw⟩; subst hw) | (go_at_call 51; (with_reducible refine (HT2.out _).mono ?_); rintro e w2 ⟨rfl, hw⟩; subst hw) | (go_at_call 51; (with_reducible refine (HT3.out _).mono ?_); rintro e w2 ⟨rfl, hw⟩; subst hw) | (go_at_call 52; (with_reducible refine (HN1.out _).mono ?_); rintro e w2 ⟨rfl, hw⟩; subst hw) | (go_at_call 52; (with_reducible refine (HN2.out _).mono ?_); rintro e w2 ⟨rfl, hw⟩; subst hw) | (go_at_call 52; (with_reducible refine (HN3.out _).mono ?_); rintro e w2 ⟨rfl, hw⟩; subst hw))
    go_ret
    have hx := HB0.out.trans (HB1.out.mono (by rw [World.size_alloc]; omega))
    exact ⟨by rw [HR.out]; rfl, hx.alloc hx.size _⟩
end Go.Proofs.YtkpofjfndokaeaaGreatDoor

/- The document's Right, given what its rule for an event says (P6: still to be walked). -/
namespace Go.Proofs.YtkpofjfndokaeaaGreatDoor
open Go.RowKit
set_option linter.unusedVariables false
set_option linter.unusedSimpArgs false

set_option maxRecDepth 100000 in
set_option maxHeartbeats 2000000 in
theorem dright_of (HD : ∀ (x : Ev) (w : World), Calls Tryz.prog 23 #[x.v] w fun e w' => e = .returned (.bool (revent x)) ∧ Below w.heap.size w w') (A : Option Addr) (c : Nat) (l : List Ev) (W : World) (hI : Evs W A l) (hl : l.length ≤ 9223372036854775807) :
    Calls Tryz.prog 12 #[.slice A l.length c] W fun e w' => e = .returned (.bool (right l)) ∧ Below W.heap.size W w' := by
  have HI := Lib.hid hI
  have HR : Hid (∀ x w, Calls Tryz.prog 23 #[Ev.v x] w fun e w' => e = .returned (.bool (revent x)) ∧ Below w.heap.size w w') := Lib.hid fun x w => HD x w
  have hB : Hid (Below W.heap.size W W) := Lib.hid (Below.refl _ _)
  clear hI HD
  go_enter Tryz.func12, Tryz.ntmps12
  go_wp2_with fail
  go_loopw [3] (fun i wr => ∃ n : Nat, n ≤ l.length ∧ i = .int .i64 n ∧ Hid (Below W.heap.size W wr) ∧ Hid ((l.take n).all revent = true)) (fun i _ => l.length - (intOf i).toNat)
  case atStart => exact ⟨0, Nat.zero_le _, rfl, hB, Lib.hid rfl⟩
  case round =>
    obtain ⟨n, hn, rfl, hB, hA⟩ := hrel
    by_cases hlt : n < l.length
    · obtain ⟨x, hx⟩ : ∃ x, l[n]? = some x := ⟨l[n], List.getElem?_eq_getElem hlt⟩
      obtain ⟨ad, p, rfl, hp, hpb, c0, c1, c2, c3, c4, c5, c6, c7, c8, c9, c10⟩ := (HI.out.later hB.out (Nat.le_refl _)).facts hx
      have HP := Lib.hid hp
      have hbk : (ad.add (n * 11)) = p := hp.symm
      have hrx := HR.out x
      unfold Ev.v Ev.cells at hrx
      have hnx : (l.take (n + 1)).all revent = ((l.take n).all revent && revent x) := by
        rw [List.take_succ_eq_append_getElem hlt, List.all_append, show l[n] = x from Option.some.inj ((List.getElem?_eq_getElem hlt).symm.trans hx)]
        simp
      have HNX := Lib.hid hnx
      have HNO : Hid (revent x = false → right l = false) := Lib.hid fun h => by
        unfold right
        rw [show l.all revent = false from by
          rw [Bool.eq_false_iff]; intro ha
          rw [List.all_eq_true.1 ha x (List.mem_of_getElem? hx)] at h; cases h]
        rfl
      have hWs := hB.out.size
      clear hx hnx hp
      generalize revent x = rx at *
      cases rx with
      | true =>
        go_wp2_with (first | (go_at_call 23; refine (hrx _).mono ?_; rintro e w2 ⟨rfl, hb2⟩))
        have hbw : Below W.heap.size W w2 := hB.out.trans (hb2.mono hWs)
        refine ⟨⟨n + 1, by omega, by go_num, Lib.hid hbw, Lib.hid (by rw [HNX.out, hA.out]; rfl)⟩, by simp [intOf]; omega⟩
      | false =>
        have hno := HNO.out rfl
        go_wp2_with (first | (go_at_call 23; refine (hrx _).mono ?_; rintro e w2 ⟨rfl, hb2⟩))
        go_ret
        exact ⟨by rw [hno]; rfl, hB.out.trans (hb2.mono hWs)⟩
    · have hnl : n = l.length := by omega
      have hall : right l = decide (l.length ≤ 4096) := by
        have := hA.out
        rw [hnl, List.take_length] at this
        unfold right
        rw [this, Bool.true_and]
      have HALL := Lib.hid hall
      clear hall
      go_wp2
      go_ret
      exact ⟨by rw [HALL.out]; show Ending.returned (.bool (decide ((l.length : Int) ≤ 4096))) = _; congr 2; rw [decide_eq_decide]; omega, hB.out⟩
end Go.Proofs.YtkpofjfndokaeaaGreatDoor
