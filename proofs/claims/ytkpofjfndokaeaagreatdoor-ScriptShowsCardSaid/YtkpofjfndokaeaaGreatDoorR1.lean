/- script.Reply: what it says; rows as they lie. -/
import Derived.Test.YtkpofjfndokaeaaGreatDoorC7
import Derived.Deep.AppendLies
import Derived.Deep.RegionHeld3
import Derived.Test.YtkpofjfndokaeaaGreatDoorF15
namespace Go.Proofs.YtkpofjfndokaeaaGreatDoor
open Go.RowKit
set_option linter.unusedVariables false
set_option linter.unusedSimpArgs false

structure Rw where
  key : ByteArray
  val : ByteArray
  time : Int
  deriving DecidableEq
structure Rp where
  code : Int
  val : ByteArray
  found : Bool
  rows : List Rw
  time : Int
  n : Int
def Rp.v (r : Rp) (A : Option Addr) (c : Nat) : Value := .agg #[.int .i64 r.code, .string r.val, .bool r.found, .slice A r.rows.length c, .int .i64 r.time, .int .i64 r.n]
/-- Rows that lie in a slice. -/
def Rws (w : World) (A : Option Addr) (l : List Rw) : Prop := ∀ (j : Nat) p, l[j]? = some p → ∃ ad q, A = some ad ∧ q = ad.add (j * 3) ∧ q.block < w.heap.size ∧ w.cell? q = some (.string p.key) ∧ w.cell? ⟨q.block, q.off + 1, none⟩ = some (.string p.val) ∧ w.cell? ⟨q.block, q.off + 2, none⟩ = some (.int .i64 p.time)
theorem Rws.later {w w' : World} {A : Option Addr} {l : List Rw} {n : Nat} (h : Rws w A l) (hb : Below n w w') (hn : w.heap.size ≤ n) : Rws w' A l := fun j p hj => by
  obtain ⟨ad, q, e, hq, hl, h1, h2, h3⟩ := h j p hj
  exact ⟨ad, q, e, hq, Nat.lt_of_lt_of_le hl hb.size, (World.cell?_of_block (a := q) (hb.block _ (by omega))).trans h1, (World.cell?_of_block (a := ⟨q.block, q.off + 1, none⟩) (hb.block q.block (by omega))).trans h2, (World.cell?_of_block (a := ⟨q.block, q.off + 2, none⟩) (hb.block q.block (by omega))).trans h3⟩
def rowTs (l : List Rw) : List (List UInt8) := l.flatMap fun p => [quoB p.key, quoB p.val]
theorem rowTs_snoc (l : List Rw) (n : Nat) (p : Rw) (h : l[n]? = some p) : rowTs (l.take (n + 1)) = rowTs (l.take n) ++ [quoB p.key, quoB p.val] := by
  obtain ⟨hn, hp⟩ := List.getElem?_eq_some_iff.1 h
  unfold rowTs
  rw [List.take_succ_eq_append_getElem hn, List.flatMap_append, hp]
  simp
theorem rowTs_length (l : List Rw) : (rowTs l).length = 2 * l.length := by
  induction l with
  | nil => rfl
  | cons p l ih => show (_ ++ rowTs l).length = _; rw [List.length_append, ih]; simp; omega
/-- The bulk of rows, as they are written. -/
def rowBulk (l : List Rw) : Nat := (l.map fun p => p.key.size + p.val.size).sum
theorem rowTs_bulk : ∀ (l : List Rw), (Lib.join (rowTs l) [32]).length ≤ 6 * l.length + 4 * rowBulk l := by
  have key : ∀ (ts : List (List UInt8)), (Lib.join ts [32]).length ≤ ts.length + (ts.map List.length).sum := by
    intro ts
    cases ts with
    | nil => simp [Lib.join_nil]
    | cons t ts =>
      rw [Lib.join_length]
      have : Lib.lens (t :: ts) = ((t :: ts).map List.length).sum := rfl
      simp only [List.length_cons, List.length_nil]
      omega
  intro l
  refine Nat.le_trans (key _) ?_
  rw [rowTs_length]
  have h2 : ((rowTs l).map List.length).sum ≤ 4 * l.length + 4 * rowBulk l := by
    induction l with
    | nil => simp [rowTs, rowBulk]
    | cons p l ih =>
      have h1 := quoB_length p.key
      have h3 := quoB_length p.val
      show ((quoB p.key :: quoB p.val :: rowTs l).map List.length).sum ≤ _
      have e : rowBulk (p :: l) = p.key.size + p.val.size + rowBulk l := by unfold rowBulk; simp
      rw [e]
      simp only [List.map_cons, List.sum_cons, List.length_cons]
      omega
  omega
/-- What Reply says. -/
def replyB (k : Int) (r : Rp) : List UInt8 :=
  if r.code ≠ 0 then [101, 114, 114, 111, 114, 32] ++ Lib.itoa r.code
  else if k = 2 then (if r.found then quoB r.val else [110, 111, 110, 101])
  else if k = 3 then (if r.rows = [] then [110, 111, 110, 101] else Lib.join (rowTs r.rows) [32])
  else if k = 7 then Lib.itoa r.time
  else if k = 11 then Lib.itoa r.n
  else [111, 107]
end Go.Proofs.YtkpofjfndokaeaaGreatDoor

/- script.Reply: the walk. -/
namespace Go.Proofs.YtkpofjfndokaeaaGreatDoor
open Go.RowKit
set_option linter.unusedVariables false
set_option linter.unusedSimpArgs false

/-- What a reply's numbers and texts must keep to. -/
structure RpOk (r : Rp) : Prop where
  c0 : -9223372036854775808 ≤ r.code
  c1 : r.code ≤ 9223372036854775807
  t0 : -9223372036854775808 ≤ r.time
  t1 : r.time ≤ 9223372036854775807
  n0 : -9223372036854775808 ≤ r.n
  n1 : r.n ≤ 9223372036854775807
  v : r.val.size ≤ 1048576
  l : r.rows.length ≤ 1048576
  b : rowBulk r.rows ≤ 1048576
theorem rowBulk_mem {l : List Rw} {p : Rw} (h : p ∈ l) : p.key.size ≤ rowBulk l ∧ p.val.size ≤ rowBulk l := by
  induction l with
  | nil => simp at h
  | cons q l ih =>
    have e : rowBulk (q :: l) = q.key.size + q.val.size + rowBulk l := by unfold rowBulk; simp
    rcases List.mem_cons.1 h with rfl | h
    · omega
    · have := ih h; omega
theorem format_any (n : Int) (h0 : -9223372036854775808 ≤ n) (h1 : n ≤ 9223372036854775807) (W : World) (hs : St W) : Calls Tryz.prog 27 #[.int .i64 n, .int .i64 10] W fun e w' => e = .returned (.string ⟨(Lib.itoa n).toArray⟩) ∧ Below W.heap.size W w' := by
  refine (Tryz.strconv_FormatInt_10 n h0 h1 W hs.pow).mono ?_
  rintro e w' ⟨he, k, os, rfl⟩
  exact ⟨he, Lib.below_grow _ _ (Nat.le_refl _) k os⟩
theorem reply_err {k : Int} {r : Rp} (h : r.code ≠ 0) : replyB k r = [101, 114, 114, 111, 114, 32] ++ Lib.itoa r.code := by unfold replyB; rw [if_pos h]
theorem reply_get {k : Int} {r : Rp} (h : r.code = 0) (hk : k = 2) : replyB k r = if r.found then quoB r.val else [110, 111, 110, 101] := by unfold replyB; rw [if_neg (by simp [h]), if_pos hk]
theorem reply_scan {k : Int} {r : Rp} (h : r.code = 0) (hk : k = 3) : replyB k r = if r.rows = [] then [110, 111, 110, 101] else Lib.join (rowTs r.rows) [32] := by unfold replyB; rw [if_neg (by simp [h]), if_neg (by omega), if_pos hk]
theorem reply_commit {k : Int} {r : Rp} (h : r.code = 0) (hk : k = 7) : replyB k r = Lib.itoa r.time := by unfold replyB; rw [if_neg (by simp [h]), if_neg (by omega), if_neg (by omega), if_pos hk]
theorem reply_sweep {k : Int} {r : Rp} (h : r.code = 0) (hk : k = 11) : replyB k r = Lib.itoa r.n := by unfold replyB; rw [if_neg (by simp [h]), if_neg (by omega), if_neg (by omega), if_neg (by omega), if_pos hk]
theorem reply_else {k : Int} {r : Rp} (h : r.code = 0) (h2 : k ≠ 2) (h3 : k ≠ 3) (h7 : k ≠ 7) (h11 : k ≠ 11) : replyB k r = [111, 107] := by unfold replyB; rw [if_neg (by simp [h]), if_neg h2, if_neg h3, if_neg h7, if_neg h11]

set_option maxRecDepth 100000 in
set_option maxHeartbeats 4000000 in
theorem reply_simple (c : Cl) (r : Rp) (A : Option Addr) (cp : Nat) (W : World) (hs : St W) (hr : RpOk r) (h3 : ¬ (r.code = 0 ∧ c.kind = 3)) :
    Calls Tryz.prog 13 #[c.v, r.v A cp] W fun e w' => e = .returned (.string ⟨(replyB c.kind r).toArray⟩) ∧ Below W.heap.size W w' := by
  obtain ⟨kind, mode, key, high, val, draw, cn⟩ := c
  obtain ⟨code, rval, found, rows, time, n⟩ := r
  obtain ⟨hc0, hc1, ht0, ht1, hn0, hn1, hv, hl, hb⟩ := hr
  simp only at hc0 hc1 ht0 ht1 hn0 hn1 hv hl hb h3
  have HI : Hid (∀ n : Int, -9223372036854775808 ≤ n → n ≤ 9223372036854775807 → ∀ w, Below W.heap.size W w → Calls Tryz.prog 24 #[.int .i64 n] w fun e w' => e = .returned (.string ⟨(Lib.itoa n).toArray⟩) ∧ Below w.heap.size w w') := Lib.hid fun n h0 h1 w hb => itoa_any n h0 h1 w (hs.later hb)
  have HF : Hid (∀ n : Int, -9223372036854775808 ≤ n → n ≤ 9223372036854775807 → ∀ w, Below W.heap.size W w → Calls Tryz.prog 27 #[.int .i64 n, .int .i64 10] w fun e w' => e = .returned (.string ⟨(Lib.itoa n).toArray⟩) ∧ Below w.heap.size w w') := Lib.hid fun n h0 h1 w hb => format_any n h0 h1 w (hs.later hb)
  have HQ : Hid (∀ (s : ByteArray), s.size ≤ 1048576 → ∀ w, Calls Tryz.prog 25 #[.string s] w fun e w' => e = .returned (.string ⟨(quoB s).toArray⟩) ∧ Below w.heap.size w w') := Lib.hid fun s hs w => quoteB_any s (by omega) w
  have hb1 := (Below.refl W.heap.size W).alloc (Nat.le_refl _) (.cells (Cl.mk kind mode key high val draw cn).cells 25)
  have hb2 := Lib.hid (hb1.alloc hb1.size (.cells #[.int .i64 code, .string rval, .bool found, .slice A rows.length cp, .int .i64 time, .int .i64 n] 35))
  have hw : W.heap.size ≤ (W.heap.size + 1) + 1 := by omega
  unfold Cl.cells at hb2
  unfold Cl.v Rp.v
  clear hb1 hs
  by_cases h0 : code = 0
  · subst h0
    by_cases h2 : kind = 2
    · subst h2
      have HE := Lib.hid (reply_get (k := 2) (r := ⟨0, rval, found, rows, time, n⟩) rfl rfl)
      clear h3
      cases found with
      | true =>
        go_enter Tryz.func13, Tryz.ntmps13
        go_wp2_with (go_at_call 25; refine (HQ.out _ (by assumption) _).mono ?_; rintro e w3 ⟨rfl, hb3⟩)
        go_ret
        exact ⟨by rw [HE.out]; rfl, hb2.out.trans (hb3.mono (by simp only [World.size_alloc]; omega))⟩
      | false =>
        go_enter Tryz.func13, Tryz.ntmps13
        go_wp2_with fail
        go_ret
        exact ⟨by rw [HE.out]; rfl, hb2.out⟩
    · have hk3 : kind ≠ 3 := fun e => h3 ⟨rfl, e⟩
      have b2 : (kind == 2) = false := beq_eq_false_iff_ne.2 h2
      have b3 : (kind == 3) = false := beq_eq_false_iff_ne.2 hk3
      by_cases h7 : kind = 7
      · have HE := Lib.hid (reply_commit (k := kind) (r := ⟨0, rval, found, rows, time, n⟩) rfl h7)
        subst h7
        clear h3 h2 hk3
        go_enter Tryz.func13, Tryz.ntmps13
        go_wp2_with (go_at_call 27; refine (HF.out _ ht0 ht1 _ hb2.out).mono ?_; rintro e w3 ⟨rfl, hb3⟩)
        go_ret
        exact ⟨by rw [HE.out]; rfl, hb2.out.trans (hb3.mono (by simp only [World.size_alloc]; omega))⟩
      · have b7 : (kind == 7) = false := beq_eq_false_iff_ne.2 h7
        by_cases h11 : kind = 11
        · have HE := Lib.hid (reply_sweep (k := kind) (r := ⟨0, rval, found, rows, time, n⟩) rfl h11)
          subst h11
          clear h3 h2 hk3
          go_enter Tryz.func13, Tryz.ntmps13
          go_wp2_with (go_at_call 24; refine (HI.out _ hn0 hn1 _ hb2.out).mono ?_; rintro e w3 ⟨rfl, hb3⟩)
          go_ret
          exact ⟨by rw [HE.out]; rfl, hb2.out.trans (hb3.mono (by simp only [World.size_alloc]; omega))⟩
        · have b11 : (kind == 11) = false := beq_eq_false_iff_ne.2 h11
          have HE := Lib.hid (reply_else (k := kind) (r := ⟨0, rval, found, rows, time, n⟩) rfl h2 hk3 h7 h11)
          clear h3 h2 hk3 h7 h11
          go_enter Tryz.func13, Tryz.ntmps13
          go_wp2_with fail
          go_ret
          exact ⟨by rw [HE.out]; rfl, hb2.out⟩
  · have HE := Lib.hid (reply_err (k := kind) (r := ⟨code, rval, found, rows, time, n⟩) h0)
    have b0 : (code != 0) = true := by rw [bne_iff_ne]; exact h0
    have hcat := bapp [101, 114, 114, 111, 114, 32] (Lib.itoa code)
    have HC := Lib.hid hcat
    have hll := Lib.itoa_length_le code hc0 hc1
    have hlz : (⟨(Lib.itoa code).toArray⟩ : ByteArray).size ≤ 21 := hll
    clear h3 h0 hcat
    go_enter Tryz.func13, Tryz.ntmps13
    go_wp2_with (go_at_call 24; refine (HI.out _ hc0 hc1 _ hb2.out).mono ?_; rintro e w3 ⟨rfl, hb3⟩)
    go_ret
    exact ⟨by rw [HE.out]; exact congrArg (fun s => Ending.returned (Value.string s)) HC.out, hb2.out.trans (hb3.mono (by simp only [World.size_alloc]; omega))⟩
end Go.Proofs.YtkpofjfndokaeaaGreatDoor
