/- math/bits.TrailingZeros64, lock.members and its closure, slices.AppendSeq and slices.Collect over it. -/
import Derived.Test.YtmfjncbccaifiaaDoorA0
import Derived.Test.YtmfjncbccaifiaaDoorProg
import Derived.RangeFuncNested
import Derived.RangeFuncBound
import Derived.RangeFuncCalls
import Derived.RangeFuncLeaves
import Derived.RangeFuncBox
import Derived.Maps.AppendAt
import Derived.WalkKit
import Derived.OwnWalkIn
import Derived.TacticsInMore
import Derived.LoopNIn
import Derived.LoopIn
import Derived.Outline
import Derived.Shelf.Abstract
import Derived.Lib.Hide
namespace Go.Proofs.YtmfjncbccaifiaaDoor
open Go.RowKit Go.Shelf
set_option linter.unusedVariables false
set_option linter.unusedSimpArgs false

/-- math/bits.deBruijn64tab lies in its variable. -/
def TabAt (w : World) : Prop := ∀ j, j < 64 → w.cell? ⟨0, j, none⟩ = some (.int .u8 (Lib.deBruijn64tab.getD j 0))

theorem tz_key (x a : Nat) (hx : x < 18446744073709551616) (hx0 : x ≠ 0) (hlow : x &&& (18446744073709551616 - x) = a) :
    IntKind.u64.wrap (bits BinOp.and IntKind.u64 (x : Int) (IntKind.u64.wrap (-(x : Int))) * 285870213051353865) / 288230376151711744 = ((a * 285870213051353865 % 18446744073709551616 / 288230376151711744 : Nat) : Int) := by
  have e1 : IntKind.u64.wrap (-(x : Int)) = ((18446744073709551616 - x : Nat) : Int) := by rw [IntKind.wrap_u64]; omega
  rw [e1, bits_and_u64_nat x _ hx (by omega), hlow, IntKind.wrap_u64]
  omega

set_option maxHeartbeats 1000000 in
theorem tz_core (F : Fence) (n : Nat) (h41 : F.fn 41) (hro : F.round = none) (x k idx : Nat) (w : World) (hx0 : ((x : Int) == 0) = false)
    (key : IntKind.u64.wrap (bits BinOp.and IntKind.u64 (x : Int) (IntKind.u64.wrap (-(x : Int))) * 285870213051353865) / 288230376151711744 = (idx : Int))
    (hi : idx < 64) (hk : k < 64) (hcell : w.cell? ⟨0, idx, none⟩ = some (.int .u8 k)) :
    CallsIn F n Tryd.prog 41 #[.int .u64 x] w fun e w' => e = .returned (.int .i64 k) ∧ w' = w := by
  refine callsIn_of_wp Tryd.func41 rfl h41 ?_ hro
  simp only [Tryd.ntmps41, List.size_toArray, List.length_cons, List.length_nil, Nat.reduceAdd, Nat.reduceSub, Array.replicate_succ, Array.replicate_zero, List.push_toArray, List.append_toArray, List.nil_append, List.cons_append]
  gi_big_wp2_with (simp only [key])
  go_ret
  exact ⟨rfl, rfl⟩

theorem tz_in (F : Fence) (n : Nat) (h41 : F.fn 41) (hro : F.round = none) (x : Nat) (hx : x < 18446744073709551616) (hx0 : x ≠ 0) (w : World) (hT : TabAt w) :
    CallsIn F n Tryd.prog 41 #[.int .u64 x] w fun e w' => e = .returned (.int .i64 (Lib.ctz 64 x)) ∧ w' = w := by
  obtain ⟨hlow, hk⟩ := Lib.lowest_bit 64 x hx0 hx
  obtain ⟨hi, htab⟩ := Lib.deBruijn64_at _ hk
  have hcell := hT _ hi
  rw [htab] at hcell
  exact tz_core F n h41 hro x _ _ w (by simp; omega) (tz_key x _ hx hx0 hlow) hi hk hcell

theorem tz_any (x : Nat) (hx : x < 18446744073709551616) (hx0 : x ≠ 0) (w : World) (hT : TabAt w) :
    Calls Tryd.prog 41 #[.int .u64 x] w fun e w' => e = .returned (.int .i64 (Lib.ctz 64 x)) ∧ w' = w :=
  (callsIn_wide (n := 3)).1 (tz_in Fence.wide 3 trivial rfl x hx hx0 w hT)

/-- lock.members. -/
theorem members_in (F : Fence) (n : Nat) (h36 : F.fn 36) (hro : F.round = none) (m : Int) (w : World) :
    CallsIn F n Tryd.prog 36 #[.int .u64 m] w fun e w' => e = .returned (.func (.func 47) #[] #[.pointer (some ⟨w.heap.size, 0, none⟩)]) ∧ w' = w.alloc (.cells #[.int .u64 m] 22) := by
  refine callsIn_of_wp Tryd.func36 rfl h36 ?_ hro
  simp only [Tryd.ntmps36, List.size_toArray, List.length_cons, List.length_nil, Nat.reduceAdd, Nat.reduceSub, Array.replicate_succ, Array.replicate_zero, List.push_toArray, List.append_toArray, List.nil_append, List.cons_append]
  gi_wp2
  go_ret
  exact ⟨rfl, rfl⟩

def U64 (k : Nat) : Prop := k < 18446744073709551616

/-- The mask that stands in a box: how much is left. -/
def maskOf (w : World) (B : Nat) : Nat := match w.cell? ⟨B, 0, none⟩ with | some (.int _ z) => z.toNat | _ => 0
theorem maskOf_eq {w : World} {B m : Nat} (h : w.cell? ⟨B, 0, none⟩ = some (.int .u64 (m : Int))) : maskOf w B = m := by
  unfold maskOf; rw [h]; simp

theorem mask_next (m : Nat) (h : m < 18446744073709551616) (h0 : m ≠ 0) :
    bits BinOp.and IntKind.u64 (m : Int) ((m : Int) - 1) = ((m &&& (m - 1) : Nat) : Int) := by
  have e : ((m : Int) - 1) = ((m - 1 : Nat) : Int) := by omega
  rw [e, bits_and_u64_nat m _ h (by omega)]

set_option maxRecDepth 100000 in
set_option maxHeartbeats 1000000 in
/-- lock.members' closure: the workers of the mask come, rising. -/
theorem mem1_in (F : Fence) (n : Nat) (h41 : F.fn 41) (h47 : F.fn 47) (hro : F.round = none) (hn : 2 ≤ n) (l Bm m : Nat) (hm : m < 18446744073709551616) (J : List Nat → World → Prop)
    (hJT : ∀ pre W, J pre W → TabAt W)
    (hset : ∀ pre W v, J pre W → J pre (W.setCell ⟨Bm, 0, none⟩ v))
    (hY : ∀ pre (x : Nat) W, J pre W → pre.length < 64 → x < 64 → YieldAt F (n - 1) Tryd.prog l #[.int .i64 (x : Int)] W fun e W' =>
      e = .returned (.bool true) ∧ J (pre ++ [x]) W' ∧ (∀ u, Boxed W Bm 22 u → Boxed W' Bm 22 u))
    (W : World) (hB : Boxed W Bm 22 (.int .u64 (m : Int))) (h0 : J [] W) :
    CallsIn F n Tryd.prog 47 #[.func (.yield l) #[] #[], .pointer (some ⟨Bm, 0, none⟩)] W fun e W' => (∃ v, e = .returned v) ∧ J (mem m) W' := by
  have h1 : 1 ≤ n := by omega
  refine callsIn_of_wp Tryd.func47 rfl h47 ?_ hro
  simp only [Tryd.ntmps47, List.size_toArray, List.length_cons, List.length_nil, Nat.reduceAdd, Nat.reduceSub, Array.replicate_succ, Array.replicate_zero, List.push_toArray, List.append_toArray, List.nil_append, List.cons_append]
  gi_wp2
  gi_loopw [3] (fun _ wr => ∃ (pre : List Nat) (k : Nat), U64 k ∧ mem m = pre ++ mem k ∧ Boxed wr Bm 22 (.int .u64 (k : Int)) ∧ J pre wr)
    (fun _ wr => maskOf wr Bm)
  case atStart => exact ⟨[], m, hm, rfl, hB, h0⟩
  case round =>
    obtain ⟨pre, k, hk, hpre, hb, hj⟩ := hrel
    have hc := hb.cell
    have hf := hb.frozen
    unfold U64 at hk
    by_cases hk0 : k = 0
    · subst hk0
      gi_wp2
      go_end0
      rw [mem_zero, List.append_nil] at hpre
      exact ⟨⟨_, rfl⟩, hpre ▸ hj⟩
    · obtain ⟨hstep, hlt, hless⟩ := mem_step k hk0 hk
      have hlen : pre.length < 64 := by
        have := mem_length_le m
        rw [hpre, hstep] at this
        simp at this
        omega
      obtain ⟨fn, tmps, assign, body, hy, hR⟩ := hY pre (Lib.ctz 64 k) wr hj hlen hlt
      have htz := tz_in F (n - 1) h41 hro k hk hk0 wr (hJT _ _ hj)
      have hc0 : decide (0 < k) = true := by rw [decide_eq_true_iff]; omega
      have hk1 : (0 : Int) < (k : Int) := by omega
      have hnext := mask_next k hk hk0
      have hnextV : Value.int .u64 (bits BinOp.and IntKind.u64 (k : Int) ((k : Int) - 1)) = Value.int .u64 ((k &&& (k - 1) : Nat) : Int) := by rw [hnext]
      clear hnext
      obtain ⟨k', hk'⟩ : ∃ k', k &&& (k - 1) = k' := ⟨_, rfl⟩
      rw [hk'] at hstep hless hnextV
      have HN := Lib.hid hnextV; clear hnextV
      have hk2 : (k : Int) < 18446744073709551616 := by omega
      have HS := Lib.hid hstep; clear hstep
      have HP := Lib.hid hpre; clear hpre
      clear hk' hlen
      obtain ⟨c, hcc⟩ : ∃ c, Lib.ctz 64 k = c := ⟨_, rfl⟩
      rw [hcc] at hy hR htz HS hlt
      have HC := Lib.hid hcc; clear hcc
      have HJ := Lib.hid hset; clear hset
      have HK := Lib.hid hk; clear hk
      have HK2 := Lib.hid hk2; clear hk2
      have HM := Lib.hid hm; clear hm
      have HL := Lib.hid hless; clear hless
      have HB := Lib.hid hb
      clear hJT hY hk0 hlt h0 hB
      gi_big_wp2_with (gi_at_call 41; refine htz.mono ?_; rintro e w' ⟨rfl, rfl⟩)
      refine hR.mono ?_
      rintro e W3 ⟨rfl, hj3, hk3⟩
      have hb3 := hk3 _ hb
      have hc3 := hb3.cell
      have hf3 := hb3.frozen
      clear hk3 hb hc hf hy hR htz hj
      have hw : Value.int .u64 (IntKind.u64.wrap ((k : Int) - 1)) = Value.int .u64 ((k : Int) - 1) := by
        rw [IntKind.wrap_u64, Int.emod_eq_of_lt (by omega) (by have := HK2.out; omega)]
      gi_wp2
      rw [HN.out]
      have hmk : maskOf (W3.setCell ⟨Bm, 0, none⟩ (.int .u64 (k' : Int))) Bm = k' := maskOf_eq (hb3.set _).cell
      rw [hmk]
      refine ⟨⟨pre ++ [c], k', ?_, ?_, hb3.set _, HJ.out _ _ _ hj3⟩, ?_⟩
      · have := HK.out; unfold U64; have := HL.out; omega
      · rw [HP.out, HS.out]; simp
      · rw [maskOf_eq HB.out.cell]; exact HL.out
end Go.Proofs.YtmfjncbccaifiaaDoor
