/- The document's Reply: the walk. -/
import Derived.Test.YtkpofjfndokaeaaGreatDoorX1
import Derived.Test.YtkpofjfndokaeaaGreatDoorR2
import Derived.Test.YtkpofjfndokaeaaGreatDoorG3
namespace Go.Proofs.YtkpofjfndokaeaaGreatDoor
open Go.RowKit
set_option linter.unusedVariables false
set_option linter.unusedSimpArgs false

/-- A text appended to bytes of the call's own, at a step of a region that draws its order. -/
theorem step_append_str {ops : Array Oper} {w : World} {o : Oper} {a : Act} {K : Act → World → Prop} {Q : Exit → Act → World → Prop} {E : Prop} (hgd : o.guard = none) (sl x : Operand)
    (ho : o.op = .call { callee := .builtin .append, args := #[sl, x], argTypes := #[47, 9] }) (base : Nat) (i : TypeInfo) (hi : Tryz.prog.info? 5 = some i) (hz : i.zero = some (.int .u8 0)) (hsize : i.size = 1) (hby : i.bytes = 1)
    (v : Value) (n : Nat) (xs : List Value) (hs : a.eval sl = v) (hown : w.ownsRow base 5 1 v n xs) (s : ByteArray) (hx : a.eval x = .string s)
    (h63 : n + s.size ≤ maxLen) (hbytes : n + s.size ≤ 140737488355328) (hbase : base ≤ w.heap.size)
    (h : ∀ v' w', w'.ownsRow base 5 1 v' (n + s.size) (xs ++ Lib.strCells s) → w.grownBy w' v.ownBlock → (v' = .slice none 0 0 ↔ v = .slice none 0 0 ∧ s.size = 0) → K (a.put o.dst v') w') :
    if Region.wanted o (yielded ops a.tmps) = true then Oper.wp Tryz.prog o a w K Q else E := by
  have hw : Region.wanted o (yielded ops a.tmps) = true := by simp [Region.wanted, hgd]
  rw [if_pos hw]
  obtain ⟨v', w', hr, h2, h3, h4⟩ := Lib.run_append_own_string (P := Tryz.prog) w base 47 9 o.type 5 i Tryz.underlying47 Tryz.underlying9 hi hz hsize hby v n xs hown s h63 hbytes hbase
  unfold Oper.wp execOp
  simp only [ho, resolve, invoke, builtin, Sem.run_bind, Sem.run_pure, Result.andThen_ok, List.map_toArray, List.map_cons, List.map_nil, hs, hx, hr]
  exact h v' w' h2 h3 h4
theorem TS.appends {W : World} {acc : List UInt8} {v : Value} {wr w' : World} (h : TS W acc v wr) (s : ByteArray) (l : List UInt8) (hl : s.data.toList = l) {v' : Value} {n : Nat} (hn : n = acc.length + s.size) {cs : List Value} (hc : cs = acc.map b8v ++ Lib.strCells s)
    (hown : w'.ownsRow W.heap.size 5 1 v' n cs) (hg : wr.grownBy w' v.ownBlock) : TS W (acc ++ l) v' w' := by
  subst hl
  have e : (acc ++ s.data.toList).map b8v = cs := by rw [hc, List.map_append]; rfl
  have e2 : (acc ++ s.data.toList).length = n := by rw [List.length_append, hn, ba_size]
  refine ⟨?_, h.below.grown hg h.below.size (fun k e => (h.own.lt k e).1)⟩
  rw [e, e2]
  exact hown
theorem TS.drew {W : World} {acc : List UInt8} {v : Value} {wr : World} (h : TS W acc v wr) : TS W acc v wr.drew := ⟨h.own, h.below.drew⟩
theorem TS.v {W : World} {acc : List UInt8} {v : Value} {wr : World} (h : TS W acc v wr) : ∃ A cap, v = .slice A acc.length cap := by
  rcases h.own.2 with ⟨h1, h2⟩ | ⟨g, cap, cur, hv, _⟩
  · exact ⟨none, 0, by rw [h1, h2]⟩
  · exact ⟨_, _, hv⟩
theorem quoB_ne (s : ByteArray) : quoB s ≠ [] := by unfold quoB quoN; simp
/-- The text so far of rows. -/
theorem rows_join (l : List Rw) (n : Nat) (p : Rw) (h : l[n]? = some p) : Lib.join (rowTs (l.take (n + 1))) [32] = (if n = 0 then [] else Lib.join (rowTs (l.take n)) [32] ++ [32]) ++ ((quoB p.key ++ [32]) ++ quoB p.val) := by
  have key : ∀ (ts : List (List UInt8)) (a b : List UInt8), Lib.join (ts ++ [a, b]) [32] = (if ts = [] then [] else Lib.join ts [32] ++ [32]) ++ ((a ++ [32]) ++ b) := by
    intro ts a b
    cases ts with
    | nil => simp [Lib.join_cons, Lib.joinTail]
    | cons t ts => simp [Lib.join_cons, Lib.joinTail]
  rw [rowTs_snoc l n p h, key]
  obtain ⟨hn, _⟩ := List.getElem?_eq_some_iff.1 h
  by_cases h0 : n = 0
  · subst h0
    rw [if_pos rfl, List.take_zero]
    rfl
  · rw [if_neg h0, if_neg]
    intro e
    have := congrArg List.length e
    rw [rowTs_length, List.length_take, List.length_nil] at this
    omega

set_option maxRecDepth 100000 in
set_option maxHeartbeats 4000000 in
theorem dreply_simple (c : Cl) (r : Rp) (A : Option Addr) (cp : Nat) (W : World) (hr : RpOk r) (h3 : ¬ (r.code = 0 ∧ c.kind = 3)) :
    Calls Tryz.prog 14 #[c.v, r.v A cp] W fun e w' => e = .returned (.string ⟨(replyB c.kind r).toArray⟩) ∧ Below W.heap.size W w' := by
  obtain ⟨kind, mode, key, high, val, draw, cn⟩ := c
  obtain ⟨code, rval, found, rows, time, n⟩ := r
  obtain ⟨hc0, hc1, ht0, ht1, hn0, hn1, hv, hl, hb⟩ := hr
  simp only at hc0 hc1 ht0 ht1 hn0 hn1 hv hl hb h3
  have HI : Hid (∀ n : Int, -9223372036854775808 ≤ n → n ≤ 9223372036854775807 → ∀ w, Below W.heap.size W w → Calls Tryz.prog 28 #[.int .i64 n] w fun e w' => e = .returned (.string ⟨(Lib.itoa n).toArray⟩) ∧ Below w.heap.size w w') := Lib.hid fun n h0 h1 w hb => (digits_any n h0 h1 w).mono fun e w' ⟨he, hw⟩ => ⟨he, hw ▸ Below.refl _ _⟩
  have HQ : Hid (∀ (s : ByteArray), s.size ≤ 1048576 → ∀ w, Calls Tryz.prog 29 #[.string s] w fun e w' => e = .returned (.string ⟨(quoB s).toArray⟩) ∧ Below w.heap.size w w') := Lib.hid fun s hs w => dquoted_any s (by omega) w
  have hb1 := (Below.refl W.heap.size W).alloc (Nat.le_refl _) (.cells (Cl.mk kind mode key high val draw cn).cells 25)
  have hb2 := Lib.hid (hb1.alloc hb1.size (.cells #[.int .i64 code, .string rval, .bool found, .slice A rows.length cp, .int .i64 time, .int .i64 n] 35))
  have hw : W.heap.size ≤ (W.heap.size + 1) + 1 := by omega
  unfold Cl.cells at hb2
  unfold Cl.v Rp.v
  clear hb1
  by_cases h0 : code = 0
  · subst h0
    by_cases h2 : kind = 2
    · subst h2
      have HE := Lib.hid (reply_get (k := 2) (r := ⟨0, rval, found, rows, time, n⟩) rfl rfl)
      clear h3
      cases found with
      | true =>
        go_enter Tryz.func14, Tryz.ntmps14
        go_wp2_with (go_at_call 29; refine (HQ.out _ (by assumption) _).mono ?_; rintro e w3 ⟨rfl, hb3⟩)
        go_ret
        exact ⟨by rw [HE.out]; rfl, hb2.out.trans (hb3.mono (by simp only [World.size_alloc]; omega))⟩
      | false =>
        go_enter Tryz.func14, Tryz.ntmps14
        go_wp2_with fail
        go_ret
        exact ⟨by rw [HE.out]; rfl, hb2.out⟩
    · have hk3 : kind ≠ 3 := fun e => h3 ⟨rfl, e⟩
      have b2 : (kind == 2) = false := beq_eq_false_iff_ne.2 h2
      have b3 : (kind == 3) = false := beq_eq_false_iff_ne.2 hk3
      by_cases h7 : kind = 7
      · have HE := Lib.hid (reply_commit (k := kind) (r := ⟨0, rval, found, rows, time, n⟩) rfl h7)
        subst h7
        clear h3 h2 hk3
        go_enter Tryz.func14, Tryz.ntmps14
        go_wp2_with (go_at_call 28; refine (HI.out _ ht0 ht1 _ hb2.out).mono ?_; rintro e w3 ⟨rfl, hb3⟩)
        go_ret
        exact ⟨by rw [HE.out]; rfl, hb2.out.trans (hb3.mono (by simp only [World.size_alloc]; omega))⟩
      · have b7 : (kind == 7) = false := beq_eq_false_iff_ne.2 h7
        by_cases h11 : kind = 11
        · have HE := Lib.hid (reply_sweep (k := kind) (r := ⟨0, rval, found, rows, time, n⟩) rfl h11)
          subst h11
          clear h3 h2 hk3
          go_enter Tryz.func14, Tryz.ntmps14
          go_wp2_with (go_at_call 28; refine (HI.out _ hn0 hn1 _ hb2.out).mono ?_; rintro e w3 ⟨rfl, hb3⟩)
          go_ret
          exact ⟨by rw [HE.out]; rfl, hb2.out.trans (hb3.mono (by simp only [World.size_alloc]; omega))⟩
        · have b11 : (kind == 11) = false := beq_eq_false_iff_ne.2 h11
          have HE := Lib.hid (reply_else (k := kind) (r := ⟨0, rval, found, rows, time, n⟩) rfl h2 hk3 h7 h11)
          clear h3 h2 hk3 h7 h11
          go_enter Tryz.func14, Tryz.ntmps14
          go_wp2_with fail
          go_ret
          exact ⟨by rw [HE.out]; rfl, hb2.out⟩
  · have HE := Lib.hid (reply_err (k := kind) (r := ⟨code, rval, found, rows, time, n⟩) h0)
    have b0 : (code != 0) = true := by rw [bne_iff_ne]; exact h0
    have hcat := bapp [101, 114, 114, 111, 114, 32] (Lib.itoa code)
    have HC := Lib.hid hcat
    have hll := Lib.itoa_length_le code hc0 hc1
    have hlz : (⟨(Lib.itoa code).toArray⟩ : ByteArray).size ≤ 21 := hll
    clear h3 h0 hcat
    go_enter Tryz.func14, Tryz.ntmps14
    go_wp2_with (go_at_call 28; refine (HI.out _ hc0 hc1 _ hb2.out).mono ?_; rintro e w3 ⟨rfl, hb3⟩)
    go_ret
    exact ⟨by rw [HE.out]; exact congrArg (fun s => Ending.returned (Value.string s)) HC.out, hb2.out.trans (hb3.mono (by simp only [World.size_alloc]; omega))⟩
set_option maxRecDepth 100000 in
set_option maxHeartbeats 4000000 in
theorem dreply_rows (c : Cl) (r : Rp) (A : Option Addr) (cp : Nat) (W : World) (hr : RpOk r) (hc : r.code = 0) (hk : c.kind = 3) (hrows : Rws W A r.rows) :
    Calls Tryz.prog 14 #[c.v, r.v A cp] W fun e w' => e = .returned (.string ⟨(replyB c.kind r).toArray⟩) ∧ Below W.heap.size W w' := by
  have HE := Lib.hid (reply_scan hc hk)
  obtain ⟨kind, mode, key, high, val, draw, cn⟩ := c
  obtain ⟨code, rval, found, rows, time, n⟩ := r
  obtain ⟨hc0, hc1, ht0, ht1, hn0, hn1, hv, hl, hb⟩ := hr
  simp only at hc0 hc1 ht0 ht1 hn0 hn1 hv hl hb hc hk HE hrows
  subst hc; subst hk
  obtain ⟨i0, hi, hz0, hz1, hz2⟩ := info_parts (show (Tryz.prog.info? 5).map (fun i => (i.zero, i.size, i.bytes)) = some (some (.int .u8 0), 1, 1) by kernel_rfl)
  have HQ : Hid (∀ (s : ByteArray), s.size ≤ 1048576 → ∀ w, Calls Tryz.prog 29 #[.string s] w fun e w' => e = .returned (.string ⟨(quoB s).toArray⟩) ∧ Below w.heap.size w w') := Lib.hid fun s hs w => dquoted_any s (by omega) w
  obtain ⟨wB, hwB⟩ : ∃ wB, wB = (W.alloc (.cells (Cl.mk 3 mode key high val draw cn).cells 25)).alloc (.cells #[.int .i64 0, .string rval, .bool found, .slice A rows.length cp, .int .i64 time, .int .i64 n] 35) := ⟨_, rfl⟩
  have hbB : Below W.heap.size W wB := by
    have hb1 := (Below.refl W.heap.size W).alloc (Nat.le_refl _) (.cells (Cl.mk 3 mode key high val draw cn).cells 25)
    rw [hwB]
    exact hb1.alloc hb1.size _
  have hBz : wB.heap.size = W.heap.size + 2 := by rw [hwB, World.size_alloc, World.size_alloc]
  have HBX : Hid (∀ w, Below wB.heap.size wB w → w.cell? ⟨W.heap.size + 1, 3, none⟩ = some (.slice A rows.length cp)) := Lib.hid fun w h => by
    have e : w.heap[W.heap.size + 1]? = some (.cells #[.int .i64 0, .string rval, .bool found, .slice A rows.length cp, .int .i64 time, .int .i64 n] 35 (0, 0)) := by
      rw [h.block _ (by omega), hwB]
      exact heap_alloc_at _ _ (by rw [World.size_alloc])
    simp [World.cell?, e]
  have hBs : W.heap.size + 1 < wB.heap.size := by omega
  have HBB := Lib.hid hbB
  have HRW : Hid (∀ k p, rows[k]? = some p → ∃ ad q, A = some ad ∧ q = ad.add (k * 3) ∧ ∀ w, Below wB.heap.size wB w → w.cell? q = some (.string p.key) ∧ w.cell? ⟨q.block, q.off + 1, none⟩ = some (.string p.val)) := Lib.hid fun k p hp => by
    obtain ⟨ad, q, hA, hq, hql, h1, h2, _⟩ := hrows k p hp
    refine ⟨ad, q, hA, hq, fun w h => ?_⟩
    have hbw := hbB.trans (h.mono hbB.size)
    exact ⟨(World.cell?_of_block (a := q) (hbw.block _ hql)).trans h1, (World.cell?_of_block (a := ⟨q.block, q.off + 1, none⟩) (hbw.block q.block hql)).trans h2⟩
  have HSM : Hid (∀ p ∈ rows, p.key.size ≤ 1048576 ∧ p.val.size ≤ 1048576) := Lib.hid fun p hp => by have := rowBulk_mem hp; omega
  have HL := Lib.hid (rows_join rows)
  have HLS := Lib.hid (TS.start wB)
  have HJB : Hid (∀ k, (Lib.join (rowTs (rows.take k)) [32]).length ≤ 16777216) := Lib.hid fun k => by
    have h1 := rowTs_bulk (rows.take k)
    have h2 : rowBulk (rows.take k) ≤ rowBulk rows := by
      unfold rowBulk
      conv => rhs; rw [← List.take_append_drop k rows, List.map_append, List.sum_append]
      exact Nat.le_add_right _ _
    rw [List.length_take] at h1
    omega
  clear hbB hrows hBz
  unfold Cl.cells at hwB
  unfold Cl.v Rp.v
  go_enter Tryz.func14, Tryz.ntmps14
  go_upto_region 11 with fail
  rw [← hwB]
  clear hwB
  go_loopw [5, 6] (fun v i wr => ∃ k : Nat, k ≤ rows.length ∧ i = .int .i64 k ∧ Hid (TS wB (Lib.join (rowTs (rows.take k)) [32]) v wr)) (fun _ i _ => rows.length - (intOf i).toNat)
  case atStart => exact ⟨0, Nat.zero_le _, rfl, HLS⟩
  case round =>
    clear HLS
    obtain ⟨k, hk, rfl, HLS⟩ := hrel
    have hbx := HBX.out wr HLS.out.below
    by_cases hkl : k < rows.length
    · obtain ⟨p, hp⟩ : ∃ p, rows[k]? = some p := ⟨_, List.getElem?_eq_getElem hkl⟩
      obtain ⟨ad, q, rfl, hq, hqc⟩ := HRW.out k p hp
      have HQC := Lib.hid hqc
      have hqk : ad.add (k * 3) = q := hq.symm
      obtain ⟨hp1, hp2⟩ := HSM.out p (List.mem_of_getElem? hp)
      have HSN := Lib.hid (HL.out k p hp)
      have hjb := HJB.out k
      have hjb2 := HJB.out (k + 1)
      rw [HL.out k p hp] at hjb2
      have hqb := quoB_length p.key
      have hqd := quoB_length p.val
      obtain ⟨pk, pv, pt⟩ := p
      simp only at HQC hp1 hp2 HSN hjb2 hqb hqd
      have hwl := HLS.out.below.size
      have k0 : (0 : Int) ≤ (k : Int) := Int.natCast_nonneg _
      have k1 : (k : Int) < (rows.length : Int) := by omega
      obtain ⟨q0, q1⟩ := HQC.out wr HLS.out.below
      have HQA : Hid (k = 0 → q = ad) := Lib.hid fun h => by rw [hq, h]; simp [Addr.add]
      clear hq hp hqc
      have HA0 : Hid (k = 0 → Lib.join (rowTs (rows.take k)) [32] = []) := Lib.hid fun h => by rw [h]; rfl
      generalize Lib.join (rowTs (rows.take k)) [32] = acc at *
      obtain ⟨Av, cv, rfl⟩ := HLS.out.v
      obtain ⟨QK, hQK⟩ : ∃ Q : ByteArray, Q = ⟨(quoB pk).toArray⟩ := ⟨_, rfl⟩
      obtain ⟨QV, hQV⟩ : ∃ Q : ByteArray, Q = ⟨(quoB pv).toArray⟩ := ⟨_, rfl⟩
      have hcl : ((QK ++ ⟨#[32]⟩) ++ QV : ByteArray).data.toList = (quoB pk ++ [32]) ++ quoB pv := by rw [hQK, hQV, cat_list]; simp
      have hcz : ((QK ++ ⟨#[32]⟩) ++ QV : ByteArray).size = (quoB pk).length + 1 + (quoB pv).length := by rw [ba_size, hcl]; simp; omega
      have hcz1 : (QK ++ ⟨#[32]⟩ : ByteArray).size = QK.size + 1 := by rw [ba_size, ba_size, ByteArray.data_append]; simp
      have hlk : QK.size = (quoB pk).length := by rw [hQK]; rfl
      have hlv : QV.size = (quoB pv).length := by rw [hQV]; rfl
      have hlk2 : QK.size ≤ 4194306 := by omega
      have hlv2 : QV.size ≤ 4194306 := by omega
      have hx1 : ¬ 9223372036854775807 < QK.size + 1 := by omega
      have hx2 : ¬ 9223372036854775807 < QK.size + 1 + QV.size := by omega
      have HCL := Lib.hid hcl
      have HCZ := Lib.hid hcz
      have HQK : Hid (∀ w, Calls Tryz.prog 29 #[.string pk] w fun e w' => e = .returned (.string QK) ∧ Below w.heap.size w w') := Lib.hid fun w => by rw [hQK]; exact HQ.out pk hp1 w
      have HQV : Hid (∀ w, Calls Tryz.prog 29 #[.string pv] w fun e w' => e = .returned (.string QV) ∧ Below w.heap.size w w') := Lib.hid fun w => by rw [hQV]; exact HQ.out pv hp2 w
      have hzz : acc.length + 1 + ((quoB pk).length + 1 + (quoB pv).length) ≤ 16777217 := by
        by_cases h : k = 0
        · rw [HA0.out h]; simp; omega
        · rw [if_neg h] at hjb2; simp only [List.length_append, List.length_cons, List.length_nil] at hjb2; omega
      have hzl : acc.length ≤ 16777216 := hjb
      have HZZ := Lib.hid hzz
      clear hcl hcz hQK hQV hlk hlv hjb2 hzz hqb hqd
      by_cases hk0 : k = 0
      · have HT := Lib.hid HLS.out
        have hki : ¬ (0 : Int) < (k : Int) := by omega
        rw [if_pos hk0] at HSN
        have hqa := HQA.out hk0
        subst hqa
        have ha0 := HA0.out hk0
        subst ha0
        have HK0 := Lib.hid hk0
        clear hqk
        go_wp2_with fail
        go_region_held3 (fun w' => w'.cell? ⟨W.heap.size + 1, 3, none⟩ = some (.slice (some q) rows.length cp) ∧ w'.cell? q = some (.string pk) ∧ w'.cell? ⟨q.block, q.off + 1, none⟩ = some (.string pv)) (first | go_keep | exact ⟨HBX.out _ HT7.out.below, (HQC.out _ HT7.out.below).1, (HQC.out _ HT7.out.below).2⟩ | exact ⟨HBX.out _ HT6.out.below, (HQC.out _ HT6.out.below).1, (HQC.out _ HT6.out.below).2⟩ | exact ⟨HBX.out _ HT5.out.below, (HQC.out _ HT5.out.below).1, (HQC.out _ HT5.out.below).2⟩) (first | (refine step_append_str (by rfl) _ _ (by rfl) wB.heap.size i0 hi hz0 hz1 hz2 _ _ _ (by rfl) HT6.out.own ((QK ++ ⟨#[32]⟩) ++ QV) (by rfl) (by unfold maxLen; have := HCZ.out; have := HZZ.out; omega) (by have := HCZ.out; have := HZZ.out; omega) HT6.out.below.size ?_; intro v7 w7 hown7 hg7 hiff7; have HT7 := Lib.hid (HT6.out.appends _ _ HCL.out rfl rfl hown7 hg7)) | (go_at_call 29; (with_reducible refine (HQK.out w5).mono ?_); rintro e w6 ⟨rfl, hb6⟩; have HT6 := Lib.hid (HT5.out.later hb6); clear hb6) | (go_at_call 29; (with_reducible refine (HQV.out w5).mono ?_); rintro e w6 ⟨rfl, hb6⟩; have HT6 := Lib.hid (HT5.out.later hb6); clear hb6) | (go_at_call 29; refine (HQK.out _).mono ?_; rintro e w5 ⟨rfl, hb5⟩; have HT5 := Lib.hid (HT.out.drew.later hb5); clear hb5) | (go_at_call 29; refine (HQV.out _).mono ?_; rintro e w5 ⟨rfl, hb5⟩; have HT5 := Lib.hid (HT.out.drew.later hb5); clear hb5))
        all_goals go_wp2_with fail
        all_goals exact ⟨⟨k + 1, by omega, by go_num, Lib.hid (by rw [HSN.out]; have h := HT7.out; simpa [List.append_assoc] using h)⟩, by simp [intOf]; omega⟩
      · have hki : (0 : Int) < (k : Int) := by omega
        rw [if_neg hk0] at HSN
        have hown := HLS.out.own
        go_wp2_with (at_builtin; refine wpList_append_own _ rfl _ _ 47 rfl wB.heap.size 5 i0 (.int .u8 0) 1 1 Tryz.underlying47 hi hz0 hz1 hz2 rfl (by decide) _ _ _ rfl (hown.alloc _) ⟨wr.heap.size, 0, none⟩ 1 1 [.int .u8 32] rfl rfl (cell_one_new _ _ _) (by simp [Value.oneCell']) (by unfold maxLen; omega) (by omega) (by rw [World.size_alloc]; omega) ?_; intro v1 w1 hown1 hg1 hiff1; have HT := Lib.hid ((HLS.out.alloc _).append 32 rfl rfl hown1 hg1); have hac : acc.length + 1 = (acc ++ [32]).length := (by simp); obtain ⟨acc2, hac2⟩ : ∃ x, x = acc ++ [32] := ⟨_, rfl⟩; rw [← hac2] at HT hac; have hal : acc2.length ≤ 16777217 := (by omega); have HAL := Lib.hid hac; have HAC := Lib.hid hac2; clear hac hac2; obtain ⟨A1, c1, hv1⟩ := HT.out.v; have HV1 := Lib.hid hv1; subst hv1; have hbx1 := HBX.out w1 HT.out.below; obtain ⟨r0, r1⟩ := HQC.out w1 HT.out.below; clear hown1 hg1 hiff1)
        go_region_held3 (fun w' => w'.cell? ⟨W.heap.size + 1, 3, none⟩ = some (.slice (some ad) rows.length cp) ∧ w'.cell? q = some (.string pk) ∧ w'.cell? ⟨q.block, q.off + 1, none⟩ = some (.string pv)) (first | go_keep | exact ⟨HBX.out _ HT7.out.below, (HQC.out _ HT7.out.below).1, (HQC.out _ HT7.out.below).2⟩ | exact ⟨HBX.out _ HT6.out.below, (HQC.out _ HT6.out.below).1, (HQC.out _ HT6.out.below).2⟩ | exact ⟨HBX.out _ HT5.out.below, (HQC.out _ HT5.out.below).1, (HQC.out _ HT5.out.below).2⟩) (first | (refine step_append_str (by rfl) _ _ (by rfl) wB.heap.size i0 hi hz0 hz1 hz2 _ _ _ (by rfl) HT6.out.own ((QK ++ ⟨#[32]⟩) ++ QV) (by rfl) (by unfold maxLen; have := HCZ.out; have := HZZ.out; have := HAL.out; omega) (by have := HCZ.out; have := HZZ.out; have := HAL.out; omega) HT6.out.below.size ?_; intro v7 w7 hown7 hg7 hiff7; have HT7 := Lib.hid (HT6.out.appends _ _ HCL.out rfl rfl hown7 hg7)) | (go_at_call 29; (with_reducible refine (HQK.out w5).mono ?_); rintro e w6 ⟨rfl, hb6⟩; have HT6 := Lib.hid (HT5.out.later hb6); clear hb6) | (go_at_call 29; (with_reducible refine (HQV.out w5).mono ?_); rintro e w6 ⟨rfl, hb6⟩; have HT6 := Lib.hid (HT5.out.later hb6); clear hb6) | (go_at_call 29; refine (HQK.out _).mono ?_; rintro e w5 ⟨rfl, hb5⟩; have HT5 := Lib.hid (HT.out.drew.later hb5); clear hb5) | (go_at_call 29; refine (HQV.out _).mono ?_; rintro e w5 ⟨rfl, hb5⟩; have HT5 := Lib.hid (HT.out.drew.later hb5); clear hb5))
        all_goals go_wp2_with fail
        all_goals exact ⟨⟨k + 1, by omega, by go_num, Lib.hid (by rw [HSN.out, ← HAC.out]; exact HT7.out)⟩, by simp [intOf]; omega⟩
    · have hkr : k = rows.length := by omega
      obtain ⟨Av, cv, rfl⟩ := HLS.out.v
      have hls := HLS.out
      rw [hkr, List.take_length] at hls
      have HLE := Lib.hid HE.out
      have hjb := HJB.out k
      rw [hkr, List.take_length] at hjb
      rw [hkr, List.take_length]
      have HB2 := Lib.hid (HBB.out.trans (hls.below.mono (by omega)))
      have hne : rows ≠ [] → Lib.join (rowTs rows) [32] ≠ [] := fun h e => by
        cases rows with
        | nil => exact h rfl
        | cons p l =>
          have : Lib.join (rowTs (p :: l)) [32] = quoB p.key ++ Lib.joinTail [32] (quoB p.val :: rowTs l) := Lib.join_cons _ _ _
          rw [this] at e
          exact quoB_ne _ (List.append_eq_nil_iff.1 e).1
      by_cases h0 : rows = []
      · have he : (if rows = [] then ([110, 111, 110, 101] : List UInt8) else Lib.join (rowTs rows) [32]) = [110, 111, 110, 101] := if_pos h0
        rw [he] at HLE
        have hl0 : (Lib.join (rowTs rows) [32]).length = 0 := by rw [h0]; rfl
        rw [hl0]
        clear he hls hkr hjb h0 hl0 hne
        go_wp2_with fail
        go_ret
        exact ⟨by rw [HLE.out]; rfl, HB2.out⟩
      · have he : (if rows = [] then ([110, 111, 110, 101] : List UInt8) else Lib.join (rowTs rows) [32]) = Lib.join (rowTs rows) [32] := if_neg h0
        rw [he] at HLE
        have hpos : 0 < (Lib.join (rowTs rows) [32]).length := List.length_pos_iff.2 (hne h0)
        have hcv := hls.string
        generalize Lib.join (rowTs rows) [32] = acc at *
        have hl0 : ((acc.length : Int) == 0) = false := by rw [beq_eq_false_iff_ne]; omega
        have hcvr := hcv
        clear he hls hkr hjb hne hcv
        go_wp2_with fail
        go_ret
        exact ⟨by rw [HLE.out]; rfl, HB2.out⟩
end Go.Proofs.YtkpofjfndokaeaaGreatDoor
