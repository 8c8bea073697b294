/- ScriptReplies: rows that are copied; the walk. -/
import Derived.Test.YtkpofjfndokaeaaGreatDoorX2
import Derived.Test.YtkpofjfndokaeaaGreatDoorY2
import Derived.Deep.QuietTactic
import Derived.BigQuiet
namespace Go.Proofs.YtkpofjfndokaeaaGreatDoor
open Go.RowKit
set_option linter.unusedVariables false
set_option linter.unusedSimpArgs false

theorem reply_any (c : Cl) (r : Rp) (A : Option Addr) (cp : Nat) (W : World) (hs : St W) (hr : RpOk r) (hrows : Rws W A r.rows) :
    Calls Tryz.prog 13 #[c.v, r.v A cp] W fun e w' => e = .returned (.string ⟨(replyB c.kind r).toArray⟩) ∧ Below W.heap.size W w' := by
  by_cases h : r.code = 0 ∧ c.kind = 3
  · exact reply_rows c r A cp W hs hr h.1 h.2 hrows
  · exact reply_simple c r A cp W hs hr h
theorem dreply_any (c : Cl) (r : Rp) (A : Option Addr) (cp : Nat) (W : World) (hr : RpOk r) (hrows : Rws W A r.rows) :
    Calls Tryz.prog 14 #[c.v, r.v A cp] W fun e w' => e = .returned (.string ⟨(replyB c.kind r).toArray⟩) ∧ Below W.heap.size W w' := by
  by_cases h : r.code = 0 ∧ c.kind = 3
  · exact dreply_rows c r A cp W hr h.1 h.2 hrows
  · exact dreply_simple c r A cp W hr h

def Rw.cells (p : Rw) : List Value := [.string p.key, .string p.val, .int .i64 p.time]
def rwCells (l : List Rw) : List Value := l.flatMap Rw.cells
theorem rwCells_length (l : List Rw) : (rwCells l).length = l.length * 3 := by
  unfold rwCells
  induction l with
  | nil => rfl
  | cons x l ih => rw [List.flatMap_cons, List.length_append, ih, List.length_cons]; show 3 + _ = _; omega
theorem rwCells_at : ∀ (l : List Rw) (j i : Nat) (x : Rw), l[j]? = some x → i < 3 → (rwCells l)[j * 3 + i]? = x.cells[i]?
  | [], j, i, x, h, _ => by simp at h
  | y :: l, 0, i, x, h, hi => by
    simp only [List.getElem?_cons_zero, Option.some.injEq] at h
    subst h
    show (y.cells ++ rwCells l)[0 * 3 + i]? = _
    rw [Nat.zero_mul, Nat.zero_add, List.getElem?_append_left (show i < 3 from hi)]
  | y :: l, j + 1, i, x, h, hi => by
    simp only [List.getElem?_cons_succ] at h
    have ih := rwCells_at l j i x h hi
    show (y.cells ++ rwCells l)[(j + 1) * 3 + i]? = _
    have h3 : y.cells.length = 3 := rfl
    rw [List.getElem?_append_right (by omega), h3, show (j + 1) * 3 + i - 3 = j * 3 + i by omega]
    exact ih
theorem Rws.reads {w : World} {A : Option Addr} {l : List Rw} (h : Rws w A l) : Reads w w.heap.size 3 A l.length (rwCells l) := by
  refine ⟨rwCells_length l, fun hn => ?_⟩
  obtain ⟨ad, q, hA, hq, hb, _⟩ := h 0 _ (List.getElem?_eq_getElem hn)
  rw [hq, addr_blk] at hb
  refine ⟨ad, hA, hb, fun j u hu => ?_⟩
  have hj := (List.getElem?_eq_some_iff.1 hu).1
  rw [rwCells_length] at hj
  have hk : j / 3 < l.length := by omega
  obtain ⟨p, hp⟩ : ∃ p, l[j / 3]? = some p := ⟨_, List.getElem?_eq_getElem hk⟩
  obtain ⟨ad', q', hA', hq', _, c0, c1, c2⟩ := h _ p hp
  obtain rfl : ad' = ad := Option.some.inj (hA'.symm.trans hA)
  have hc := rwCells_at l (j / 3) (j % 3) p hp (Nat.mod_lt _ (by decide))
  rw [show j / 3 * 3 + j % 3 = j by omega, hu] at hc
  have hs : ∀ i, 0 < i → ad'.add (j / 3 * 3 + i) = ⟨q'.block, q'.off + i, none⟩ := fun i hi => by
    rw [← Addr.add_add, ← hq']
    obtain ⟨i, rfl⟩ : ∃ k, i = k + 1 := ⟨i - 1, by omega⟩
    rfl
  have h3 : j % 3 = 0 ∨ j % 3 = 1 ∨ j % 3 = 2 := by omega
  rcases h3 with h3 | h3 | h3
  · rw [h3] at hc
    obtain rfl : u = .string p.key := Option.some.inj hc
    rw [show j = j / 3 * 3 by omega, ← hq']
    exact c0
  · rw [h3] at hc
    obtain rfl : u = .string p.val := Option.some.inj hc
    rw [show j = j / 3 * 3 + 1 by omega, hs 1 (by decide)]
    exact c1
  · rw [h3] at hc
    obtain rfl : u = .int .i64 p.time := Option.some.inj hc
    rw [show j = j / 3 * 3 + 2 by omega, hs 2 (by decide)]
    exact c2
theorem Rws.of_own {w : World} {base : Nat} {v : Value} {l : List Rw} (h : w.ownsRow base 38 3 v l.length (rwCells l)) : ∃ A c, v = .slice A l.length c ∧ Rws w A l ∧ ∀ ad, A = some ad → base ≤ ad.block := by
  rcases h.2 with ⟨h1, h2⟩ | ⟨g, cap, cur, hv, hg, hk, hc, _⟩
  · have : l = [] := List.length_eq_zero_iff.1 h2
    subst this; subst h1
    exact ⟨none, 0, rfl, fun j p hj => by simp at hj, fun ad e => by cases e⟩
  · have hown := h
    subst hv
    refine ⟨_, cap, rfl, fun j p hj => ⟨_, _, rfl, rfl, ?_, ?_⟩, fun ad e => by injection e with e; rw [← e]; exact hg⟩
    · rw [addr_blk]; exact (Array.getElem?_eq_some_iff.1 hk).1
    have hj2 := (List.getElem?_eq_some_iff.1 hj).1
    have hadd : ∀ i, (⟨g, 0, none⟩ : Addr).add i = ⟨g, i, none⟩ := fun i => by unfold Addr.add; split <;> simp_all
    rw [hadd]
    have c : ∀ i, i < 3 → w.cell? ⟨g, j * 3 + i, none⟩ = p.cells[i]? := fun i hi => by
      rw [hown.cellAt (j * 3 + i) (by omega)]
      exact rwCells_at l j i p hj hi
    exact ⟨c 0 (by decide), c 1 (by decide), c 2 (by decide)⟩
theorem Rws.setCell {w : World} {A : Option Addr} {l : List Rw} (h : Rws w A l) (p : Addr) (u : Value) (hne : ∀ ad, A = some ad → p.block ≠ ad.block) : Rws (w.setCell p u) A l := fun j x hj => by
  obtain ⟨ad, q, e, hq, hl, h1, h2, h3⟩ := h j x hj
  have hb : p.block ≠ q.block := by rw [hq, addr_blk]; exact hne ad e
  exact ⟨ad, q, e, hq, by rw [World.size_setCell]; exact hl, (World.cell?_setCell_far w p q u hb).trans h1, (World.cell?_setCell_far w p ⟨q.block, q.off + 1, none⟩ u hb).trans h2, (World.cell?_setCell_far w p ⟨q.block, q.off + 2, none⟩ u hb).trans h3⟩
theorem rwCells_one (l : List Rw) : ∀ u ∈ rwCells l, u.oneCell' = true := fun u hu => by
  obtain ⟨p, _, hp⟩ := List.mem_flatMap.1 hu
  simp only [Rw.cells, List.mem_cons, List.mem_nil_iff, or_false] at hp
  rcases hp with rfl | rfl | rfl <;> rfl
theorem row38_new (w : World) : (w.alloc (.cells #[] 38)).ownsRow w.heap.size 38 3 (.slice (some ⟨w.heap.size, 0, none⟩) 0 0) 0 [] :=
  ⟨rfl, .inr ⟨w.heap.size, 0, #[], rfl, Nat.le_refl _, heap_alloc_at _ _ rfl, Nat.le_refl 0, by unfold maxLen; omega, rfl, rfl⟩⟩
theorem neq_rw (a b : Rw) (w : World) : (binOp .neq 38 (.agg #[.string a.key, .string a.val, .int .i64 a.time]) (.agg #[.string b.key, .string b.val, .int .i64 b.time])).run Tryz.prog w = .ok (.bool (!decide (a = b))) w := by
  go_simp
  by_cases h : a = b
  · subst h; simp
  · rw [decide_eq_false h]
    repeat' split
    all_goals first
      | rfl
      | (rename_i h1 h2 h3
         exact absurd (by
           obtain ⟨a1, a2, a3⟩ := a
           obtain ⟨b1, b2, b3⟩ := b
           simp only at h1 h2 h3
           rw [toList_inj h1, toList_inj h2, h3]) h)

set_option maxRecDepth 100000 in
set_option maxHeartbeats 4000000 in
theorem replies_any (c : Cl) (r : Rp) (A : Option Addr) (cp : Nat) (W : World) (hW : Sp W) (hr : RpOk r) (hrows : Rws W A r.rows) :
    Calls Tryz.prog 4 #[c.v, r.v A cp] W fun e w' => e = .returned (.bool true) ∧ Below W.heap.size W w' := by
  obtain ⟨i0, hi, hz0, hz1, hz2⟩ := info_parts (show (Tryz.prog.info? 38).map (fun i => (i.zero, i.size, i.bytes)) = some (some (.agg #[.string ⟨#[]⟩, .string ⟨#[]⟩, .int .i64 0]), 3, 40) by kernel_rfl)
  have HSN : Hid (∀ w, Below W.heap.size W w → Calls Tryz.prog 7 #[] w fun e w' => e = .returned (.bool true) ∧ Below w.heap.size w w') := Lib.hid fun w hb => shown_any w (hW.later hb)
  have HST : Hid (∀ w, Below W.heap.size W w → St w) := Lib.hid fun w hb => (hW.later hb).st
  obtain ⟨kind, mode, key, high, val, draw, cn⟩ := c
  obtain ⟨code, rval, found, rows, time, n⟩ := r
  have hl := hr.l
  simp only at hl hrows
  have HRP := Lib.hid hr
  have HRW : Hid (∀ w, Below W.heap.size W w → Rws w A rows) := Lib.hid fun w hb => hrows.later hb (Nat.le_refl _)
  obtain ⟨wB, hwB⟩ : ∃ wB, wB = (W.alloc (.cells (Cl.mk kind mode key high val draw cn).cells 25)).alloc (.cells #[.int .i64 code, .string rval, .bool found, .slice A rows.length cp, .int .i64 time, .int .i64 n] 35) := ⟨_, rfl⟩
  have hbB : Below W.heap.size W wB := by
    have hb1 := (Below.refl W.heap.size W).alloc (Nat.le_refl _) (.cells (Cl.mk kind mode key high val draw cn).cells 25)
    rw [hwB]
    exact hb1.alloc hb1.size _
  have hBz : wB.heap.size = W.heap.size + 2 := by rw [hwB, World.size_alloc, World.size_alloc]
  have HC1 : Hid (∀ w, Below wB.heap.size wB w → w.heap[W.heap.size + 1]? = some (.cells #[.int .i64 code, .string rval, .bool found, .slice A rows.length cp, .int .i64 time, .int .i64 n] 35 (0, 0))) := Lib.hid fun w h => by
    rw [h.block _ (by omega), hwB]
    exact heap_alloc_at _ _ (by rw [World.size_alloc])
  have HC0 : Hid (∀ w, Below wB.heap.size wB w → w.heap[W.heap.size]? = some (.cells #[.int .i64 kind, .int .i64 mode, .string key, .string high, .string val, .int .i64 draw, .int .i64 cn] 25 (0, 0))) := Lib.hid fun w h => by
    rw [h.block _ (by omega), hwB]
    exact (heap_alloc_old _ _ (by rw [World.size_alloc]; omega)).trans (heap_alloc_at _ _ rfl)
  have HBB := Lib.hid hbB
  have HBZ := Lib.hid hBz
  have hq0 : W.heap.size + 1 < wB.heap.size := by omega
  clear hr hrows hbB hBz hW
  unfold Cl.cells at hwB
  unfold Cl.v Rp.v
  go_enter Tryz.func4, Tryz.ntmps4
  go_upto_region 1 with fail
  rw [← hwB]
  clear hwB
  go_upto_region 3 with (first | (go_at_call 7; refine (HSN.out wB HBB.out).mono ?_; rintro e w1 ⟨rfl, hb1⟩; have HB1 := Lib.hid hb1; have hc1 := HC1.out w1 hb1; have e0 : w1.cell? ⟨W.heap.size + 1, 0, none⟩ = some (.int .i64 code) := (by simp [World.cell?, hc1]); have e1 : w1.cell? ⟨W.heap.size + 1, 1, none⟩ = some (.string rval) := (by simp [World.cell?, hc1]); have e2 : w1.cell? ⟨W.heap.size + 1, 2, none⟩ = some (.bool found) := (by simp [World.cell?, hc1]); have e3 : w1.cell? ⟨W.heap.size + 1, 3, none⟩ = some (.slice A rows.length cp) := (by simp [World.cell?, hc1]); have e4 : w1.cell? ⟨W.heap.size + 1, 4, none⟩ = some (.int .i64 time) := (by simp [World.cell?, hc1]); have e5 : w1.cell? ⟨W.heap.size + 1, 5, none⟩ = some (.int .i64 n) := (by simp [World.cell?, hc1]); have hzz1 := hb1.size; clear hb1 hc1))
  have h2 : Hid (Below wB.heap.size wB (w1.alloc (.cells #[.int .i64 code, .string rval, .bool found, .slice A rows.length cp, .int .i64 time, .int .i64 n] 35))) := Lib.hid (HB1.out.alloc HB1.out.size _)
  have hq1 := heap_alloc_at (w := w1) (.cells #[.int .i64 code, .string rval, .bool found, .slice A rows.length cp, .int .i64 time, .int .i64 n] 35) w1.heap.size rfl
  have hq2 : (w1.alloc (.cells #[.int .i64 code, .string rval, .bool found, .slice A rows.length cp, .int .i64 time, .int .i64 n] 35)).heap.size = w1.heap.size + 1 := World.size_alloc _ _
  obtain ⟨q, hq⟩ : ∃ q, q = w1.heap.size := ⟨_, rfl⟩
  rw [← hq] at hq1 hq2 hzz1
  rw [← hq]
  clear e0 e1 e2 e3 e4 e5 hq HB1
  generalize (w1.alloc (.cells #[.int .i64 code, .string rval, .bool found, .slice A rows.length cp, .int .i64 time, .int .i64 n] 35)) = w2 at *
  have e3 : w2.cell? ⟨W.heap.size + 1, 3, none⟩ = some (.slice A rows.length cp) := by simp [World.cell?, HC1.out w2 h2.out]
  have hlt2 : W.heap.size + 1 < w2.heap.size := by omega
  have HRD : Hid (Reads (w2.alloc (.cells #[] 38)) (w2.alloc (.cells #[] 38)).heap.size 3 A rows.length (rwCells rows)) := Lib.hid (HRW.out _ (by
    have hb := HBB.out.trans (h2.out.mono HBB.out.size)
    exact hb.alloc hb.size _)).reads
  have HQ1 := Lib.hid hq1
  have HQ2 := Lib.hid hq2
  have hqw : q < w2.heap.size := by omega
  have hwq : W.heap.size + 1 < q := by omega
  clear hq1 hq2
  go_upto_region 4 with (at_builtin; refine wpList_append_any _ rfl _ _ 33 rfl w2.heap.size 38 i0 (.agg #[.string ⟨#[]⟩, .string ⟨#[]⟩, .int .i64 0]) 3 40 Tryz.underlying33 hi hz0 hz1 hz2 rfl (by decide) _ _ _ rfl (row38_new w2) _ A rows.length cp (rwCells rows) rfl HRD.out (rwCells_one rows) (by unfold maxLen; omega) (by omega) (by rw [World.size_alloc]; omega) ?_; intro v' w3 hown hg hiff; have hk3 : w3.heap[q]? = some (.cells #[.int .i64 code, .string rval, .bool found, .slice A rows.length cp, .int .i64 time, .int .i64 n] 35 (0, 0)) := ((hg.block q (by rw [World.size_alloc]; omega) (fun e => absurd (Option.some.inj e) (Nat.ne_of_lt hqw))).trans (heap_alloc_past _ _ (by omega))).trans HQ1.out; have g3 : w3.cell? ⟨q, 3, none⟩ = some (.slice A rows.length cp) := (by simp [World.cell?, hk3]); have gf : w3.frozen? ⟨q, 3, none⟩ = false := (by simp [World.frozen?, hk3]); have HK3 := Lib.hid hk3; have hown2 : w3.ownsRow w2.heap.size 38 3 v' rows.length (rwCells rows) := (by simpa using hown); obtain ⟨A', c', hv', hr3, hb3⟩ := Rws.of_own hown2; subst hv'; have HR3 := Lib.hid hr3; have HB3 := Lib.hid hb3; have HG := Lib.hid hg; clear hk3 hown hown2 hr3 hb3 hg hiff)
  obtain ⟨w4, hw4⟩ : ∃ w4, w4 = w3.setCell ⟨q, 3, none⟩ (.slice A' rows.length c') := ⟨_, rfl⟩
  rw [← hw4]
  have hB4 : Below wB.heap.size wB w4 := by
    rw [hw4]
    refine Below.setCell ?_ (by show _ ≤ q; omega) _
    exact Below.grown (h2.out.alloc h2.out.size _) HG.out (h2.out.alloc h2.out.size _).size (fun k e => by have : k = w2.heap.size := (Option.some.inj e).symm; have := h2.out.size; omega)
  have hk4 : ∀ i, i ≠ 3 → w4.cell? ⟨q, i, none⟩ = w3.cell? ⟨q, i, none⟩ := fun i hi => by
    rw [hw4]
    exact World.cell?_setCell_other _ _ _ _ (fun e => by injection e with _ e; exact hi e.symm)
  have g0 : w4.cell? ⟨q, 0, none⟩ = some (.int .i64 code) := by rw [hk4 0 (by decide)]; simp [World.cell?, HK3.out]
  have g1 : w4.cell? ⟨q, 1, none⟩ = some (.string rval) := by rw [hk4 1 (by decide)]; simp [World.cell?, HK3.out]
  have g2 : w4.cell? ⟨q, 2, none⟩ = some (.bool found) := by rw [hk4 2 (by decide)]; simp [World.cell?, HK3.out]
  have g4 : w4.cell? ⟨q, 4, none⟩ = some (.int .i64 time) := by rw [hk4 4 (by decide)]; simp [World.cell?, HK3.out]
  have g5 : w4.cell? ⟨q, 5, none⟩ = some (.int .i64 n) := by rw [hk4 5 (by decide)]; simp [World.cell?, HK3.out]
  have g3' : w4.cell? ⟨q, 3, none⟩ = some (.slice A' rows.length c') := by rw [hw4]; first | exact World.cell?_setCell_same _ _ _ g3 | exact World.cell?_setCell_same _ _ g3 | exact World.cell?_setCell_same _ _ _ _ g3
  have hr4 : Rws w4 A' rows := by rw [hw4]; exact HR3.out.setCell _ _ (fun ad e => by have := HB3.out ad e; show q ≠ _; omega)
  have hq4 : q < w4.heap.size := by
    rw [hw4, World.size_setCell]
    exact (Array.getElem?_eq_some_iff.1 HK3.out).1
  clear hw4 g3 gf hk4 HK3 HR3 HB3 HG HQ1 HQ2 HRD h2 e3 hlt2 hqw
  have hbW := HBB.out.trans (hB4.mono HBB.out.size)
  have hW4 := hbW.size
  obtain ⟨Q, hQ⟩ : ∃ Q : ByteArray, Q = ⟨(replyB kind ⟨code, rval, found, rows, time, n⟩).toArray⟩ := ⟨_, rfl⟩
  have HR13 : Hid (Calls Tryz.prog 13 #[.agg #[.int .i64 kind, .int .i64 mode, .string key, .string high, .string val, .int .i64 draw, .int .i64 cn], .agg #[.int .i64 code, .string rval, .bool found, .slice A' rows.length c', .int .i64 time, .int .i64 n]] w4 fun e w' => e = .returned (.string Q) ∧ Below w4.heap.size w4 w') := Lib.hid (by
    rw [hQ]
    exact reply_any ⟨kind, mode, key, high, val, draw, cn⟩ ⟨code, rval, found, rows, time, n⟩ A' c' w4 (HST.out _ hbW) HRP.out hr4)
  have HR14 : Hid (∀ w, Below W.heap.size W w → Calls Tryz.prog 14 #[.agg #[.int .i64 kind, .int .i64 mode, .string key, .string high, .string val, .int .i64 draw, .int .i64 cn], .agg #[.int .i64 code, .string rval, .bool found, .slice A rows.length cp, .int .i64 time, .int .i64 n]] w fun e w' => e = .returned (.string Q) ∧ Below w.heap.size w w') := Lib.hid (fun w hb => by
    rw [hQ]
    exact dreply_any ⟨kind, mode, key, high, val, draw, cn⟩ ⟨code, rval, found, rows, time, n⟩ A cp w HRP.out (HRW.out w hb))
  clear hQ HRP
  have H0 : Hid (∀ w, Below w4.heap.size w4 w → w.cell? ⟨W.heap.size, 0, none⟩ = some (.int .i64 kind) ∧ w.cell? ⟨W.heap.size, 1, none⟩ = some (.int .i64 mode) ∧ w.cell? ⟨W.heap.size, 2, none⟩ = some (.string key) ∧ w.cell? ⟨W.heap.size, 3, none⟩ = some (.string high) ∧ w.cell? ⟨W.heap.size, 4, none⟩ = some (.string val) ∧ w.cell? ⟨W.heap.size, 5, none⟩ = some (.int .i64 draw) ∧ w.cell? ⟨W.heap.size, 6, none⟩ = some (.int .i64 cn)) := Lib.hid fun w hb => by
    have h := HC0.out w (hB4.trans (hb.mono hB4.size))
    refine ⟨?_, ?_, ?_, ?_, ?_, ?_, ?_⟩ <;> simp [World.cell?, h]
  have H1 : Hid (∀ w, Below w4.heap.size w4 w → w.cell? ⟨W.heap.size + 1, 0, none⟩ = some (.int .i64 code) ∧ w.cell? ⟨W.heap.size + 1, 1, none⟩ = some (.string rval) ∧ w.cell? ⟨W.heap.size + 1, 2, none⟩ = some (.bool found) ∧ w.cell? ⟨W.heap.size + 1, 3, none⟩ = some (.slice A rows.length cp) ∧ w.cell? ⟨W.heap.size + 1, 4, none⟩ = some (.int .i64 time) ∧ w.cell? ⟨W.heap.size + 1, 5, none⟩ = some (.int .i64 n)) := Lib.hid fun w hb => by
    have h := HC1.out w (hB4.trans (hb.mono hB4.size))
    refine ⟨?_, ?_, ?_, ?_, ?_, ?_⟩ <;> simp [World.cell?, h]
  have HQ3 : Hid (∀ w, Below w4.heap.size w4 w → w.cell? ⟨q, 3, none⟩ = some (.slice A' rows.length c')) := Lib.hid fun w hb => (World.cell?_of_block (a := ⟨q, 3, none⟩) (hb.block q hq4)).trans g3'
  have HRA : Hid (∀ w, Below w4.heap.size w4 w → Rws w A rows ∧ Rws w A' rows) := Lib.hid fun w hb => ⟨HRW.out w (hbW.trans (hb.mono hbW.size)), hr4.later hb (Nat.le_refl _)⟩
  have HBW := Lib.hid hbW
  obtain ⟨d0, d1, d2, d3, d4, d5, d6⟩ := H0.out w4 (Below.refl _ _)
  clear hbW hr4 hB4 HC0 HC1 HRW HSN HST
  go_upto_region 5 with (first | (go_at_call 13; refine HR13.out.mono ?_; rintro e w5 ⟨rfl, hb5⟩; have HB5 := Lib.hid hb5; clear hb5 HR13))
  clear d0 d1 d2 d3 d4 d5 d6 g0 g1 g2 g3' g4 g5
  have HB0 := HB5
  go_wp2_with fail
  go_loopw [8] (fun i wr => ∃ k : Nat, k ≤ rows.length ∧ i = .int .i64 k ∧ Hid (Below w4.heap.size w4 wr)) (fun i _ => rows.length - (intOf i).toNat)
  case atStart => exact ⟨0, Nat.zero_le _, rfl, HB0⟩
  case round =>
    clear HB5 HB0
    obtain ⟨k, hk, rfl, HBR⟩ := hrel
    obtain ⟨f0, f1, f2, f3, f4, f5⟩ := H1.out wr HBR.out
    have hq3 := HQ3.out wr HBR.out
    by_cases hkl : k < rows.length
    · clear f0 f1 f2 f4 f5
      obtain ⟨p, hp⟩ : ∃ p, rows[k]? = some p := ⟨_, List.getElem?_eq_getElem hkl⟩
      obtain ⟨ad, u, rfl, hu, _, a0, a1, a2⟩ := (HRA.out _ HBR.out).1 k p hp
      obtain ⟨bd, v, rfl, hv, _, b0, b1, b2⟩ := (HRA.out _ HBR.out).2 k p hp
      have huk : ad.add (k * 3) = u := hu.symm
      have hvk : bd.add (k * 3) = v := hv.symm
      have hne := neq_rw p p
      rw [decide_eq_true rfl] at hne
      have k0 : (0 : Int) ≤ (k : Int) := Int.natCast_nonneg _
      have k1 : (k : Int) < (rows.length : Int) := by omega
      clear hp hu hv
      go_wp2_with fail
      go_quiet (fail)
      go_wp2_with fail
      exact ⟨⟨k + 1, by omega, by go_num, Lib.hid (Below.drewN HBR.out _)⟩, by simp [intOf]; omega⟩
    · obtain ⟨d0, d1, d2, d3, d4, d5, d6⟩ := H0.out wr HBR.out
      have HR := Lib.hid (HR14.out wr (HBW.out.trans (HBR.out.mono HBW.out.size)))
      go_wp2_with (first | (go_at_call 14; refine HR.out.mono ?_; rintro e w7 ⟨rfl, hb7⟩; have HB7 := Lib.hid hb7; clear hb7 HR))
      go_ret
      have hx := HBW.out.trans (HBR.out.mono HBW.out.size)
      exact ⟨rfl, hx.trans (HB7.out.mono hx.size)⟩
end Go.Proofs.YtkpofjfndokaeaaGreatDoor
