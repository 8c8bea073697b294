/- script.Reply of rows: the walk. -/
import Derived.Test.YtkpofjfndokaeaaGreatDoorR1
import Derived.Deep.DeepCutAuto
namespace Go.Proofs.YtkpofjfndokaeaaGreatDoor
open Go.RowKit
set_option linter.unusedVariables false
set_option linter.unusedSimpArgs false

theorem LS.nil (wB : World) : LS wB [] (.slice none 0 0) wB := ⟨⟨rfl, .inl ⟨rfl, rfl⟩⟩, Below.refl _ _⟩
theorem LS.two {wB : World} {ts : List (List UInt8)} {v : Value} {wr w' : World} (h : LS wB ts v wr) (a b : List UInt8) {v' : Value} {n : Nat} (hn : n = ts.length + 2) {cs : List Value} (hc : cs = ts.map strv ++ [strv a, strv b])
    (hown : w'.ownsRow wB.heap.size 9 1 v' n cs) (hg : wr.grownBy w' v.ownBlock) : LS wB (ts ++ [a, b]) v' w' := by
  subst hn; subst hc
  refine ⟨?_, h.below.grown hg h.below.size (fun k e => (h.own.lt k e).1)⟩
  simpa using hown
theorem LS.v {wB : World} {ts : List (List UInt8)} {v : Value} {wr : World} (h : LS wB ts v wr) : ∃ A cap, v = .slice A ts.length cap := by
  rcases h.own.2 with ⟨h1, h2⟩ | ⟨g, cap, cur, hv, _⟩
  · exact ⟨none, 0, by rw [h1, h2]⟩
  · exact ⟨_, _, hv⟩

theorem keep_after {w6 w7 : World} {o : Obj} {row : Option Nat} {b j : Nat} {x : Value} (hg : (w6.alloc o).grownBy w7 row) (hlt : b < w6.heap.size) (hne : row ≠ some b) (h : w6.cell? ⟨b, j, none⟩ = some x) : w7.cell? ⟨b, j, none⟩ = some x := by
  rw [hg.cell_far ⟨b, j, none⟩ (by rw [World.size_alloc]; show b < _; omega) (Ne.symm hne)]
  exact (World.cell?_of_block (a := ⟨b, j, none⟩) (((Below.refl w6.heap.size w6).alloc (Nat.le_refl _) o).block b hlt)).trans h

set_option maxRecDepth 100000 in
set_option maxHeartbeats 4000000 in
theorem reply_rows (c : Cl) (r : Rp) (A : Option Addr) (cp : Nat) (W : World) (hs : St W) (hr : RpOk r) (hc : r.code = 0) (hk : c.kind = 3) (hrows : Rws W A r.rows) :
    Calls Tryz.prog 13 #[c.v, r.v A cp] W fun e w' => e = .returned (.string ⟨(replyB c.kind r).toArray⟩) ∧ Below W.heap.size W w' := by
  have HE := Lib.hid (reply_scan hc hk)
  obtain ⟨kind, mode, key, high, val, draw, cn⟩ := c
  obtain ⟨code, rval, found, rows, time, n⟩ := r
  obtain ⟨hc0, hc1, ht0, ht1, hn0, hn1, hv, hl, hb⟩ := hr
  simp only at hc0 hc1 ht0 ht1 hn0 hn1 hv hl hb hc hk HE hrows
  subst hc; subst hk
  obtain ⟨i0, hi, hz0, hz1, hz2⟩ := info_parts (show (Tryz.prog.info? 9).map (fun i => (i.zero, i.size, i.bytes)) = some (some (.string ByteArray.empty), 1, 16) by kernel_rfl)
  have HQ : Hid (∀ (s : ByteArray), s.size ≤ 1048576 → ∀ w, Calls Tryz.prog 25 #[.string s] w fun e w' => e = .returned (.string ⟨(quoB s).toArray⟩) ∧ Below w.heap.size w w') := Lib.hid fun s hs w => quoteB_any s (by omega) w
  obtain ⟨wB, hwB⟩ : ∃ wB, wB = (W.alloc (.cells (Cl.mk 3 mode key high val draw cn).cells 25)).alloc (.cells #[.int .i64 0, .string rval, .bool found, .slice A rows.length cp, .int .i64 time, .int .i64 n] 35) := ⟨_, rfl⟩
  have hbB : Below W.heap.size W wB := by
    have hb1 := (Below.refl W.heap.size W).alloc (Nat.le_refl _) (.cells (Cl.mk 3 mode key high val draw cn).cells 25)
    rw [hwB]
    exact hb1.alloc hb1.size _
  have hBs : W.heap.size ≤ wB.heap.size := hbB.size
  have HBB := Lib.hid hbB
  have HRW : Hid (∀ w, Below wB.heap.size wB w → Rws w A rows) := Lib.hid fun w h => hrows.later (hbB.trans (h.mono hbB.size)) (Nat.le_refl _)
  have HSM : Hid (∀ p ∈ rows, p.key.size ≤ 1048576 ∧ p.val.size ≤ 1048576) := Lib.hid fun p hp => by have := rowBulk_mem hp; omega
  have HL := Lib.hid (rowTs_snoc rows)
  have HLS := Lib.hid (LS.nil wB)
  clear hbB hrows hs
  unfold Cl.cells at hwB
  unfold Cl.v Rp.v
  go_enter Tryz.func13, Tryz.ntmps13
  go_upto_region 11 with fail
  rw [← hwB]
  clear hwB
  go_loopw [5, 29] (fun v i wr => ∃ k : Nat, k ≤ rows.length ∧ i = .int .i64 k ∧ Hid (LS wB (rowTs (rows.take k)) v wr)) (fun _ i _ => rows.length - (intOf i).toNat)
  case atStart => exact ⟨0, Nat.zero_le _, rfl, HLS⟩
  case round =>
    clear HLS
    obtain ⟨k, hk, rfl, HLS⟩ := hrel
    by_cases hkl : k < rows.length
    · obtain ⟨p, hp⟩ : ∃ p, rows[k]? = some p := ⟨_, List.getElem?_eq_getElem hkl⟩
      obtain ⟨ad, q, rfl, hq, hql, q0, q1, q2⟩ := HRW.out wr HLS.out.below k p hp
      have hqk : ad.add (k * 3) = q := hq.symm
      obtain ⟨hp1, hp2⟩ := HSM.out p (List.mem_of_getElem? hp)
      have hsn := HL.out k p hp
      have HSN := Lib.hid hsn
      have htl : (rowTs (rows.take k)).length ≤ 2097152 := by rw [rowTs_length, List.length_take]; omega
      generalize rowTs (rows.take k) = ts at *
      obtain ⟨pk, pv, pt⟩ := p
      simp only at q0 q1 q2 hp1 hp2 HSN
      have hwl := HLS.out.below.size
      obtain ⟨Av, cv, rfl⟩ := HLS.out.v
      have HS0 : Hid (∀ o, LS wB ts (.slice Av ts.length cv) (wr.alloc o).drew) := Lib.hid fun o => (HLS.out.alloc o).drew
      have hnb : (Value.slice Av ts.length cv).ownBlock ≠ some wr.heap.size := fun e => by have := (HLS.out.own.lt _ e).2; omega
      clear hsn hq hp
      go_upto_region 13 with fail
      go_region_held3 (fun w' => w'.cell? ⟨wr.heap.size, 0, none⟩ = some (.string pk) ∧ w'.cell? ⟨wr.heap.size, 1, none⟩ = some (.string pv)) (first | go_keep | exact ⟨z0, z1⟩ | exact ⟨keep_after hg7 hl6 hnb z0, keep_after hg7 hl6 hnb z1⟩) (first | (refine step_append_lies _ (by rfl) _ _ _ (by rfl) wB.heap.size 9 i0 _ 1 16 Tryz.underlying43 hi hz0 hz1 hz2 rfl (by decide) (.slice Av ts.length cv) ts.length (ts.map strv) (by rfl) (HS6.out.own.alloc _) ⟨w6.heap.size, 0, none⟩ 2 2 [.string ⟨(quoB pk).toArray⟩, .string ⟨(quoB pv).toArray⟩] (by rfl) (by rfl) (World.news_of_block (cs := #[.string ⟨(quoB pk).toArray⟩, .string ⟨(quoB pv).toArray⟩]) (t := 9) (fr := (0, 0)) (heap_alloc_new w6 _)) (by simp [Value.oneCell']) (by decide) (by unfold maxLen; omega) (by omega) (by rw [World.size_alloc]; have := HS6.out.below.size; omega) (w6.heap.size + 1) (by simp) ?_; intro gg cap w7 hown7 hg7 hat7 hlt7) | (go_at_call 25; (with_reducible refine (HQ.out _ (by assumption) w5).mono ?_); rintro e w6 ⟨rfl, hb6⟩; have HS6 := Lib.hid (HS5.out.later hb6); have z0 := (World.cell?_of_block (a := ⟨wr.heap.size, 0, none⟩) (hb6.block _ hl5)).trans z0; have z1 := (World.cell?_of_block (a := ⟨wr.heap.size, 1, none⟩) (hb6.block _ hl5)).trans z1; have hl6 : wr.heap.size < w6.heap.size := Nat.lt_of_lt_of_le hl5 hb6.size; clear hb6) | (go_at_call 25; refine (HQ.out _ (by assumption) _).mono ?_; rintro e w5 ⟨rfl, hb5⟩; have HS5 := Lib.hid ((HS0.out _).later hb5); have z0 := cell_ad hb5 0; have z1 := cell_ad hb5 1; simp only [List.getElem?_toArray, List.getElem?_cons_zero, List.getElem?_cons_succ] at z0 z1; have hl5 : wr.heap.size < w5.heap.size := Nat.lt_of_lt_of_le (by show _ < (wr.alloc _).heap.size; rw [World.size_alloc]; exact Nat.lt_succ_self _) hb5.size; clear hb5))
      all_goals go_wp2_with fail
      all_goals exact ⟨⟨k + 1, by omega, by go_num, Lib.hid (by rw [HSN.out]; exact (HS6.out.alloc _).two _ _ rfl rfl hown7 hg7)⟩, by simp [intOf]; omega⟩
    · have hkr : k = rows.length := by omega
      have hls := HLS.out
      rw [hkr, List.take_length] at hls
      have hjb := rowTs_bulk rows
      have hrl := rowTs_length rows
      have HLE := Lib.hid HE.out
      obtain ⟨Av, cv, rfl⟩ := HLS.out.v
      rw [hkr, List.take_length]
      by_cases h0 : rows = []
      · have he : (if rows = [] then ([110, 111, 110, 101] : List UInt8) else Lib.join (rowTs rows) [32]) = [110, 111, 110, 101] := if_pos h0
        rw [he] at HLE
        have HB2 := Lib.hid (HBB.out.trans (hls.below.mono hBs))
        have hl0 : (rowTs rows).length = 0 := by rw [hrl, h0]; rfl
        have HL0 := Lib.hid hl0
        rw [hl0]
        clear he hls hkr hjb hrl h0 hl0
        go_wp2_with fail
        go_ret
        exact ⟨by rw [HLE.out]; rfl, HB2.out⟩
      · have he : (if rows = [] then ([110, 111, 110, 101] : List UInt8) else Lib.join (rowTs rows) [32]) = Lib.join (rowTs rows) [32] := if_neg h0
        rw [he] at HLE
        have HB2 := Lib.hid (HBB.out.trans (hls.below.mono hBs))
        have hpos : 0 < (rowTs rows).length := by
          rw [hrl]
          have : rows.length ≠ 0 := fun e => h0 (List.length_eq_zero_iff.1 e)
          omega
        have htl : (rowTs rows).length ≤ 2097152 := by omega
        have hjj : (Lib.join (rowTs rows) [32]).length ≤ 140737488355328 := by omega
        generalize rowTs rows = ts at *
        obtain ⟨g, cap, hg0, hg, hcap, hcells⟩ := hls.join hpos
        injection hg0 with hg1 _ hg3
        subst hg1; subst hg3
        have hjc := Tryz.strings_Join g 0 cv (ts.map fun t => (⟨t.toArray⟩ : ByteArray)) ⟨#[32]⟩ wr hcells hg (by rw [List.length_map]; omega) (by rw [List.length_map]; exact hcap) (by rw [List.map_map, ts_back]; exact hjj)
        rw [List.length_map, List.map_map, ts_back] at hjc
        have hl0 : ((ts.length : Int) == 0) = false := by rw [beq_eq_false_iff_ne]; omega
        clear he hls hkr hjb hrl h0 hjj hcells
        go_wp2_with (first | (go_at_call 26; refine hjc.mono ?_; rintro e w7 ⟨rfl, hb7⟩; have HB7 := Lib.hid hb7; clear hb7))
        go_ret
        exact ⟨by rw [HLE.out]; rfl, HB2.out.trans (HB7.out.mono HB2.out.size)⟩
end Go.Proofs.YtkpofjfndokaeaaGreatDoor
