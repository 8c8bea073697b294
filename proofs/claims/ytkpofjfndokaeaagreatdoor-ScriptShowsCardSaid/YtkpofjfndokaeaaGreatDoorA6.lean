/- script.rightCall: the walk. -/
import Derived.Test.YtkpofjfndokaeaaGreatDoorA5
namespace Go.Proofs.YtkpofjfndokaeaaGreatDoor
open Go.RowKit
attribute [local go_sem] run_store_func run_store_nilFunc neq_func neq_nilFunc
set_option linter.unusedVariables false
set_option linter.unusedSimpArgs false

/-- Behind n rounds of rightCall. -/
structure RS (W wr : World) (c : Cl) (A : Option Addr) (fs : List Fd) (R n : Nat) : Prop where
  below : Below W.heap.size W wr
  main : ClAt wr W.heap.size c
  rest : ClAt wr R ((fs.take n).foldl Cl.clear c)
  row : ∀ j f, fs[j]? = some f → ∃ b, A = some ⟨b, 0, none⟩ ∧ W.heap.size < b ∧ b < R ∧ wr.cell? ⟨b, j * 2, none⟩ = some f.txt ∧ wr.cell? ⟨b, j * 2 + 1, none⟩ = some f.num
  okk : (fs.take n).all (Fd.ok c) = true
  lo : W.heap.size < R

theorem RS.alloc {W wr : World} {c : Cl} {A : Option Addr} {fs : List Fd} {R n : Nat} (h : RS W wr c A fs R n) (o : Obj) : RS W (wr.alloc o) c A fs R n := by
  have hR := h.rest.lt
  have hb := (Below.refl wr.heap.size wr).alloc (Nat.le_refl _) o
  refine ⟨h.below.alloc h.below.size o, h.main.go hb h.main.lt, h.rest.go hb hR, fun j f hj => ?_, h.okk, h.lo⟩
  obtain ⟨b, hA, h1, h2, h3, h4⟩ := h.row j f hj
  have e := hb.block b (by omega)
  exact ⟨b, hA, h1, h2, (World.cell?_of_block (a := ⟨b, j * 2, none⟩) e).trans h3, (World.cell?_of_block (a := ⟨b, j * 2 + 1, none⟩) e).trans h4⟩

theorem RS.step {W wr : World} {c : Cl} {A : Option Addr} {fs : List Fd} {R n : Nat} (h : RS W wr c A fs R n) {f : Fd} (hf : fs[n]? = some f) (hok : f.ok c = true) :
    RS W (wr.setCell ⟨R, f.off, none⟩ (if f.isTxt then .string ⟨#[]⟩ else .int .i64 0)) c A fs R (n + 1) := by
  have hlt := (List.getElem?_eq_some_iff.1 hf)
  have htk : fs.take (n + 1) = fs.take n ++ [f] := by rw [List.take_succ_eq_append_getElem hlt.1, hlt.2]
  refine ⟨h.below.setCell (p := ⟨R, f.off, none⟩) (Nat.le_of_lt h.lo) _, h.main.other _ _ (Nat.ne_of_lt h.lo), ?_, fun j g hj => ?_, ?_, h.lo⟩
  · rw [htk, List.foldl_append]; exact h.rest.clear f
  · obtain ⟨b, hA, h1, h2, h3, h4⟩ := h.row j g hj
    have e : (wr.setCell ⟨R, f.off, none⟩ (if f.isTxt then .string ⟨#[]⟩ else .int .i64 0)).heap[b]? = wr.heap[b]? := Below.heap_setCell _ _ _ _ (Nat.ne_of_lt h2)
    exact ⟨b, hA, h1, h2, (World.cell?_of_block (a := ⟨b, j * 2, none⟩) e).trans h3, (World.cell?_of_block (a := ⟨b, j * 2 + 1, none⟩) e).trans h4⟩
  · rw [htk, List.all_append, h.okk]; simp [hok]

set_option maxRecDepth 100000 in
set_option maxHeartbeats 8000000 in
theorem rightCall_no (c : Cl) (hk : ¬ kindOk c.kind) (W : World) : Calls Tryz.prog 38 #[c.v] W fun e w' => e = .returned (.bool false) ∧ Below W.heap.size W w' := by
  have HF : Hid (∀ w, Calls Tryz.prog 34 #[.int .i64 c.kind] w fun e w' => e = .returned (.tuple #[.string ⟨#[]⟩, .agg #[.int .i64 0, .slice none 0 0]]) ∧ Below w.heap.size w w') := Lib.hid fun w => formOf_no c.kind hk w
  clear hk
  have hb0 := (Below.refl W.heap.size W).alloc (Nat.le_refl _) (.cells c.cells 25)
  have hca := ClAt.fresh W c
  unfold Cl.v
  unfold Cl.cells at hb0 hca
  go_enter Tryz.func38, Tryz.ntmps38
  go_wp2_with (first | (go_at_call 34; refine (HF.out _).mono ?_; rintro e w1 ⟨rfl, hb1⟩; rw [World.size_alloc] at hb1; have hc1 := hca.go hb1 (Nat.lt_succ_self _); have hlt := hc1.lt; obtain ⟨c0, c1, c2, c3, c4, c5, c6⟩ := hc1.facts))
  have hbw : Hid (Below W.heap.size W ((w1.alloc (.cells #[.int .i64 0, .slice none 0 0] 68)).alloc (.cells c.cells 25))) := Lib.hid (((hb0.trans (hb1.mono (Nat.le_succ _))).alloc (by omega) _).alloc (by rw [World.size_alloc]; omega) _)
  go_loopw [19] (fun j wr => j = .int .i64 0 ∧ Hid (Below W.heap.size W wr)) (fun _ _ => 0)
  case atStart => exact ⟨rfl, hbw⟩
  case round =>
    obtain ⟨rfl, hbr⟩ := hrel
    go_wp2
    go_ret
    exact ⟨rfl, hbr.out⟩

set_option maxRecDepth 100000 in
set_option maxHeartbeats 8000000 in
theorem rightCall_yes (c : Cl) (i : Nat) (hi : i < 11) (hk : c.kind = ((i + 1 : Nat) : Int)) (W : World) : Calls Tryz.prog 38 #[c.v] W fun e w' => e = .returned (.bool (rcall c)) ∧ Below W.heap.size W w' := by
  have HF : Hid (∀ w, Calls Tryz.prog 34 #[.int .i64 c.kind] w fun e w' => ∃ A, e = .returned (.tuple #[.string (nameOf (i + 1)), .agg #[.int .i64 ((i + 1 : Nat) : Int), .slice A (flds (i + 1)).length (flds (i + 1)).length]]) ∧
      Below w.heap.size w w' ∧ FRow w' w.heap.size (.slice A (flds (i + 1)).length (flds (i + 1)).length) (flds (i + 1))) := Lib.hid fun w => by rw [hk]; exact formOf_ok i hi w
  have HK := Lib.hid hk
  clear hk
  have hb0 := (Below.refl W.heap.size W).alloc (Nat.le_refl _) (.cells c.cells 25)
  have hca := ClAt.fresh W c
  unfold Cl.v
  unfold Cl.cells at hb0 hca
  go_enter Tryz.func38, Tryz.ntmps38
  go_wp2_with (first | (go_at_call 34; refine (HF.out _).mono ?_; rintro e w1 ⟨A, rfl, hb1, hrow⟩; rw [World.size_alloc] at hb1 hrow; have hc1 := hca.go hb1 (Nat.lt_succ_self _); have hlt := hc1.lt; obtain ⟨c0, c1, c2, c3, c4, c5, c6⟩ := hc1.facts))
  have hbw := (((hb0.trans (hb1.mono (Nat.le_succ _))).alloc (by omega) (.cells #[.int .i64 ((i : Int) + 1), .slice A (flds (i + 1)).length (flds (i + 1)).length] 68)).alloc (by rw [World.size_alloc]; omega) (.cells c.cells 25))
  have hrs : RS W ((w1.alloc (.cells #[.int .i64 ((i : Int) + 1), .slice A (flds (i + 1)).length (flds (i + 1)).length] 68)).alloc (.cells c.cells 25)) c A (flds (i + 1)) (w1.heap.size + 1) 0 := by
    have hb2 := (Below.refl w1.heap.size w1).alloc (Nat.le_refl _) (.cells #[.int .i64 ((i : Int) + 1), .slice A (flds (i + 1)).length (flds (i + 1)).length] 68)
    have hb3 := hb2.alloc (by rw [World.size_alloc]; omega) (.cells c.cells 25)
    refine ⟨hbw, hc1.go hb3 hlt, ?_, fun j f hj => ?_, rfl, by omega⟩
    · have := ClAt.fresh (w1.alloc (.cells #[.int .i64 ((i : Int) + 1), .slice A (flds (i + 1)).length (flds (i + 1)).length] 68)) c
      rwa [World.size_alloc] at this
    · obtain ⟨A', hA', hr⟩ := hrow
      obtain rfl : A = A' := by injection hA'
      obtain ⟨b, hA, h1, h2, h3, h4⟩ := hr j f hj
      have e := hb3.block b h2
      exact ⟨b, hA, by omega, by omega, (World.cell?_of_block (a := ⟨b, j * 2, none⟩) e).trans h3, (World.cell?_of_block (a := ⟨b, j * 2 + 1, none⟩) e).trans h4⟩
  have HRS := Lib.hid hrs
  generalize hfs : flds (i + 1) = fs at *
  have hN : fs.length ≤ 3 := by
    have : i = 0 ∨ i = 1 ∨ i = 2 ∨ i = 3 ∨ i = 4 ∨ i = 5 ∨ i = 6 ∨ i = 7 ∨ i = 8 ∨ i = 9 ∨ i = 10 := by omega
    rw [← hfs]
    rcases this with rfl | rfl | rfl | rfl | rfl | rfl | rfl | rfl | rfl | rfl | rfl <;> decide
  have HFS := Lib.hid hfs
  have hnm := nameOf_list i hi
  have hne : (nameOf (i + 1)).toList.isEmpty = false := by rw [Bool.eq_false_iff]; intro h; exact hnm (List.isEmpty_iff.1 h)
  obtain ⟨R, hR⟩ : ∃ R, R = w1.heap.size + 1 := ⟨_, rfl⟩
  rw [← hR] at HRS
  rw [← hR]
  have hRlt : W.heap.size < R := by omega
  clear hfs hrs hbw hrow hb0 hb1 hca hc1 hR c0 c1 c2 c3 c4 c5 c6 HF hlt
  go_loopw [19] (fun j wr => ∃ n : Nat, n ≤ fs.length ∧ j = .int .i64 n ∧ Hid (RS W wr c A fs R n)) (fun j _ => fs.length - (intOf j).toNat)
  case atStart => exact ⟨0, Nat.zero_le _, rfl, HRS⟩
  case round =>
    clear HRS
    obtain ⟨n, hn, rfl, HRS⟩ := hrel
    obtain ⟨c0, c1, c2, c3, c4, c5, c6⟩ := HRS.out.main.facts
    have hlt := HRS.out.rest.lt
    have hlt0 := HRS.out.main.lt
    have hrest := HRS.out.rest
    obtain ⟨d0, d1, d2, d3, d4, d5, d6⟩ := hrest.facts
    by_cases hlt2 : n < fs.length
    · obtain ⟨f, hf⟩ : ∃ f, fs[n]? = some f := ⟨fs[n], List.getElem?_eq_getElem hlt2⟩
      obtain ⟨b, rfl, hb1, hb2, hc1, hc2⟩ := HRS.out.row n f hf
      have HFE := Lib.hid hf
      have hfz := hrest.frozen f.off
      have hblt : b < wr.heap.size := by omega
      have HNO : Hid (f.ok c = false → rcall c = false) := Lib.hid fun h => by
        unfold rcall
        rw [HK.out, Int.toNat_natCast, HFS.out, show fs.all (Fd.ok c) = false from by
          rw [Bool.eq_false_iff]; intro ha
          rw [List.all_eq_true.1 ha f (List.mem_of_getElem? HFE.out)] at h; cases h]
        simp
      clear hrest hf
      cases f with
      | key =>
        simp only [Fd.txt, Fd.num, Fd.off] at hc1 hc2 hfz
        by_cases hok : c.key.size ≤ 80
        · have hst := HRS.out.step HFE.out (by simp [Fd.ok, hok])
          go_wp2
          exact ⟨⟨n + 1, by omega, by go_num, Lib.hid (hst.alloc _)⟩, by simp [intOf]; omega⟩
        · have hno := HNO.out (by simp [Fd.ok, hok])
          go_wp2
          go_ret
          exact ⟨by rw [hno]; rfl, (HRS.out.below.alloc HRS.out.below.size _)⟩
      | high =>
        simp only [Fd.txt, Fd.num, Fd.off] at hc1 hc2 hfz
        by_cases hok : c.high.size ≤ 80
        · have hst := HRS.out.step HFE.out (by simp [Fd.ok, hok])
          go_wp2
          exact ⟨⟨n + 1, by omega, by go_num, Lib.hid (hst.alloc _)⟩, by simp [intOf]; omega⟩
        · have hno := HNO.out (by simp [Fd.ok, hok])
          go_wp2
          go_ret
          exact ⟨by rw [hno]; rfl, (HRS.out.below.alloc HRS.out.below.size _)⟩
      | val =>
        simp only [Fd.txt, Fd.num, Fd.off] at hc1 hc2 hfz
        by_cases hok : c.val.size ≤ 80
        · have hst := HRS.out.step HFE.out (by simp [Fd.ok, hok])
          go_wp2
          exact ⟨⟨n + 1, by omega, by go_num, Lib.hid (hst.alloc _)⟩, by simp [intOf]; omega⟩
        · have hno := HNO.out (by simp [Fd.ok, hok])
          go_wp2
          go_ret
          exact ⟨by rw [hno]; rfl, (HRS.out.below.alloc HRS.out.below.size _)⟩
      | mode =>
        simp only [Fd.txt, Fd.num, Fd.off] at hc1 hc2 hfz
        by_cases hok : -2147483648 ≤ c.mode ∧ c.mode ≤ 2147483647
        · have hst := HRS.out.step HFE.out (by simp [Fd.ok, int32B, hok])
          have hw : (c.mode != wrap64 (wrap32 c.mode)) = false := by rw [bne_eq_false_iff_eq]; unfold wrap64 wrap32; omega
          go_wp2
          all_goals exact ⟨⟨n + 1, by omega, by go_num, Lib.hid (hst.alloc _)⟩, by simp [intOf]; omega⟩
        · have hno := HNO.out (by simp only [Fd.ok, int32B]; exact decide_eq_false hok)
          have hw : (c.mode != wrap64 (wrap32 c.mode)) = true := by rw [bne_iff_ne]; unfold wrap64 wrap32; omega
          go_wp2
          go_ret
          exact ⟨by rw [hno]; rfl, (HRS.out.below.alloc HRS.out.below.size _)⟩
      | draw =>
        simp only [Fd.txt, Fd.num, Fd.off] at hc1 hc2 hfz
        by_cases hok : -2147483648 ≤ c.draw ∧ c.draw ≤ 2147483647
        · have hst := HRS.out.step HFE.out (by simp [Fd.ok, int32B, hok])
          have hw : (c.draw != wrap64 (wrap32 c.draw)) = false := by rw [bne_eq_false_iff_eq]; unfold wrap64 wrap32; omega
          go_wp2
          all_goals exact ⟨⟨n + 1, by omega, by go_num, Lib.hid (hst.alloc _)⟩, by simp [intOf]; omega⟩
        · have hno := HNO.out (by simp only [Fd.ok, int32B]; exact decide_eq_false hok)
          have hw : (c.draw != wrap64 (wrap32 c.draw)) = true := by rw [bne_iff_ne]; unfold wrap64 wrap32; omega
          go_wp2
          go_ret
          exact ⟨by rw [hno]; rfl, (HRS.out.below.alloc HRS.out.below.size _)⟩
      | n =>
        simp only [Fd.txt, Fd.num, Fd.off] at hc1 hc2 hfz
        by_cases hok : -2147483648 ≤ c.n ∧ c.n ≤ 2147483647
        · have hst := HRS.out.step HFE.out (by simp [Fd.ok, int32B, hok])
          have hw : (c.n != wrap64 (wrap32 c.n)) = false := by rw [bne_eq_false_iff_eq]; unfold wrap64 wrap32; omega
          go_wp2
          all_goals exact ⟨⟨n + 1, by omega, by go_num, Lib.hid (hst.alloc _)⟩, by simp [intOf]; omega⟩
        · have hno := HNO.out (by simp only [Fd.ok, int32B]; exact decide_eq_false hok)
          have hw : (c.n != wrap64 (wrap32 c.n)) = true := by rw [bne_iff_ne]; unfold wrap64 wrap32; omega
          go_wp2
          go_ret
          exact ⟨by rw [hno]; rfl, (HRS.out.below.alloc HRS.out.below.size _)⟩
    · have hnf : n = fs.length := by omega
      have hB : rcall c = decide ((fs.take n).foldl Cl.clear c = Cl.zero c.kind) := by
        have ho := HRS.out.okk
        rw [hnf, List.take_length] at ho ⊢
        unfold rcall
        rw [HK.out, Int.toNat_natCast, HFS.out, ho, decide_eq_true (by omega : (1 : Int) ≤ ((i + 1 : Nat) : Int) ∧ ((i + 1 : Nat) : Int) ≤ 11)]
        simp
      have heql := fun w => eql_cl ((fs.take n).foldl Cl.clear c) (Cl.zero c.kind) w
      rw [← hB] at heql
      unfold Cl.v Cl.zero at heql
      generalize (fs.take n).foldl Cl.clear c = x at *
      generalize hz : rcall c = B at *
      clear hB hnf
      cases B
      all_goals
        go_wp2
        go_ret
        exact ⟨by first | rfl | simp [hne], HRS.out.below⟩

theorem rightCall_any (c : Cl) (W : World) : Calls Tryz.prog 38 #[c.v] W fun e w' => e = .returned (.bool (rcall c)) ∧ Below W.heap.size W w' := by
  by_cases hk : kindOk c.kind
  · obtain ⟨h1, h2⟩ := hk
    obtain ⟨i, hi⟩ := Int.eq_ofNat_of_zero_le (show 0 ≤ c.kind - 1 by omega)
    exact rightCall_yes c i (by omega) (by omega) W
  · have : rcall c = false := by
      unfold rcall
      rw [decide_eq_false (show ¬ (1 ≤ c.kind ∧ c.kind ≤ 11) from hk)]; simp
    rw [this]
    exact rightCall_no c hk W
end Go.Proofs.YtkpofjfndokaeaaGreatDoor
