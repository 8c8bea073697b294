/- script.rightEvent, all kinds; events that lie in a row; script.Right. -/
import Derived.Test.YtkpofjfndokaeaaGreatDoorA8
import Derived.Test.YtkpofjfndokaeaaGreatDoorA9
import Derived.Deep.LoopGhost
namespace Go.Proofs.YtkpofjfndokaeaaGreatDoor
open Go.RowKit
set_option linter.unusedVariables false
set_option linter.unusedSimpArgs false

theorem revent_any (x : Ev) (W : World) : Calls Tryz.prog 22 #[x.v] W fun e w' => e = .returned (.bool (revent x)) ∧ Below W.heap.size W w' := by
  by_cases h : 1 ≤ x.kind ∧ x.kind ≤ 5
  · have hk : x.kind = 1 ∨ x.kind = 2 ∨ x.kind = 3 ∨ x.kind = 4 ∨ x.kind = 5 := by omega
    rcases hk with hk | hk | hk | hk | hk
    · exact revent_1 x hk W
    · exact revent_2 x hk W
    · exact revent_3 x hk W
    · exact revent_4 x hk W
    · exact revent_5 x hk W
  · exact revent_none x h W

/-- A slice of events that reads as a list. -/
def Evs (w : World) (A : Option Addr) (l : List Ev) : Prop := ∀ j x, l[j]? = some x → ∃ ad, A = some ad ∧ ad.block < w.heap.size ∧ ∀ i (hi : i < x.cells.size), w.cell? (ad.add (j * 11 + i)) = some x.cells[i]

theorem addr_blk (a : Addr) (k : Nat) : (a.add k).block = a.block := by unfold Addr.add; split <;> rfl
theorem Evs.later {w w' : World} {A : Option Addr} {l : List Ev} {n : Nat} (h : Evs w A l) (hb : Below n w w') (hn : w.heap.size ≤ n) : Evs w' A l := fun j x hj => by
  obtain ⟨ad, e, hl, hc⟩ := h j x hj
  refine ⟨ad, e, Nat.lt_of_lt_of_le hl hb.size, fun i hi => ?_⟩
  rw [World.cell?_of_block (a := ad.add (j * 11 + i)) (hb.block _ (by rw [addr_blk]; omega))]
  exact hc i hi
theorem Evs.facts {w : World} {A : Option Addr} {l : List Ev} (h : Evs w A l) {j : Nat} {x : Ev} (hj : l[j]? = some x) : ∃ ad p, A = some ad ∧ p = ad.add (j * 11) ∧ p.block < w.heap.size ∧
    w.cell? p = some (.int .i64 x.kind) ∧ w.cell? ⟨p.block, p.off + 1, none⟩ = some (.int .i64 x.w) ∧ w.cell? ⟨p.block, p.off + 2, none⟩ = some (.int .i64 x.call.kind) ∧ w.cell? ⟨p.block, p.off + 3, none⟩ = some (.int .i64 x.call.mode) ∧
    w.cell? ⟨p.block, p.off + 4, none⟩ = some (.string x.call.key) ∧ w.cell? ⟨p.block, p.off + 5, none⟩ = some (.string x.call.high) ∧ w.cell? ⟨p.block, p.off + 6, none⟩ = some (.string x.call.val) ∧ w.cell? ⟨p.block, p.off + 7, none⟩ = some (.int .i64 x.call.draw) ∧ w.cell? ⟨p.block, p.off + 8, none⟩ = some (.int .i64 x.call.n) ∧
    w.cell? ⟨p.block, p.off + 9, none⟩ = some (.int .i64 x.n) ∧ w.cell? ⟨p.block, p.off + 10, none⟩ = some (.int .i64 x.tear) := by
  obtain ⟨ad, e, hl, hc⟩ := h j x hj
  have hs : ∀ i, 0 < i → ad.add (j * 11 + i) = ⟨(ad.add (j * 11)).block, (ad.add (j * 11)).off + i, none⟩ := fun i hi => by
    rw [← Addr.add_add]
    obtain ⟨i, rfl⟩ : ∃ k, i = k + 1 := ⟨i - 1, by omega⟩
    rfl
  refine ⟨ad, _, e, rfl, by rw [addr_blk]; exact hl, hc 0 (show 0 < 11 by decide), ?_, ?_, ?_, ?_, ?_, ?_, ?_, ?_, ?_, ?_⟩
  · rw [← hs 1 (by decide)]; exact hc 1 (show 1 < 11 by decide)
  · rw [← hs 2 (by decide)]; exact hc 2 (show 2 < 11 by decide)
  · rw [← hs 3 (by decide)]; exact hc 3 (show 3 < 11 by decide)
  · rw [← hs 4 (by decide)]; exact hc 4 (show 4 < 11 by decide)
  · rw [← hs 5 (by decide)]; exact hc 5 (show 5 < 11 by decide)
  · rw [← hs 6 (by decide)]; exact hc 6 (show 6 < 11 by decide)
  · rw [← hs 7 (by decide)]; exact hc 7 (show 7 < 11 by decide)
  · rw [← hs 8 (by decide)]; exact hc 8 (show 8 < 11 by decide)
  · rw [← hs 9 (by decide)]; exact hc 9 (show 9 < 11 by decide)
  · rw [← hs 10 (by decide)]; exact hc 10 (show 10 < 11 by decide)

def right (l : List Ev) : Bool := l.all revent && decide (l.length ≤ 4096)

set_option maxRecDepth 100000 in
set_option maxHeartbeats 2000000 in
theorem right_any (A : Option Addr) (c : Nat) (l : List Ev) (W : World) (hI : Evs W A l) (hl : l.length ≤ 9223372036854775807) :
    Calls Tryz.prog 10 #[.slice A l.length c] W fun e w' => e = .returned (.bool (right l)) ∧ Below W.heap.size W w' := by
  have HI := Lib.hid hI
  have HR : Hid (∀ x w, Calls Tryz.prog 22 #[Ev.v x] w fun e w' => e = .returned (.bool (revent x)) ∧ Below w.heap.size w w') := Lib.hid fun x w => revent_any x w
  have hB : Hid (Below W.heap.size W W) := Lib.hid (Below.refl _ _)
  clear hI
  go_enter Tryz.func10, Tryz.ntmps10
  go_wp2_with fail
  go_loopw [7] (fun i wr => ∃ n : Nat, n ≤ l.length ∧ i = .int .i64 n ∧ Hid (Below W.heap.size W wr) ∧ Hid ((l.take n).all revent = true)) (fun i _ => l.length - (intOf i).toNat)
  case atStart => exact ⟨0, Nat.zero_le _, rfl, hB, Lib.hid rfl⟩
  case round =>
    obtain ⟨n, hn, rfl, hB, hA⟩ := hrel
    by_cases hlt : n < l.length
    · obtain ⟨x, hx⟩ : ∃ x, l[n]? = some x := ⟨l[n], List.getElem?_eq_getElem hlt⟩
      obtain ⟨ad, p, rfl, hp, hpb, c0, c1, c2, c3, c4, c5, c6, c7, c8, c9, c10⟩ := (HI.out.later hB.out (Nat.le_refl _)).facts hx
      have HP := Lib.hid hp
      have hbk : (ad.add (n * 11)) = p := hp.symm
      have hrx := HR.out x
      unfold Ev.v Ev.cells at hrx
      have hnx : (l.take (n + 1)).all revent = ((l.take n).all revent && revent x) := by
        rw [List.take_succ_eq_append_getElem hlt, List.all_append, show l[n] = x from Option.some.inj ((List.getElem?_eq_getElem hlt).symm.trans hx)]
        simp
      have HNX := Lib.hid hnx
      have HNO : Hid (revent x = false → right l = false) := Lib.hid fun h => by
        unfold right
        rw [show l.all revent = false from by
          rw [Bool.eq_false_iff]; intro ha
          rw [List.all_eq_true.1 ha x (List.mem_of_getElem? hx)] at h; cases h]
        rfl
      have hWs := hB.out.size
      clear hx hnx hp
      generalize revent x = rx at *
      cases rx with
      | true =>
        go_wp2_with (first | (go_at_call 22; refine (hrx _).mono ?_; rintro e w2 ⟨rfl, hb2⟩; rw [World.size_alloc] at hb2))
        have hbw : Below W.heap.size W w2 := (hB.out.alloc hWs _).trans (hb2.mono (by omega))
        refine ⟨⟨n + 1, by omega, by go_num, Lib.hid hbw, Lib.hid (by rw [HNX.out, hA.out]; rfl)⟩, by simp [intOf]; omega⟩
      | false =>
        have hno := HNO.out rfl
        go_wp2_with (first | (go_at_call 22; refine (hrx _).mono ?_; rintro e w2 ⟨rfl, hb2⟩; rw [World.size_alloc] at hb2))
        go_ret
        exact ⟨by rw [hno]; rfl, (hB.out.alloc hWs _).trans (hb2.mono (by omega))⟩
    · have hnl : n = l.length := by omega
      have hall : right l = decide (l.length ≤ 4096) := by
        have := hA.out
        rw [hnl, List.take_length] at this
        unfold right
        rw [this, Bool.true_and]
      have HALL := Lib.hid hall
      clear hall
      go_wp2
      go_ret
      exact ⟨by rw [HALL.out]; show Ending.returned (.bool (decide ((l.length : Int) ≤ 4096))) = _; congr 2; rw [decide_eq_decide]; omega, hB.out⟩
end Go.Proofs.YtkpofjfndokaeaaGreatDoor
