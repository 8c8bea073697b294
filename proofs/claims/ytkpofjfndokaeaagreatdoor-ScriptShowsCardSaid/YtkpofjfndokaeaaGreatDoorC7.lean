/- script.line, all kinds; script.Show: the walk. -/
import Derived.Test.YtkpofjfndokaeaaGreatDoorC4
import Derived.Test.YtkpofjfndokaeaaGreatDoorC6
namespace Go.Proofs.YtkpofjfndokaeaaGreatDoor
open Go.RowKit
set_option linter.unusedVariables false
set_option linter.unusedSimpArgs false

theorem line_any (x : Ev) (hr : revent x = true) (W : World) (hs : St W) : Calls Tryz.prog 18 #[x.v] W fun e w' => e = .returned (.string ⟨(lineB x).toArray⟩) ∧ Below W.heap.size W w' := by
  rcases (revent_bounds hr).1 with hk | hk | hk | hk | hk
  · exact line_1 x hk hr W hs
  · exact line_2 x hk hr W hs
  · exact line_3 x hk hr W hs
  · exact line_4 x hk hr W hs
  · exact line_5 x hk hr W hs

theorem lineB_le {x : Ev} (hr : revent x = true) : (lineB x).length ≤ 2005 := by
  obtain ⟨hk, hw1, hw2, hn1, hn2, ht1, ht2, hrc⟩ := revent_bounds hr
  have hlw := Lib.itoa_length_le x.w (by omega) (by omega)
  have hln := Lib.itoa_length_le x.n (by omega) (by omega)
  have hlt := Lib.itoa_length_le x.tear (by omega) (by omega)
  unfold lineB
  split
  · simp; omega
  · split
    · simp; omega
    · split
      · simp; omega
      · split
        · simp; omega
        · have hk1 : x.kind = 1 := by omega
          obtain ⟨⟨i, hi11, hci⟩, hok⟩ := rcall_kind (hrc hk1)
          have hfl := flds_le x.call.kind.toNat
          have hnl := nameOf_le x.call.kind.toNat
          refine Nat.le_trans (join_le [32] 400 _ ?_) ?_
          · intro t ht
            simp only [List.mem_cons, List.mem_map] at ht
            rcases ht with rfl | rfl | ⟨f, hf, rfl⟩
            · omega
            · omega
            · exact Fd.text_le (Fd.small_of (hok f hf))
          · simp only [List.length_cons, List.length_map, List.length_nil]
            omega

/-- Events as they are written. -/
def showB (l : List Ev) : List UInt8 := l.flatMap fun x => lineB x ++ [10]
theorem showB_snoc (l : List Ev) (n : Nat) (hn : n < l.length) : showB (l.take (n + 1)) = showB (l.take n) ++ (lineB l[n] ++ [10]) := by
  unfold showB
  rw [List.take_succ_eq_append_getElem hn, List.flatMap_append]
  simp
theorem showB_le : ∀ (l : List Ev), (∀ x ∈ l, revent x = true) → (showB l).length ≤ l.length * 2006
  | [], _ => by simp [showB]
  | x :: l, h => by
    have ih := showB_le l (fun y hy => h y (by simp [hy]))
    have hx := lineB_le (h x (by simp))
    unfold showB at ih ⊢
    simp only [List.flatMap_cons, List.length_append, List.length_cons, List.length_nil]
    omega

theorem builder_later {T e : TypeId} {B b : Nat} {bs : List Value} {w w' : World} {n : Nat} (h : Lib.IsBuilder T e B b bs w) (hb : Below n w w') (hn : w.heap.size ≤ n) : Lib.IsBuilder T e B b bs w' := by
  have key : ∀ p, Lib.BuilderAt T e B b p bs w → Lib.BuilderAt T e B b p bs w' := fun p hp => by
    obtain ⟨h1, v, h2, h3, h4⟩ := hp
    have hlt := (Array.getElem?_eq_some_iff.1 h2).1
    exact ⟨h1, v, (hb.block b (by omega)).trans h2, h3.kept (row := none) ⟨hb.os, hb.tape, hb.output, hb.size, fun k hk _ => hb.block k (by omega)⟩ (by cases h' : v.ownBlock; exact .inl rfl; exact .inr (by simp)), h4⟩
  exact h.imp (key _) (key _)

theorem wrote {sx lx : List UInt8} : Lib.byteCells sx ++ Lib.strCells ((⟨lx.toArray⟩ : ByteArray) ++ ⟨#[10]⟩) = Lib.byteCells (sx ++ (lx ++ [10])) := by
  have e : ((⟨lx.toArray⟩ : ByteArray) ++ ⟨#[10]⟩) = ⟨(lx ++ [10]).toArray⟩ := bapp lx [10]
  rw [e]
  unfold Lib.byteCells Lib.strCells
  simp only [List.map_append]

/-- What Show says. -/
def showR (l : List Ev) : List UInt8 × Int := if right l && decide ((showB l).length ≤ 65536) then (showB l, 0) else ([], 200)

set_option maxRecDepth 100000 in
set_option maxHeartbeats 4000000 in
theorem show_no (A : Option Addr) (c : Nat) (l : List Ev) (W : World) (hI : Evs W A l) (hl : l.length ≤ 9223372036854775807) (hr : right l = false) :
    Calls Tryz.prog 8 #[.slice A l.length c] W fun e w' => e = .returned (.tuple #[.string ⟨(showR l).1.toArray⟩, .int .i64 (showR l).2]) ∧ Below W.heap.size W w' := by
  have hR := right_any A c l W hI hl
  rw [hr] at hR
  have hS : showR l = ([], 200) := by unfold showR; simp [hr]
  rw [hS]
  clear hI hr hS
  go_enter Tryz.func8, Tryz.ntmps8
  go_wp2_with (first | (go_at_call 10; refine hR.mono ?_; rintro e w2 ⟨rfl, hb2⟩))
  go_ret2
  exact ⟨rfl, hb2⟩

set_option maxRecDepth 100000 in
set_option maxHeartbeats 4000000 in
theorem show_yes (A : Option Addr) (c : Nat) (l : List Ev) (W : World) (hs : St W) (hI : Evs W A l) (hl : l.length ≤ 9223372036854775807) (hr : right l = true) :
    Calls Tryz.prog 8 #[.slice A l.length c] W fun e w' => e = .returned (.tuple #[.string ⟨(showR l).1.toArray⟩, .int .i64 (showR l).2]) ∧ Below W.heap.size W w' := by
  have hR := right_any A c l W hI hl
  rw [hr] at hR
  have HI := Lib.hid hI
  have HLN : Hid (∀ x ∈ l, revent x = true) := Lib.hid (by unfold right at hr; simp only [Bool.and_eq_true, List.all_eq_true] at hr; exact hr.1)
  have hlen : l.length ≤ 4096 := by unfold right at hr; simp only [Bool.and_eq_true, decide_eq_true_eq] at hr; exact hr.2
  have HS : Hid (showR l = if (showB l).length ≤ 65536 then (showB l, 0) else ([], 200)) := Lib.hid (by unfold showR; rw [hr]; simp)
  have HLINE : Hid (∀ x, revent x = true → ∀ w, St w → Calls Tryz.prog 18 #[Ev.v x] w fun e w' => e = .returned (.string ⟨(lineB x).toArray⟩) ∧ Below w.heap.size w w') := Lib.hid fun x h w hw => line_any x h w hw
  have HST : Hid (∀ w', Below W.heap.size W w' → St w') := Lib.hid fun w' h => hs.later h
  clear hI hr
  go_enter Tryz.func8, Tryz.ntmps8
  go_wp2_with (first | (go_at_call 10; refine hR.mono ?_; rintro e w2 ⟨rfl, hb2⟩))
  have hfb := Lib.fresh_isBuilder 49 5 w2
  have hbA := hb2.alloc hb2.size (.cells #[.pointer none, .slice none 0 0] 49)
  obtain ⟨bk, hbk⟩ : ∃ bk, bk = w2.heap.size := ⟨_, rfl⟩
  rw [← hbk] at hfb
  rw [← hbk]
  have HB0 := Lib.hid hbA
  have HF := Lib.hid hfb
  have hWb : W.heap.size ≤ bk := by rw [hbk]; exact hb2.size
  clear hfb hbA hb2 hbk hR
  go_loopw [12] (fun i wr => ∃ n : Nat, n ≤ l.length ∧ i = .int .i64 n ∧ Hid (Below W.heap.size W wr) ∧ Hid (Lib.IsBuilder 49 5 bk bk (Lib.byteCells (showB (l.take n))) wr)) (fun i _ => l.length - (intOf i).toNat)
  case atStart => exact ⟨0, Nat.zero_le _, rfl, HB0, HF⟩
  case round =>
    clear HB0 HF
    obtain ⟨n, hn, rfl, HB, HF⟩ := hrel
    have hWs := HB.out.size
    have hblt : bk < wr.heap.size := by rcases HF.out with h | h <;> exact h.lt
    by_cases hlt : n < l.length
    · obtain ⟨x, hx⟩ : ∃ x, l[n]? = some x := ⟨l[n], List.getElem?_eq_getElem hlt⟩
      obtain ⟨ad, p, rfl, hp, hpb, c0, c1, c2, c3, c4, c5, c6, c7, c8, c9, c10⟩ := (HI.out.later HB.out (Nat.le_refl _)).facts hx
      have hbkp : (ad.add (n * 11)) = p := hp.symm
      have hrx := HLN.out x (List.mem_of_getElem? hx)
      have hline := HLINE.out x hrx
      unfold Ev.v Ev.cells at hline
      have hsn := showB_snoc l n hlt
      rw [show l[n] = x from Option.some.inj ((List.getElem?_eq_getElem hlt).symm.trans hx)] at hsn
      have HSN := Lib.hid hsn
      have hll := lineB_le hrx
      have hsl : (showB (l.take n)).length ≤ 4096 * 2006 := Nat.le_trans (showB_le _ (fun y hy => HLN.out y (List.mem_of_mem_take hy))) (Nat.mul_le_mul_right _ (by rw [List.length_take]; omega))
      generalize lineB x = lx at *
      generalize showB (l.take n) = sx at *
      have hza : (⟨lx.toArray⟩ : ByteArray).size = lx.length := by simp [ByteArray.size]
      clear hsn hrx hx hp
      have hzb : ((⟨lx.toArray⟩ : ByteArray) ++ ⟨#[10]⟩).size = lx.length + 1 := by rw [show ((⟨lx.toArray⟩ : ByteArray) ++ ⟨#[10]⟩) = ⟨(lx ++ [10]).toArray⟩ from bapp lx [10]]; simp [ByteArray.size]
      have hbc := Lib.byteCells_length sx
      go_wp2_with (first | (go_at_call 18; refine (hline _ (HST.out _ (HB.out.alloc hWs _))).mono ?_; rintro e w3 ⟨rfl, hb3⟩; rw [World.size_alloc] at hb3; have HB3 := Lib.hid ((HB.out.alloc hWs _).trans (hb3.mono (by omega))); have HF3 := Lib.hid (builder_later (builder_later HF.out ((Below.refl wr.heap.size wr).alloc (Nat.le_refl _) _) (Nat.le_refl _)) hb3 (by rw [World.size_alloc]; exact Nat.le_refl _)); have hw3 := hb3.size; rw [World.size_alloc] at hw3; clear hb3) | (go_at_call 17; refine (Tryz.Builder_WriteString bk bk (Lib.byteCells sx) _ w3 HF3.out (by omega) (by omega)).mono ?_; rintro e w4 ⟨rfl, hf4, hb4⟩; rw [wrote] at hf4; have HF4 := Lib.hid hf4; have HB4 := Lib.hid (HB3.out.trans (hb4.mono hWb)); clear hf4 hb4))
      refine ⟨⟨n + 1, by omega, by go_num, HB4, Lib.hid ?_⟩, by simp [intOf]; omega⟩
      rw [HSN.out]
      exact .inr HF4.out
    · have hnl : n = l.length := by omega
      have hf := HF.out
      rw [hnl, List.take_length] at hf
      have hL := Tryz.Builder_Len bk bk _ wr hf
      have hSt := Tryz.Builder_String_any bk bk _ wr hf (by omega)
      rw [Lib.byteCells_length] at hL
      have hsl : (showB l).length ≤ 4096 * 2006 := Nat.le_trans (showB_le _ HLN.out) (Nat.mul_le_mul_right _ hlen)
      clear hf hnl
      by_cases h6 : (showB l).length ≤ 65536
      · have HE : Hid (showR l = (showB l, 0)) := Lib.hid (by rw [HS.out, if_pos h6])
        generalize showB l = sx at *
        go_wp2_with (first | (go_at_call 19; refine hL.mono ?_; rintro e w5 ⟨rfl, rfl⟩) | (go_at_call 20; refine hSt.mono ?_; rintro e w6 ⟨rfl, hb6⟩; have HB6 := Lib.hid hb6; clear hb6))
        go_ret2
        exact ⟨by rw [HE.out]; rfl, HB.out.trans (HB6.out.mono hWb)⟩
      · have HE : Hid (showR l = ([], 200)) := Lib.hid (by rw [HS.out, if_neg h6])
        generalize showB l = sx at *
        go_wp2_with (first | (go_at_call 19; refine hL.mono ?_; rintro e w5 ⟨rfl, rfl⟩))
        go_ret2
        exact ⟨by rw [HE.out]; rfl, HB.out⟩

theorem show_any (A : Option Addr) (c : Nat) (l : List Ev) (W : World) (hs : St W) (hI : Evs W A l) (hl : l.length ≤ 9223372036854775807) :
    Calls Tryz.prog 8 #[.slice A l.length c] W fun e w' => e = .returned (.tuple #[.string ⟨(showR l).1.toArray⟩, .int .i64 (showR l).2]) ∧ Below W.heap.size W w' := by
  cases hr : right l with
  | true => exact show_yes A c l W hs hI hl hr
  | false => exact show_no A c l W hI hl hr
end Go.Proofs.YtkpofjfndokaeaaGreatDoor
