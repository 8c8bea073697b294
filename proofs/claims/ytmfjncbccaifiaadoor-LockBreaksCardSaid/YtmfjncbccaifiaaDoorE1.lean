/- Graph.Wait of the lock layer: what it leaves. -/
import Derived.Test.YtmfjncbccaifiaaDoorE0
import Derived.Test.YtmfjncbccaifiaaDoorC3
import Derived.RegionTactic
import Derived.ChangeAlike
import Derived.StillTailTactics
namespace Go.Proofs.YtmfjncbccaifiaaDoor
open Go.RowKit
set_option linter.unusedVariables false
set_option linter.unusedSimpArgs false

def u64s (ws : List Nat) : Array Value := (ws.map fun (x : Nat) => Value.int .u64 (x : Int)).toArray
/-- Block g is a graph of the lock layer. -/
def GB (W : World) (g : Nat) (ws : List Nat) : Prop := W.heap[g]? = some (.cells (u64s ws) 71 (0, 0)) ∧ ws.length = 16
/-- Only block g has turned. -/
structure Only (g : Nat) (W W' : World) : Prop where
  os : W'.os = W.os
  tape : W'.tape = W.tape
  output : W'.output = W.output
  size : W.heap.size ≤ W'.heap.size
  same : ∀ k, k < W.heap.size → k ≠ g → W'.heap[k]? = W.heap[k]?

theorem GB.cell {W : World} {g : Nat} {ws : List Nat} (h : GB W g ws) {i : Nat} (hi : i < 16) : W.cell? ⟨g, i, none⟩ = some (.int .u64 ((ws.getD i 0 : Nat) : Int)) := by
  have hl := h.2
  simp only [World.cell?, h.1, u64s]
  simp [List.getD_eq_getElem?_getD, hl, hi]
theorem GB.frozen {W : World} {g : Nat} {ws : List Nat} (h : GB W g ws) (i : Nat) : W.frozen? ⟨g, i, none⟩ = false := by
  simp [World.frozen?, h.1]
theorem GB.lt {W : World} {g : Nat} {ws : List Nat} (h : GB W g ws) : g < W.heap.size := (Array.getElem?_eq_some_iff.1 h.1).1
theorem GB.set {W : World} {g : Nat} {ws : List Nat} (h : GB W g ws) {i : Nat} (hi : i < 16) (x : Nat) : GB (W.setCell ⟨g, i, none⟩ (.int .u64 (x : Int))) g (ws.set i x) := by
  refine ⟨?_, by rw [List.length_set]; exact h.2⟩
  obtain ⟨hlt, hk⟩ := Array.getElem?_eq_some_iff.1 h.1
  show (W.heap.modify g _)[g]? = _
  rw [Array.getElem?_eq_getElem (by rw [Array.size_modify]; exact hlt), Array.getElem_modify_self, hk]
  simp [u64s, List.map_set]
theorem only_set (W : World) (g i : Nat) (v : Value) : Only g W (W.setCell ⟨g, i, none⟩ v) :=
  ⟨rfl, rfl, rfl, by show _ ≤ (W.heap.modify _ _).size; simp, fun k _ hk => Below.heap_setCell W _ v k hk⟩
theorem only_drew (g : Nat) (W : World) : Only g W W.drew := ⟨rfl, rfl, rfl, Nat.le_refl _, fun _ _ _ => rfl⟩

/-- The error of Wait. -/
def wtE (a : Int) (l : List Int) : Int := if isW a = true ∧ l.all isW = true then 0 else 2
def wtM (a : Int) (l : List Int) : Nat := lv1 (l.foldl come 0) a.toNat

def WaitPost (g : Nat) (ws : List Nat) (a : Int) (l : List Int) (W : World) (e : Ending) (W' : World) : Prop :=
  e = .returned (.int .i64 (wtE a l)) ∧ (if wtE a l = 0 then GB W' g (ws.set a.toNat (wtM a l)) else GB W' g ws) ∧ Only g W W'
theorem WaitPost.no {g : Nat} {ws : List Nat} {a : Int} {l : List Int} {W : World} (he : wtE a l = 2) (hG : GB W g ws) : WaitPost g ws a l W (.returned (.int .i64 2)) W :=
  ⟨by rw [he], by rw [he, if_neg (by decide)]; exact hG, rfl, rfl, rfl, Nat.le_refl _, fun _ _ _ => rfl⟩

set_option maxHeartbeats 4000000 in
set_option maxRecDepth 100000 in
theorem wait_any (g : Nat) (ws : List Nat) (a : Int) (A : Option Addr) (c : Nat) (l : List Int) (W : World) (hG : GB W g ws) (hI : Ints W A l) (hl : l.length ≤ 9223372036854775807) :
    Calls Tryd.prog 27 #[.pointer (some ⟨g, 0, none⟩), .int .i64 a, .slice A l.length c] W (WaitPost g ws a l W) := by
  have hw := isWorker_any a W
  by_cases ha : isW a = true
  · obtain ⟨h1, h2⟩ := isW_true.1 ha
    obtain ⟨k, rfl⟩ := Int.eq_ofNat_of_zero_le h1
    have hk : k < 16 := by omega
    rw [ha] at hw
    have HI := Lib.hid hI
    have HW : Hid (Later W W) := Lib.hid (Below.refl _ _)
    have HG := Lib.hid hG
    have HA := Lib.hid ha
    clear hI hG ha
    go_enter Tryd.func27, Tryd.ntmps27
    go_wp2_with (first | (go_at_call 33; refine hw.mono ?_; rintro e w' ⟨rfl, rfl⟩))
    go_loop [7, 17] (fun m i => ∃ j : Nat, j ≤ l.length ∧ i = .int .i64 j ∧ m = .int .u64 (((l.take j).foldl come 0 : Nat) : Int) ∧ Hid ((l.take j).all isW = true)) (fun _ i => l.length - (intOf i).toNat)
    case atStart => exact ⟨0, Nat.zero_le _, rfl, rfl, Lib.hid rfl⟩
    case round =>
      obtain ⟨j, hj, rfl, rfl, hall⟩ := hrel
      have hxl : (l.take j).foldl come 0 < 65536 := comes_lt _ 0 (by decide)
      by_cases hlt : j < l.length
      · obtain ⟨ad, rfl, hcell⟩ := HI.out.at_ HW.out hlt
        have htake : l.take (j + 1) = l.take j ++ [l.getD j 0] := by
          rw [List.take_succ_eq_append_getElem hlt, List.getD_eq_getElem?_getD, List.getElem?_eq_getElem hlt]; rfl
        obtain ⟨x, hx⟩ : ∃ x, l.getD j 0 = x := ⟨_, rfl⟩
        rw [hx] at hcell htake
        have HT := Lib.hid htake
        clear htake hx
        have hw2 := isWorker_any x W
        by_cases hxw : isW x = true
        · obtain ⟨hx1, hx2⟩ := isW_true.1 hxw
          obtain ⟨xn, rfl⟩ := Int.eq_ofNat_of_zero_le hx1
          rw [hxw] at hw2
          have HX := Lib.hid hxw
          have hxn : xn < 16 := by omega
          have hs := shl1 hxn
          have e2 : min xn 64 = xn := by omega
          have hor := or64 ((l.take j).foldl come 0) (2 ^ xn) (Nat.lt_trans hxl (by decide)) (Nat.lt_of_lt_of_le (pow_lt16 hxn) (by decide))
          rw [show (((2 ^ xn : Nat)) : Int) = (2 : Int) ^ xn by simp] at hor
          have hfold : (l.take (j + 1)).foldl come 0 = (l.take j).foldl come 0 ||| 2 ^ xn := by
            rw [HT.out, List.foldl_append]; show come _ _ = _; unfold come; rw [if_pos hxw]; simp
          have HF := Lib.hid hfold
          have HOR := Lib.hid hor
          obtain ⟨m0, hm0⟩ : ∃ m0, (l.take j).foldl come 0 = m0 := ⟨_, rfl⟩
          rw [hm0] at HF HOR ⊢
          clear hfold hor hxl hm0 hxw hx1
          go_wp2_with (first | (go_at_call 33; refine hw2.mono ?_; rintro e w' ⟨rfl, rfl⟩))
          go_round
          case rel => exact ⟨j + 1, by omega, by go_num, by rw [HF.out, ← HOR.out], Lib.hid (by rw [HT.out, List.all_append, hall.out]; simp [HX.out])⟩
          case measure => simp [intOf]; omega
        · have hxw' : isW x = false := by simpa using hxw
          rw [hxw'] at hw2
          have he : wtE (k : Int) l = 2 := by
            unfold wtE
            rw [if_neg (fun h => by
              have h3 : (l.take (j + 1)).all isW = true := by
                rw [List.all_eq_true]; intro y hy; exact List.all_eq_true.1 h.2 y (List.mem_of_mem_take hy)
              rw [HT.out, List.all_append] at h3
              simp [hxw'] at h3)]
          have HE := Lib.hid he
          clear hxw hxw' hxl hall he
          go_wp2_with (first | (go_at_call 33; refine hw2.mono ?_; rintro e w' ⟨rfl, rfl⟩))
          go_ret
          exact WaitPost.no HE.out HG.out
      · have hj2 : j = l.length := by omega
        have he : wtE (k : Int) l = 0 := by
          have h3 := hall.out
          rw [hj2, List.take_length] at h3
          unfold wtE; rw [if_pos ⟨HA.out, h3⟩]
        have HE := Lib.hid he
        have hs := shl1 hk
        have e2 : min k 64 = k := by omega
        have hand := andNot64 (l.foldl come 0) (2 ^ k) (Nat.lt_trans (comes_lt l 0 (by decide)) (by decide)) (Nat.lt_of_lt_of_le (pow_lt16 hk) (by decide))
        rw [show (((2 ^ k : Nat)) : Int) = (2 : Int) ^ k by simp] at hand
        have hm : (l.take j).foldl come 0 = l.foldl come 0 := by rw [hj2, List.take_length]
        rw [hm]
        have HAND := Lib.hid hand
        have hcell := HG.out.cell hk
        have hfro := HG.out.frozen k
        obtain ⟨m0, hm0⟩ : ∃ m0, l.foldl come 0 = m0 := ⟨_, rfl⟩
        rw [hm0] at HAND ⊢
        have HM0 := Lib.hid hm0
        generalize ((ws.getD k 0 : Nat) : Int) = old at hcell
        clear hand hm hxl hall he hj2 hm0
        go_wp2
        go_region
        go_wp2
        go_ret
        have hgs := (HG.out.set hk (wtM (k : Int) l))
        have hval : bits BinOp.andNot IntKind.u64 (m0 : Int) ((2 : Int) ^ k) = ((wtM (k : Int) l : Nat) : Int) := by
          rw [HAND.out, ← HM0.out]; rfl
        rw [hval]
        refine ⟨by rw [HE.out]; rfl, ?_, ?_⟩
        · rw [if_pos HE.out]
          exact hgs
        · exact ⟨rfl, rfl, rfl, (only_set W g k _).size, (only_set W g k _).same⟩
  · have he : wtE a l = 2 := by unfold wtE; rw [if_neg (fun h => ha h.1)]
    have HE := Lib.hid he
    have ha' : isW a = false := by simpa using ha
    rw [ha'] at hw
    have HG := Lib.hid hG
    clear hI hG he ha ha'
    go_enter Tryd.func27, Tryd.ntmps27
    go_wp2_with (first | (go_at_call 33; refine hw.mono ?_; rintro e w' ⟨rfl, rfl⟩))
    go_ret
    exact WaitPost.no HE.out HG.out
end Go.Proofs.YtmfjncbccaifiaaDoor
