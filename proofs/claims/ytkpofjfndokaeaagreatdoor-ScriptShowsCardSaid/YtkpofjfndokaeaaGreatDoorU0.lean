/- varvelaw20.Same: the walk. -/
import Derived.Test.YtkpofjfndokaeaaGreatDoorB0
import Derived.Deep.QuietTactic
import Derived.BigQuiet
namespace Go.Proofs.YtkpofjfndokaeaaGreatDoor
open Go.RowKit
set_option linter.unusedVariables false
set_option linter.unusedSimpArgs false

theorem neq_ev (a b : Ev) (w : World) : (binOp .neq 27 a.v b.v).run Tryz.prog w = .ok (.bool (!decide (a = b))) w := by
  unfold Ev.v Ev.cells
  go_simp
  by_cases h : a = b
  · subst h; simp
  · rw [decide_eq_false h]
    repeat' split
    all_goals first
      | rfl
      | (rename_i h1 h2 h3 h4 h5 h6 h7 h8 h9 h10 h11
         exact absurd (by
           obtain ⟨a1, a2, ⟨a3, a4, a5, a6, a7, a8, a9⟩, a10, a11⟩ := a
           obtain ⟨b1, b2, ⟨b3, b4, b5, b6, b7, b8, b9⟩, b10, b11⟩ := b
           simp only at h1 h2 h3 h4 h5 h6 h7 h8 h9 h10 h11
           rw [h1, h2, h3, h4, toList_inj h5, toList_inj h6, toList_inj h7, h8, h9, h10, h11]) h)

theorem Below.drewN {B : Nat} {w w' : World} (h : Below B w w') : ∀ n, Below B w (w'.drewN n)
  | 0 => h
  | n + 1 => (Below.drewN h n).drew

set_option maxRecDepth 100000 in
set_option maxHeartbeats 4000000 in
theorem same_any (A B : Option Addr) (ca cb : Nat) (a b : List Ev) (W : World) (ha : Evs W A a) (hb : Evs W B b) (hla : a.length ≤ 9223372036854775807) (hlb : b.length ≤ 9223372036854775807) :
    Calls Tryz.prog 11 #[.slice A a.length ca, .slice B b.length cb] W fun e w' => e = .returned (.bool (decide (a = b))) ∧ Below W.heap.size W w' := by
  have HA : Hid (∀ w, Below W.heap.size W w → Evs w A a) := Lib.hid fun w h => ha.later h (Nat.le_refl _)
  have HB : Hid (∀ w, Below W.heap.size W w → Evs w B b) := Lib.hid fun w h => hb.later h (Nat.le_refl _)
  have HR := Lib.hid (Below.refl W.heap.size W)
  clear ha hb
  go_enter Tryz.func11, Tryz.ntmps11
  go_wp2_with fail
  go_loopw [5] (fun i wr => ∃ k : Nat, k ≤ a.length ∧ k ≤ b.length ∧ i = .int .i64 k ∧ Hid (a.take k = b.take k) ∧ Hid (Below W.heap.size W wr)) (fun i _ => a.length - (intOf i).toNat)
  case atStart => exact ⟨0, Nat.zero_le _, Nat.zero_le _, rfl, Lib.hid rfl, HR⟩
  case round =>
    clear HR
    obtain ⟨k, hka, hkb, rfl, HT, HBW⟩ := hrel
    by_cases h : k < a.length ∧ k < b.length
    · obtain ⟨h1, h2⟩ := h
      obtain ⟨x, hx⟩ : ∃ x, a[k]? = some x := ⟨_, List.getElem?_eq_getElem h1⟩
      obtain ⟨y, hy⟩ : ∃ y, b[k]? = some y := ⟨_, List.getElem?_eq_getElem h2⟩
      obtain ⟨ad, p, rfl, hp, hpb, c0, c1, c2, c3, c4, c5, c6, c7, c8, c9, c10⟩ := (HA.out _ HBW.out).facts hx
      obtain ⟨bd, q, rfl, hq, hqb, d0, d1, d2, d3, d4, d5, d6, d7, d8, d9, d10⟩ := (HB.out _ HBW.out).facts hy
      have hpk : ad.add (k * 11) = p := hp.symm
      have hqk : bd.add (k * 11) = q := hq.symm
      have hne := neq_ev x y
      unfold Ev.v Ev.cells at hne
      have k0 : (0 : Int) ≤ (k : Int) := Int.natCast_nonneg _
      have k1 : (k : Int) < (a.length : Int) := by omega
      have k2 : (k : Int) < (b.length : Int) := by omega
      have HX : Hid (x = y → a.take (k + 1) = b.take (k + 1)) := Lib.hid fun e => by
        rw [List.take_succ_eq_append_getElem h1, List.take_succ_eq_append_getElem h2, HT.out]
        rw [show a[k] = x from Option.some.inj ((List.getElem?_eq_getElem h1).symm.trans hx), show b[k] = y from Option.some.inj ((List.getElem?_eq_getElem h2).symm.trans hy), e]
      have HY : Hid (x ≠ y → decide (a = b) = false) := Lib.hid fun e => decide_eq_false fun e2 => by
        subst e2
        rw [hx] at hy
        exact e (Option.some.inj hy)
      clear hx hy hp hq
      by_cases hxy : x = y
      · rw [decide_eq_true hxy] at hne
        have HT2 := Lib.hid (HX.out hxy)
        clear hxy HX HY
        go_wp2_with fail
        go_quiet (fail)
        go_wp2_with fail
        refine ⟨⟨k + 1, by omega, by omega, by go_num, HT2, Lib.hid ?_⟩, by simp [intOf]; omega⟩
        exact Below.drewN HBW.out _
      · rw [decide_eq_false hxy] at hne
        have HF := Lib.hid (HY.out hxy)
        clear hxy HX HY
        go_wp2_with fail
        go_quiet (fail)
        go_wp2_with fail
        go_ret
        exact ⟨by rw [HF.out]; rfl, Below.drewN HBW.out _⟩
    · have he : decide (a = b) = decide ((a.length : Int) = (b.length : Int)) := by
        rw [decide_eq_decide]
        constructor
        · rintro rfl; rfl
        · intro hl
          have hl : a.length = b.length := by omega
          have hk : k = a.length := by omega
          have := HT.out
          rwa [hk, List.take_length, hl, List.take_length] at this
      have HE := Lib.hid he
      clear he
      by_cases h1 : k < a.length
      · have h2 : ¬ k < b.length := fun e => h ⟨h1, e⟩
        clear h
        go_wp2_with fail
        go_ret
        exact ⟨by rw [HE.out]; rfl, HBW.out⟩
      · clear h
        go_wp2_with fail
        go_ret
        exact ⟨by rw [HE.out]; rfl, HBW.out⟩
end Go.Proofs.YtkpofjfndokaeaaGreatDoor
