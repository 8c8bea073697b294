/- script.text: at every word. -/
import Derived.Test.YtkpofjfndokaeaaGreatDoorE3
namespace Go.Proofs.YtkpofjfndokaeaaGreatDoor
open Go.RowKit
set_option linter.unusedVariables false
set_option linter.unusedSimpArgs false

theorem mid_of {l : List UInt8} (h2 : 2 ≤ l.length) (h0 : l.head? = some 34) (h1 : l.getLast? = some 34) : l = 34 :: ((l.drop 1).dropLast ++ [34]) := by
  cases l with
  | nil => simp at h2
  | cons c r =>
    simp only [List.head?_cons, Option.some.injEq] at h0
    subst h0
    congr 1
    obtain ⟨ys, hys⟩ := List.getLast?_eq_some_iff.1 h1
    cases ys with
    | nil => rw [hys] at h2; simp at h2
    | cons d ys =>
      injection hys with _ hr
      subst hr
      simp

set_option maxRecDepth 100000 in
set_option maxHeartbeats 1000000 in
theorem text_any (s : ByteArray) (hs : s.size ≤ 4294967295) (W : World) : Calls Tryz.prog 63 #[.string s] W fun e w' => e = .returned (textR (textB s.data.toList)) ∧ Below W.heap.size W w' := by
  by_cases h : 2 ≤ s.data.toList.length ∧ s.data.toList.head? = some 34 ∧ s.data.toList.getLast? = some 34
  · have ht : textB s.data.toList = unq (s.data.toList.drop 1).dropLast := by unfold textB; rw [if_pos h]
    rw [ht]
    exact text_in s hs _ (mid_of h.1 h.2.1 h.2.2) W
  · have ht : textB s.data.toList = none := by unfold textB; rw [if_neg h]
    rw [ht]
    clear ht
    by_cases h2 : s.size < 2
    · have hb : (s.size : Int) < 2 := by omega
      clear h
      go_enter Tryz.func63, Tryz.ntmps63
      go_wp2_with fail
      go_ret2
      exact ⟨rfl, Below.refl _ _⟩
    · have hl : s.data.toList.length = s.size := (ba_size s).symm
      obtain ⟨c, hc⟩ : ∃ c, s.data.toList[0]? = some c := ⟨_, List.getElem?_eq_getElem (by omega)⟩
      obtain ⟨d, hd⟩ : ∃ d, s.data.toList[s.size - 1]? = some d := ⟨_, List.getElem?_eq_getElem (by omega)⟩
      have hg0 : ∀ h : 0 < s.size, (s[0]'h).toNat = c.toNat := fun h => by rw [ba_get s 0 h c hc]
      have hgl : ∀ h : s.size - 1 < s.size, (s[s.size - 1]'h).toNat = d.toNat := fun h => by rw [ba_get s (s.size - 1) h d hd]
      have hcd : c.toNat ≠ 34 ∨ d.toNat ≠ 34 := by
        refine Classical.byContradiction fun hn => h ?_
        rw [not_or, Classical.not_not, Classical.not_not] at hn
        refine ⟨by omega, ?_, ?_⟩
        · rw [List.head?_eq_getElem?, hc]
          exact congrArg some (UInt8.toNat_inj.1 hn.1)
        · rw [List.getLast?_eq_getElem?, hl, hd]
          exact congrArg some (UInt8.toNat_inj.1 hn.2)
      have h2' : 2 ≤ s.size := by omega
      have hb : ¬ (s.size : Int) < 2 := by omega
      clear h hc hd hl h2
      obtain ⟨k, hk⟩ : ∃ k, c.toNat = k := ⟨_, rfl⟩
      obtain ⟨e, he⟩ : ∃ e, d.toNat = e := ⟨_, rfl⟩
      rw [hk] at hg0 hcd
      rw [he] at hgl hcd
      clear hk he
      by_cases h0 : k = 34
      · have h1 : e ≠ 34 := by omega
        have h1' : ((e : Int) != 34) = true := by rw [bne_iff_ne]; omega
        subst h0
        clear hcd
        go_enter Tryz.func63, Tryz.ntmps63
        go_wp2_with fail
        all_goals go_ret2
        all_goals exact ⟨rfl, Below.refl _ _⟩
      · have h0' : ((k : Int) != 34) = true := by rw [bne_iff_ne]; omega
        clear hcd
        go_enter Tryz.func63, Tryz.ntmps63
        go_wp2_with fail
        all_goals go_ret2
        all_goals exact ⟨rfl, Below.refl _ _⟩
end Go.Proofs.YtkpofjfndokaeaaGreatDoor
