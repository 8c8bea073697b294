/- Both graphs, of whom none waits for itself; the cycle, whoever asks. -/
import Derived.Test.YtmfjncbccaifiaaDoorF15
import Derived.Test.YtmfjncbccaifiaaDoorG0
namespace Go.Proofs.YtmfjncbccaifiaaDoor
open Go.RowKit
set_option linter.unusedVariables false
set_option linter.unusedSimpArgs false

theorem wtM_irr (a : Int) (l : List Int) (ha : isW a = true) : (wtM a l).testBit a.toNat = false := by
  obtain ⟨h1, h2⟩ := isW_true.1 ha
  unfold wtM
  rw [lv1_bit _ _ _ (Nat.lt_trans (comes_lt l 0 (by decide)) (by decide)) (by omega)]
  simp

theorem Irr.set {ws : List Nat} {k m : Nat} (h : Irr (wf ws)) (hk : k < ws.length) (hm : m.testBit k = false) : Irr (wf (ws.set k m)) := fun i => by
  rw [wf_set hk]
  split
  · rename_i e; subst e; exact hm
  · exact h i

theorem Irr.zero : Irr (wf (List.replicate 16 0)) := fun i => by
  have h0 : wf (List.replicate 16 0) i = 0 := by
    unfold wf
    rw [List.getD_eq_getElem?_getD, List.getElem?_replicate]
    split <;> rfl
  rw [h0]; simp

theorem GM.wait_irr {W wr w' : World} {gb rb : Nat} {ws : List Nat} {bs : List Bool} {a : Int} {l : List Int} {e : Ending} (h : GM W gb rb ws bs a l wr) (hirr : Irr (wf ws)) (hp : RWaitPost rb bs a l wr e w') :
    e = .returned (.int .i64 (wtE a l)) ∧ ∃ ws' bs', GS W gb rb ws' bs' w' ∧ Irr (wf ws') := by
  obtain ⟨he, ⟨bs', hr, hrow⟩, ho⟩ := hp
  have hl := Only.later h.later ho h.hr
  have hg : GB w' gb (if wtE a l = 0 then ws.set a.toNat (wtM a l) else ws) := ⟨(ho.same gb h.g.lt h.ne).trans h.g.1, h.g.2⟩
  by_cases h0 : wtE a l = 0
  · rw [if_pos h0] at hg hrow
    have ha : isW a = true := by
      unfold wtE at h0
      split at h0
      · rename_i h1; exact h1.1
      · cases h0
    obtain ⟨h1, h2⟩ := isW_true.1 ha
    exact ⟨he, _, bs', ⟨hl, hg, hr, h.rel.wait (by omega) (wtM_lt a l) hrow, h.hg, h.hr, h.ne⟩, hirr.set (by rw [h.rel.len]; omega) (wtM_irr a l ha)⟩
  · rw [if_neg h0] at hg hrow
    subst hrow
    exact ⟨he, _, _, ⟨hl, hg, hr, h.rel, h.hg, h.hr, h.ne⟩, hirr⟩

theorem cycE_cases {w : Nat → Nat} (gr : Gr w) (irr : Irr w) (a : Int) : (∃ g L, a = ((g : Nat) : Int) ∧ g < 16 ∧ cycE w a = (L, true) ∧ Round w g L) ∨ cycE w a = ([], false) := by
  unfold cycE
  by_cases ha : isW a = true
  · obtain ⟨h1, h2⟩ := isW_true.1 ha
    obtain ⟨g, rfl⟩ := Int.eq_ofNat_of_zero_le h1
    have hg : g < 16 := by omega
    rw [if_pos ha, Int.toNat_natCast]
    unfold cyc
    by_cases h99 : dd w g g = 99
    · rw [if_pos h99]; exact .inr rfl
    · rw [if_neg h99]; exact .inl ⟨g, _, rfl, hg, rfl, round_cyc gr irr hg h99⟩
  · rw [if_neg ha]; exact .inr rfl

/-- Behind a wait that was given up. -/
theorem cyc_gone {ws : List Nat} {g v : Nat} {L : List Nat} (gr : Gr (wf ws)) (irr : Irr (wf ws)) (hl : ws.length = 16) (hg : g < 16) (hv : v < 16) (h : Round (wf ws) g L) :
    (∀ j, j < (cycE (wf (ws.set v 0)) (g : Int)).1.length → (cycE (wf (ws.set v 0)) (g : Int)).1.getD j 0 ≠ v) ∧ ((cycE (wf (ws.set v 0)) (g : Int)).2 = false ∨ L.length ≤ (cycE (wf (ws.set v 0)) (g : Int)).1.length) ∧ Gr (wf (ws.set v 0)) := by
  have hsub : ∀ i k, (wf (ws.set v 0) i).testBit k = true → (wf ws i).testBit k = true := fun i k hb => by
    rw [wf_set (by omega)] at hb
    split at hb
    · simp at hb
    · exact hb
  have gr' : Gr (wf (ws.set v 0)) := ⟨fun i => by rw [wf_set (by omega)]; split; · decide
                                                  · exact gr.lt i, fun i hi => by rw [wf_set (by omega), if_neg (by omega)]; exact gr.out i hi⟩
  have irr' : Irr (wf (ws.set v 0)) := irr.set (by omega) (by simp)
  rcases cycE_cases gr' irr' (g : Int) with ⟨g', D, e, hg', he, hR⟩ | he
  · obtain rfl : g = g' := by omega
    rw [he]
    refine ⟨fun j hj hjv => ?_, .inr ?_, gr'⟩
    · apply hR.waits hj
      rw [hjv, wf_set (by omega), if_pos rfl]
    · rw [h.len]; exact hR.no_shorter hsub
  · rw [he]
    exact ⟨fun j hj => by simp at hj, .inl rfl, gr'⟩

theorem GS.wait_none {W wr : World} {gb rb : Nat} {ws : List Nat} {bs : List Bool} (h : GS W gb rb ws bs wr) {v : Nat} (hv : v < 16) :
    Calls Tryd.prog 27 #[.pointer (some ⟨gb, 0, none⟩), .int .i64 (v : Int), .slice none 0 0] wr fun e w' => e = .returned (.int .i64 0) ∧ GB w' gb (ws.set v 0) ∧ Later W w' := by
  have hE : wtE (v : Int) [] = 0 := by
    unfold wtE
    rw [if_pos ⟨isW_true.2 ⟨by omega, by omega⟩, rfl⟩]
  refine (wait_any gb ws (v : Int) none 0 [] wr h.g (fun j hj => by simp at hj) (by simp)).mono fun e w' ⟨he, hg, ho⟩ => ⟨by rw [he, hE], ?_, Only.later h.later ho h.hg⟩
  rw [if_pos hE, wtM_zero, Int.toNat_natCast] at hg
  exact hg

/-- The one of a cycle that a number tells. -/
def pick (gone : Int) (n : Nat) : Nat := ((gone.tmod (n : Int) + (n : Int)).tmod (n : Int)).toNat
theorem pick_spec (gone : Int) (n : Nat) (hn : 0 < n) : (gone.tmod (n : Int) + (n : Int)).tmod (n : Int) = (pick gone n : Nat) ∧ pick gone n < n ∧ -(n : Int) < gone.tmod (n : Int) ∧ gone.tmod (n : Int) < n := by
  have h1 : -(n : Int) < gone.tmod (n : Int) := by
    have := Int.lt_tmod_of_pos gone (show (0 : Int) < n by omega)
    omega
  have h2 : gone.tmod (n : Int) < n := Int.tmod_lt_of_pos gone (by omega)
  have h3 : (gone.tmod (n : Int) + (n : Int)).tmod (n : Int) = (gone.tmod (n : Int) + (n : Int)) % (n : Int) := Int.tmod_eq_emod_of_nonneg (by omega)
  have h4 := Int.emod_nonneg (gone.tmod (n : Int) + (n : Int)) (show (n : Int) ≠ 0 by omega)
  have h5 := Int.emod_lt_of_pos (gone.tmod (n : Int) + (n : Int)) (show (0 : Int) < n by omega)
  unfold pick
  rw [h3]
  exact ⟨by omega, by omega, h1, h2⟩
end Go.Proofs.YtmfjncbccaifiaaDoor
