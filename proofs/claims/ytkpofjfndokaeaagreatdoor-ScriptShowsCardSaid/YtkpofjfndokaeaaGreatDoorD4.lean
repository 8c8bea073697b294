/- script.number: what it reads; the walk. -/
import Derived.Test.YtkpofjfndokaeaaGreatDoorD2
import Derived.Lib.SmallJoins
namespace Go.Proofs.YtkpofjfndokaeaaGreatDoor
open Go.RowKit
set_option linter.unusedVariables false
set_option linter.unusedSimpArgs false

/-- The start, with what the readers ask for. -/
structure Sp (w : World) : Prop where
  st : St w
  syn : ∃ te pe, w.cell? ⟨6, 0, none⟩ = some (.iface te pe)
  rng : ∃ te pe, w.cell? ⟨7, 0, none⟩ = some (.iface te pe)
  mx : ∃ m, w.cell? ⟨1, 0, none⟩ = some (.int .i64 m)
theorem Sp.later {w w' : World} (h : Sp w) (hb : Below w.heap.size w w') : Sp w' := by
  have hl := h.st.len
  have hc : ∀ k, k < 8 → w'.cell? ⟨k, 0, none⟩ = w.cell? ⟨k, 0, none⟩ := fun k hk => World.cell?_of_block (hb.block k (by omega))
  exact ⟨h.st.later hb, by rw [hc 6 (by omega)]; exact h.syn, by rw [hc 7 (by omega)]; exact h.rng, by rw [hc 1 (by omega)]; exact h.mx⟩

theorem atoi_bounds {l : List UInt8} {v : Int} (h : Lib.atoiAll l = .ok v) : -9223372036854775808 ≤ v ∧ v ≤ 9223372036854775807 := by
  unfold Lib.atoiAll at h
  split at h
  · cases h
  · simp only at h
    split at h
    · cases h
    · cases h
    · split at h
      · cases h
      · split at h
        · cases h
        · injection h with h
          subst h
          split <;> omega

/-- Is a word a number's (as it is written)? -/
def isNum (l : List UInt8) (v : Int) : Bool := (Lib.itoa v == l) && decide ((Lib.trimPrefix l [45]).length ≤ 10)
def numB (l : List UInt8) : Option Int :=
  match Lib.atoiAll l with
  | .ok v => if isNum l v then some v else none
  | _ => none
/-- What number answers. -/
def NumR (l : List UInt8) (e : Ending) : Prop := ∃ n : Int, e = .returned (.tuple #[.int .i64 n, .bool (numB l).isSome]) ∧ ∀ v, numB l = some v → n = v

theorem numB_ok {l : List UInt8} {v : Int} (h : Lib.atoiAll l = .ok v) : numB l = if isNum l v then some v else none := by unfold numB; rw [h]
theorem numB_syn {l : List UInt8} (h : Lib.atoiAll l = Lib.NumEnd.syntax) : numB l = none := by unfold numB; rw [h]
theorem numB_rng {l : List UInt8} (h : Lib.atoiAll l = .range) : numB l = none := by unfold numB; rw [h]
end Go.Proofs.YtkpofjfndokaeaaGreatDoor

/- script.number: the walk. -/
namespace Go.Proofs.YtkpofjfndokaeaaGreatDoor
open Go.RowKit
set_option linter.unusedVariables false
set_option linter.unusedSimpArgs false

theorem bytes_or {W w' : World} (h : w' = W ∨ ∃ t, w' = Lib.bytesWorld W 5 t) : Below W.heap.size W w' := by
  rcases h with rfl | ⟨t, rfl⟩
  · exact Below.refl _ _
  · exact Joins.below_bytesWorld _ _ 5 t (Nat.le_refl _)
theorem numR_of {l : List UInt8} {n : Int} {b : Bool} (h1 : (numB l).isSome = b) (h2 : ∀ v, numB l = some v → n = v) : NumR l (.returned (.tuple #[.int .i64 n, .bool b])) := by
  subst h1
  exact ⟨n, rfl, h2⟩

set_option maxRecDepth 100000 in
set_option maxHeartbeats 1000000 in
theorem number_ok (s : ByteArray) (hs : s.size ≤ 281474976710656) (v : Int) (hv : Lib.atoiAll s.data.toList = .ok v) (W : World) (hW : Sp W) : Calls Tryz.prog 46 #[.string s] W fun e w' => NumR s.data.toList e ∧ Below W.heap.size W w' := by
  have hb := atoi_bounds hv
  have HA := Lib.hid (Tryz.strconv_Atoi_ok s (by omega) v hv)
  have HI : Hid (∀ w', Below W.heap.size W w' → Calls Tryz.prog 24 #[.int .i64 v] w' fun e w'' => e = .returned (.string ⟨(Lib.itoa v).toArray⟩) ∧ Below w'.heap.size w' w'') := Lib.hid fun w' h => itoa_any v hb.1 hb.2 w' (hW.later h).st
  have HT := Lib.hid (Tryz.strings_TrimPrefix s ⟨#[45]⟩)
  have HNB := Lib.hid (numB_ok hv)
  obtain ⟨a, ha⟩ : ∃ a, a = (⟨(Lib.itoa v).toArray⟩ : ByteArray) := ⟨_, rfl⟩
  obtain ⟨t, ht⟩ : ∃ t, t = (⟨(Lib.trimPrefix s.data.toList [45]).toArray⟩ : ByteArray) := ⟨_, rfl⟩
  have hn : numB s.data.toList = if a = s ∧ t.size ≤ 10 then some v else none := by
    rw [HNB.out]
    unfold isNum
    have h1 : (Lib.itoa v == s.data.toList) = decide (a = s) := by
      rw [Bool.eq_iff_iff, beq_iff_eq, decide_eq_true_eq]
      subst ha
      constructor
      · intro h
        rw [h]
      · rintro rfl
        rfl
    have h2 : (Lib.trimPrefix s.data.toList [45]).length = t.size := by subst ht; rfl
    rw [h1, h2]
    simp
  rw [← ha] at HI
  rw [← ht] at HT
  clear hv ha ht HNB
  have HN := Lib.hid hn
  clear hn
  go_enter Tryz.func46, Tryz.ntmps46
  rcases Classical.em (a = s) with h1 | h1
  · rcases Classical.em (t.size ≤ 10) with h2 | h2
    · have hti : (t.size : Int) ≤ 10 := by omega
      go_wp2_with (first | (go_at_call 61; refine (HA.out _).mono ?_; rintro e w2 ⟨rfl, hw2⟩; have HB2 := Lib.hid (bytes_or hw2); clear hw2) | (go_at_call 24; refine (HI.out _ HB2.out).mono ?_; rintro e w3 ⟨rfl, hb3⟩; have HB3 := Lib.hid (HB2.out.trans (hb3.mono HB2.out.size)); clear hb3) | (go_at_call 62; refine (HT.out _).mono ?_; rintro e w4 ⟨rfl, hw4⟩; have HB4 := Lib.hid (hw4 ▸ HB3.out); clear hw4))
      go_ret2
      refine ⟨numR_of (b := true) (by rw [HN.out, if_pos ⟨h1, h2⟩]; rfl) (fun v' hv' => ?_), HB4.out⟩
      rw [HN.out, if_pos ⟨h1, h2⟩] at hv'
      exact Option.some.inj hv'
    · have hti : ¬ (t.size : Int) ≤ 10 := by omega
      go_wp2_with (first | (go_at_call 61; refine (HA.out _).mono ?_; rintro e w2 ⟨rfl, hw2⟩; have HB2 := Lib.hid (bytes_or hw2); clear hw2) | (go_at_call 24; refine (HI.out _ HB2.out).mono ?_; rintro e w3 ⟨rfl, hb3⟩; have HB3 := Lib.hid (HB2.out.trans (hb3.mono HB2.out.size)); clear hb3) | (go_at_call 62; refine (HT.out _).mono ?_; rintro e w4 ⟨rfl, hw4⟩; have HB4 := Lib.hid (hw4 ▸ HB3.out); clear hw4))
      go_ret2
      have hn := HN.out.trans (if_neg fun h => h2 h.2)
      exact ⟨numR_of (b := _) (by rw [hn]; simp [hti]) (fun v' hv' => by rw [hn] at hv'; cases hv'), HB4.out⟩
  · have hne : ¬ a.toList = s.toList := fun h => h1 (toList_inj h)
    go_wp2_with (first | (go_at_call 61; refine (HA.out _).mono ?_; rintro e w2 ⟨rfl, hw2⟩; have HB2 := Lib.hid (bytes_or hw2); clear hw2) | (go_at_call 24; refine (HI.out _ HB2.out).mono ?_; rintro e w3 ⟨rfl, hb3⟩; have HB3 := Lib.hid (HB2.out.trans (hb3.mono HB2.out.size)); clear hb3) | (go_at_call 62; refine (HT.out _).mono ?_; rintro e w4 ⟨rfl, hw4⟩; have HB4 := Lib.hid (hw4 ▸ HB3.out); clear hw4))
    go_ret2
    have hn := HN.out.trans (if_neg fun h => h1 h.1)
    exact ⟨numR_of (b := false) (by rw [hn]; rfl) (fun v' hv' => by rw [hn] at hv'; cases hv'), HB3.out⟩

set_option maxRecDepth 100000 in
set_option maxHeartbeats 1000000 in
theorem number_any (s : ByteArray) (hs : s.size ≤ 281474976710656) (W : World) (hW : Sp W) : Calls Tryz.prog 46 #[.string s] W fun e w' => NumR s.data.toList e ∧ Below W.heap.size W w' := by
  cases hv : Lib.atoiAll s.data.toList
  · exact number_ok s hs _ hv W hW
  · obtain ⟨te, pe, hc⟩ := hW.syn
    have HA := Lib.hid (Tryz.strconv_Atoi_syntax s hs hv _ W hc (.inr ⟨te, pe, rfl⟩))
    have HN := Lib.hid (numB_syn hv)
    clear hv
    go_enter Tryz.func46, Tryz.ntmps46
    go_wp2_with (go_at_call 61; refine HA.out.mono ?_; rintro e w2 ⟨N, rfl, hN, hh, hb2⟩; have HB2 := Lib.hid hb2; clear hh hb2)
    go_ret2
    exact ⟨numR_of (b := false) (by rw [HN.out]; rfl) (fun v' hv' => by rw [HN.out] at hv'; cases hv'), HB2.out⟩
  · obtain ⟨te, pe, hc⟩ := hW.rng
    have HA := Lib.hid (Tryz.strconv_Atoi_range s hs hv _ W hc (.inr ⟨te, pe, rfl⟩))
    have HN := Lib.hid (numB_rng hv)
    clear hv
    go_enter Tryz.func46, Tryz.ntmps46
    go_wp2_with (go_at_call 61; refine HA.out.mono ?_; rintro e w2 ⟨N, rfl, hN, hh, hb2⟩; have HB2 := Lib.hid hb2; clear hh hb2)
    go_ret2
    exact ⟨numR_of (b := false) (by rw [HN.out]; rfl) (fun v' hv' => by rw [HN.out] at hv'; cases hv'), HB2.out⟩
end Go.Proofs.YtkpofjfndokaeaaGreatDoor
