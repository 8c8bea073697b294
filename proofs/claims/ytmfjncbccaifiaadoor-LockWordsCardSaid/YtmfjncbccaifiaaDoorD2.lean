/- LockWords: the walk of the law. -/
import Derived.Test.YtmfjncbccaifiaaDoorD1
import Derived.Test.YtmfjncbccaifiaaDoorC3
namespace Go.Proofs.YtmfjncbccaifiaaDoor
open Go.RowKit
set_option linter.unusedVariables false
set_option linter.unusedSimpArgs false

theorem writer_at {w : World} (s : Start w) (m : Nat) (hm : m < 18446744073709551616) (w' : World) (h : Later w w') :
    Calls Tryd.prog 23 #[.int .u64 (m : Int)] w' fun e w'' => e = .returned (.tuple #[.int .i64 (wtr m).1, .bool (wtr m).2]) ∧ w' = w'' := by
  by_cases h0 : wrM m = 0
  · have e : wtr m = (0, false) := by unfold wtr; rw [if_pos h0]
    rw [e]
    exact writer_none m hm h0 w'
  · have e : wtr m = (((Lib.ctz 64 (wrM m) : Nat) : Int), true) := by unfold wtr; rw [if_neg h0]
    rw [e]
    exact writer_some m hm h0 w' (s.later h).tab

/-- A call that hands back a slice of ints of its own. -/
abbrev Hands (w w' : World) (L : List Int) (e : Ending) (w'' : World) : Prop :=
  ∃ A c, e = .returned (.slice A L.length c) ∧ Hid (Ints w'' A L) ∧ Hid (Later w' w'') ∧ Later w w''

theorem readers_hands {w : World} (s : Start w) (m : Nat) (hm : m < 18446744073709551616) (w' : World) (h : Later w w') :
    Calls Tryd.prog 17 #[.int .u64 (m : Int)] w' (Hands w w' ((mem (rdM m)).map Int.ofNat)) :=
  (readers_any m hm w' (s.later h).tab (s.later h).pos).mono fun _ _ ⟨A, c, he, hr, hb⟩ => ⟨A, c, by rw [he, List.length_map], Lib.hid (own_ints hr), Lib.hid hb, h.step hb⟩
theorem against_hands {w : World} (s : Start w) (m : Nat) (a : Int) (b : Bool) (hm : m < 18446744073709551616) (w' : World) (h : Later w w') :
    Calls Tryd.prog 14 #[.int .u64 (m : Int), .int .i64 a, .bool b] w' (Hands w w' ((agn m a b).map Int.ofNat)) :=
  (against_any m a b hm w' (s.later h).tab (s.later h).pos).mono fun _ _ ⟨A, c, he, hr, hb⟩ => ⟨A, c, by rw [he, List.length_map], Lib.hid (own_ints hr), Lib.hid hb, h.step hb⟩

open Go.Proofs.YtmfjncbccaifiaaDoor.PLockWords Go.Proofs.YtmfjncbccaifiaaDoorW.PrintWords Go.Proofs.YtmfjncbccaifiaaDoorW.PrintLast Go.Proofs.YtmfjncbccaifiaaDoorW.PrintMore in
theorem R_ints {n₀ : Nat} {w : World} {v : Value} {L : List Int} (h : Kd.R (Kd.int .i64) 3 w n₀ (fun _ => True) v L) : ∃ A c, v = .slice A L.length c ∧ Ints w A L := by
  obtain ⟨A, c, rfl⟩ := Kd.R_slice h
  have ho := Kd.own_of_R h
  refine ⟨A, c, rfl, fun j hj => ?_⟩
  obtain ⟨g, cap, hv, _, hlt⟩ := ho.form (by omega)
  have hA : A = some ⟨g, 0, none⟩ := by injection hv
  subst hA
  refine ⟨_, rfl, ?_, hlt⟩
  have hx : (encs (Value.int .i64) L)[j]? = some (.int .i64 L[j]) := by simp [encs, hj]
  rw [ho.cells (g := g) rfl j _ hx]
  simp [List.getD_eq_getElem?_getD, hj]

open Go.Proofs.YtmfjncbccaifiaaDoor.PLockWords in
theorem rreaders_hands {w : World} (m : Nat) (w' : World) (h : Later w w') :
    Calls Tryd.prog 25 #[.int .u64 (m : Int)] w' (Hands w w' ((mem (rdM m)).map Int.ofNat)) :=
  (varveref13_Readers.calls 40 (m : Int) _ w' (rReaders m)).mono fun _ _ ⟨v, he, hr, hb⟩ => by
    obtain ⟨A, c, rfl, hI⟩ := R_ints hr
    exact ⟨A, c, he, Lib.hid hI, Lib.hid hb, h.step hb⟩
open Go.Proofs.YtmfjncbccaifiaaDoor.PLockWords in
theorem ragainst_hands {w : World} (m : Nat) (a : Int) (b : Bool) (hm : m < 18446744073709551616) (w' : World) (h : Later w w') :
    Calls Tryd.prog 26 #[.int .u64 (m : Int), .int .i64 a, .bool b] w' (Hands w w' ((agn m a b).map Int.ofNat)) :=
  (varveref13_Against.calls 40 (m : Int) a b _ w' (rAgainst m a b hm)).mono fun _ _ ⟨v, he, hr, hb⟩ => by
    obtain ⟨A, c, rfl, hI⟩ := R_ints hr
    exact ⟨A, c, he, Lib.hid hI, Lib.hid hb, h.step hb⟩
open Go.Proofs.YtmfjncbccaifiaaDoor.PLockWords in
theorem rread_at {w : World} (m : Nat) (a : Int) (hm : m < 18446744073709551616) (w' : World) (h : Later w w') :
    Calls Tryd.prog 20 #[.int .u64 (m : Int), .int .i64 a] w' fun e w'' => e = .returned (.tuple #[.int .u64 ((rdW m a).1 : Nat), .bool (rdW m a).2.1, .int .i64 (rdW m a).2.2]) ∧ Later w w'' :=
  (varveref13_Read.calls 40 (m : Int) a _ _ _ w' (rRead m a hm)).mono fun _ _ ⟨he, hb⟩ => ⟨he, h.step hb⟩
open Go.Proofs.YtmfjncbccaifiaaDoor.PLockWords in
theorem rwrite_at {w : World} (m : Nat) (a : Int) (hm : m < 18446744073709551616) (w' : World) (h : Later w w') :
    Calls Tryd.prog 21 #[.int .u64 (m : Int), .int .i64 a] w' fun e w'' => e = .returned (.tuple #[.int .u64 ((wrW m a).1 : Nat), .bool (wrW m a).2.1, .int .i64 (wrW m a).2.2]) ∧ Later w w'' :=
  (varveref13_Write.calls 40 (m : Int) a _ _ _ w' (rWrite m a hm)).mono fun _ _ ⟨he, hb⟩ => ⟨he, h.step hb⟩
open Go.Proofs.YtmfjncbccaifiaaDoor.PLockWords in
theorem rleave_at {w : World} (m : Nat) (a : Int) (hm : m < 18446744073709551616) (w' : World) (h : Later w w') :
    Calls Tryd.prog 22 #[.int .u64 (m : Int), .int .i64 a] w' fun e w'' => e = .returned (.tuple #[.int .u64 ((lvW m a).1 : Nat), .int .i64 (lvW m a).2]) ∧ Later w w'' :=
  (varveref13_Leave.calls (m : Int) a _ _ w' (rLeave m a hm)).mono fun _ _ ⟨he, hb⟩ => ⟨he, h.step hb.below⟩
open Go.Proofs.YtmfjncbccaifiaaDoor.PLockWords in
theorem rwriter_at {w : World} (m : Nat) (hm : m < 18446744073709551616) (w' : World) (h : Later w w') :
    Calls Tryd.prog 24 #[.int .u64 (m : Int)] w' fun e w'' => e = .returned (.tuple #[.int .i64 (wtr m).1, .bool (wtr m).2]) ∧ Later w w'' :=
  (varveref13_Writer.calls (m : Int) _ _ w' (rWriter m hm)).mono fun _ _ ⟨he, hb⟩ => ⟨he, h.step hb.below⟩

set_option maxHeartbeats 4000000 in
theorem words_core (m a x y z t f g h u : Int) (b r q v : Bool) (L1 L2 : List Int) (w : World)
    (HS : Hid (∀ w', Later w w' → Calls Tryd.prog 11 #[] w' fun e w'' => e = .returned (.bool true) ∧ Later w w''))
    (H12 : Hid (∀ w', Later w w' → Calls Tryd.prog 12 #[.int .u64 m, .int .i64 a] w' fun e w'' => e = .returned (.tuple #[.int .u64 x, .bool r, .int .i64 f]) ∧ Later w w''))
    (H20 : Hid (∀ w', Later w w' → Calls Tryd.prog 20 #[.int .u64 m, .int .i64 a] w' fun e w'' => e = .returned (.tuple #[.int .u64 x, .bool r, .int .i64 f]) ∧ Later w w''))
    (H13 : Hid (∀ w', Later w w' → Calls Tryd.prog 13 #[.int .u64 m, .int .i64 a] w' fun e w'' => e = .returned (.tuple #[.int .u64 y, .bool q, .int .i64 g]) ∧ Later w w''))
    (H21 : Hid (∀ w', Later w w' → Calls Tryd.prog 21 #[.int .u64 m, .int .i64 a] w' fun e w'' => e = .returned (.tuple #[.int .u64 y, .bool q, .int .i64 g]) ∧ Later w w''))
    (H18 : Hid (∀ w', Later w w' → Calls Tryd.prog 18 #[.int .u64 m, .int .i64 a] w' fun e w'' => e = .returned (.tuple #[.int .u64 z, .int .i64 h]) ∧ w' = w''))
    (H22 : Hid (∀ w', Later w w' → Calls Tryd.prog 22 #[.int .u64 m, .int .i64 a] w' fun e w'' => e = .returned (.tuple #[.int .u64 z, .int .i64 h]) ∧ Later w w''))
    (H23 : Hid (∀ w', Later w w' → Calls Tryd.prog 23 #[.int .u64 m] w' fun e w'' => e = .returned (.tuple #[.int .i64 t, .bool v]) ∧ w' = w''))
    (H24 : Hid (∀ w', Later w w' → Calls Tryd.prog 24 #[.int .u64 m] w' fun e w'' => e = .returned (.tuple #[.int .i64 t, .bool v]) ∧ Later w w''))
    (H17 : Hid (∀ w', Later w w' → Calls Tryd.prog 17 #[.int .u64 m] w' (Hands w w' L1)))
    (H25 : Hid (∀ w', Later w w' → Calls Tryd.prog 25 #[.int .u64 m] w' (Hands w w' L1)))
    (H14 : Hid (∀ w', Later w w' → Calls Tryd.prog 14 #[.int .u64 m, .int .i64 a, .bool b] w' (Hands w w' L2)))
    (H26 : Hid (∀ w', Later w w' → Calls Tryd.prog 26 #[.int .u64 m, .int .i64 a, .bool b] w' (Hands w w' L2)))
    (hl1 : Hid (L1.length ≤ 64)) (hl2 : Hid (L2.length ≤ 64)) :
    Calls Tryd.prog 7 #[.int .u64 m, .int .i64 a, .bool b] w fun e w' => e = .returned (.bool true) ∧ Later w w' := by
  have hb : Later w w := Below.refl _ _
  have HI : Hid (∀ (A : Option Addr) (c : Nat) (A2 : Option Addr) (c2 : Nat) (L : List Int) (w' : World), Ints w' A L → Ints w' A2 L → L.length ≤ 64 → Later w w' →
      Calls Tryd.prog 19 #[.slice A L.length c, .slice A2 L.length c2] w' fun e w'' => e = .returned (.bool true) ∧ Later w w'') := Lib.hid fun A c A2 c2 L w' h1 h2 hl hw =>
    (ints_any A c L A2 c2 L w' h1 h2 (by omega) (by omega)).mono fun e w'' ⟨he, n, hn⟩ => ⟨by rw [he]; simp, by rw [hn]; exact hw.step (later_drewN _ _)⟩
  go_enter Tryd.func7, Tryd.ntmps7
  go_wp2_with (first | (go_at_call 11; refine (HS.out _ hb).mono ?_; clear hb; rintro e w1 ⟨rfl, hb⟩) | (go_at_call 12; refine (H12.out _ hb).mono ?_; clear hb; rintro e w1 ⟨rfl, hb⟩) | (go_at_call 20; refine (H20.out _ hb).mono ?_; clear hb; rintro e w1 ⟨rfl, hb⟩) | (go_at_call 13; refine (H13.out _ hb).mono ?_; clear hb; rintro e w1 ⟨rfl, hb⟩) | (go_at_call 21; refine (H21.out _ hb).mono ?_; clear hb; rintro e w1 ⟨rfl, hb⟩) | (go_at_call 18; refine (H18.out _ hb).mono ?_; rintro e w1 ⟨rfl, rfl⟩) | (go_at_call 22; refine (H22.out _ hb).mono ?_; clear hb; rintro e w1 ⟨rfl, hb⟩) | (go_at_call 23; refine (H23.out _ hb).mono ?_; rintro e w1 ⟨rfl, rfl⟩) | (go_at_call 24; refine (H24.out _ hb).mono ?_; clear hb; rintro e w1 ⟨rfl, hb⟩) | (go_at_call 17; refine (H17.out _ hb).mono ?_; clear hb; rintro e w1 ⟨A, c, rfl, hI, _, hb⟩) | (go_at_call 25; refine (H25.out _ hb).mono ?_; clear hb; rintro e w2 ⟨A2, c2, rfl, hI2, hst, hb⟩; replace hI := Lib.hid (hI.out.later hst.out)) | (go_at_call 19; refine (HI.out _ _ _ _ L1 _ hI.out hI2.out hl1.out hb).mono ?_; clear hb hI hI2 hl1; rintro e w3 ⟨rfl, hb⟩) | (go_at_call 14; refine (H14.out _ hb).mono ?_; clear hb; rintro e w1 ⟨A3, c3, rfl, hI, _, hb⟩) | (go_at_call 26; refine (H26.out _ hb).mono ?_; clear hb; rintro e w2 ⟨A4, c4, rfl, hI2, hst2, hb⟩; replace hI := Lib.hid (hI.out.later hst2.out)) | (go_at_call 19; refine (HI.out _ _ _ _ L2 _ hI.out hI2.out hl2.out hb).mono ?_; clear hb; rintro e w3 ⟨rfl, hb⟩))
  go_ret
  exact ⟨rfl, hb⟩

theorem LockWords.walk (a0 a1 : Int) (a2 : Bool) (w0 : (Lit.int .u64 a0).wf = true) (w1 : (Lit.int .i64 a1).wf = true) {w : World} (s : Start w) :
    Calls Tryd.prog 7 #[.int .u64 a0, .int .i64 a1, .bool a2] w fun e w' => e = .returned (.bool true) ∧ Below w.heap.size w w' := by
  obtain ⟨m, rfl, hm⟩ := nat_of_u64 w0
  refine words_core _ a1 _ _ _ _ _ _ _ 0 a2 _ _ _ ((mem (rdM m)).map Int.ofNat) ((agn m a1 a2).map Int.ofNat) w (Lib.hid (shown_at s)) (Lib.hid (read_at s m a1 hm)) (Lib.hid (rread_at m a1 hm)) (Lib.hid (write_at s m a1 hm)) (Lib.hid (rwrite_at m a1 hm))
    (Lib.hid (leave_at s m a1 hm)) (Lib.hid (rleave_at m a1 hm)) (Lib.hid (writer_at s m hm)) (Lib.hid (rwriter_at m hm)) (Lib.hid (readers_hands s m hm)) (Lib.hid (rreaders_hands m)) (Lib.hid (against_hands s m a1 a2 hm)) (Lib.hid (ragainst_hands m a1 a2 hm)) (Lib.hid ?_) (Lib.hid ?_)
  · rw [List.length_map]; exact mem_length_le _
  · rw [List.length_map]; unfold agn; split
    · exact mem_length_le _
    · simp
end Go.Proofs.YtmfjncbccaifiaaDoor
