/- varvelaw20.shown: the walk: it is true, whatever came before. -/
import Derived.Test.YtkpofjfndokaeaaGreatDoorT0
namespace Go.Proofs.YtkpofjfndokaeaaGreatDoor
open Go.RowKit
set_option linter.unusedVariables false
set_option linter.unusedSimpArgs false

theorem sh_cells : (#[.int .i64 1, .int .i64 3, .int .i64 4, .int .i64 0, .string ⟨#[97, 0]⟩, .string ⟨#[]⟩, .string ⟨#[]⟩, .int .i64 2, .int .i64 0, .int .i64 0, .int .i64 0, .int .i64 4, .int .i64 0, .int .i64 0, .int .i64 0, .string ⟨#[]⟩, .string ⟨#[]⟩, .string ⟨#[]⟩, .int .i64 0, .int .i64 0, .int .i64 5, .int .i64 1] : Array Value) = shEv1.cells ++ shEv2.cells := rfl
theorem sh_evs (w : World) (h : w.heap[w.heap.size - 1]? = none ∨ True) (b : Nat) (hb : w.heap[b]? = some (.cells (shEv1.cells ++ shEv2.cells) 27 (0, 0))) : Evs w (some ⟨b, 0, none⟩) [shEv1, shEv2] := by
  intro j x hj
  refine ⟨_, rfl, (Array.getElem?_eq_some_iff.1 hb).1, fun i hi => ?_⟩
  have hadd : (⟨b, 0, none⟩ : Addr).add (j * 11 + i) = ⟨b, j * 11 + i, none⟩ := by unfold Addr.add; split <;> simp_all
  rw [hadd, cell_of_row w b _ _ 27 (0, 0) hb]
  have h11 : x.cells.size = 11 := rfl
  have hs1 : shEv1.cells.size = 11 := rfl
  match j, hj with
  | 0, hj =>
    simp only [List.getElem?_cons_zero, Option.some.injEq] at hj
    subst hj
    rw [Array.getElem?_append_left (by omega), Nat.zero_mul, Nat.zero_add, Array.getElem?_eq_getElem hi]
  | 1, hj =>
    simp only [List.getElem?_cons_succ, List.getElem?_cons_zero, Option.some.injEq] at hj
    subst hj
    rw [Array.getElem?_append_right (by omega), hs1, show 1 * 11 + i - 11 = i by omega, Array.getElem?_eq_getElem hi]
  | j + 2, hj => simp at hj

set_option maxRecDepth 100000 in
set_option maxHeartbeats 4000000 in
theorem shown_any (W : World) (hW : Sp W) : Calls Tryz.prog 7 #[] W fun e w' => e = .returned (.bool true) ∧ Below W.heap.size W w' := by
  have HSW : Hid (∀ w, Below W.heap.size W w → Sp w) := Lib.hid fun w hb => hW.later hb
  have HA : Hid (Calls Tryz.prog 8 #[.slice (some ⟨W.heap.size, 0, none⟩) 2 2] (W.alloc (.cells #[.int .i64 1, .int .i64 3, .int .i64 4, .int .i64 0, .string ⟨#[97, 0]⟩, .string ⟨#[]⟩, .string ⟨#[]⟩, .int .i64 2, .int .i64 0, .int .i64 0, .int .i64 0, .int .i64 4, .int .i64 0, .int .i64 0, .int .i64 0, .string ⟨#[]⟩, .string ⟨#[]⟩, .string ⟨#[]⟩, .int .i64 0, .int .i64 0, .int .i64 5, .int .i64 1] 27)) fun e w' => e = .returned (.tuple #[.string ⟨#[51, 32, 105, 110, 115, 101, 114, 116, 32, 34, 97, 92, 120, 48, 48, 34, 32, 34, 34, 32, 50, 10, 99, 114, 97, 115, 104, 32, 53, 32, 49, 10]⟩, .int .i64 0]) ∧ Below W.heap.size W w') := Lib.hid <| by
    rw [sh_cells]
    have hb := (Below.refl W.heap.size W).alloc (Nat.le_refl _) (.cells (shEv1.cells ++ shEv2.cells) 27)
    refine (show_any (some ⟨W.heap.size, 0, none⟩) 2 [shEv1, shEv2] _ (hW.later hb).st (sh_evs _ (.inr trivial) _ (heap_alloc_at _ _ rfl)) (by decide)).mono ?_
    rintro e w' ⟨rfl, hb2⟩
    rw [sh_show]
    exact ⟨rfl, hb.trans (hb2.mono hb.size)⟩
  have HP1 : Hid (∀ w, Below W.heap.size W w → Calls Tryz.prog 15 #[.string ⟨#[59, 32, 120, 10, 10, 32, 32, 114, 117, 110, 32, 32, 32, 49]⟩] w fun e w' => ∃ b c, e = .returned (.tuple #[.slice (some b) 1 c, .int .i64 0, .int .i64 0]) ∧ w'.cell? (b.add 0) = some (.int .i64 3) ∧ Evs w' (some b) [Ev.bare 3 1 0 0] ∧ Below W.heap.size W w') := Lib.hid fun w hb => by
    refine (parse_short ⟨#[59, 32, 120, 10, 10, 32, 32, 114, 117, 110, 32, 32, 32, 49]⟩ w (hW.later hb) (by decide)).mono ?_
    rintro e w' ⟨⟨v, rfl, hr⟩, hb2⟩
    rw [show (⟨#[59, 32, 120, 10, 10, 32, 32, 114, 117, 110, 32, 32, 32, 49]⟩ : ByteArray).data.toList = [59, 32, 120, 10, 10, 32, 32, 114, 117, 110, 32, 32, 32, 49] from rfl, sh_parse1] at hr ⊢
    obtain ⟨A, c, rfl, _, he, _⟩ := hr
    obtain ⟨ad, rfl, _, hc⟩ := he 0 _ rfl
    exact ⟨ad, c, rfl, hc 0 (by decide), he, hb.trans (hb2.mono hb.size)⟩
  have HP2 : Hid (∀ w, Below W.heap.size W w → Calls Tryz.prog 15 #[.string ⟨#[10, 48, 32, 103, 101, 116, 32, 97]⟩] w fun e w' => ∃ v, e = .returned (.tuple #[v, .int .i64 2, .int .i64 201]) ∧ Below w.heap.size w w' ∧ Below W.heap.size W w') := Lib.hid fun w hb => by
    refine (parse_short ⟨#[10, 48, 32, 103, 101, 116, 32, 97]⟩ w (hW.later hb) (by decide)).mono ?_
    rintro e w' ⟨⟨v, rfl, hr⟩, hb2⟩
    rw [show (⟨#[10, 48, 32, 103, 101, 116, 32, 97]⟩ : ByteArray).data.toList = [10, 48, 32, 103, 101, 116, 32, 97] from rfl, sh_parse2] at hr ⊢
    exact ⟨v, rfl, hb2, hb.trans (hb2.mono hb.size)⟩
  have HRP : Hid (∀ w, Below W.heap.size W w → Calls Tryz.prog 13 #[(Cl.mk 2 0 ⟨#[]⟩ ⟨#[]⟩ ⟨#[]⟩ 0 0).v, (Rp.mk 0 ⟨#[113, 34]⟩ true [] 0 0).v none 0] w fun e w' => e = .returned (.string ⟨#[34, 113, 92, 120, 50, 50, 34]⟩) ∧ Below W.heap.size W w') := Lib.hid fun w hb => by
    refine (reply_simple ⟨2, 0, ⟨#[]⟩, ⟨#[]⟩, ⟨#[]⟩, 0, 0⟩ ⟨0, ⟨#[113, 34]⟩, true, [], 0, 0⟩ none 0 w (hW.later hb).st ⟨by decide, by decide, by decide, by decide, by decide, by decide, by decide, by decide, by decide⟩ (fun h => absurd h.2 (by decide))).mono ?_
    rintro e w' ⟨rfl, hb2⟩
    rw [sh_reply]
    exact ⟨rfl, hb.trans (hb2.mono hb.size)⟩
  unfold Cl.v Rp.v at HRP
  clear hW
  go_enter Tryz.func7, Tryz.ntmps7
  go_wp2_with (first | (go_at_call 8; refine HA.out.mono ?_; rintro e w2 ⟨rfl, hb2⟩; have HB2 := Lib.hid hb2; clear hb2) | (go_at_call 15; refine (HP1.out _ HB2.out).mono ?_; rintro e w3 ⟨b, c, rfl, _, he3, hb3⟩; have HE3 := Lib.hid he3; have HB3 := Lib.hid hb3; clear hb3 he3 HP1) | (go_at_call 15; refine (HP2.out _ HB3.out).mono ?_; rintro e w4 ⟨v, rfl, hb4, hb5⟩; have HB4 := Lib.hid hb5; obtain ⟨ad, p, hA, hp, hpb, c0, c1, c2, c3, c4, c5, c6, c7, c8, c9, c10⟩ := (HE3.out.later hb4 (Nat.le_refl _)).facts (j := 0) rfl; injection hA with hA; subst hA; have hbkp : b.add (0 * 11) = p := hp.symm; unfold Ev.bare Cl.zero at c0 c1 c2 c3 c4 c5 c6 c7 c8 c9 c10; clear hb4 hb5 hp HP2) | (go_at_call 13; refine (HRP.out _ HB4.out).mono ?_; rintro e w5 ⟨rfl, hb5⟩; have HB5 := Lib.hid hb5; clear hb5))
  go_ret
  exact ⟨rfl, HB5.out⟩
end Go.Proofs.YtkpofjfndokaeaaGreatDoor
