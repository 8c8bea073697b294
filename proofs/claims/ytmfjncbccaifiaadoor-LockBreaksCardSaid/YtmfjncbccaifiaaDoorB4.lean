/- LockVictims, the walk of the law; what a slice of ints that came in reads as. -/
import Derived.Test.YtmfjncbccaifiaaDoorB3
import Derived.SizedLaws
import Derived.ChangeSlices
namespace Go.Proofs.YtmfjncbccaifiaaDoor
open Go.RowKit Go.Shelf Go.ChangeShapes Go.WideShapes
set_option linter.unusedVariables false
set_option linter.unusedSimpArgs false

def IsRow (k : IntKind) (w : World) (a : Option Addr) (len cap : Nat) (zs : List Int) : Prop :=
  (a = none ∧ len = 0 ∧ cap = 0 ∧ zs = []) ∨
  ∃ x, a = some x ∧ len ≤ cap ∧ cap ≤ maxLen ∧ zs.length = cap ∧ (∀ i, i < zs.length → w.cell? (x.add i) = some (.int k (zs.getD i 0))) ∧ ∀ n ∈ zs, (Lit.int k n).wf = true

theorem add_blk (a : Addr) (n : Nat) : (a.add n).block = a.block := by unfold Addr.add; split <;> rfl
theorem lt_of_cell {w : World} {a : Addr} {v : Value} (h : w.cell? a = some v) : a.block < w.heap.size := by
  rcases Nat.lt_or_ge a.block w.heap.size with hlt | hge
  · exact hlt
  · unfold World.cell? at h; rw [Array.getElem?_eq_none hge] at h; cases h

theorem IsRow.ints {w : World} {a : Option Addr} {len cap : Nat} {zs : List Int} (h : IsRow .i64 w a len cap zs) :
    ∃ l : List Int, len = l.length ∧ Ints w a l ∧ (∀ x ∈ l, (Lit.int .i64 x).wf = true) := by
  rcases h with ⟨rfl, rfl, rfl, rfl⟩ | ⟨x, rfl, hl, _, hz, hc, hw⟩
  · exact ⟨[], rfl, fun j hj => by simp at hj, by simp⟩
  · refine ⟨zs.take len, by simp; omega, fun j hj => ?_, fun x hx => hw x (List.mem_of_mem_take hx)⟩
    have hj1 : j < zs.length := by simp at hj; omega
    have hj2 : j < len := by simp at hj; omega
    refine ⟨x, rfl, ?_, ?_⟩
    · rw [hc j hj1]; simp [List.getD_eq_getElem?_getD, List.getElem?_take, hj2]
    · have := lt_of_cell (hc j hj1); rwa [add_blk] at this

theorem sized_ints' {H : Type} {enc : TypeId × Value → H} {P : Program} {W : World} {base : Nat} {spare : Nat → Bool} {held : Bool} {t e : TypeId} {k : IntKind} {a : Option Addr} {len cap : Nat} {d : DataW H} {ps : List MemPlace} {ts : List TypeId} {ds : List (DataW H)} {j : Nat}
    (hsz : (DataW.weightsEach P ts ds).all (· ≤ reachBytes) = true) (ht : ts[j]? = some t) (hd : ds[j]? = some d) (hu : P.underlying t = some (.slice e)) (he : P.underlying e = some (.int k)) (hc : P.cellsOf e = 1) {B : Nat} (hB : P.bytesOf e = B)
    (h : DataW.Trod enc P W base spare held t (.slice a len cap) d ps) : len * B ≤ 140737488351232 := by
  obtain ⟨fuel, hf⟩ := h
  rcases open_ints hu he hc hf with ⟨hcs, _⟩ | ⟨x, l, c, zs, hcs, _, hl, _, hz, hx, _, _⟩
  · simp [Value.cells] at hcs
    obtain ⟨rfl, rfl, rfl⟩ := hcs
    simp
  · simp [Value.cells] at hcs
    obtain ⟨rfl, rfl, rfl⟩ := hcs
    obtain ⟨hx, _⟩ := Prod.mk.inj hx
    subst hx
    have z := sized_slice hsz ht hd hu
    rw [hB] at z
    have hl2 : len ≤ zs.length := by
      rw [hz]
      split
      · exact hl
      · exact Nat.le_refl _
    have h1 : (lits (H := H) k (zs.take len)).length + (lits (H := H) k (zs.drop len)).length = zs.length := by
      simp [lits]
      omega
    rw [h1] at z
    exact Nat.le_trans (Nat.mul_le_mul_right _ hl2) z

set_option maxHeartbeats 1000000 in
theorem victims_core (A0 : Option Addr) (c0 n0 : Nat) (A1 : Option Addr) (c1 n1 : Nat) (r : Int) (q : Bool) (w : World)
    (HS : Hid (∀ w', Later w w' → Calls Tryd.prog 11 #[] w' fun e w'' => e = .returned (.bool true) ∧ Later w w''))
    (HV : Hid (∀ w', Later w w' → Calls Tryd.prog 15 #[.slice A0 n0 c0, .slice A1 n1 c1] w' fun e w'' => e = .returned (.tuple #[.int .i64 r, .bool q]) ∧ Later w w''))
    (HR : Hid (∀ w', Later w w' → Calls Tryd.prog 16 #[.slice A0 n0 c0, .slice A1 n1 c1] w' fun e w'' => e = .returned (.tuple #[.int .i64 r, .bool q]) ∧ w' = w'')) :
    Calls Tryd.prog 4 #[.slice A0 n0 c0, .slice A1 n1 c1] w fun e w' => e = .returned (.bool true) ∧ Later w w' := by
  have hb : Later w w := Below.refl _ _
  go_enter Tryd.func4, Tryd.ntmps4
  go_wp2_with (first | (go_at_call 11; refine (HS.out _ hb).mono ?_; clear hb; rintro e w1 ⟨rfl, hb⟩) | (go_at_call 15; refine (HV.out _ hb).mono ?_; clear hb; rintro e w1 ⟨rfl, hb⟩) | (go_at_call 16; refine (HR.out _ hb).mono ?_; rintro e w1 ⟨rfl, rfl⟩))
  go_ret
  exact ⟨rfl, hb⟩

theorem LockVictims.walk (a0 : Option Addr) (len0 cap0 : Nat) (z0 : List Int) (a1 : Option Addr) (len1 cap1 : Nat) (z1 : List Int) {w : World}
    (w0 : IsRow .i64 w a0 len0 cap0 z0) (y0 : len0 * 8 ≤ 140737488351232) (w1 : IsRow .i64 w a1 len1 cap1 z1) (y1 : len1 * 8 ≤ 140737488351232) (s : Start w) :
    Calls Tryd.prog 4 #[.slice a0 len0 cap0, .slice a1 len1 cap1] w fun e w' => e = .returned (.bool true) ∧ Below w.heap.size w w' := by
  obtain ⟨l, rfl, hl, _⟩ := w0.ints
  obtain ⟨ages, rfl, ha, _⟩ := w1.ints
  exact victims_core a0 cap0 _ a1 cap1 _ _ _ w (Lib.hid (shown_at s))
    (Lib.hid fun w' hb => (victim_any a0 cap0 l a1 cap1 ages w' (hl.later hb) (ha.later hb) (by omega) (by omega)).mono fun _ _ ⟨he, hb'⟩ => ⟨he, hb.step hb'⟩)
    (Lib.hid fun w' hb => rvictim_any a0 cap0 l a1 cap1 ages w' (hl.later hb) (ha.later hb) (by omega) (by omega))
end Go.Proofs.YtmfjncbccaifiaaDoor
