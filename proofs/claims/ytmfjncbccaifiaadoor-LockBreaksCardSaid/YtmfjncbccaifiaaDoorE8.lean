/- Both Cycles, at every argument. -/
import Derived.Test.YtmfjncbccaifiaaDoorE7
namespace Go.Proofs.YtmfjncbccaifiaaDoor
open Go.RowKit
set_option linter.unusedVariables false

def cycE (w : Nat → Nat) (a : Int) : List Nat × Bool := if isW a then cyc w a.toNat else ([], false)

theorem cycle_any (gb : Nat) (ws : List Nat) (a : Int) (W : World) (hG : GB W gb ws) (hgr : Gr (wf ws)) (hs : Start W) :
    Calls Tryd.prog 28 #[.pointer (some ⟨gb, 0, none⟩), .int .i64 a] W (CycPost (cycE (wf ws) a).1 (cycE (wf ws) a).2 W) := by
  by_cases ha : isW a = true
  · obtain ⟨h1, h2⟩ := isW_true.1 ha
    obtain ⟨k, rfl⟩ := Int.eq_ofNat_of_zero_le h1
    unfold cycE
    rw [if_pos ha]
    exact (callsIn_wide (n := 8)).1 (cycle_in Fence.wide 8 trivial trivial trivial trivial trivial trivial trivial rfl (Nat.le_refl _) gb ws k (by omega) W hG hgr hs.tab hs.pos)
  · have ha' : isW a = false := by simpa using ha
    unfold cycE
    rw [if_neg ha]
    exact (callsIn_wide (n := 8)).1 (cycle_no Fence.wide 8 trivial trivial rfl (by omega) gb a ha' W)

theorem rcycle_all (r : Nat) (ws : List Nat) (bs : List Bool) (a : Int) (W : World) (hR : RB W r bs) (hrel : Rel ws bs) :
    Calls Tryd.prog 31 #[.pointer (some ⟨r, 0, none⟩), .int .i64 a] W (CycPost (cycE (wf ws) a).1 (cycE (wf ws) a).2 W) := by
  by_cases ha : isW a = true
  · obtain ⟨h1, h2⟩ := isW_true.1 ha
    obtain ⟨k, rfl⟩ := Int.eq_ofNat_of_zero_le h1
    unfold cycE
    rw [if_pos ha]
    exact rcycle_any r ws bs k (by omega) W hR hrel
  · have ha' : isW a = false := by simpa using ha
    unfold cycE
    rw [if_neg ha]
    exact rcycle_no r a ha' W
end Go.Proofs.YtmfjncbccaifiaaDoor
