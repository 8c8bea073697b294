/- shown in every later world; what lies in the table when a call begins. -/
import Derived.Test.YtoodbcpbfnojaaaGreatDoorL0
import Derived.Lib.LaidTab
import Derived.LaidMore
import Derived.MakeChecks
namespace Go.Proofs.YtoodbcpbfnojaaaGreatDoor
open Go Go.RowKit
set_option linter.unusedVariables false
set_option linter.unusedSimpArgs false

theorem shown_at {w : World} (s : Start w) (w' : World) (h : Later w w') : Calls Tryz.prog 4 #[] w' fun e w'' => e = .returned (.bool true) ∧ Later w w'' :=
  (Ev.head_any Ev.noSpec_ok shown_run w' (s.later h)).mono fun _ _ ⟨he, hb⟩ => ⟨he, h.step hb⟩

/-! ### The listed variable -/
abbrev laid1 : List (String × DataW Unit) := [("math/bits.deBruijn64tab", Rows.laid_math_bits_deBruijn64tab)]
theorem gTab : Tryz.prog.globalNamed "math/bits.deBruijn64tab" = some 0 := by kernel_rfl
theorem tTab : (Tryz.prog.globals[0]?).map (·.type) = some 221 := by kernel_rfl

theorem laid_is : Rows.laid_math_bits_deBruijn64tab = (Lib.tabData .u8 (Lib.deBruijn64tab.map Int.ofNat) : DataW Unit) := rfl

theorem start_of_laid {W : World} (h : laidMetH Tryz.prog laid1 W) : Start W := by
  rw [MakeChecks.laidMetH_plain _ _ _ (by kernel_rfl)] at h
  have ht : Lib.TabIs Tryz.prog W "math/bits.deBruijn64tab" .u8 (Lib.deBruijn64tab.map Int.ofNat) :=
    Lib.tabIs_of_head (rest := []) gTab tTab Tryz.underlying221 Tryz.underlying5 (by kernel_rfl) (by kernel_rfl) h
  have hc : TabAt W := fun j hj => by
    have := World.var?_cell gTab ht j
    rw [this]
    have hl : j < Lib.deBruijn64tab.length := hj
    simp [hl]
  exact ⟨hc, by
    have := hc 0 (by decide)
    rcases Nat.lt_or_ge 0 W.heap.size with h | h
    · exact h
    · rw [World.cell?, Array.getElem?_eq_none (by simpa using h)] at this; cases this⟩

theorem door_met (os : Os) (args : Array Value) : laidMetH Tryz.prog laid1 ((World.doorLaid Tryz.prog 400 os).forCall (fun _ _ => 0) ⟨#[], args, []⟩).memory :=
  laidMetH_of_parts3 (fuel := 8) (laidMet_of_run' 8 (by kernel_rfl) (by kernel_rfl)) (by kernel_rfl) (by kernel_rfl)
end Go.Proofs.YtoodbcpbfnojaaaGreatDoor
