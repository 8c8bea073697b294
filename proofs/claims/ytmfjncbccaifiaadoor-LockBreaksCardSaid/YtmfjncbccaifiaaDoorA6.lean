/- The contracts in every later world; what lies in the table when a call begins. -/
import Derived.Test.YtmfjncbccaifiaaDoorA5
import Derived.Test.YtmfjncbccaifiaaDoorRows
import Derived.Lib.LaidTab
import Derived.LaidMore
import Derived.MakeChecks
namespace Go.Proofs.YtmfjncbccaifiaaDoor
open Go.RowKit Go.Shelf
set_option linter.unusedVariables false
set_option linter.unusedSimpArgs false

theorem tab_below {n : Nat} {w w' : World} (hn : 0 < n) (hb : Below n w w') (hT : TabAt w) : TabAt w' := fun j hj => (hb.cell (p := ⟨0, j, none⟩) hn).trans (hT j hj)

/-- The start: the table lies there. -/
structure Start (w : World) : Prop where
  tab : TabAt w
  pos : 0 < w.heap.size
/-- A later world: what was there at the start lies as it lay. -/
abbrev Later (w w' : World) : Prop := Below w.heap.size w w'
theorem Start.later {w w' : World} (s : Start w) (h : Later w w') : Start w' := ⟨tab_below s.pos h s.tab, Nat.lt_of_lt_of_le s.pos h.size⟩
theorem Later.step {w w' w'' : World} (h : Later w w') (k : Below w'.heap.size w' w'') : Later w w'' := h.trans (k.mono h.size)

theorem shown_at {w : World} (s : Start w) (w' : World) (h : Later w w') : Calls Tryd.prog 11 #[] w' fun e w'' => e = .returned (.bool true) ∧ Later w w'' :=
  (shown_any w' (s.later h).tab (s.later h).pos).mono fun _ _ ⟨he, hb⟩ => ⟨he, h.step hb⟩
theorem read_at {w : World} (s : Start w) (m : Nat) (a : Int) (hm : m < 18446744073709551616) (w' : World) (h : Later w w') :
    Calls Tryd.prog 12 #[.int .u64 (m : Int), .int .i64 a] w' fun e w'' => e = .returned (.tuple #[.int .u64 ((rdW m a).1 : Nat), .bool (rdW m a).2.1, .int .i64 (rdW m a).2.2]) ∧ Later w w'' :=
  (read_any m a hm w' (s.later h).tab (s.later h).pos).mono fun _ _ ⟨he, hb⟩ => ⟨he, h.step hb⟩
theorem write_at {w : World} (s : Start w) (m : Nat) (a : Int) (hm : m < 18446744073709551616) (w' : World) (h : Later w w') :
    Calls Tryd.prog 13 #[.int .u64 (m : Int), .int .i64 a] w' fun e w'' => e = .returned (.tuple #[.int .u64 ((wrW m a).1 : Nat), .bool (wrW m a).2.1, .int .i64 (wrW m a).2.2]) ∧ Later w w'' :=
  (write_any m a hm w' (s.later h).tab (s.later h).pos).mono fun _ _ ⟨he, hb⟩ => ⟨he, h.step hb⟩
theorem against_at {w : World} (s : Start w) (m : Nat) (a : Int) (b : Bool) (hm : m < 18446744073709551616) (w' : World) (h : Later w w') :
    Calls Tryd.prog 14 #[.int .u64 (m : Int), .int .i64 a, .bool b] w' fun e w'' => ∃ A c, e = .returned (.slice A (agn m a b).length c) ∧ w''.ownsRow w'.heap.size 3 1 (.slice A (agn m a b).length c) (agn m a b).length ((agn m a b).map encN) ∧ Later w w'' :=
  (against_any m a b hm w' (s.later h).tab (s.later h).pos).mono fun _ _ ⟨A, c, he, hr, hb⟩ => ⟨A, c, he, hr, h.step hb⟩
theorem readers_at {w : World} (s : Start w) (m : Nat) (hm : m < 18446744073709551616) (w' : World) (h : Later w w') :
    Calls Tryd.prog 17 #[.int .u64 (m : Int)] w' fun e w'' => ∃ A c, e = .returned (.slice A (mem (rdM m)).length c) ∧ w''.ownsRow w'.heap.size 3 1 (.slice A (mem (rdM m)).length c) (mem (rdM m)).length ((mem (rdM m)).map encN) ∧ Later w w'' :=
  (readers_any m hm w' (s.later h).tab (s.later h).pos).mono fun _ _ ⟨A, c, he, hr, hb⟩ => ⟨A, c, he, hr, h.step hb⟩
theorem leave_at {w : World} (s : Start w) (m : Nat) (a : Int) (hm : m < 18446744073709551616) (w' : World) (h : Later w w') :
    Calls Tryd.prog 18 #[.int .u64 (m : Int), .int .i64 a] w' fun e w'' => e = .returned (.tuple #[.int .u64 ((lvW m a).1 : Nat), .int .i64 (lvW m a).2]) ∧ w' = w'' :=
  leave_any m a hm w' (s.later h).tab

/-! ### The listed variable -/
abbrev laid1 : List (String × DataW Unit) := [("math/bits.deBruijn64tab", Rows.laid_math_bits_deBruijn64tab)]
theorem gTab : Tryd.prog.globalNamed "math/bits.deBruijn64tab" = some 0 := by kernel_rfl
theorem tTab : (Tryd.prog.globals[0]?).map (·.type) = some 79 := by kernel_rfl

theorem laid_is : Rows.laid_math_bits_deBruijn64tab = (Lib.tabData .u8 (Lib.deBruijn64tab.map Int.ofNat) : DataW Unit) := rfl

theorem start_of_laid {W : World} (h : laidMetH Tryd.prog laid1 W) : Start W := by
  rw [MakeChecks.laidMetH_plain _ _ _ (by kernel_rfl)] at h
  have ht : Lib.TabIs Tryd.prog W "math/bits.deBruijn64tab" .u8 (Lib.deBruijn64tab.map Int.ofNat) :=
    Lib.tabIs_of_head (rest := []) gTab tTab Tryd.underlying79 Tryd.underlying5 (by kernel_rfl) (by kernel_rfl) h
  have hc : TabAt W := fun j hj => by
    have := World.var?_cell gTab ht j
    rw [this]
    have hl : j < Lib.deBruijn64tab.length := hj
    simp [hl]
  exact ⟨hc, by
    have := hc 0 (by decide)
    rcases Nat.lt_or_ge 0 W.heap.size with h | h
    · exact h
    · rw [World.cell?, Array.getElem?_eq_none (by simpa using h)] at this; cases this⟩

theorem door_met (os : Os) (args : Array Value) : laidMetH Tryd.prog laid1 ((World.doorLaid Tryd.prog 400 os).forCall (fun _ _ => 0) ⟨#[], args, []⟩).memory :=
  laidMetH_of_parts3 (fuel := 8) (laidMet_of_run' 8 (by kernel_rfl) (by kernel_rfl)) (by kernel_rfl) (by kernel_rfl)
end Go.Proofs.YtmfjncbccaifiaaDoor
