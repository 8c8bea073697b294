/- script.read: every line's words. -/
import Derived.Test.YtkpofjfndokaeaaGreatDoorG1
import Derived.Test.YtkpofjfndokaeaaGreatDoorG3
namespace Go.Proofs.YtkpofjfndokaeaaGreatDoor
open Go.RowKit

theorem read_any (ts : List (List UInt8)) (hne : ts ≠ []) (v : Value) (W : World) (hW : Sp W) (hws : Ws W v ts) (hsm : ∀ s ∈ ts, s.length ≤ 4294967295) (hl : ts.length ≤ 4294967295) :
    Calls Tryz.prog 32 #[v] W fun e w' => ReadR ts e ∧ Below W.heap.size W w' := by
  cases ts with
  | nil => exact absurd rfl hne
  | cons t r =>
    have hl2 : (t :: r).length = r.length + 1 := rfl
    cases hz : numB t with
    | none => exact read_nums t r v W hW hws (hsm t (by simp)) (fun s hs => hsm s (by simp [hs])) (by omega) hz
    | some z =>
      by_cases hr : r = []
      · subst hr
        exact read_short t v W hW hws (hsm t (by simp)) z hz
      · exact read_worker t r v W hW hws (hsm t (by simp)) (fun s hs => hsm s (by simp [hs])) hr z hz
end Go.Proofs.YtkpofjfndokaeaaGreatDoor
