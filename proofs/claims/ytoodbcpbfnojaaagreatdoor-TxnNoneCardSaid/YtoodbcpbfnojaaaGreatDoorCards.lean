/-
  DERIVED. GIVEN WITH THE SEED: THE CARDS: each row of YtoodbcpbfnojaaaGreatDoorRows.lean that lists a variable, with what it lists TIED to the program's text (the seventh form; the later family's looks); each row that meets fmt, with fmt's text TOLD by the authors' own Lean function (tested against real Go, not proved from fmt's source: count such statements apart). THE CARD IS WHAT COUNTS. Prove the row's statement (the work); the ties are given (YtoodbcpbfnojaaaGreatDoorTie.lean); close each card by the builder's one call (the guide's Derived/Test/ToyasCard.lean, 'card_holds'). Laid BY PROGRAM, IN A SANDBOX (cutbox-door.mjs). By AI agents, Wed Nov 11 2026. No macro, syntax, notation, axiom, sorry.
-/
import Derived.Test.YtoodbcpbfnojaaaGreatDoorRows
import GoSem.ClaimSeven
namespace Go.Proofs.YtoodbcpbfnojaaaGreatDoor
namespace Rows

/-- THE TIED CARD OF 'varvelaw17.TxnNone'. -/
def txnNoneCard : Claim7 := { stood := { row := txnNoneRow, standIns := [], harness := (true, "2ae18adde270202204807c64e3084cb8c56c210baf344636351ae6e9dda149fc"), looks := true }, kinds := [], alts := [], laidByText := true, laidKinds := [.data], laidTests := true, laidLooks := .later }
def TxnNoneCardSaid : Prop := Claim7.holds Tryz.pinned (.plain (OpenSpec.ofChange txnNoneSpec)) txnNoneCard

/-- THE SECOND FORM's CARD OF 'varvelaw17.TxnNone'. -/
def txnNoneUptoCard : Claim7 := { stood := { row := txnNoneUptoRow, standIns := [], harness := (true, "2ae18adde270202204807c64e3084cb8c56c210baf344636351ae6e9dda149fc"), looks := true }, kinds := [], alts := [], laidByText := true, laidKinds := [.data], laidTests := true, laidLooks := .later }
def TxnNoneUptoCardSaid : Prop := Claim7.holds Tryz.pinned (.plain (OpenSpec.upto txnNoneSpec)) txnNoneUptoCard
end Rows
end Go.Proofs.YtoodbcpbfnojaaaGreatDoor
