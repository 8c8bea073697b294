/-
  DERIVED. GIVEN WITH THE SEED: THE CARDS: each row of YtmfjncbccaifiaaDoorRows.lean that lists a variable, with what it lists TIED to the program's text (the seventh form; the later family's looks); each row that meets fmt, with fmt's text TOLD by the authors' own Lean function (tested against real Go, not proved from fmt's source: count such statements apart). THE CARD IS WHAT COUNTS. Prove the row's statement (the work); the ties are given (YtmfjncbccaifiaaDoorTie.lean); close each card by the builder's one call (the guide's Derived/Test/ToyasCard.lean, 'card_holds'). Laid BY PROGRAM, IN A SANDBOX (cutbox-door.mjs). By AI agents, Wed Nov 11 2026. No macro, syntax, notation, axiom, sorry.
-/
import Derived.Test.YtmfjncbccaifiaaDoorRows
import GoSem.ClaimSeven
namespace Go.Proofs.YtmfjncbccaifiaaDoor
namespace Rows

/-- THE TIED CARD OF 'varvelaw13.LockAgrees'. -/
def lockAgreesCard : Claim7 := { stood := { row := lockAgreesRow, standIns := [], harness := (true, "1881c60c568640a406560f72bcead2b8caa12ebfb4ff28bf44dbf1fb54a04db4"), looks := false }, kinds := [], alts := [], laidByText := true, laidKinds := [.data], laidTests := true, laidLooks := .later }
def LockAgreesCardSaid : Prop := Claim7.holds Tryd.pinned (.plain (OpenSpec.ofChange lockAgreesSpec)) lockAgreesCard

/-- THE TIED CARD OF 'varvelaw13.LockVictims'. -/
def lockVictimsCard : Claim7 := { stood := { row := lockVictimsRow, standIns := [], harness := (true, "1881c60c568640a406560f72bcead2b8caa12ebfb4ff28bf44dbf1fb54a04db4"), looks := false }, kinds := [], alts := [], laidByText := true, laidKinds := [.data], laidTests := true, laidLooks := .later }
def LockVictimsCardSaid : Prop := Claim7.holds Tryd.pinned (.plain (OpenSpec.ofChange lockVictimsSpec)) lockVictimsCard

/-- THE TIED CARD OF 'varvelaw13.LockReaders'. -/
def lockReadersCard : Claim7 := { stood := { row := lockReadersRow, standIns := [], harness := (true, "1881c60c568640a406560f72bcead2b8caa12ebfb4ff28bf44dbf1fb54a04db4"), looks := false }, kinds := [], alts := [], laidByText := true, laidKinds := [.data], laidTests := true, laidLooks := .later }
def LockReadersCardSaid : Prop := Claim7.holds Tryd.pinned (.plain (OpenSpec.ofChange lockReadersSpec)) lockReadersCard

/-- THE TIED CARD OF 'varvelaw13.LockAlone'. -/
def lockAloneCard : Claim7 := { stood := { row := lockAloneRow, standIns := [], harness := (true, "1881c60c568640a406560f72bcead2b8caa12ebfb4ff28bf44dbf1fb54a04db4"), looks := false }, kinds := [], alts := [], laidByText := true, laidKinds := [.data], laidTests := true, laidLooks := .later }
def LockAloneCardSaid : Prop := Claim7.holds Tryd.pinned (.plain (OpenSpec.ofChange lockAloneSpec)) lockAloneCard

/-- THE TIED CARD OF 'varvelaw13.LockWords'. -/
def lockWordsCard : Claim7 := { stood := { row := lockWordsRow, standIns := [], harness := (true, "1881c60c568640a406560f72bcead2b8caa12ebfb4ff28bf44dbf1fb54a04db4"), looks := false }, kinds := [], alts := [], laidByText := true, laidKinds := [.data], laidTests := true, laidLooks := .later }
def LockWordsCardSaid : Prop := Claim7.holds Tryd.pinned (.plain (OpenSpec.ofChange lockWordsSpec)) lockWordsCard

/-- THE TIED CARD OF 'varvelaw13.LockNone'. -/
def lockNoneCard : Claim7 := { stood := { row := lockNoneRow, standIns := [], harness := (true, "1881c60c568640a406560f72bcead2b8caa12ebfb4ff28bf44dbf1fb54a04db4"), looks := false }, kinds := [], alts := [], laidByText := true, laidKinds := [.data], laidTests := true, laidLooks := .later }
def LockNoneCardSaid : Prop := Claim7.holds Tryd.pinned (.plain (OpenSpec.ofChange lockNoneSpec)) lockNoneCard

/-- THE TIED CARD OF 'varvelaw13.LockGraphs'. -/
def lockGraphsCard : Claim7 := { stood := { row := lockGraphsRow, standIns := [], harness := (true, "1881c60c568640a406560f72bcead2b8caa12ebfb4ff28bf44dbf1fb54a04db4"), looks := false }, kinds := [], alts := [], laidByText := true, laidKinds := [.data], laidTests := true, laidLooks := .later }
def LockGraphsCardSaid : Prop := Claim7.holds Tryd.pinned (.plain (OpenSpec.ofChange lockGraphsSpec)) lockGraphsCard

/-- THE TIED CARD OF 'varvelaw13.LockBreaks'. -/
def lockBreaksCard : Claim7 := { stood := { row := lockBreaksRow, standIns := [], harness := (true, "1881c60c568640a406560f72bcead2b8caa12ebfb4ff28bf44dbf1fb54a04db4"), looks := false }, kinds := [], alts := [], laidByText := true, laidKinds := [.data], laidTests := true, laidLooks := .later }
def LockBreaksCardSaid : Prop := Claim7.holds Tryd.pinned (.plain (OpenSpec.ofChange lockBreaksSpec)) lockBreaksCard

/-- THE SECOND FORM's CARD OF 'varvelaw13.LockAgrees'. -/
def lockAgreesUptoCard : Claim7 := { stood := { row := lockAgreesUptoRow, standIns := [], harness := (true, "1881c60c568640a406560f72bcead2b8caa12ebfb4ff28bf44dbf1fb54a04db4"), looks := false }, kinds := [], alts := [], laidByText := true, laidKinds := [.data], laidTests := true, laidLooks := .later }
def LockAgreesUptoCardSaid : Prop := Claim7.holds Tryd.pinned (.plain (OpenSpec.upto lockAgreesSpec)) lockAgreesUptoCard

/-- THE SECOND FORM's CARD OF 'varvelaw13.LockVictims'. -/
def lockVictimsUptoCard : Claim7 := { stood := { row := lockVictimsUptoRow, standIns := [], harness := (true, "1881c60c568640a406560f72bcead2b8caa12ebfb4ff28bf44dbf1fb54a04db4"), looks := false }, kinds := [], alts := [], laidByText := true, laidKinds := [.data], laidTests := true, laidLooks := .later }
def LockVictimsUptoCardSaid : Prop := Claim7.holds Tryd.pinned (.plain (OpenSpec.upto lockVictimsSpec)) lockVictimsUptoCard

/-- THE SECOND FORM's CARD OF 'varvelaw13.LockReaders'. -/
def lockReadersUptoCard : Claim7 := { stood := { row := lockReadersUptoRow, standIns := [], harness := (true, "1881c60c568640a406560f72bcead2b8caa12ebfb4ff28bf44dbf1fb54a04db4"), looks := false }, kinds := [], alts := [], laidByText := true, laidKinds := [.data], laidTests := true, laidLooks := .later }
def LockReadersUptoCardSaid : Prop := Claim7.holds Tryd.pinned (.plain (OpenSpec.upto lockReadersSpec)) lockReadersUptoCard

/-- THE SECOND FORM's CARD OF 'varvelaw13.LockAlone'. -/
def lockAloneUptoCard : Claim7 := { stood := { row := lockAloneUptoRow, standIns := [], harness := (true, "1881c60c568640a406560f72bcead2b8caa12ebfb4ff28bf44dbf1fb54a04db4"), looks := false }, kinds := [], alts := [], laidByText := true, laidKinds := [.data], laidTests := true, laidLooks := .later }
def LockAloneUptoCardSaid : Prop := Claim7.holds Tryd.pinned (.plain (OpenSpec.upto lockAloneSpec)) lockAloneUptoCard

/-- THE SECOND FORM's CARD OF 'varvelaw13.LockWords'. -/
def lockWordsUptoCard : Claim7 := { stood := { row := lockWordsUptoRow, standIns := [], harness := (true, "1881c60c568640a406560f72bcead2b8caa12ebfb4ff28bf44dbf1fb54a04db4"), looks := false }, kinds := [], alts := [], laidByText := true, laidKinds := [.data], laidTests := true, laidLooks := .later }
def LockWordsUptoCardSaid : Prop := Claim7.holds Tryd.pinned (.plain (OpenSpec.upto lockWordsSpec)) lockWordsUptoCard

/-- THE SECOND FORM's CARD OF 'varvelaw13.LockNone'. -/
def lockNoneUptoCard : Claim7 := { stood := { row := lockNoneUptoRow, standIns := [], harness := (true, "1881c60c568640a406560f72bcead2b8caa12ebfb4ff28bf44dbf1fb54a04db4"), looks := false }, kinds := [], alts := [], laidByText := true, laidKinds := [.data], laidTests := true, laidLooks := .later }
def LockNoneUptoCardSaid : Prop := Claim7.holds Tryd.pinned (.plain (OpenSpec.upto lockNoneSpec)) lockNoneUptoCard

/-- THE SECOND FORM's CARD OF 'varvelaw13.LockGraphs'. -/
def lockGraphsUptoCard : Claim7 := { stood := { row := lockGraphsUptoRow, standIns := [], harness := (true, "1881c60c568640a406560f72bcead2b8caa12ebfb4ff28bf44dbf1fb54a04db4"), looks := false }, kinds := [], alts := [], laidByText := true, laidKinds := [.data], laidTests := true, laidLooks := .later }
def LockGraphsUptoCardSaid : Prop := Claim7.holds Tryd.pinned (.plain (OpenSpec.upto lockGraphsSpec)) lockGraphsUptoCard

/-- THE SECOND FORM's CARD OF 'varvelaw13.LockBreaks'. -/
def lockBreaksUptoCard : Claim7 := { stood := { row := lockBreaksUptoRow, standIns := [], harness := (true, "1881c60c568640a406560f72bcead2b8caa12ebfb4ff28bf44dbf1fb54a04db4"), looks := false }, kinds := [], alts := [], laidByText := true, laidKinds := [.data], laidTests := true, laidLooks := .later }
def LockBreaksUptoCardSaid : Prop := Claim7.holds Tryd.pinned (.plain (OpenSpec.upto lockBreaksSpec)) lockBreaksUptoCard
end Rows
end Go.Proofs.YtmfjncbccaifiaaDoor
