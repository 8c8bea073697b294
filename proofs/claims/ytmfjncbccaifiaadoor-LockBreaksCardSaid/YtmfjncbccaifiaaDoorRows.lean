/-
  NARROWER THAN 'FOR EVERY INPUT', by the rows' own cells (each row's printed sentence says how): LockAgrees: laid · LockVictims: laid · LockReaders: laid · LockAlone: laid · LockWords: laid · LockNone: laid · LockGraphs: laid · LockBreaks: laid.
  DERIVED. THE GIVEN ROWS OF THIS SEAT. 8 by the template 'for every input the law returns true; each argument reads behind the call as it read before'; 0 by the template 'total and deterministic' (their statements: YtmfjncbccaifiaaDoorTotals.lean).
  GIVEN WITH THE SEED: the statements are not yours to turn. If you find one false, say at which input.
  Laid BY PROGRAM, IN A SANDBOX (cutbox-rows.mjs): the forced cells as the released guide's own fill.sh prints them over the translation 2dfd8206e584738a… (all of the seat's roots in one cut). By AI agents, Wed Nov 11 2026. No macro, syntax, notation, axiom, sorry.
-/
import Derived.Test.YtmfjncbccaifiaaDoorChecked
import GoSem.Claim
import GoSem.ClaimJoined
import GoSem.ClaimMapViews
import Derived.JoinedTies
import Derived.KernelRfl
namespace Go.Proofs.YtmfjncbccaifiaaDoor
/- THE CELL 'sum', in the pinned program and in every row, IS THE sha256 OF THE DUMP (.gsa) THAT YtmfjncbccaifiaaDoorProg.lean LOADS. Nothing in Lean hashes anything: it is a label: what it is worth is what the hold of that sum in a sandbox is worth. -/
noncomputable def Tryd.pinned : Pinned := { name := "ytmfjncbccaifiaadoor", sum := "2dfd8206e584738a8ca7c833f2392b3e3ea11bc04c356617f72f4197a6fcecb7", checked := Tryd.checked }
namespace Rows
def none {H : Type} : Left H := { results := [], args := [] }

/- WHAT THE LISTED PACKAGE-LEVEL VARIABLES READ AS WHEN THE CALL BEGINS. Each datum BY PROGRAM (the guide's laid-datum.mjs) off the statement by which the dump's own 'gosem.cut.vars' lays the variable. In a bare row this is a premise. The card (YtmfjncbccaifiaaDoorCards.lean) ties it to the program's text. -/
def laid_math_bits_deBruijn64tab {H : Type} : DataW H := .agg [.lit (.int .u8 0), .lit (.int .u8 1), .lit (.int .u8 56), .lit (.int .u8 2), .lit (.int .u8 57), .lit (.int .u8 49), .lit (.int .u8 28), .lit (.int .u8 3), .lit (.int .u8 61), .lit (.int .u8 58), .lit (.int .u8 42), .lit (.int .u8 50), .lit (.int .u8 38), .lit (.int .u8 29), .lit (.int .u8 17), .lit (.int .u8 4), .lit (.int .u8 62), .lit (.int .u8 47), .lit (.int .u8 59), .lit (.int .u8 36), .lit (.int .u8 45), .lit (.int .u8 43), .lit (.int .u8 51), .lit (.int .u8 22), .lit (.int .u8 53), .lit (.int .u8 39), .lit (.int .u8 33), .lit (.int .u8 30), .lit (.int .u8 24), .lit (.int .u8 18), .lit (.int .u8 12), .lit (.int .u8 5), .lit (.int .u8 63), .lit (.int .u8 55), .lit (.int .u8 48), .lit (.int .u8 27), .lit (.int .u8 60), .lit (.int .u8 41), .lit (.int .u8 37), .lit (.int .u8 16), .lit (.int .u8 46), .lit (.int .u8 35), .lit (.int .u8 44), .lit (.int .u8 21), .lit (.int .u8 52), .lit (.int .u8 32), .lit (.int .u8 23), .lit (.int .u8 11), .lit (.int .u8 54), .lit (.int .u8 26), .lit (.int .u8 40), .lit (.int .u8 15), .lit (.int .u8 34), .lit (.int .u8 20), .lit (.int .u8 31), .lit (.int .u8 10), .lit (.int .u8 25), .lit (.int .u8 14), .lit (.int .u8 19), .lit (.int .u8 9), .lit (.int .u8 13), .lit (.int .u8 8), .lit (.int .u8 7), .lit (.int .u8 6)]

/-- 'varvelaw13.LockAgrees': WHATEVER THE INPUT: true; the input reads as it did. -/
def lockAgreesSpec : ChangeSpec := { name := "lockAgrees", fn := fun _ => fun
  | [d1, d2] => { results := [.lit (.bool true)], args := [d1, d2] }
  | _ => none }
def lockAgreesRow : OpenClaim := { program := "ytmfjncbccaifiaadoor", sum := "2dfd8206e584738a8ca7c833f2392b3e3ea11bc04c356617f72f4197a6fcecb7", func := "varve/varvelaw13.LockAgrees", spec := "lockAgrees", unfollowed := true, recurses := true, named := ["math/bits.deBruijn64tab"], apart := false, laid := [("math/bits.deBruijn64tab", laid_math_bits_deBruijn64tab)] }
def LockAgreesSaid : Prop := lockAgreesRow.holds Tryd.pinned (OpenSpec.ofChange lockAgreesSpec)

/-- ITS FALSE NEIGHBOUR: 'it returns false'. Refute it at one input. -/
def lockAgreesWrong : ChangeSpec := { name := "lockAgrees", fn := fun _ => fun
  | [d1, d2] => { results := [.lit (.bool false)], args := [d1, d2] }
  | _ => none }
def LockAgreesWrongFalsely : Prop := lockAgreesRow.holds Tryd.pinned (OpenSpec.ofChange lockAgreesWrong)

/-- 'varvelaw13.LockVictims': WHATEVER THE INPUT: true; the input reads as it did. -/
def lockVictimsSpec : ChangeSpec := { name := "lockVictims", fn := fun _ => fun
  | [d1, d2] => { results := [.lit (.bool true)], args := [d1, d2] }
  | _ => none }
def lockVictimsRow : OpenClaim := { program := "ytmfjncbccaifiaadoor", sum := "2dfd8206e584738a8ca7c833f2392b3e3ea11bc04c356617f72f4197a6fcecb7", func := "varve/varvelaw13.LockVictims", spec := "lockVictims", unfollowed := true, recurses := true, named := ["math/bits.deBruijn64tab"], apart := false, laid := [("math/bits.deBruijn64tab", laid_math_bits_deBruijn64tab)] }
def LockVictimsSaid : Prop := lockVictimsRow.holds Tryd.pinned (OpenSpec.ofChange lockVictimsSpec)

/-- ITS FALSE NEIGHBOUR: 'it returns false'. Refute it at one input. -/
def lockVictimsWrong : ChangeSpec := { name := "lockVictims", fn := fun _ => fun
  | [d1, d2] => { results := [.lit (.bool false)], args := [d1, d2] }
  | _ => none }
def LockVictimsWrongFalsely : Prop := lockVictimsRow.holds Tryd.pinned (OpenSpec.ofChange lockVictimsWrong)

/-- 'varvelaw13.LockReaders': WHATEVER THE INPUT: true; the input reads as it did. -/
def lockReadersSpec : ChangeSpec := { name := "lockReaders", fn := fun _ => fun
  | [d] => { results := [.lit (.bool true)], args := [d] }
  | _ => none }
def lockReadersRow : OpenClaim := { program := "ytmfjncbccaifiaadoor", sum := "2dfd8206e584738a8ca7c833f2392b3e3ea11bc04c356617f72f4197a6fcecb7", func := "varve/varvelaw13.LockReaders", spec := "lockReaders", unfollowed := true, recurses := true, named := ["math/bits.deBruijn64tab"], apart := false, laid := [("math/bits.deBruijn64tab", laid_math_bits_deBruijn64tab)] }
def LockReadersSaid : Prop := lockReadersRow.holds Tryd.pinned (OpenSpec.ofChange lockReadersSpec)

/-- ITS FALSE NEIGHBOUR: 'it returns false'. Refute it at one input. -/
def lockReadersWrong : ChangeSpec := { name := "lockReaders", fn := fun _ => fun
  | [d] => { results := [.lit (.bool false)], args := [d] }
  | _ => none }
def LockReadersWrongFalsely : Prop := lockReadersRow.holds Tryd.pinned (OpenSpec.ofChange lockReadersWrong)

/-- 'varvelaw13.LockAlone': WHATEVER THE INPUT: true; the input reads as it did. -/
def lockAloneSpec : ChangeSpec := { name := "lockAlone", fn := fun _ => fun
  | [d1, d2, d3] => { results := [.lit (.bool true)], args := [d1, d2, d3] }
  | _ => none }
def lockAloneRow : OpenClaim := { program := "ytmfjncbccaifiaadoor", sum := "2dfd8206e584738a8ca7c833f2392b3e3ea11bc04c356617f72f4197a6fcecb7", func := "varve/varvelaw13.LockAlone", spec := "lockAlone", unfollowed := true, recurses := true, named := ["math/bits.deBruijn64tab"], apart := false, laid := [("math/bits.deBruijn64tab", laid_math_bits_deBruijn64tab)] }
def LockAloneSaid : Prop := lockAloneRow.holds Tryd.pinned (OpenSpec.ofChange lockAloneSpec)

/-- ITS FALSE NEIGHBOUR: 'it returns false'. Refute it at one input. -/
def lockAloneWrong : ChangeSpec := { name := "lockAlone", fn := fun _ => fun
  | [d1, d2, d3] => { results := [.lit (.bool false)], args := [d1, d2, d3] }
  | _ => none }
def LockAloneWrongFalsely : Prop := lockAloneRow.holds Tryd.pinned (OpenSpec.ofChange lockAloneWrong)

/-- 'varvelaw13.LockWords': WHATEVER THE INPUT: true; the input reads as it did. -/
def lockWordsSpec : ChangeSpec := { name := "lockWords", fn := fun _ => fun
  | [d1, d2, d3] => { results := [.lit (.bool true)], args := [d1, d2, d3] }
  | _ => none }
def lockWordsRow : OpenClaim := { program := "ytmfjncbccaifiaadoor", sum := "2dfd8206e584738a8ca7c833f2392b3e3ea11bc04c356617f72f4197a6fcecb7", func := "varve/varvelaw13.LockWords", spec := "lockWords", unfollowed := true, recurses := true, named := ["math/bits.deBruijn64tab"], apart := false, laid := [("math/bits.deBruijn64tab", laid_math_bits_deBruijn64tab)] }
def LockWordsSaid : Prop := lockWordsRow.holds Tryd.pinned (OpenSpec.ofChange lockWordsSpec)

/-- ITS FALSE NEIGHBOUR: 'it returns false'. Refute it at one input. -/
def lockWordsWrong : ChangeSpec := { name := "lockWords", fn := fun _ => fun
  | [d1, d2, d3] => { results := [.lit (.bool false)], args := [d1, d2, d3] }
  | _ => none }
def LockWordsWrongFalsely : Prop := lockWordsRow.holds Tryd.pinned (OpenSpec.ofChange lockWordsWrong)

/-- 'varvelaw13.LockNone': WHATEVER THE INPUT: true; the input reads as it did. -/
def lockNoneSpec : ChangeSpec := { name := "lockNone", fn := fun _ => fun
  | [d1, d2] => { results := [.lit (.bool true)], args := [d1, d2] }
  | _ => none }
def lockNoneRow : OpenClaim := { program := "ytmfjncbccaifiaadoor", sum := "2dfd8206e584738a8ca7c833f2392b3e3ea11bc04c356617f72f4197a6fcecb7", func := "varve/varvelaw13.LockNone", spec := "lockNone", unfollowed := true, recurses := true, named := ["math/bits.deBruijn64tab"], apart := false, laid := [("math/bits.deBruijn64tab", laid_math_bits_deBruijn64tab)] }
def LockNoneSaid : Prop := lockNoneRow.holds Tryd.pinned (OpenSpec.ofChange lockNoneSpec)

/-- ITS FALSE NEIGHBOUR: 'it returns false'. Refute it at one input. -/
def lockNoneWrong : ChangeSpec := { name := "lockNone", fn := fun _ => fun
  | [d1, d2] => { results := [.lit (.bool false)], args := [d1, d2] }
  | _ => none }
def LockNoneWrongFalsely : Prop := lockNoneRow.holds Tryd.pinned (OpenSpec.ofChange lockNoneWrong)

/-- 'varvelaw13.LockGraphs': WHATEVER THE INPUT: true; the input reads as it did. -/
def lockGraphsSpec : ChangeSpec := { name := "lockGraphs", fn := fun _ => fun
  | [d1, d2] => { results := [.lit (.bool true)], args := [d1, d2] }
  | _ => none }
def lockGraphsRow : OpenClaim := { program := "ytmfjncbccaifiaadoor", sum := "2dfd8206e584738a8ca7c833f2392b3e3ea11bc04c356617f72f4197a6fcecb7", func := "varve/varvelaw13.LockGraphs", spec := "lockGraphs", unfollowed := true, recurses := true, named := ["math/bits.deBruijn64tab"], apart := false, laid := [("math/bits.deBruijn64tab", laid_math_bits_deBruijn64tab)] }
def LockGraphsSaid : Prop := lockGraphsRow.holds Tryd.pinned (OpenSpec.ofChange lockGraphsSpec)

/-- ITS FALSE NEIGHBOUR: 'it returns false'. Refute it at one input. -/
def lockGraphsWrong : ChangeSpec := { name := "lockGraphs", fn := fun _ => fun
  | [d1, d2] => { results := [.lit (.bool false)], args := [d1, d2] }
  | _ => none }
def LockGraphsWrongFalsely : Prop := lockGraphsRow.holds Tryd.pinned (OpenSpec.ofChange lockGraphsWrong)

/-- 'varvelaw13.LockBreaks': WHATEVER THE INPUT: true; the input reads as it did. -/
def lockBreaksSpec : ChangeSpec := { name := "lockBreaks", fn := fun _ => fun
  | [d1, d2, d3] => { results := [.lit (.bool true)], args := [d1, d2, d3] }
  | _ => none }
def lockBreaksRow : OpenClaim := { program := "ytmfjncbccaifiaadoor", sum := "2dfd8206e584738a8ca7c833f2392b3e3ea11bc04c356617f72f4197a6fcecb7", func := "varve/varvelaw13.LockBreaks", spec := "lockBreaks", unfollowed := true, recurses := true, named := ["math/bits.deBruijn64tab"], apart := false, laid := [("math/bits.deBruijn64tab", laid_math_bits_deBruijn64tab)] }
def LockBreaksSaid : Prop := lockBreaksRow.holds Tryd.pinned (OpenSpec.ofChange lockBreaksSpec)

/-- ITS FALSE NEIGHBOUR: 'it returns false'. Refute it at one input. -/
def lockBreaksWrong : ChangeSpec := { name := "lockBreaks", fn := fun _ => fun
  | [d1, d2, d3] => { results := [.lit (.bool false)], args := [d1, d2, d3] }
  | _ => none }
def LockBreaksWrongFalsely : Prop := lockBreaksRow.holds Tryd.pinned (OpenSpec.ofChange lockBreaksWrong)

/- THE SECOND FORM. 'bulk': how many values and letters a reading holds, each counted each time it is reached (what is shared counts as often as it is met; a slice's spare places count too). A statement '..UptoSaid' is the law's where the arguments, and the package variables that the reading takes, are together of bulk at most 1048576: NARROWER than '..Said'. Prove '..Said' where nothing that the law and all that it calls make is longer than what came in: it says more and counts as full. Else prove '..UptoSaid'. A law counts once. -/
mutual
def uptoBulk {H : Type} : DataW H → Nat
  | .lit (.string bytes) => bytes.length + 1
  | .lit _ => 1
  | .nil => 1
  | .ptr d => uptoBulk d + 1
  | .slice elems spare => uptoBulkAll elems + uptoBulkAll spare + 1
  | .agg parts => uptoBulkAll parts + 1
  | .iface _ d => uptoBulk d + 1
  | .map entries => uptoBulkEntries entries + 1
  | .held _ => 1
def uptoBulkAll {H : Type} : List (DataW H) → Nat
  | [] => 0
  | d :: r => uptoBulk d + uptoBulkAll r
def uptoBulkEntries {H : Type} : List (Lit × DataW H) → Nat
  | [] => 0
  | x :: r => uptoBulkEntry x + uptoBulkEntries r
def uptoBulkEntry {H : Type} : Lit × DataW H → Nat
  | (.string bytes, d) => bytes.length + uptoBulk d + 1
  | (_, d) => uptoBulk d + 1
 end
def uptoSmall : (H : Type) → List (DataW H) → Bool := fun _ ds => decide (uptoBulkAll ds ≤ 1048576)
def OpenSpec.upto (s : _root_.Go.ChangeSpec) : _root_.Go.OpenSpec := { _root_.Go.OpenSpec.ofChange s with cond := some uptoSmall }

/-- 'varvelaw13.LockAgrees', WHERE WHAT IT READS IS OF BULK AT MOST 1048576: true; the input reads as it did. -/
def lockAgreesUptoRow : OpenClaim := { program := "ytmfjncbccaifiaadoor", sum := "2dfd8206e584738a8ca7c833f2392b3e3ea11bc04c356617f72f4197a6fcecb7", func := "varve/varvelaw13.LockAgrees", spec := "lockAgrees", unfollowed := true, recurses := true, named := ["math/bits.deBruijn64tab"], apart := false, laid := [("math/bits.deBruijn64tab", laid_math_bits_deBruijn64tab)], narrowed := true }
def LockAgreesUptoSaid : Prop := lockAgreesUptoRow.holds Tryd.pinned (OpenSpec.upto lockAgreesSpec)

/-- 'varvelaw13.LockVictims', WHERE WHAT IT READS IS OF BULK AT MOST 1048576: true; the input reads as it did. -/
def lockVictimsUptoRow : OpenClaim := { program := "ytmfjncbccaifiaadoor", sum := "2dfd8206e584738a8ca7c833f2392b3e3ea11bc04c356617f72f4197a6fcecb7", func := "varve/varvelaw13.LockVictims", spec := "lockVictims", unfollowed := true, recurses := true, named := ["math/bits.deBruijn64tab"], apart := false, laid := [("math/bits.deBruijn64tab", laid_math_bits_deBruijn64tab)], narrowed := true }
def LockVictimsUptoSaid : Prop := lockVictimsUptoRow.holds Tryd.pinned (OpenSpec.upto lockVictimsSpec)

/-- 'varvelaw13.LockReaders', WHERE WHAT IT READS IS OF BULK AT MOST 1048576: true; the input reads as it did. -/
def lockReadersUptoRow : OpenClaim := { program := "ytmfjncbccaifiaadoor", sum := "2dfd8206e584738a8ca7c833f2392b3e3ea11bc04c356617f72f4197a6fcecb7", func := "varve/varvelaw13.LockReaders", spec := "lockReaders", unfollowed := true, recurses := true, named := ["math/bits.deBruijn64tab"], apart := false, laid := [("math/bits.deBruijn64tab", laid_math_bits_deBruijn64tab)], narrowed := true }
def LockReadersUptoSaid : Prop := lockReadersUptoRow.holds Tryd.pinned (OpenSpec.upto lockReadersSpec)

/-- 'varvelaw13.LockAlone', WHERE WHAT IT READS IS OF BULK AT MOST 1048576: true; the input reads as it did. -/
def lockAloneUptoRow : OpenClaim := { program := "ytmfjncbccaifiaadoor", sum := "2dfd8206e584738a8ca7c833f2392b3e3ea11bc04c356617f72f4197a6fcecb7", func := "varve/varvelaw13.LockAlone", spec := "lockAlone", unfollowed := true, recurses := true, named := ["math/bits.deBruijn64tab"], apart := false, laid := [("math/bits.deBruijn64tab", laid_math_bits_deBruijn64tab)], narrowed := true }
def LockAloneUptoSaid : Prop := lockAloneUptoRow.holds Tryd.pinned (OpenSpec.upto lockAloneSpec)

/-- 'varvelaw13.LockWords', WHERE WHAT IT READS IS OF BULK AT MOST 1048576: true; the input reads as it did. -/
def lockWordsUptoRow : OpenClaim := { program := "ytmfjncbccaifiaadoor", sum := "2dfd8206e584738a8ca7c833f2392b3e3ea11bc04c356617f72f4197a6fcecb7", func := "varve/varvelaw13.LockWords", spec := "lockWords", unfollowed := true, recurses := true, named := ["math/bits.deBruijn64tab"], apart := false, laid := [("math/bits.deBruijn64tab", laid_math_bits_deBruijn64tab)], narrowed := true }
def LockWordsUptoSaid : Prop := lockWordsUptoRow.holds Tryd.pinned (OpenSpec.upto lockWordsSpec)

/-- 'varvelaw13.LockNone', WHERE WHAT IT READS IS OF BULK AT MOST 1048576: true; the input reads as it did. -/
def lockNoneUptoRow : OpenClaim := { program := "ytmfjncbccaifiaadoor", sum := "2dfd8206e584738a8ca7c833f2392b3e3ea11bc04c356617f72f4197a6fcecb7", func := "varve/varvelaw13.LockNone", spec := "lockNone", unfollowed := true, recurses := true, named := ["math/bits.deBruijn64tab"], apart := false, laid := [("math/bits.deBruijn64tab", laid_math_bits_deBruijn64tab)], narrowed := true }
def LockNoneUptoSaid : Prop := lockNoneUptoRow.holds Tryd.pinned (OpenSpec.upto lockNoneSpec)

/-- 'varvelaw13.LockGraphs', WHERE WHAT IT READS IS OF BULK AT MOST 1048576: true; the input reads as it did. -/
def lockGraphsUptoRow : OpenClaim := { program := "ytmfjncbccaifiaadoor", sum := "2dfd8206e584738a8ca7c833f2392b3e3ea11bc04c356617f72f4197a6fcecb7", func := "varve/varvelaw13.LockGraphs", spec := "lockGraphs", unfollowed := true, recurses := true, named := ["math/bits.deBruijn64tab"], apart := false, laid := [("math/bits.deBruijn64tab", laid_math_bits_deBruijn64tab)], narrowed := true }
def LockGraphsUptoSaid : Prop := lockGraphsUptoRow.holds Tryd.pinned (OpenSpec.upto lockGraphsSpec)

/-- 'varvelaw13.LockBreaks', WHERE WHAT IT READS IS OF BULK AT MOST 1048576: true; the input reads as it did. -/
def lockBreaksUptoRow : OpenClaim := { program := "ytmfjncbccaifiaadoor", sum := "2dfd8206e584738a8ca7c833f2392b3e3ea11bc04c356617f72f4197a6fcecb7", func := "varve/varvelaw13.LockBreaks", spec := "lockBreaks", unfollowed := true, recurses := true, named := ["math/bits.deBruijn64tab"], apart := false, laid := [("math/bits.deBruijn64tab", laid_math_bits_deBruijn64tab)], narrowed := true }
def LockBreaksUptoSaid : Prop := lockBreaksUptoRow.holds Tryd.pinned (OpenSpec.upto lockBreaksSpec)

end Rows
end Go.Proofs.YtmfjncbccaifiaaDoor
