/- The document's examples at the head of the statements: what is read and written there. -/
import Derived.Test.YtkpofjfndokaeaaGreatDoorH2
import Derived.Test.YtkpofjfndokaeaaGreatDoorN0
import Derived.Test.YtkpofjfndokaeaaGreatDoorR2
namespace Go.Proofs.YtkpofjfndokaeaaGreatDoor
set_option linter.unusedVariables false
set_option linter.unusedSimpArgs false

def shEv1 : Ev := ⟨1, 3, ⟨4, 0, ⟨#[97, 0]⟩, ⟨#[]⟩, ⟨#[]⟩, 2, 0⟩, 0, 0⟩
def shEv2 : Ev := ⟨4, 0, Cl.zero 0, 5, 1⟩
def shTxt : List UInt8 := [51, 32, 105, 110, 115, 101, 114, 116, 32, 34, 97, 92, 120, 48, 48, 34, 32, 34, 34, 32, 50, 10, 99, 114, 97, 115, 104, 32, 53, 32, 49, 10]
theorem itoa_digit (d : Nat) (h : d < 10) : Lib.itoa (d : Int) = [UInt8.ofNat (48 + d)] := by
  unfold Lib.itoa
  rw [if_neg (by omega), Int.toNat_natCast, Lib.decDigits_one h]
theorem sh_line1 : lineB shEv1 = [51, 32, 105, 110, 115, 101, 114, 116, 32, 34, 97, 92, 120, 48, 48, 34, 32, 34, 34, 32, 50] := by
  have h3 : Lib.itoa (3 : Int) = [51] := itoa_digit 3 (by decide)
  have h2 : Lib.itoa (2 : Int) = [50] := itoa_digit 2 (by decide)
  have e : lineB shEv1 = Lib.join (Lib.itoa 3 :: (nameOf 4).data.toList :: [quoB ⟨#[97, 0]⟩, quoB ⟨#[]⟩, Lib.itoa 2]) [32] := rfl
  rw [e, h3, h2]
  decide +kernel
theorem sh_line2 : lineB shEv2 = [99, 114, 97, 115, 104, 32, 53, 32, 49] := by
  have h5 : Lib.itoa (5 : Int) = [53] := itoa_digit 5 (by decide)
  have h1 : Lib.itoa (1 : Int) = [49] := itoa_digit 1 (by decide)
  have e : lineB shEv2 = [99, 114, 97, 115, 104, 32] ++ Lib.itoa 5 ++ [32] ++ Lib.itoa 1 := rfl
  rw [e, h5, h1]
  rfl
theorem sh_show : showR [shEv1, shEv2] = (shTxt, 0) := by
  have hr : right [shEv1, shEv2] = true := by decide +kernel
  have hb : showB [shEv1, shEv2] = shTxt := by
    show (lineB shEv1 ++ [10]) ++ ((lineB shEv2 ++ [10]) ++ []) = _
    rw [sh_line1, sh_line2]
    rfl
  unfold showR
  rw [hr, hb]
  rfl
theorem sh_parse1 : parseB [59, 32, 120, 10, 10, 32, 32, 114, 117, 110, 32, 32, 32, 49] = ([Ev.bare 3 1 0 0], 0, 0) := by
  have hl : linesL [59, 32, 120, 10, 10, 32, 32, 114, 117, 110, 32, 32, 32, 49] = [[59, 32, 120], [], [32, 32, 114, 117, 110, 32, 32, 32, 49]] := by decide +kernel
  have w1 : wordsB [59, 32, 120] = [[59], [120]] := by decide +kernel
  have w2 : wordsB [] = [] := by decide +kernel
  have w3 : wordsB [32, 32, 114, 117, 110, 32, 32, 32, 49] = [[114, 117, 110], [49]] := by decide +kernel
  have n1 : numB [114, 117, 110] = none := numB_syn (by decide +kernel)
  have n2 : numB [49] = some 1 := by have := numB_itoa 1 (by decide) (by decide); rwa [show Lib.itoa (1 : Int) = [49] from itoa_digit 1 (by decide)] at this
  have hr : readB [[114, 117, 110], [49]] = some (Ev.bare 3 1 0 0) := by
    simp only [readB, n1, numsB, n2]
    rfl
  have hv : revent (Ev.bare 3 1 0 0) = true := by decide +kernel
  unfold parseB
  rw [if_neg (by decide), hl, parseL, lineEv_note w1 rfl]
  simp only
  rw [parseL, lineEv_nil w2]
  simp only
  rw [parseL, lineEv_some w3 (by decide) hr, hv]
  rfl
theorem sh_parse2 : parseB [10, 48, 32, 103, 101, 116, 32, 97] = ([], 2, 201) := by
  have hl : linesL [10, 48, 32, 103, 101, 116, 32, 97] = [[], [48, 32, 103, 101, 116, 32, 97]] := by decide +kernel
  have w2 : wordsB [] = [] := by decide +kernel
  have w3 : wordsB [48, 32, 103, 101, 116, 32, 97] = [[48], [103, 101, 116], [97]] := by decide +kernel
  have n1 : numB [48] = some 0 := by have := numB_itoa 0 (by decide) (by decide); rwa [show Lib.itoa (0 : Int) = [48] from itoa_digit 0 (by decide)] at this
  have hf : formIx [103, 101, 116] = some 1 := by decide +kernel
  have ht : textB [97] = none := by decide +kernel
  have hc : callB [[103, 101, 116], [97]] = none := by
    simp only [callB, hf]
    rw [if_pos (by decide)]
    show (Fd.put (Cl.zero 2) [97] .key).bind _ = none
    unfold Fd.put
    simp only [ht]
    rfl
  have hr : readB [[48], [103, 101, 116], [97]] = none := by
    simp only [readB, n1]
    rw [if_neg (by decide), hc]
    rfl
  unfold parseB
  rw [if_neg (by decide), hl, parseL, lineEv_nil w2]
  simp only
  rw [parseL, lineEv_bad w3 (by decide) hr]
theorem sh_reply : replyB 2 ⟨0, ⟨#[113, 34]⟩, true, [], 0, 0⟩ = [34, 113, 92, 120, 50, 50, 34] := by
  rw [reply_get rfl rfl]
  decide +kernel
end Go.Proofs.YtkpofjfndokaeaaGreatDoor
