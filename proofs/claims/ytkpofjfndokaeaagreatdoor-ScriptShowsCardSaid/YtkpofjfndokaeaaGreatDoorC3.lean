/- What lies there from the start (the library's tables); strconv.Itoa in every later world; texts as lists of bytes. -/
import Derived.Test.YtkpofjfndokaeaaGreatDoorC1
import Derived.Test.YtkpofjfndokaeaaGreatDoorB0
import Derived.Test.YtkpofjfndokaeaaGreatDoorS0
import Derived.Test.YtkpofjfndokaeaaGreatDoorS1
import Derived.Lib.AppendIntMem
import Derived.Deep.RegionWith
import Derived.Lib.ItoaLen
namespace Go.Proofs.YtkpofjfndokaeaaGreatDoor
open Go.RowKit
set_option linter.unusedVariables false
set_option linter.unusedSimpArgs false

theorem gPow : Tryz.prog.globalNamed "internal/strconv.uint64pow10" = some 0 := by kernel_rfl

/-- The start. -/
structure St (w : World) : Prop where
  pow : Lib.TabIs Tryz.prog w "internal/strconv.uint64pow10" .u64 Lib.pow10Tab
  len : 8 ≤ w.heap.size

theorem var_below {n g : Nat} {w w' : World} {nm : String} (hg : Tryz.prog.globalNamed nm = some g) (hb : Below n w w') (hn : g < n) : w'.var? Tryz.prog nm = w.var? Tryz.prog nm := by
  unfold World.var?
  rw [hg]
  simp only [Option.bind_some]
  rw [hb.block g hn]
theorem St.later {w w' : World} (h : St w) (hb : Below w.heap.size w w') : St w' := by
  refine ⟨?_, Nat.le_trans h.len hb.size⟩
  have := h.pow
  unfold Lib.TabIs at this ⊢
  rw [var_below gPow hb (by have := h.len; omega)]
  exact this

theorem itoa_any (n : Int) (h0 : -9223372036854775808 ≤ n) (h1 : n ≤ 9223372036854775807) (W : World) (hs : St W) :
    Calls Tryz.prog 24 #[.int .i64 n] W fun e w' => e = .returned (.string ⟨(Lib.itoa n).toArray⟩) ∧ Below W.heap.size W w' := by
  refine (Tryz.strconv_Itoa n h0 h1 W hs.pow).mono ?_
  rintro e w' ⟨he, k, os, rfl⟩
  exact ⟨he, Lib.below_grow _ _ (Nat.le_refl _) k os⟩

/-- A text as it is written. -/
def quoB (s : ByteArray) : List UInt8 := (quoN s).map UInt8.ofNat
theorem strOf_quo (s : ByteArray) : strOfNums ((quoN s).map Int.ofNat) = ⟨(quoB s).toArray⟩ := by
  unfold strOfNums quoB
  rw [List.map_map]
  rfl
theorem quoteB_any (s : ByteArray) (hs : s.size ≤ 17592186044416) (W : World) : Calls Tryz.prog 25 #[.string s] W fun e w' => e = .returned (.string ⟨(quoB s).toArray⟩) ∧ Below W.heap.size W w' := by
  have := quoted_any s hs W
  rw [strOf_quo] at this
  exact this
theorem quoB_length (s : ByteArray) : (quoB s).length ≤ 2 + 4 * s.size := by
  unfold quoB quoN
  rw [List.length_map, List.length_append]
  have := quoPre_length s.data.toList
  have e : s.data.toList.length = s.size := by rw [Array.length_toList]; rfl
  simp only [List.length_cons, List.length_nil]
  omega
end Go.Proofs.YtkpofjfndokaeaaGreatDoor

/- script.line: the walk, of events that are right. -/
namespace Go.Proofs.YtkpofjfndokaeaaGreatDoor
open Go.RowKit
set_option linter.unusedVariables false
set_option linter.unusedSimpArgs false

/-- A field as it is written. -/
def Fd.text (c : Cl) : Fd → List UInt8
  | .mode => Lib.itoa c.mode | .key => quoB c.key | .high => quoB c.high | .val => quoB c.val | .draw => Lib.itoa c.draw | .n => Lib.itoa c.n
/-- An event as it is written. -/
def lineB (x : Ev) : List UInt8 :=
  if x.kind = 2 then [115, 116, 101, 112, 32] ++ Lib.itoa x.w ++ [32] ++ Lib.itoa x.n
  else if x.kind = 3 then [114, 117, 110, 32] ++ Lib.itoa x.w
  else if x.kind = 4 then [99, 114, 97, 115, 104, 32] ++ Lib.itoa x.n ++ [32] ++ Lib.itoa x.tear
  else if x.kind = 5 then [99, 117, 116, 32] ++ Lib.itoa x.n
  else Lib.join (Lib.itoa x.w :: (nameOf x.call.kind.toNat).data.toList :: (flds x.call.kind.toNat).map (Fd.text x.call)) [32]

/-- Behind the first line of 'line': the event lies in a block of its own. -/
theorem line_start (x : Ev) (W : World) (hs : St W) (X : World) (hX : X = W.alloc (.cells x.cells 27)) : ∀ w', Below X.heap.size X w' → EvAt w' W.heap.size x ∧ Below W.heap.size W w' ∧ St w' ∧ W.heap.size < w'.heap.size := by
  subst hX
  intro w' hb
  have hsz := World.size_alloc W (.cells x.cells 27)
  have h2 : Below W.heap.size W w' := ((Below.refl W.heap.size W).alloc (Nat.le_refl _) (.cells x.cells 27)).trans (hb.mono (by omega))
  exact ⟨(hb.block _ (by omega)).trans (EvAt.fresh W x), h2, hs.later h2, by have := hb.size; omega⟩

theorem bapp (a b : List UInt8) : (⟨a.toArray⟩ : ByteArray) ++ ⟨b.toArray⟩ = ⟨(a ++ b).toArray⟩ := by
  apply ByteArray.ext
  rw [ByteArray.data_append]
  simp
theorem revent_bounds {x : Ev} (h : revent x = true) : (x.kind = 1 ∨ x.kind = 2 ∨ x.kind = 3 ∨ x.kind = 4 ∨ x.kind = 5) ∧ 0 ≤ x.w ∧ x.w < 16 ∧ 0 ≤ x.n ∧ x.n ≤ 2147483647 ∧ 0 ≤ x.tear ∧ x.tear ≤ 2147483647 ∧ (x.kind = 1 → rcall x.call = true) := by
  unfold revent workerB at h
  split at h
  · rename_i hk
    simp only [Bool.and_eq_true, decide_eq_true_eq, beq_iff_eq] at h
    obtain ⟨⟨⟨⟨h1, h2⟩, h3⟩, h4⟩, h5⟩ := h
    exact ⟨.inl hk, h1, h2, by omega, by omega, by omega, by omega, fun _ => h3⟩
  · split at h
    · rename_i hk0 hk
      simp only [Bool.and_eq_true, decide_eq_true_eq] at h
      obtain ⟨⟨⟨⟨h1, h2⟩, h3⟩, h4⟩, h5⟩ := h
      have ht : x.tear = 0 := by rw [h5]; rfl
      exact ⟨.inr (.inl hk), h1, h2, by omega, by omega, by omega, by omega, fun e => absurd e (by omega)⟩
    · split at h
      · rename_i hk0 hk1 hk
        simp only [Bool.and_eq_true, decide_eq_true_eq] at h
        obtain ⟨⟨h1, h2⟩, h5⟩ := h
        have ht : x.tear = 0 := by rw [h5]; rfl
        have hn : x.n = 0 := by rw [h5]; rfl
        exact ⟨.inr (.inr (.inl hk)), h1, h2, by omega, by omega, by omega, by omega, fun e => absurd e (by omega)⟩
      · split at h
        · rename_i hk0 hk1 hk2 hk
          simp only [Bool.and_eq_true, decide_eq_true_eq] at h
          obtain ⟨⟨⟨⟨h1, h2⟩, h3⟩, h4⟩, h5⟩ := h
          have hw : x.w = 0 := by rw [h5]; rfl
          exact ⟨.inr (.inr (.inr (.inl hk))), by omega, by omega, h1, h2, h3, h4, fun e => absurd e (by omega)⟩
        · split at h
          · rename_i hk0 hk1 hk2 hk3 hk
            simp only [Bool.and_eq_true, decide_eq_true_eq] at h
            obtain ⟨⟨h1, h2⟩, h5⟩ := h
            have hw : x.w = 0 := by rw [h5]; rfl
            have ht : x.tear = 0 := by rw [h5]; rfl
            exact ⟨.inr (.inr (.inr (.inr hk))), by omega, by omega, h1, by omega, by omega, by omega, fun e => absurd e (by omega)⟩
          · cases h
end Go.Proofs.YtkpofjfndokaeaaGreatDoor
