/- disk.Names: its contract over whatever map of names lies there; a Spec for the evaluator. -/
import Derived.Test.YteohlibpfgmcaaaGreatDoorKZ
import Derived.Test.YteohlibpfgmcaaaGreatDoorT0
import Derived.WalkKit
import Derived.OwnWalkIn
import Derived.TacticsInMore
import Derived.Lib.Hide
namespace Go.Proofs.YteohlibpfgmcaaaGreatDoor
open Go Go.RowKit Go.Maps Go.Sort
set_option linter.unusedVariables false
set_option linter.unusedSimpArgs false

/-- A key that is a text, as its bytes. -/
def keyE (e : MapEntry) : List UInt8 := match e.key with | .string s => s.data.toList | _ => []
abbrev anyR (_ : Value) : Option (DataW Unit × List MemPlace) := some (.nil, [])
theorem insert_perm {H : Type} (x : Lit × DataW H) : ∀ l : List (Lit × DataW H), (DataW.insert x l).Perm (x :: l)
  | [] => .refl _
  | y :: r => by
    unfold DataW.insert
    split
    · exact .refl _
    · exact ((insert_perm x r).cons y).trans (.swap x y r)
theorem foldr_perm {H : Type} : ∀ l : List (Lit × DataW H), (l.foldr DataW.insert []).Perm l
  | [] => .refl _
  | x :: r => (insert_perm x _).trans ((foldr_perm r).cons x)
theorem rg_key {P : Program} {k : TypeId} (hk : P.underlying k = some .string) {e : MapEntry} {s : ByteArray} (he : e.key = .string s) (hs : s.size ≤ maxLen) : WideElems.rg P k anyR e = (.string s.data.toList, .nil) := by
  have : WideElems.rd P k anyR e = some (.string s.data.toList, .nil) := by
    unfold WideElems.rd
    rw [he]
    simp [keyOf, hk, mapKey, anyR, hs]
  simp [WideElems.rg, this]
theorem map_reads {P : Program} {k : TypeId} (hk : P.underlying k = some .string) {W : World} {r : Nat} {es : Array MapEntry} {cl : Nat} (hm : W.heap[r]? = some (.map es cl)) (hs : MapKept.Stamped es cl)
    (hkey : ∀ e ∈ es.toList, ∃ s : ByteArray, e.key = .string s ∧ s.size ≤ maxLen) (hz : es.size ≤ 1000000) :
    ∃ D : DataW Unit, W.ownsMap P k anyR r es.size D ∧ (strKeys D).Perm (es.toList.map keyE) ∧ Maps.size D = es.size := by
  have hrg : ∀ e ∈ es.toList, WideElems.rg P k anyR e = (.string (keyE e), .nil) := fun e he => by
    obtain ⟨s, h1, h2⟩ := hkey e he
    rw [rg_key hk h1 h2]; simp [keyE, h1]
  refine ⟨_, ⟨es, cl, hm, ⟨by unfold maxLen; omega, hs, fun e he => ?_⟩, Nat.le_refl _, rfl⟩, ?_, ?_⟩
  · obtain ⟨s, h1, h2⟩ := hkey e he
    refine ⟨(.string s.data.toList, .nil), ?_⟩
    unfold WideElems.rd
    rw [h1]
    simp [keyOf, hk, mapKey, anyR, h2]
  · have := ((foldr_perm (es.toList.map (WideElems.rg P k anyR))).map fun p => strOf p.1)
    refine this.trans ?_
    rw [List.map_map]
    refine List.Perm.of_eq (List.map_congr_left fun e he => ?_)
    simp [hrg e he, strOf]
  · simp [Maps.size, length_sorted]

set_option maxHeartbeats 4000000 in
theorem names_any (b o r : Nat) (es : Array MapEntry) (cl : Nat) (W : World) (hc : W.cell? ⟨b, o, none⟩ = some (.map (some r))) (hm : W.heap[r]? = some (.map es cl)) (hs : MapKept.Stamped es cl)
    (hkey : ∀ e ∈ es.toList, ∃ s : ByteArray, e.key = .string s ∧ s.size ≤ maxLen) (hz : es.size ≤ 1000000) :
    Calls Tryz.prog 16 #[.pointer (some ⟨b, o, none⟩)] W fun e w' => ∃ v, e = .returned v ∧ w'.ownsRow W.heap.size 9 1 v es.size (((es.toList.map keyE).mergeSort leB).map encStr) ∧ (v = .slice none 0 0 ↔ es.size = 0) ∧ Below W.heap.size W w' := by
  obtain ⟨D, hown, hperm, hsz⟩ := map_reads (P := Tryz.prog) (k := 9) Tryz.underlying9 hm hs hkey hz
  have HO := Lib.hid hown
  have hmax : Maps.size D ≤ maxLen := by rw [hsz]; unfold maxLen; omega
  have hbytes : Maps.size D * 16 ≤ 140737488355328 := by rw [hsz]; omega
  clear hm hs hkey hz hown
  refine (callsIn_wide (n := 6)).1 ?_
  have hfK : Fence.wide.fn 44 := trivial
  have hfS : Fence.wide.fn 43 := trivial
  refine callsIn_of_wp Tryz.func16 rfl trivial ?_ rfl
  simp only [Tryz.ntmps16, List.size_toArray, List.length_cons, List.length_nil, Nat.reduceAdd, Nat.reduceSub, Array.replicate_succ, Array.replicate_zero, List.push_toArray, List.append_toArray, List.nil_append, List.cons_append]
  gi_wp2_with (first
    | (gi_at_call 44; refine (Tryz.maps_Keys_44 _ _).mono ?_; rintro e w' ⟨rfl, rfl⟩)
    | (gi_at_call 43; refine (Tryz.slices_Sorted_keys_43_44 r es.size D anyR W HO.out hmax hbytes).mono ?_; rintro e w' ⟨v, ss, rfl, hS, hrow, hnil, hb⟩))
  all_goals go_ret
  have hp := hS.trans hperm
  have hl : ss.length = es.size := by rw [hp.length_eq]; simp
  refine ⟨v, rfl, ?_, ?_, ((Below.refl _ W).alloc (Nat.le_refl _) _).trans (hb.mono (by simp))⟩
  · have := ownsRow_base_a hrow (show W.heap.size ≤ _ by simp)
    rw [hl] at this
    rw [← mergeSort_of_perm hp]
    exact this
  · rw [hnil, ← hl]; exact (List.length_eq_zero_iff (l := ss)).symm
end Go.Proofs.YteohlibpfgmcaaaGreatDoor
