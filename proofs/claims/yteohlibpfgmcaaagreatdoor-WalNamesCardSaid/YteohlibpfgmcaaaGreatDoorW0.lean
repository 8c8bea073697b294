/- Slices of bytes, slices of them: how they lie. -/
import Derived.Test.YteohlibpfgmcaaaGreatDoorProg
import Derived.Test.YteohlibpfgmcaaaGreatDoorN0
import Derived.Test.YteohlibpfgmcaaaGreatDoorN1
import Derived.Test.YteohlibpfgmcaaaGreatDoorN3
import Derived.WalkKit
import Derived.Below
import Derived.Lib.Hide
import Derived.OwnWalk
import Derived.Laws.NewBlocks
import Derived.Laws.Bits64
import Derived.Laws.Bits64b
import Derived.Lib.AppendStr
namespace Go.Proofs.YteohlibpfgmcaaaGreatDoor
open Go.RowKit
set_option linter.unusedVariables false
set_option linter.unusedSimpArgs false

def b8v (b : UInt8) : Value := .int .u8 (b.toNat : Int)
/-- Bytes that lie in a slice. -/
def Bs (w : World) (v : Value) (l : List UInt8) : Prop :=
  ∃ A c, v = .slice A l.length c ∧ l.length ≤ c ∧ c ≤ maxLen ∧ (0 < l.length → ∃ b o, A = some ⟨b, o, none⟩ ∧ b < w.heap.size ∧ ∀ j u, l[j]? = some u → w.cell? ⟨b, o + j, none⟩ = some (b8v u))
theorem Bs.go {w w' : World} {v : Value} {l : List UInt8} {n : Nat} (h : Bs w v l) (hb : Below n w w') (hn : w.heap.size ≤ n) : Bs w' v l := by
  obtain ⟨A, c, hv, hc, hm, hr⟩ := h
  refine ⟨A, c, hv, hc, hm, fun h0 => ?_⟩
  obtain ⟨b, o, hA, hl, hcell⟩ := hr h0
  refine ⟨b, o, hA, Nat.lt_of_lt_of_le hl hb.size, fun j u hj => ?_⟩
  exact (World.cell?_of_block (a := ⟨b, o + j, none⟩) (hb.block b (by omega))).trans (hcell j u hj)
theorem Bs.nil (w : World) (A : Option Addr) (c : Nat) (hc : c ≤ maxLen) : Bs w (.slice A 0 c) [] := ⟨A, c, rfl, Nat.zero_le _, hc, fun h => absurd h (by simp)⟩
theorem Bs.len {w : World} {v : Value} {l : List UInt8} (h : Bs w v l) : l.length ≤ maxLen := by
  obtain ⟨_, c, _, h1, h2, _⟩ := h
  exact Nat.le_trans h1 h2
/-- The cells of a slice that reads as bytes. -/
theorem Bs.cells {w : World} {v : Value} {l : List UInt8} (h : Bs w v l) : ∃ A c, v = .slice A l.length c ∧ l.length ≤ c ∧ c ≤ maxLen ∧ ∀ j u, l[j]? = some u → ∃ b o, A = some ⟨b, o, none⟩ ∧ b < w.heap.size ∧ w.cell? ⟨b, o + j, none⟩ = some (b8v u) := by
  obtain ⟨A, c, hv, hc, hm, hr⟩ := h
  refine ⟨A, c, hv, hc, hm, fun j u hj => ?_⟩
  have h0 : 0 < l.length := by have := (List.getElem?_eq_some_iff.1 hj).1; omega
  obtain ⟨b, o, hA, hl, hcell⟩ := hr h0
  exact ⟨b, o, hA, hl, hcell j u hj⟩
/-- Part of a slice. -/
theorem Bs.part {w : World} {A : Option Addr} {c : Nat} {l : List UInt8} (h : Bs w (.slice A l.length c) l) {b o : Nat} (hA : A = some ⟨b, o, none⟩) (i n c' : Nat) (hn : i + n ≤ l.length) (hc : n ≤ c') (hc' : c' ≤ maxLen) : Bs w (.slice (some ⟨b, o + i, none⟩) n c') ((l.drop i).take n) := by
  have hl : ((l.drop i).take n).length = n := by rw [List.length_take, List.length_drop]; omega
  obtain ⟨A2, c2, hv, hc2, hm, hr⟩ := h
  injection hv with h1 h2 h3
  subst h1; subst h3; subst hA
  refine ⟨_, c', by rw [hl], by rw [hl]; exact hc, hc', fun h0 => ?_⟩
  rw [hl] at h0
  obtain ⟨b', o', hA, hlt, hcell⟩ := hr (by omega)
  injection hA with hA
  injection hA with h4 h5 _
  subst h4; subst h5
  refine ⟨_, _, rfl, hlt, fun j u hj => ?_⟩
  rw [List.getElem?_take] at hj
  split at hj
  · rw [List.getElem?_drop] at hj
    rw [Nat.add_assoc]
    exact hcell _ _ hj
  · cases hj
/-- Bytes in a row of the call's own. -/
structure TS (W : World) (acc : List UInt8) (v : Value) (wr : World) : Prop where
  own : wr.ownsRow W.heap.size 5 1 v acc.length (acc.map b8v)
  below : Below W.heap.size W wr
theorem own_bs {w : World} {base : Nat} {v : Value} {l : List UInt8} (h : w.ownsRow base 5 1 v l.length (l.map b8v)) : Bs w v l := by
  rcases h.2 with ⟨h1, h2⟩ | ⟨g, cap, cur, hv, hg, hk, hc, hm, _⟩
  · have : l = [] := List.length_eq_zero_iff.1 h2
    subst this; subst h1
    exact Bs.nil w none 0 (by unfold maxLen; omega)
  · subst hv
    refine ⟨_, cap, rfl, hc, hm, fun _ => ⟨g, 0, rfl, (Array.getElem?_eq_some_iff.1 hk).1, fun j u hj => ?_⟩⟩
    have hj2 := (List.getElem?_eq_some_iff.1 hj).1
    rw [Nat.zero_add, h.cellAt j (by omega), List.getElem?_map, hj]
    rfl
theorem TS.bs {W : World} {acc : List UInt8} {v : Value} {wr : World} (h : TS W acc v wr) : Bs wr v acc := own_bs h.own
theorem TS.alloc {W : World} {acc : List UInt8} {v : Value} {wr : World} (h : TS W acc v wr) (o : Obj) : TS W acc v (wr.alloc o) := ⟨h.own.alloc o, h.below.alloc h.below.size o⟩
theorem TS.later {W : World} {acc : List UInt8} {v : Value} {wr w' : World} (h : TS W acc v wr) (hb : Below wr.heap.size wr w') : TS W acc v w' :=
  ⟨h.own.kept (row := none) ⟨hb.os, hb.tape, hb.output, hb.size, fun k hk _ => hb.block k hk⟩ (by cases h' : v.ownBlock; exact .inl rfl; exact .inr (by simp)), h.below.trans (hb.mono h.below.size)⟩
theorem TS.append {W : World} {acc : List UInt8} {v : Value} {wr w' : World} (h : TS W acc v wr) (l : List UInt8) {v' : Value} {n : Nat} (hn : n = acc.length + l.length) {cs : List Value} (hc : cs = acc.map b8v ++ l.map b8v)
    (hown : w'.ownsRow W.heap.size 5 1 v' n cs) (hg : wr.grownBy w' v.ownBlock) : TS W (acc ++ l) v' w' := by
  subst hn; subst hc
  refine ⟨?_, h.below.grown hg h.below.size (fun k e => (h.own.lt k e).1)⟩
  rw [List.length_append, List.map_append]
  exact hown
theorem TS.start (W : World) : TS W [] (.slice none 0 0) W := ⟨⟨rfl, .inl ⟨rfl, rfl⟩⟩, Below.refl _ W⟩
theorem TS.v {W : World} {acc : List UInt8} {v : Value} {wr : World} (h : TS W acc v wr) : ∃ A cap, v = .slice A acc.length cap := by
  rcases h.own.2 with ⟨h1, h2⟩ | ⟨g, cap, cur, hv, _⟩
  · exact ⟨none, 0, by rw [h1, h2]⟩
  · exact ⟨_, _, hv⟩
/-- Slices of bytes that lie in a slice. -/
def Bss (w : World) (v : Value) (ls : List (List UInt8)) : Prop :=
  ∃ A c, v = .slice A ls.length c ∧ ls.length ≤ c ∧ c ≤ maxLen ∧ ∀ j l, ls[j]? = some l → ∃ b o x, A = some ⟨b, o, none⟩ ∧ b < w.heap.size ∧ w.cell? ⟨b, o + j, none⟩ = some x ∧ Bs w x l
theorem Bss.go {w w' : World} {v : Value} {ls : List (List UInt8)} {n : Nat} (h : Bss w v ls) (hb : Below n w w') (hn : w.heap.size ≤ n) : Bss w' v ls := by
  obtain ⟨A, c, hv, hc, hm, hr⟩ := h
  refine ⟨A, c, hv, hc, hm, fun j l hj => ?_⟩
  obtain ⟨b, o, x, hA, hl, hcell, hx⟩ := hr j l hj
  exact ⟨b, o, x, hA, Nat.lt_of_lt_of_le hl hb.size, (World.cell?_of_block (a := ⟨b, o + j, none⟩) (hb.block b (by omega))).trans hcell, hx.go hb hn⟩
/-- Bytes as they lie; nothing is said of the capacity. -/
def Bw (w : World) (v : Value) (l : List UInt8) : Prop :=
  ∃ A c, v = .slice A l.length c ∧ l.length ≤ maxLen ∧ (0 < l.length → ∃ b o, A = some ⟨b, o, none⟩ ∧ ∀ j u, l[j]? = some u → w.cell? ⟨b, o + j, none⟩ = some (b8v u))
/-- Slices of bytes in a row. -/
def Bsw (w : World) (v : Value) (ls : List (List UInt8)) : Prop :=
  ∃ A c, v = .slice A ls.length c ∧ ls.length ≤ maxLen ∧ (0 < ls.length → ∃ b o, A = some ⟨b, o, none⟩ ∧ ∀ j l, ls[j]? = some l → ∃ x, w.cell? ⟨b, o + j, none⟩ = some x ∧ Bw w x l)
theorem Bs.bw {w : World} {v : Value} {l : List UInt8} (h : Bs w v l) : Bw w v l := by
  obtain ⟨A, c, hv, hc, hm, hr⟩ := h
  refine ⟨A, c, hv, Nat.le_trans hc hm, fun h0 => ?_⟩
  obtain ⟨b, o, hA, _, hcell⟩ := hr h0
  exact ⟨b, o, hA, hcell⟩
theorem Bss.bsw {w : World} {v : Value} {ls : List (List UInt8)} (h : Bss w v ls) : Bsw w v ls := by
  obtain ⟨A, c, hv, hc, hm, hr⟩ := h
  refine ⟨A, c, hv, Nat.le_trans hc hm, fun h0 => ?_⟩
  obtain ⟨b, o, x, hA, _⟩ := hr 0 _ (List.getElem?_eq_getElem h0)
  refine ⟨b, o, hA, fun j l hj => ?_⟩
  obtain ⟨b', o', x', hA', _, hcell, hx⟩ := hr j l hj
  rw [hA] at hA'; injection hA' with hA'; injection hA' with h1 h2 _
  subst h1; subst h2
  exact ⟨x', hcell, hx.bw⟩
end Go.Proofs.YteohlibpfgmcaaaGreatDoor
