/- script.call: at every row of words. -/
import Derived.Test.YtkpofjfndokaeaaGreatDoorF2
import Derived.Test.YtkpofjfndokaeaaGreatDoorG0
namespace Go.Proofs.YtkpofjfndokaeaaGreatDoor
open Go.RowKit
set_option linter.unusedVariables false
set_option linter.unusedSimpArgs false

theorem call_any (t : List UInt8) (r : List (List UInt8)) (v : Value) (W : World) (hW : Sp W) (hws : Ws W v (t :: r)) (hsm : ∀ s ∈ r, s.length ≤ 4294967295) :
    Calls Tryz.prog 47 #[v] W fun e w' => CallR (t :: r) e ∧ Below W.heap.size W w' := by
  cases hf : formIx t with
  | none =>
    have hn : callB (t :: r) = none := by simp only [callB, hf]
    exact call_go false 0 (fun _ => .slice none 0 0) [] t r v W hW hws (Lib.hid fun w base b hm => lookup_noform hm hf) (Lib.hid fun X w1 base b _ => frow_nil w1 base) (callR_none hn (Cl.zero 0)) (.inl rfl) (by decide)
  | some i =>
    have hi := (formIx_some hf).1
    by_cases hl : r.length = (flds (i + 1)).length
    · have hc : callB (t :: r) = fillB (Cl.zero ((i + 1 : Nat) : Int)) (flds (i + 1)) r := by simp only [callB, hf, if_pos hl]
      exact call_fill ((i + 1 : Nat) : Int) (fun base => slOf base (i + 1)) (flds (i + 1)) t r v W hW hws (Lib.hid fun w base b hm => lookup_form hm hf) (Lib.hid fun X w1 base b h => h.rows (i + 1) (by omega)) hsm hc (flds_le _) hl
    · have hc : callB (t :: r) = none := by simp only [callB, hf, if_neg hl]
      exact call_go true ((i + 1 : Nat) : Int) (fun base => slOf base (i + 1)) (flds (i + 1)) t r v W hW hws (Lib.hid fun w base b hm => lookup_form hm hf) (Lib.hid fun X w1 base b h => h.rows (i + 1) (by omega)) (callR_none hc (Cl.zero 0)) (.inr hl) (flds_le _)
end Go.Proofs.YtkpofjfndokaeaaGreatDoor

/- script.read: a worker's line. -/
namespace Go.Proofs.YtkpofjfndokaeaaGreatDoor
open Go.RowKit
set_option linter.unusedVariables false
set_option linter.unusedSimpArgs false

/-- What is known at read's start. -/
theorem read_start {W : World} {v : Value} {t : List UInt8} {r : List (List UInt8)} (hws : Ws W v (t :: r)) : ∃ (b o c : Nat), v = .slice (some ⟨b, o, none⟩) (r.length + 1) c ∧ r.length + 1 ≤ c ∧ b < W.heap.size ∧ ∀ w', Below W.heap.size W w' → w'.cell? ⟨b, o, none⟩ = some (.string ⟨t.toArray⟩) := by
  obtain ⟨A, c, hv, hc, hr⟩ := hws
  obtain ⟨b, o, rfl, hb, h0⟩ := hr 0 t rfl
  exact ⟨b, o, c, hv, hc, hb, fun w' h => (World.cell?_of_block (a := ⟨b, o, none⟩) (h.block b hb)).trans h0⟩

set_option maxRecDepth 100000 in
set_option maxHeartbeats 4000000 in
theorem read_short (t : List UInt8) (v : Value) (W : World) (hW : Sp W) (hws : Ws W v [t]) (ht : t.length ≤ 4294967295) (z : Int) (hz : numB t = some z) :
    Calls Tryz.prog 32 #[v] W fun e w' => ReadR [t] e ∧ Below W.heap.size W w' := by
  obtain ⟨X, hX⟩ : ∃ X, X = W.alloc (.cells Ev.zero.cells 27) := ⟨_, rfl⟩
  have hXs : X.heap.size = W.heap.size + 1 := by rw [hX, World.size_alloc]
  have hb0 : Below W.heap.size W X := by rw [hX]; exact (Below.refl W.heap.size W).alloc (Nat.le_refl _) _
  have hca : EvAt X W.heap.size Ev.zero := by rw [hX]; exact EvAt.fresh W _
  obtain ⟨S, hS⟩ : ∃ S : ByteArray, S = ⟨t.toArray⟩ := ⟨_, rfl⟩
  have HN : Hid (∀ w, Sp w → Calls Tryz.prog 46 #[.string S] w fun e w' => e = .returned (.tuple #[.int .i64 z, .bool true]) ∧ Below w.heap.size w w') := Lib.hid fun w hw => by
    refine (num_got S (by rw [hS]; exact ht) t (by rw [hS]) w hw).mono ?_
    rintro e w' ⟨z', rfl, hz', hb⟩
    rw [hz' z hz, hz]
    exact ⟨rfl, hb⟩
  have HE := Lib.hid (readR_none (ts := [t]) (by simp only [readB, hz]; rfl) Ev.zero)
  obtain ⟨b, o, c, rfl, hlc, hbl, hcell⟩ := read_start hws
  have hd := hcell X hb0
  rw [← hS] at hd
  have HSP := Lib.hid (hW.later hb0)
  have HB := Lib.hid hb0
  have HCA := Lib.hid hca
  clear hz hS hcell hws hb0 hca hW ht
  unfold Ev.cells Ev.zero Cl.zero at hX
  go_enter Tryz.func32, Tryz.ntmps32
  go_upto_region 1 with fail
  rw [← hX]
  clear hX
  go_wp2_with (first | (go_at_call 46; refine (HN.out _ HSP.out).mono ?_; rintro e w2 ⟨rfl, hb2⟩; have hca := HCA.out.go hb2 (by omega); have HCA2 := Lib.hid hca; have HB2 := Lib.hid (HB.out.trans (hb2.mono HB.out.size)); have hlt := hca.lt; obtain ⟨d0, d1, d2, d3, d4, d5, d6, d7, d8, d9, d10⟩ := hca.facts; have g0 := hca.frozen 0; have g1 := hca.frozen 1; have g2 := hca.frozen 2; have g3 := hca.frozen 3; have g4 := hca.frozen 4; have g5 := hca.frozen 5; have g6 := hca.frozen 6; have g7 := hca.frozen 7; have g8 := hca.frozen 8; have g9 := hca.frozen 9; have g10 := hca.frozen 10; unfold Ev.zero Cl.zero at d0 d1 d2 d3 d4 d5 d6 d7 d8 d9 d10; clear hb2 hca))
  change bodyPost _ _ _ _ _ (evStore w2 W.heap.size Ev.zero)
  have hz2 := evStore_at HCA2.out Ev.zero
  have hb2 := evStore_below HB2.out (Nat.le_refl _) Ev.zero
  generalize evStore w2 W.heap.size Ev.zero = wF at *
  clear d0 d1 d2 d3 d4 d5 d6 d7 d8 d9 d10 g0 g1 g2 g3 g4 g5 g6 g7 g8 g9 g10
  obtain ⟨d0, d1, d2, d3, d4, d5, d6, d7, d8, d9, d10⟩ := hz2.facts
  unfold Ev.zero Cl.zero at d0 d1 d2 d3 d4 d5 d6 d7 d8 d9 d10
  exact bodyPost_ret_by (v := .tuple #[Ev.zero.v, .bool false]) (by rw [results_cell_tmp (fn := Tryz.f32) rfl]; go_simp; rfl) rfl ⟨HE.out, hb2⟩

set_option maxRecDepth 100000 in
set_option maxHeartbeats 4000000 in
theorem read_worker (t : List UInt8) (r : List (List UInt8)) (v : Value) (W : World) (hW : Sp W) (hws : Ws W v (t :: r)) (ht : t.length ≤ 4294967295) (hsm : ∀ s ∈ r, s.length ≤ 4294967295) (hr : r ≠ []) (z : Int) (hz : numB t = some z) :
    Calls Tryz.prog 32 #[v] W fun e w' => ReadR (t :: r) e ∧ Below W.heap.size W w' := by
  obtain ⟨X, hX⟩ : ∃ X, X = W.alloc (.cells Ev.zero.cells 27) := ⟨_, rfl⟩
  have hXs : X.heap.size = W.heap.size + 1 := by rw [hX, World.size_alloc]
  have hb0 : Below W.heap.size W X := by rw [hX]; exact (Below.refl W.heap.size W).alloc (Nat.le_refl _) _
  have hca : EvAt X W.heap.size Ev.zero := by rw [hX]; exact EvAt.fresh W _
  obtain ⟨S, hS⟩ : ∃ S : ByteArray, S = ⟨t.toArray⟩ := ⟨_, rfl⟩
  have HN : Hid (∀ w, Sp w → Calls Tryz.prog 46 #[.string S] w fun e w' => e = .returned (.tuple #[.int .i64 z, .bool true]) ∧ Below w.heap.size w w') := Lib.hid fun w hw => by
    refine (num_got S (by rw [hS]; exact ht) t (by rw [hS]) w hw).mono ?_
    rintro e w' ⟨z', rfl, hz', hb⟩
    rw [hz' z hz, hz]
    exact ⟨rfl, hb⟩
  obtain ⟨cb, hcb⟩ : ∃ cb, cb = (callB r).isSome := ⟨_, rfl⟩
  have hrb : readB (t :: r) = (callB r).map fun c => ⟨1, z, c, 0, 0⟩ := by simp only [readB, hz, if_neg hr]
  have HEND : Hid (∀ cc : Cl, (∀ c', callB r = some c' → cc = c') → ReadR (t :: r) (.returned (.tuple #[(Ev.mk 1 z cc 0 0).v, .bool cb]))) := Lib.hid fun cc h => by
    refine ⟨⟨1, z, cc, 0, 0⟩, by rw [hrb, hcb]; cases callB r <;> rfl, fun x' hx => ?_⟩
    rw [hrb] at hx
    cases hq : callB r with
    | none => rw [hq] at hx; cases hx
    | some c' => rw [hq] at hx; injection hx with hx; rw [h c' hq]; exact hx
  have hr1 : 1 ≤ r.length := by cases r with | nil => exact absurd rfl hr | cons _ _ => simp
  obtain ⟨b, o, c, rfl, hlc, hbl, hcell⟩ := read_start hws
  have hd := hcell X hb0
  rw [← hS] at hd
  have HC : Hid (∀ w, Below W.heap.size W w → Calls Tryz.prog 47 #[.slice (some ⟨b, o + 1, none⟩) r.length (c - 1)] w fun e w' => (∃ cc : Cl, e = .returned (.tuple #[cc.v, .bool cb]) ∧ ∀ c', callB r = some c' → cc = c') ∧ Below w.heap.size w w') := Lib.hid fun w hw => by
    have h2 := (hws.later hw (Nat.le_refl _)).tail
    rw [hcb]
    cases r with
    | nil => exact absurd rfl hr
    | cons t2 r2 => exact call_any t2 r2 _ w (hW.later hw) h2 (fun s hs => hsm s (by simp [hs]))
  have HSP := Lib.hid (hW.later hb0)
  have HB := Lib.hid hb0
  have HCA := Lib.hid hca
  have hc2 : 2 ≤ c := by omega
  have hc3 : ¬ c = 1 := by omega
  have hc4 : ¬ (r.length : Int) + 1 < 2 := by omega
  clear hz hS hcell hws hb0 hca hW ht hsm hr hrb hcb
  unfold Cl.v at HC
  unfold Ev.cells Ev.zero Cl.zero at hX
  go_enter Tryz.func32, Tryz.ntmps32
  go_upto_region 1 with fail
  rw [← hX]
  clear hX
  go_wp2_with (first | (go_at_call 46; refine (HN.out _ HSP.out).mono ?_; rintro e w2 ⟨rfl, hb2⟩; have HCA2 := Lib.hid (HCA.out.go hb2 (by omega)); have HB2 := Lib.hid (HB.out.trans (hb2.mono HB.out.size)); have hw2 := HB2.out.size; have hw3 := HCA2.out.lt; clear hb2) | (go_at_call 47; refine (HC.out _ HB2.out).mono ?_; rintro e w3 ⟨⟨cc, rfl, hcc⟩, hb3⟩; have hca := HCA2.out.go hb3 hw3; have HCA3 := Lib.hid hca; have HB3 := Lib.hid (HB2.out.trans (hb3.mono HB2.out.size)); have HCC := Lib.hid hcc; have hlt := hca.lt; obtain ⟨d0, d1, d2, d3, d4, d5, d6, d7, d8, d9, d10⟩ := hca.facts; have g0 := hca.frozen 0; have g1 := hca.frozen 1; have g2 := hca.frozen 2; have g3 := hca.frozen 3; have g4 := hca.frozen 4; have g5 := hca.frozen 5; have g6 := hca.frozen 6; have g7 := hca.frozen 7; have g8 := hca.frozen 8; have g9 := hca.frozen 9; have g10 := hca.frozen 10; unfold Ev.zero Cl.zero at d0 d1 d2 d3 d4 d5 d6 d7 d8 d9 d10; clear hb3 hca hcc))
  change bodyPost _ _ _ _ _ ((evStore w3 W.heap.size ⟨1, z, cc, 0, 0⟩).alloc _)
  have hz2 := evStore_at HCA3.out ⟨1, z, cc, 0, 0⟩
  have hb2 := evStore_below HB3.out (Nat.le_refl _) ⟨1, z, cc, 0, 0⟩
  generalize evStore w3 W.heap.size ⟨1, z, cc, 0, 0⟩ = wF at *
  have hl2 := hz2.lt
  clear d0 d1 d2 d3 d4 d5 d6 d7 d8 d9 d10 g0 g1 g2 g3 g4 g5 g6 g7 g8 g9 g10
  obtain ⟨d0, d1, d2, d3, d4, d5, d6, d7, d8, d9, d10⟩ := hz2.facts
  exact bodyPost_ret_by (v := .tuple #[(Ev.mk 1 z cc 0 0).v, .bool cb]) (by rw [results_cell_tmp (fn := Tryz.f32) rfl]; go_simp; rfl) rfl ⟨HEND.out cc HCC.out, hb2.alloc hb2.size _⟩
end Go.Proofs.YtkpofjfndokaeaaGreatDoor
