/- Graph.far of the document: the distances. -/
import Derived.Test.YtmfjncbccaifiaaDoorE2
namespace Go.Proofs.YtmfjncbccaifiaaDoor
open Go.RowKit
set_option linter.unusedVariables false
set_option linter.unusedSimpArgs false

def wf (ws : List Nat) (i : Nat) : Nat := ws.getD i 0
/-- Both graphs hold the same waits. -/
structure Rel (ws : List Nat) (bs : List Bool) : Prop where
  len : ws.length = 16
  gr : Gr (wf ws)
  is : ∀ i k, i < 16 → k < 16 → bs.getD (i * 16 + k) false = (wf ws i).testBit k

def ints64 (ls : List Int) : Array Value := (ls.map fun (x : Int) => Value.int .i64 x).toArray
/-- Block b is an array of sixteen ints. -/
def LB (W : World) (b : Nat) (ls : List Int) : Prop := W.heap[b]? = some (.cells (ints64 ls) 76 (0, 0)) ∧ ls.length = 16
theorem LB.cell {W : World} {g : Nat} {ws : List Int} (h : LB W g ws) {i : Nat} (hi : i < 16) : W.cell? ⟨g, i, none⟩ = some (.int .i64 (ws.getD i 0)) := by
  have hl := h.2
  simp only [World.cell?, h.1, ints64]
  simp [List.getD_eq_getElem?_getD, hl, hi]
theorem LB.frozen {W : World} {g : Nat} {ws : List Int} (h : LB W g ws) (i : Nat) : W.frozen? ⟨g, i, none⟩ = false := by
  simp [World.frozen?, h.1]
theorem LB.set {W : World} {g : Nat} {ws : List Int} (h : LB W g ws) {i : Nat} (hi : i < 16) (x : Int) : LB (W.setCell ⟨g, i, none⟩ (.int .i64 x)) g (ws.set i x) := by
  refine ⟨?_, by rw [List.length_set]; exact h.2⟩
  obtain ⟨hlt, hk⟩ := Array.getElem?_eq_some_iff.1 h.1
  show (W.heap.modify g _)[g]? = _
  rw [Array.getElem?_eq_getElem (by rw [Array.size_modify]; exact hlt), Array.getElem_modify_self, hk]
  simp [ints64, List.map_set]
theorem getI_set (ls : List Int) (i x : Nat) (v : Int) (hi : i < ls.length) : (ls.set i v).getD x 0 = if x = i then v else ls.getD x 0 := by
  rw [List.getD_eq_getElem?_getD, List.getElem?_set, List.getD_eq_getElem?_getD]
  by_cases h : i = x
  · subst h; simp [hi]
  · simp [h, Ne.symm h]

section
variable (w : Nat → Nat) (g : Nat)
def Snd (ls : List Int) : Prop := ∀ x, x < 16 → (dd w g x : Int) ≤ ls.getD x 0 ∧ ls.getD x 0 ≤ 99
def Upto (N : Nat) (ls : List Int) : Prop := ∀ x, x < 16 → dd w g x ≤ N → ls.getD x 0 = (dd w g x : Int)
def Rows (N i : Nat) (ls : List Int) : Prop := ∀ x, x < i → x < 16 → dd w g x ≤ N + 1 → ls.getD x 0 = (dd w g x : Int)
def Part (N i k : Nat) (ls : List Int) : Prop := ∀ k', k' < k → k' < 16 → (w i).testBit k' = true → k' ≠ g → dd w g k' ≤ N → ls.getD i 0 ≤ (dd w g k' : Int) + 1
/-- In the middle of a round. -/
structure Mid (N i k : Nat) (ls : List Int) : Prop where
  len : ls.length = 16
  snd : Snd w g ls
  upto : Upto w g N ls
  rows : Rows w g N i ls
  part : Part w g N i k ls
end

theorem Mid.relax {w : Nat → Nat} {g N i k : Nat} {ls : List Int} (h : Mid w g N i k ls) (hi : i < 16) (hk : k < 16) (he : (w i).testBit k = true) (hkg : k ≠ g) {v : Int} (hv : v = min (ls.getD i 0) (ls.getD k 0 + 1)) : Mid w g N i (k + 1) (ls.set i v) := by
  have hil : i < ls.length := by rw [h.len]; exact hi
  have hd := dd_wait (g := g) hi he
  have h1 := h.snd i hi
  have h2 := h.snd k hk
  refine ⟨by rw [List.length_set]; exact h.len, fun x hx => ?_, fun x hx hN => ?_, fun x hxi hx hN => ?_, fun k' hk' hk16 he' hne hN => ?_⟩
  · rw [getI_set _ _ _ _ hil]
    split
    · subst_vars; omega
    · exact h.snd x hx
  · rw [getI_set _ _ _ _ hil]
    split
    · rename_i e; subst e
      have := h.upto x hx hN
      omega
    · exact h.upto x hx hN
  · rw [getI_set _ _ _ _ hil, if_neg (by omega)]
    exact h.rows x hxi hx hN
  · rw [getI_set _ _ _ _ hil, if_pos rfl]
    rcases Nat.lt_or_ge k' k with hlt | hge
    · have := h.part k' hlt hk16 he' hne hN
      omega
    · obtain rfl : k' = k := by omega
      have := h.upto k' hk hN
      omega
theorem Mid.skip {w : Nat → Nat} {g N i k : Nat} {ls : List Int} (h : Mid w g N i k ls) (hn : ¬ ((w i).testBit k = true ∧ k ≠ g)) : Mid w g N i (k + 1) ls :=
  ⟨h.len, h.snd, h.upto, h.rows, fun k' hk' hk16 he' hne hN => by
    rcases Nat.lt_or_ge k' k with hlt | hge
    · exact h.part k' hlt hk16 he' hne hN
    · obtain rfl : k' = k := by omega
      exact absurd ⟨he', hne⟩ hn⟩
theorem Mid.row {w : Nat → Nat} {g N i : Nat} {ls : List Int} (h : Mid w g N i 16 ls) (hN1 : 1 ≤ N) (hN : N ≤ 17) : Mid w g N (i + 1) 0 ls :=
  ⟨h.len, h.snd, h.upto, fun x hxi hx hd => by
    rcases Nat.lt_or_ge x i with hlt | hge
    · exact h.rows x hlt hx hd
    · obtain rfl : x = i := by omega
      rcases Nat.lt_or_ge (dd w g x) (N + 1) with h1 | h1
      · exact h.upto x hx (by omega)
      · obtain ⟨k, hk, hkg, he, hdk⟩ := dd_from (w := w) (g := g) (i := x) (by omega) (by omega)
        have h2 := h.part k hk hk he hkg (by omega)
        have h3 := (h.snd x hx).1
        omega, fun k' hk' => absurd hk' (Nat.not_lt_zero _)⟩
theorem Mid.round {w : Nat → Nat} {g N : Nat} {ls : List Int} (h : Mid w g N 16 0 ls) : Mid w g (N + 1) 0 0 ls :=
  ⟨h.len, h.snd, fun x hx hd => h.rows x hx hx hd, fun x hx => absurd hx (Nat.not_lt_zero _), fun k' hk' => absurd hk' (Nat.not_lt_zero _)⟩
theorem Mid.done {w : Nat → Nat} {g : Nat} {ls : List Int} (h : Mid w g 17 0 0 ls) (x : Nat) (hx : x < 16) : ls.getD x 0 = (dd w g x : Int) := by
  have h1 := dd_le (w := w) (g := g) x
  rcases h1.2.2 with h2 | h2
  · exact h.upto x hx (by omega)
  · have := h.snd x hx; omega
/-- The first loop. -/
def Begun (w : Nat → Nat) (g i : Nat) (ls : List Int) : Prop := ls.length = 16 ∧ ∀ x, x < i → x < 16 → ls.getD x 0 = if (w x).testBit g = true then 1 else 99
theorem Begun.mid {w : Nat → Nat} {g : Nat} {ls : List Int} (h : Begun w g 16 ls) : Mid w g 1 0 0 ls := by
  refine ⟨h.1, fun x hx => ?_, fun x hx hd => ?_, fun x hx => absurd hx (Nat.not_lt_zero _), fun k' hk' => absurd hk' (Nat.not_lt_zero _)⟩
  · rw [h.2 x hx hx]
    have h1 := dd_le (w := w) (g := g) x
    split
    · rename_i he
      rw [dd_one.2 ⟨hx, he⟩]; omega
    · omega
  · have h1 := (dd_le (w := w) (g := g) x).1
    have h2 : dd w g x = 1 := by omega
    rw [h.2 x hx hx, if_pos (dd_one.1 h2).2, h2]; rfl
theorem Begun.step {w : Nat → Nat} {g i : Nat} {ls : List Int} (h : Begun w g i ls) (hi : i < 16) : Begun w g (i + 1) (ls.set i (if (w i).testBit g = true then 1 else 99)) := by
  refine ⟨by rw [List.length_set]; exact h.1, fun x hx hx16 => ?_⟩
  rw [getI_set _ _ _ _ (by rw [h.1]; exact hi)]
  split
  · rename_i e; subst e; rfl
  · exact h.2 x (by omega) hx16

def ddArr (w : Nat → Nat) (g : Nat) : Array Value := ((List.range 16).map fun (x : Nat) => Value.int .i64 (dd w g x : Int)).toArray

/-- A later world in which the result's own array is still empty. -/
structure LaterZ (W W' : World) : Prop where
  later : Later W W'
  zero : LB W' W.heap.size (List.replicate 16 0)
theorem LaterZ.set {W W' : World} (h : LaterZ W W') (i : Nat) (v : Value) : LaterZ W (W'.setCell ⟨W.heap.size + 1, i, none⟩ v) :=
  ⟨h.later.setCell (p := ⟨W.heap.size + 1, i, none⟩) (by simp) _, ⟨(Below.heap_setCell W' _ v W.heap.size (by simp)).trans h.zero.1, h.zero.2⟩⟩
theorem LaterZ.drew {W W' : World} (h : LaterZ W W') : LaterZ W W'.drew := ⟨h.later.drew, h.zero⟩
theorem LB.drew {W : World} {b : Nat} {ls : List Int} (h : LB W b ls) : LB W.drew b ls := h

set_option maxHeartbeats 8000000 in
set_option maxRecDepth 100000 in
theorem far_any (r : Nat) (ws : List Nat) (bs : List Bool) (g : Nat) (hg : g < 16) (W : World) (hR : RB W r bs) (hrel : Rel ws bs) :
    Calls Tryd.prog 44 #[.pointer (some ⟨r, 0, none⟩), .int .i64 (g : Int)] W fun e W' => e = .returned (.agg (ddArr (wf ws) g)) ∧ Later W W' := by
  have HR : Hid (∀ W' i k, Later W W' → i < 16 → k < 16 → W'.cell? ⟨r, i * 16 + k, none⟩ = some (.bool ((wf ws i).testBit k))) := Lib.hid fun W' i k hl hi hk => by
    have := hR.cell (show i * 16 + k < 256 by omega)
    rw [hrel.is i k hi hk] at this
    exact (hl.cell hR.lt).trans this
  clear hR hrel
  have hl0 : LB ((W.alloc (.cells #[.int .i64 0, .int .i64 0, .int .i64 0, .int .i64 0, .int .i64 0, .int .i64 0, .int .i64 0, .int .i64 0, .int .i64 0, .int .i64 0, .int .i64 0, .int .i64 0, .int .i64 0, .int .i64 0, .int .i64 0, .int .i64 0] 76)).alloc (.cells #[.int .i64 0, .int .i64 0, .int .i64 0, .int .i64 0, .int .i64 0, .int .i64 0, .int .i64 0, .int .i64 0, .int .i64 0, .int .i64 0, .int .i64 0, .int .i64 0, .int .i64 0, .int .i64 0, .int .i64 0, .int .i64 0] 76)) (W.heap.size + 1) (List.replicate 16 0) :=
    ⟨by have := World.alloc_heap_new (W.alloc (.cells #[.int .i64 0, .int .i64 0, .int .i64 0, .int .i64 0, .int .i64 0, .int .i64 0, .int .i64 0, .int .i64 0, .int .i64 0, .int .i64 0, .int .i64 0, .int .i64 0, .int .i64 0, .int .i64 0, .int .i64 0, .int .i64 0] 76)) (.cells #[.int .i64 0, .int .i64 0, .int .i64 0, .int .i64 0, .int .i64 0, .int .i64 0, .int .i64 0, .int .i64 0, .int .i64 0, .int .i64 0, .int .i64 0, .int .i64 0, .int .i64 0, .int .i64 0, .int .i64 0, .int .i64 0] 76); rw [World.size_alloc] at this; exact this, rfl⟩
  have HL0 := Lib.hid hl0
  clear hl0
  go_enter Tryd.func44, Tryd.ntmps44
  go_wp2
  go_loopw [6] (fun i wr => ∃ (k : Nat) (ls : List Int), k ≤ 16 ∧ i = .int .i64 k ∧ Hid (LB wr (W.heap.size + 1) ls) ∧ Hid (LaterZ W wr) ∧ Hid (Begun (wf ws) g k ls)) (fun i _ => 16 - (intOf i).toNat)
  case atStart => exact ⟨0, _, Nat.zero_le _, rfl, HL0, Lib.hid ⟨((Below.refl _ _).alloc (Nat.le_refl _) _).alloc (by simp) _, ⟨(Below.heap_alloc _ _ _ (by simp)).trans (World.alloc_heap_new W _), rfl⟩⟩, Lib.hid ⟨rfl, fun x hx => absurd hx (Nat.not_lt_zero _)⟩⟩
  case round =>
    obtain ⟨i, ls, hi, rfl, hL, hW, hB⟩ := hrel
    by_cases hlt : i < 16
    · have hc := hL.out.cell hlt
      have hf := hL.out.frozen i
      have hs := hL.out.set hlt 99
      have hb := hB.out.step hlt
      have hW2 : LaterZ W (wr.setCell ⟨W.heap.size + 1, i, none⟩ (.int .i64 99)) := hW.out.set i _
      have hr := HR.out _ i g hW2.later hlt hg
      have hc2 := hs.cell hlt
      rw [getI_set _ _ _ _ (by rw [hL.out.2]; exact hlt), if_pos rfl] at hc2
      have hf2 := hs.frozen i
      have hs2 := hs.set hlt 1
      rw [List.set_set] at hs2
      have hW3 : LaterZ W ((wr.setCell ⟨W.heap.size + 1, i, none⟩ (.int .i64 99)).setCell ⟨W.heap.size + 1, i, none⟩ (.int .i64 1)) := hW2.set i _
      have HSS := Lib.hid hs
      have HSS2 := Lib.hid hs2
      have HBB := Lib.hid hb
      have HW2 := Lib.hid hW2
      have HW3 := Lib.hid hW3
      generalize ls.getD i 0 = old at hc
      by_cases he : (wf ws i).testBit g = true
      · rw [he] at hr
        have HE := Lib.hid he
        clear hs hb he hs2 hW2 hW3
        go_wp2
        go_roundw
        case rel => exact ⟨i + 1, ls.set i 1, by omega, by go_num, HSS2, HW3, Lib.hid (by have := HBB.out; rwa [if_pos HE.out] at this)⟩
        case measure => simp [intOf]; omega
      · have he' : (wf ws i).testBit g = false := by simpa using he
        rw [he'] at hr
        have HE := Lib.hid he
        clear hs hb he he' hs2 hW2 hW3
        go_wp2
        go_roundw
        case rel => exact ⟨i + 1, ls.set i 99, by omega, by go_num, HSS, HW2, Lib.hid (by have := HBB.out; rwa [if_neg HE.out] at this)⟩
        case measure => simp [intOf]; omega
    · have hi2 : i = 16 := by omega
      have HM0 : Hid (Mid (wf ws) g 1 0 0 ls) := Lib.hid (by have := hB.out; rw [hi2] at this; exact this.mid)
      obtain ⟨W1, rfl⟩ : ∃ W1 : World, W1 = wr := ⟨_, rfl⟩
      clear hB hi2
      go_wp2
      go_loopw [7] (fun i wr => ∃ (n : Nat) (ls : List Int), n ≤ 16 ∧ i = .int .i64 n ∧ Hid (LB wr (W.heap.size + 1) ls) ∧ Hid (LaterZ W wr) ∧ Hid (Mid (wf ws) g (n + 1) 0 0 ls)) (fun i _ => 16 - (intOf i).toNat)
      case atStart => exact ⟨0, ls, Nat.zero_le _, rfl, hL, hW, HM0⟩
      case round =>
        clear hL hW HM0
        obtain ⟨n, ls, hn, rfl, hL, hW, hM⟩ := hrel
        by_cases hlt : n < 16
        · obtain ⟨W2, rfl⟩ : ∃ W2 : World, W2 = wr := ⟨_, rfl⟩
          have hn2 : decide ((n : Int) < 16) = true := by simp; omega
          go_wp2
          go_loopw [8] (fun i wr => ∃ (x : Nat) (ls : List Int), x ≤ 16 ∧ i = .int .i64 x ∧ Hid (LB wr (W.heap.size + 1) ls) ∧ Hid (LaterZ W wr) ∧ Hid (Mid (wf ws) g (n + 1) x 0 ls)) (fun i _ => 16 - (intOf i).toNat)
          case atStart => exact ⟨0, ls, Nat.zero_le _, rfl, hL, hW, hM⟩
          case round =>
            clear hL hW hM
            obtain ⟨x, ls, hx, rfl, hL, hW, hM⟩ := hrel
            by_cases hlt2 : x < 16
            · obtain ⟨W3, rfl⟩ : ∃ W3 : World, W3 = wr := ⟨_, rfl⟩
              have hx2 : decide ((x : Int) < 16) = true := by simp; omega
              go_wp2
              go_loopw [9] (fun i wr => ∃ (k : Nat) (ls : List Int), k ≤ 16 ∧ i = .int .i64 k ∧ Hid (LB wr (W.heap.size + 1) ls) ∧ Hid (LaterZ W wr) ∧ Hid (Mid (wf ws) g (n + 1) x k ls)) (fun i _ => 16 - (intOf i).toNat)
              case atStart => exact ⟨0, ls, Nat.zero_le _, rfl, hL, hW, hM⟩
              case round =>
                clear hL hW hM
                obtain ⟨k, ls, hk, rfl, hL, hW, hM⟩ := hrel
                by_cases hlt3 : k < 16
                · have hk2 : decide ((k : Int) < 16) = true := by simp; omega
                  have hr := HR.out wr x k hW.out.later hlt2 hlt3
                  by_cases he : (wf ws x).testBit k = true
                  · by_cases hkg : k = g
                    · have HSK := Lib.hid (hM.out.skip (k := k) (fun h => h.2 hkg))
                      have t1 : ((k : Int) != (g : Int)) = false := by rw [hkg]; simp
                      have t2 : (k != g) = false := by simpa using hkg
                      rw [he] at hr
                      clear he hkg
                      go_wp2
                      go_roundw
                      case rel => exact ⟨k + 1, ls, by omega, by go_num, hL, hW, HSK⟩
                      case measure => simp [intOf]; omega
                    · have t1 : ((k : Int) != (g : Int)) = true := by simp; omega
                      have t2 : (k != g) = true := by simpa using hkg
                      have cx := hL.out.cell hlt2
                      have ck := hL.out.cell hlt3
                      have fx := hL.out.frozen x
                      have s1 := hM.out.snd x hlt2
                      have s2 := hM.out.snd k hlt3
                      have s3 := (dd_le (w := wf ws) (g := g) x).1
                      have s4 := (dd_le (w := wf ws) (g := g) k).1
                      have HRX : Hid (∀ v, v = min (ls.getD x 0) (ls.getD k 0 + 1) → LB (wr.setCell ⟨W.heap.size + 1, x, none⟩ (.int .i64 v)) (W.heap.size + 1) (ls.set x v) ∧ Mid (wf ws) g (n + 1) x (k + 1) (ls.set x v) ∧ LaterZ W (wr.setCell ⟨W.heap.size + 1, x, none⟩ (.int .i64 v))) :=
                        Lib.hid fun v hv => ⟨hL.out.set hlt2 v, hM.out.relax hlt2 hlt3 he hkg hv, hW.out.set x _⟩
                      have hp1 : 1 ≤ ls.getD x 0 := by omega
                      have hp2 : ls.getD x 0 ≤ 99 := by omega
                      have hq1 : 1 ≤ ls.getD k 0 := by omega
                      have hq2 : ls.getD k 0 ≤ 99 := by omega
                      obtain ⟨p, hp⟩ : ∃ p, ls.getD x 0 = p := ⟨_, rfl⟩
                      obtain ⟨q, hq⟩ : ∃ q, ls.getD k 0 = q := ⟨_, rfl⟩
                      rw [hp] at cx HRX hp1 hp2
                      rw [hq] at ck HRX hq1 hq2
                      rw [he] at hr
                      clear s1 s2 s3 s4 hp hq he hkg
                      go_wp2
                      go_region
                      go_wp2
                      obtain ⟨r1, r2, r3⟩ := HRX.out (if q + 1 < p then q + 1 else p) (by split <;> omega)
                      exact ⟨⟨k + 1, ls.set x (if q + 1 < p then q + 1 else p), by omega, by go_num, Lib.hid r1.drew, Lib.hid r3.drew, Lib.hid r2⟩, by simp [intOf]; omega⟩
                  · have he' : (wf ws x).testBit k = false := by simpa using he
                    have HSK := Lib.hid (hM.out.skip (k := k) (fun h => he h.1))
                    rw [he'] at hr
                    clear he he'
                    go_wp2
                    go_roundw
                    case rel => exact ⟨k + 1, ls, by omega, by go_num, hL, hW, HSK⟩
                    case measure => simp [intOf]; omega
                · have hk3 : k = 16 := by omega
                  have hk2 : decide ((k : Int) < 16) = false := by simp; omega
                  have HRW : Hid (Mid (wf ws) g (n + 1) (x + 1) 0 ls) := Lib.hid (by have := hM.out; rw [hk3] at this; exact this.row (by omega) (by omega))
                  clear hk3 hM
                  go_wp2
                  exact ⟨⟨x + 1, ls, by omega, by go_num, hL, hW, HRW⟩, by simp [intOf]; omega⟩
            · have hx3 : x = 16 := by omega
              have hx2 : decide ((x : Int) < 16) = false := by simp; omega
              have HRW : Hid (Mid (wf ws) g (n + 1 + 1) 0 0 ls) := Lib.hid (by have := hM.out; rw [hx3] at this; exact this.round)
              clear hx3 hM
              go_wp2
              exact ⟨⟨n + 1, ls, by omega, by go_num, hL, hW, HRW⟩, by simp [intOf]; omega⟩
        · have hn3 : n = 16 := by omega
          have hn2 : decide ((n : Int) < 16) = false := by simp; omega
          have HD : Hid (∀ x, x < 16 → ls.getD x 0 = (dd (wf ws) g x : Int)) := Lib.hid (by have := hM.out; rw [hn3] at this; exact this.done)
          have c0 := hL.out.cell (show 0 < 16 by omega)
          rw [HD.out 0 (by omega)] at c0
          have z0 : wr.cell? ⟨W.heap.size, 0, none⟩ = some (.int .i64 0) := hW.out.zero.cell (show 0 < 16 by omega)
          have y0 := hW.out.zero.frozen 0
          have c1 := hL.out.cell (show 1 < 16 by omega)
          rw [HD.out 1 (by omega)] at c1
          have z1 : wr.cell? ⟨W.heap.size, 1, none⟩ = some (.int .i64 0) := hW.out.zero.cell (show 1 < 16 by omega)
          have y1 := hW.out.zero.frozen 1
          have c2 := hL.out.cell (show 2 < 16 by omega)
          rw [HD.out 2 (by omega)] at c2
          have z2 : wr.cell? ⟨W.heap.size, 2, none⟩ = some (.int .i64 0) := hW.out.zero.cell (show 2 < 16 by omega)
          have y2 := hW.out.zero.frozen 2
          have c3 := hL.out.cell (show 3 < 16 by omega)
          rw [HD.out 3 (by omega)] at c3
          have z3 : wr.cell? ⟨W.heap.size, 3, none⟩ = some (.int .i64 0) := hW.out.zero.cell (show 3 < 16 by omega)
          have y3 := hW.out.zero.frozen 3
          have c4 := hL.out.cell (show 4 < 16 by omega)
          rw [HD.out 4 (by omega)] at c4
          have z4 : wr.cell? ⟨W.heap.size, 4, none⟩ = some (.int .i64 0) := hW.out.zero.cell (show 4 < 16 by omega)
          have y4 := hW.out.zero.frozen 4
          have c5 := hL.out.cell (show 5 < 16 by omega)
          rw [HD.out 5 (by omega)] at c5
          have z5 : wr.cell? ⟨W.heap.size, 5, none⟩ = some (.int .i64 0) := hW.out.zero.cell (show 5 < 16 by omega)
          have y5 := hW.out.zero.frozen 5
          have c6 := hL.out.cell (show 6 < 16 by omega)
          rw [HD.out 6 (by omega)] at c6
          have z6 : wr.cell? ⟨W.heap.size, 6, none⟩ = some (.int .i64 0) := hW.out.zero.cell (show 6 < 16 by omega)
          have y6 := hW.out.zero.frozen 6
          have c7 := hL.out.cell (show 7 < 16 by omega)
          rw [HD.out 7 (by omega)] at c7
          have z7 : wr.cell? ⟨W.heap.size, 7, none⟩ = some (.int .i64 0) := hW.out.zero.cell (show 7 < 16 by omega)
          have y7 := hW.out.zero.frozen 7
          have c8 := hL.out.cell (show 8 < 16 by omega)
          rw [HD.out 8 (by omega)] at c8
          have z8 : wr.cell? ⟨W.heap.size, 8, none⟩ = some (.int .i64 0) := hW.out.zero.cell (show 8 < 16 by omega)
          have y8 := hW.out.zero.frozen 8
          have c9 := hL.out.cell (show 9 < 16 by omega)
          rw [HD.out 9 (by omega)] at c9
          have z9 : wr.cell? ⟨W.heap.size, 9, none⟩ = some (.int .i64 0) := hW.out.zero.cell (show 9 < 16 by omega)
          have y9 := hW.out.zero.frozen 9
          have c10 := hL.out.cell (show 10 < 16 by omega)
          rw [HD.out 10 (by omega)] at c10
          have z10 : wr.cell? ⟨W.heap.size, 10, none⟩ = some (.int .i64 0) := hW.out.zero.cell (show 10 < 16 by omega)
          have y10 := hW.out.zero.frozen 10
          have c11 := hL.out.cell (show 11 < 16 by omega)
          rw [HD.out 11 (by omega)] at c11
          have z11 : wr.cell? ⟨W.heap.size, 11, none⟩ = some (.int .i64 0) := hW.out.zero.cell (show 11 < 16 by omega)
          have y11 := hW.out.zero.frozen 11
          have c12 := hL.out.cell (show 12 < 16 by omega)
          rw [HD.out 12 (by omega)] at c12
          have z12 : wr.cell? ⟨W.heap.size, 12, none⟩ = some (.int .i64 0) := hW.out.zero.cell (show 12 < 16 by omega)
          have y12 := hW.out.zero.frozen 12
          have c13 := hL.out.cell (show 13 < 16 by omega)
          rw [HD.out 13 (by omega)] at c13
          have z13 : wr.cell? ⟨W.heap.size, 13, none⟩ = some (.int .i64 0) := hW.out.zero.cell (show 13 < 16 by omega)
          have y13 := hW.out.zero.frozen 13
          have c14 := hL.out.cell (show 14 < 16 by omega)
          rw [HD.out 14 (by omega)] at c14
          have z14 : wr.cell? ⟨W.heap.size, 14, none⟩ = some (.int .i64 0) := hW.out.zero.cell (show 14 < 16 by omega)
          have y14 := hW.out.zero.frozen 14
          have c15 := hL.out.cell (show 15 < 16 by omega)
          rw [HD.out 15 (by omega)] at c15
          have z15 : wr.cell? ⟨W.heap.size, 15, none⟩ = some (.int .i64 0) := hW.out.zero.cell (show 15 < 16 by omega)
          have y15 := hW.out.zero.frozen 15
          have HA : Hid (ddArr (wf ws) g = #[.int .i64 (dd (wf ws) g 0 : Int), .int .i64 (dd (wf ws) g 1 : Int), .int .i64 (dd (wf ws) g 2 : Int), .int .i64 (dd (wf ws) g 3 : Int), .int .i64 (dd (wf ws) g 4 : Int), .int .i64 (dd (wf ws) g 5 : Int), .int .i64 (dd (wf ws) g 6 : Int), .int .i64 (dd (wf ws) g 7 : Int), .int .i64 (dd (wf ws) g 8 : Int), .int .i64 (dd (wf ws) g 9 : Int), .int .i64 (dd (wf ws) g 10 : Int), .int .i64 (dd (wf ws) g 11 : Int), .int .i64 (dd (wf ws) g 12 : Int), .int .i64 (dd (wf ws) g 13 : Int), .int .i64 (dd (wf ws) g 14 : Int), .int .i64 (dd (wf ws) g 15 : Int)] ) := Lib.hid rfl
          generalize (dd (wf ws) g 0 : Int) = d0 at c0 HA
          generalize (dd (wf ws) g 1 : Int) = d1 at c1 HA
          generalize (dd (wf ws) g 2 : Int) = d2 at c2 HA
          generalize (dd (wf ws) g 3 : Int) = d3 at c3 HA
          generalize (dd (wf ws) g 4 : Int) = d4 at c4 HA
          generalize (dd (wf ws) g 5 : Int) = d5 at c5 HA
          generalize (dd (wf ws) g 6 : Int) = d6 at c6 HA
          generalize (dd (wf ws) g 7 : Int) = d7 at c7 HA
          generalize (dd (wf ws) g 8 : Int) = d8 at c8 HA
          generalize (dd (wf ws) g 9 : Int) = d9 at c9 HA
          generalize (dd (wf ws) g 10 : Int) = d10 at c10 HA
          generalize (dd (wf ws) g 11 : Int) = d11 at c11 HA
          generalize (dd (wf ws) g 12 : Int) = d12 at c12 HA
          generalize (dd (wf ws) g 13 : Int) = d13 at c13 HA
          generalize (dd (wf ws) g 14 : Int) = d14 at c14 HA
          generalize (dd (wf ws) g 15 : Int) = d15 at c15 HA
          have hfin := ((((((((((((((((hW.out.later).setCell (p := ⟨W.heap.size, 0, none⟩) (Nat.le_refl _) (.int .i64 d0)).setCell (p := ⟨W.heap.size, 1, none⟩) (Nat.le_refl _) (.int .i64 d1)).setCell (p := ⟨W.heap.size, 2, none⟩) (Nat.le_refl _) (.int .i64 d2)).setCell (p := ⟨W.heap.size, 3, none⟩) (Nat.le_refl _) (.int .i64 d3)).setCell (p := ⟨W.heap.size, 4, none⟩) (Nat.le_refl _) (.int .i64 d4)).setCell (p := ⟨W.heap.size, 5, none⟩) (Nat.le_refl _) (.int .i64 d5)).setCell (p := ⟨W.heap.size, 6, none⟩) (Nat.le_refl _) (.int .i64 d6)).setCell (p := ⟨W.heap.size, 7, none⟩) (Nat.le_refl _) (.int .i64 d7)).setCell (p := ⟨W.heap.size, 8, none⟩) (Nat.le_refl _) (.int .i64 d8)).setCell (p := ⟨W.heap.size, 9, none⟩) (Nat.le_refl _) (.int .i64 d9)).setCell (p := ⟨W.heap.size, 10, none⟩) (Nat.le_refl _) (.int .i64 d10)).setCell (p := ⟨W.heap.size, 11, none⟩) (Nat.le_refl _) (.int .i64 d11)).setCell (p := ⟨W.heap.size, 12, none⟩) (Nat.le_refl _) (.int .i64 d12)).setCell (p := ⟨W.heap.size, 13, none⟩) (Nat.le_refl _) (.int .i64 d13)).setCell (p := ⟨W.heap.size, 14, none⟩) (Nat.le_refl _) (.int .i64 d14)).setCell (p := ⟨W.heap.size, 15, none⟩) (Nat.le_refl _) (.int .i64 d15)
          have HFIN := Lib.hid hfin
          clear hn3 hM HD hfin
          go_wp2
          refine bodyPost_ret (v := .agg #[.int .i64 d0, .int .i64 d1, .int .i64 d2, .int .i64 d3, .int .i64 d4, .int .i64 d5, .int .i64 d6, .int .i64 d7, .int .i64 d8, .int .i64 d9, .int .i64 d10, .int .i64 d11, .int .i64 d12, .int .i64 d13, .int .i64 d14, .int .i64 d15]) ?_ rfl ⟨by rw [HA.out], HFIN.out⟩
          simp [results, Tryd.results44, go_sem, z0, z1, z2, z3, z4, z5, z6, z7, z8, z9, z10, z11, z12, z13, z14, z15]
end Go.Proofs.YtmfjncbccaifiaaDoor
