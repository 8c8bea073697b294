/- script.call: what it reads; the look into forms' map. -/
import Derived.Test.YtkpofjfndokaeaaGreatDoorE4
import Derived.Test.YtkpofjfndokaeaaGreatDoorA6
import Derived.Deep.DeepCutAuto
namespace Go.Proofs.YtkpofjfndokaeaaGreatDoor
open Go.RowKit
set_option linter.unusedVariables false
set_option linter.unusedSimpArgs false

/-- Which call a word names. -/
def formIx (l : List UInt8) : Option Nat := (List.range 11).find? fun i => (nameOf (i + 1)).data.toList == l
/-- A field is set to what a word says. -/
def Fd.put (c : Cl) (t : List UInt8) : Fd → Option Cl
  | .mode => (numB t).map fun z => { c with mode := z } | .key => (textB t).map fun s => { c with key := ⟨s.toArray⟩ } | .high => (textB t).map fun s => { c with high := ⟨s.toArray⟩ }
  | .val => (textB t).map fun s => { c with val := ⟨s.toArray⟩ } | .draw => (numB t).map fun z => { c with draw := z } | .n => (numB t).map fun z => { c with n := z }
def fillB (c : Cl) : List Fd → List (List UInt8) → Option Cl
  | [], _ => some c
  | f :: fs, t :: ts => (f.put c t).bind fun c => fillB c fs ts
  | _ :: _, [] => none
/-- The call of a worker's words. -/
def callB : List (List UInt8) → Option Cl
  | [] => none
  | t :: r => match formIx t with
    | none => none
    | some i => if r.length = (flds (i + 1)).length then fillB (Cl.zero ((i + 1 : Nat) : Int)) (flds (i + 1)) r else none

theorem formIx_some {l : List UInt8} {i : Nat} (h : formIx l = some i) : i < 11 ∧ (nameOf (i + 1)).data.toList = l := by
  have h1 := List.find?_some h
  have h2 := List.mem_of_find?_eq_some h
  exact ⟨List.mem_range.1 h2, eq_of_beq h1⟩
theorem formIx_none {l : List UInt8} (h : formIx l = none) (i : Nat) (hi : i < 11) : (nameOf (i + 1)).data.toList ≠ l := by
  have := List.find?_eq_none.1 h i (List.mem_range.2 hi)
  intro e
  exact this (beq_iff_eq.2 e)

theorem ba_beq {a b : ByteArray} (h : (a == b) = true) : a = b := by
  rw [beq_toListBytes] at h
  exact toList_inj (eq_of_beq h)
theorem ba_ext {a : ByteArray} {l : List UInt8} (h : a.data.toList = l) : a = ⟨l.toArray⟩ := by
  subst h
  rcases a with ⟨⟨l⟩⟩
  rfl

theorem find_form (base i : Nat) (hi : i < 11) : Instr.findNow .string (.string (nameOf (i + 1))) (formsE base).toList 0 = some (some (i, (entryOf base i).val)) := by
  have : i = 0 ∨ i = 1 ∨ i = 2 ∨ i = 3 ∨ i = 4 ∨ i = 5 ∨ i = 6 ∨ i = 7 ∨ i = 8 ∨ i = 9 ∨ i = 10 := by omega
  rcases this with rfl | rfl | rfl | rfl | rfl | rfl | rfl | rfl | rfl | rfl | rfl <;> rfl
theorem find_noform (base : Nat) (s : ByteArray) (h : formIx s.data.toList = none) : Instr.findNow .string (.string s) (formsE base).toList 0 = some none := by
  refine findNow_new s _ 0 fun y hy => ?_
  obtain ⟨i, hi, rfl⟩ := formsE_mem hy
  refine ⟨nameOf (i + 1), rfl, ?_⟩
  rw [Bool.eq_false_iff]
  intro e
  exact formIx_none h i hi (by rw [ba_beq e])

theorem lookup_form {w : World} {base b : Nat} (hm : w.heap[b]? = some (.map (formsE base) 11)) {l : List UInt8} {i : Nat} (h : formIx l = some i) :
    (Instr.lookup 93 (.map (some b)) (.string ⟨l.toArray⟩) true).run Tryz.prog w = .ok (.tuple #[.agg #[.int .i64 ((i + 1 : Nat) : Int), slOf base (i + 1)], .bool true]) w := by
  obtain ⟨hi, hn⟩ := formIx_some h
  have hf := find_form base i hi
  rw [ba_ext hn] at hf
  have hc : (Instr.checkKey (formsE base).isEmpty 10000 9 (.string ⟨l.toArray⟩)).run Tryz.prog w = .ok () w := MapKept.run_checkKey (k := .string ⟨l.toArray⟩) Tryz.underlying9 (by simp [MapKept.IsKey]) _ 9999
  simp [Instr.lookup, run_underlying Tryz.underlying93, MapKept.run_getObj_map hm, hc, MapKept.run_findKey Tryz.underlying9 hf, Result.andThen, entryOf]
theorem lookup_noform {w : World} {base b : Nat} (hm : w.heap[b]? = some (.map (formsE base) 11)) {l : List UInt8} (h : formIx l = none) :
    (Instr.lookup 93 (.map (some b)) (.string ⟨l.toArray⟩) true).run Tryz.prog w = .ok (.tuple #[.agg #[.int .i64 0, .slice none 0 0], .bool false]) w := by
  have hf := find_noform base ⟨l.toArray⟩ h
  have hc : (Instr.checkKey (formsE base).isEmpty 10000 9 (.string ⟨l.toArray⟩)).run Tryz.prog w = .ok () w := MapKept.run_checkKey (k := .string ⟨l.toArray⟩) Tryz.underlying9 (by simp [MapKept.IsKey]) _ 9999
  have hz : (zeroValue 68).run Tryz.prog w = .ok (.agg #[.int .i64 0, .slice none 0 0]) w := Tryz.zeroValue68 w
  simp [Instr.lookup, run_underlying Tryz.underlying93, MapKept.run_getObj_map hm, hc, MapKept.run_findKey Tryz.underlying9 hf, hz, Result.andThen]

/-- A row of words, as it lies. -/
def Ws (w : World) (v : Value) (ts : List (List UInt8)) : Prop :=
  ∃ A c, v = .slice A ts.length c ∧ ts.length ≤ c ∧ ∀ (j : Nat) t, ts[j]? = some t → ∃ b o, A = some ⟨b, o, none⟩ ∧ b < w.heap.size ∧ w.cell? ⟨b, o + j, none⟩ = some (strv t)
theorem Ws.later {w w' : World} {v : Value} {ts : List (List UInt8)} {n : Nat} (h : Ws w v ts) (hb : Below n w w') (hn : w.heap.size ≤ n) : Ws w' v ts := by
  obtain ⟨A, c, hv, hc, hr⟩ := h
  refine ⟨A, c, hv, hc, fun j t hj => ?_⟩
  obtain ⟨b, o, hA, h1, h2⟩ := hr j t hj
  exact ⟨b, o, hA, Nat.lt_of_lt_of_le h1 hb.size, (World.cell?_of_block (a := ⟨b, o + j, none⟩) (hb.block b (by omega))).trans h2⟩
end Go.Proofs.YtkpofjfndokaeaaGreatDoor

/- script.call: the walk ahead of its loop. -/
namespace Go.Proofs.YtkpofjfndokaeaaGreatDoor
open Go.RowKit
attribute [local go_sem] run_store_func run_store_nilFunc neq_func neq_nilFunc
set_option linter.unusedVariables false
set_option linter.unusedSimpArgs false

/-- What call answers. -/
def CallR (ts : List (List UInt8)) (e : Ending) : Prop := ∃ c : Cl, e = .returned (.tuple #[c.v, .bool (callB ts).isSome]) ∧ ∀ c', callB ts = some c' → c = c'
theorem results_cell_tmp {fn : Func} {p u : Tmp} {ty : TypeId} (h : fn.results = #[.cell p ty, .tmp u]) (tmps : Array Value) (P : Program) (w : World) :
    (results fn tmps).run P w =
      ((asAddr (tmps.getD p undef)).run P w).andThen fun a w₁ => ((loadVar ty a).run P w₁).andThen fun v w₂ => .ok (.tuple #[v, tmps.getD u undef]) w₂ := by
  simp only [results, h]
  simp [Sem.run_bind, Result.andThen]
theorem callR_none {ts : List (List UInt8)} (h : callB ts = none) (c : Cl) : CallR ts (.returned (.tuple #[c.v, .bool false])) := ⟨c, by rw [h]; rfl, fun c' h' => by rw [h] at h'; cases h'⟩

theorem form_cells {X w1 : World} {n base b : Nat} (hn : X.heap.size = n) (h : Forms (X.alloc (.cells #[.int .i64 0, .slice none 0 0] 68)).drew w1 base b) : w1.cell? ⟨n, 0, none⟩ = some (.int .i64 0) ∧ w1.cell? ⟨n, 1, none⟩ = some (.slice none 0 0) ∧ w1.frozen? ⟨n, 0, none⟩ = false ∧ w1.frozen? ⟨n, 1, none⟩ = false ∧ n < w1.heap.size := by
  subst hn
  have e : w1.heap[X.heap.size]? = some (.cells #[.int .i64 0, .slice none 0 0] 68 (0, 0)) := by
    rw [h.below.block X.heap.size (by show X.heap.size < (X.alloc _).heap.size; rw [World.size_alloc]; exact Nat.lt_succ_self _)]
    exact heap_alloc_at (w := X) _ _ rfl
  refine ⟨?_, ?_, ?_, ?_, (Array.getElem?_eq_some_iff.1 e).1⟩
  · simp [World.cell?, e]
  · simp [World.cell?, e]
  · simp [World.frozen?, e]
  · simp [World.frozen?, e]

theorem setCell_at {w : World} {b : Nat} {cs : Array Value} {ty : TypeId} {fz : Nat × Nat} (h : w.heap[b]? = some (.cells cs ty fz)) (j : Nat) (v : Value) : (w.setCell ⟨b, j, none⟩ v).heap[b]? = some (.cells (cs.setIfInBounds j v) ty fz) := by
  obtain ⟨hlt, hk⟩ := Array.getElem?_eq_some_iff.1 h
  show (w.heap.modify b _)[b]? = _
  rw [Array.getElem?_eq_getElem (by rw [Array.size_modify]; exact hlt), Array.getElem_modify_self, hk]
  rfl

/-- Behind the look into the map: the form found lies in block q. -/
structure PC (X : World) (k : Int) (fs : List Fd) (q : Nat) (wx : World) : Prop where
  below : Below X.heap.size X wx
  lo : X.heap.size ≤ q
  at' : ∃ A, wx.heap[q]? = some (.cells #[.int .i64 k, .slice A fs.length fs.length] 68 (0, 0)) ∧ FRow wx 0 (.slice A fs.length fs.length) fs
theorem pc_alloc {X w1 : World} {k : Int} {fs : List Fd} {A : Option Addr} {base : Nat} (hb : Below X.heap.size X w1) (hr : FRow w1 base (.slice A fs.length fs.length) fs) : PC X k fs w1.heap.size (w1.alloc (.cells #[.int .i64 k, .slice A fs.length fs.length] 68)) :=
  ⟨hb.alloc hb.size _, hb.size, A, heap_alloc_at _ _ rfl, (hr.mono (Nat.zero_le _)).later ((Below.refl w1.heap.size w1).alloc (Nat.le_refl _) _) (Nat.le_refl _)⟩
theorem pc_set {X w1 : World} {k : Int} {fs : List Fd} {A : Option Addr} {n b : Nat} (hn : X.heap.size = n) (hf : Forms (X.alloc (.cells #[.int .i64 0, .slice none 0 0] 68)).drew w1 (n + 1) b) (hb : Below X.heap.size X w1) (hr : FRow w1 (n + 1) (.slice A fs.length fs.length) fs) :
    PC X k fs n ((w1.setCell ⟨n, 0, none⟩ (.int .i64 k)).setCell ⟨n, 1, none⟩ (.slice A fs.length fs.length)) := by
  subst hn
  have e : w1.heap[X.heap.size]? = some (.cells #[.int .i64 0, .slice none 0 0] 68 (0, 0)) := by
    rw [hf.below.block X.heap.size (by show X.heap.size < (X.alloc _).heap.size; rw [World.size_alloc]; exact Nat.lt_succ_self _)]
    exact heap_alloc_at (w := X) _ _ rfl
  refine ⟨(hb.setCell (p := ⟨X.heap.size, 0, none⟩) (Nat.le_refl _) _).setCell (p := ⟨X.heap.size, 1, none⟩) (Nat.le_refl _) _, Nat.le_refl _, A, ?_, ?_⟩
  · exact setCell_at (setCell_at e 0 _) 1 _
  · obtain ⟨A', hv, hr'⟩ := hr
    refine ⟨A', hv, fun j f hj => ?_⟩
    obtain ⟨b', hA, h1, h2, h3, h4⟩ := hr' j f hj
    have e2 : ((w1.setCell ⟨X.heap.size, 0, none⟩ (.int .i64 k)).setCell ⟨X.heap.size, 1, none⟩ (.slice A fs.length fs.length)).heap[b']? = w1.heap[b']? := by
      rw [Below.heap_setCell _ _ _ _ (by show b' ≠ X.heap.size; omega), Below.heap_setCell _ _ _ _ (by show b' ≠ X.heap.size; omega)]
    exact ⟨b', hA, Nat.zero_le _, by rw [World.size_setCell, World.size_setCell]; exact h2, (World.cell?_of_block (a := ⟨b', j * 2, none⟩) e2).trans h3, (World.cell?_of_block (a := ⟨b', j * 2 + 1, none⟩) e2).trans h4⟩

/-- A call is stored into block b. -/
def clStore (w : World) (b : Nat) (c : Cl) : World := ((((((w.setCell ⟨b, 0, none⟩ (.int .i64 c.kind)).setCell ⟨b, 1, none⟩ (.int .i64 c.mode)).setCell ⟨b, 2, none⟩ (.string c.key)).setCell ⟨b, 3, none⟩ (.string c.high)).setCell ⟨b, 4, none⟩ (.string c.val)).setCell ⟨b, 5, none⟩ (.int .i64 c.draw)).setCell ⟨b, 6, none⟩ (.int .i64 c.n)
theorem clStore_at {w : World} {b : Nat} {c0 : Cl} (h : ClAt w b c0) (c : Cl) : ClAt (clStore w b c) b c := by
  unfold ClAt at h ⊢
  unfold clStore
  have h7 := setCell_at (setCell_at (setCell_at (setCell_at (setCell_at (setCell_at (setCell_at h 0 (.int .i64 c.kind)) 1 (.int .i64 c.mode)) 2 (.string c.key)) 3 (.string c.high)) 4 (.string c.val)) 5 (.int .i64 c.draw)) 6 (.int .i64 c.n)
  rw [h7]
  unfold Cl.cells
  simp only [List.setIfInBounds_toArray, List.set]
theorem clStore_below {w W : World} {b n : Nat} (h : Below n W w) (hb : n ≤ b) (c : Cl) : Below n W (clStore w b c) :=
  ((((((h.setCell (p := ⟨b, 0, none⟩) hb _).setCell (p := ⟨b, 1, none⟩) hb _).setCell (p := ⟨b, 2, none⟩) hb _).setCell (p := ⟨b, 3, none⟩) hb _).setCell (p := ⟨b, 4, none⟩) hb _).setCell (p := ⟨b, 5, none⟩) hb _).setCell (p := ⟨b, 6, none⟩) hb _

set_option maxRecDepth 100000 in
set_option maxHeartbeats 4000000 in
theorem call_go (bf : Bool) (k : Int) (sl : Nat → Value) (fs : List Fd) (t : List UInt8) (r : List (List UInt8)) (v : Value) (W : World) (hW : Sp W) (hws : Ws W v (t :: r))
    (HLK : Hid (∀ (w : World) (base b : Nat), w.heap[b]? = some (.map (formsE base) 11) → (Instr.lookup 93 (.map (some b)) (.string ⟨t.toArray⟩) true).run Tryz.prog w = .ok (.tuple #[.agg #[.int .i64 k, sl base], .bool bf]) w))
    (HFR : Hid (∀ (X w1 : World) (base b : Nat), Forms X w1 base b → FRow w1 base (sl base) fs))
    (HEND : CallR (t :: r) (.returned (.tuple #[(Cl.zero 0).v, .bool false])) ) (hno : bf = false ∨ r.length ≠ fs.length) (hf3 : fs.length ≤ 3) : Calls Tryz.prog 47 #[v] W fun e w' => CallR (t :: r) e ∧ Below W.heap.size W w' := by
  have HF : Hid (∀ w n, w.heap.size = n → Calls Tryz.prog 49 #[] w fun e w' => e = .returned (.map (some (n + 6))) ∧ Forms w w' n (n + 6)) := Lib.hid fun w n h => by subst h; exact forms_any w
  have HE := Lib.hid HEND
  clear HEND
  obtain ⟨X, hX⟩ : ∃ X, X = W.alloc (.cells (Cl.zero 0).cells 25) := ⟨_, rfl⟩
  have hXs : X.heap.size = W.heap.size + 1 := by rw [hX, World.size_alloc]
  have hb0 : Below W.heap.size W X := by rw [hX]; exact (Below.refl W.heap.size W).alloc (Nat.le_refl _) _
  have hca : ClAt X W.heap.size (Cl.zero 0) := by rw [hX]; exact ClAt.fresh W _
  have HB := Lib.hid hb0
  have HCA := Lib.hid hca
  have HWS : Hid (∀ w', Below W.heap.size W w' → Ws w' v (t :: r)) := Lib.hid fun w' h => hws.later h (Nat.le_refl _)
  obtain ⟨A, c, rfl, hlc, hcell⟩ := HWS.out X hb0
  obtain ⟨b, o, rfl, hbl, hc0⟩ := hcell 0 t rfl
  have HD0 : Hid (∀ w', Below X.heap.size X w' → w'.cell? ⟨b, o, none⟩ = some (.string ⟨t.toArray⟩)) := Lib.hid fun w' h => (World.cell?_of_block (a := ⟨b, o, none⟩) (h.block b hbl)).trans hc0
  clear hcell hb0 hca hws
  have hml : (t :: r).length = r.length + 1 := rfl
  rw [hml] at hlc ⊢
  unfold strv at hc0
  unfold Cl.cells Cl.zero at hX
  go_enter Tryz.func47, Tryz.ntmps47
  go_upto_region 1 with fail
  rw [← hX]
  have HX := Lib.hid hX
  clear hX
  have hd5 := HD0.out (X.alloc (.cells #[.int .i64 0, .slice none 0 0] 68)).drew ((Below.refl X.heap.size X).alloc (Nat.le_refl _) _).drew
  have hd7 := HD0.out (X.alloc (.cells #[.int .i64 0, .slice none 0 0] 68)) ((Below.refl X.heap.size X).alloc (Nat.le_refl _) _)
  have hd6 := HD0.out X.drew (Below.refl X.heap.size X).drew
  go_cut [4, 5] (fun s4 s5 wx => ∃ q : Nat, s4 = .pointer (some ⟨q, 0, none⟩) ∧ s5 = .bool bf ∧ Hid (PC X k fs q wx))
  case first =>
    go_region_with (first | (go_at_call 49; refine (HF.out _ (W.heap.size + 1) (by exact hXs)).mono ?_; rintro e w1 ⟨rfl, hf1⟩; have HF1 := Lib.hid hf1; have hbx := (Below.refl X.heap.size X).drew.trans hf1.below; have HBX := Lib.hid hbx; obtain ⟨A, hA, _⟩ := HFR.out _ _ _ _ hf1; have hlk := HLK.out _ _ _ hf1.map; have hd0 := HD0.out _ hbx; have hlk2 := HLK.out (w1.alloc (.cells #[.int .i64 0, .slice none 0 0] 68)) _ _ (((Below.refl w1.heap.size w1).alloc (Nat.le_refl _) _).block _ (Array.getElem?_eq_some_iff.1 hf1.map).1 |>.trans hf1.map); have hd2 := HD0.out (w1.alloc (.cells #[.int .i64 0, .slice none 0 0] 68)) (hbx.alloc hbx.size _); rw [hA] at hlk hlk2; have HAA := Lib.hid hA; have hn10 : True := trivial; clear hf1 hbx hA) | (go_at_call 49; refine (HF.out _ (W.heap.size + 1 + 1) (by show (X.alloc _).heap.size = _; rw [World.size_alloc]; exact congrArg (· + 1) hXs)).mono ?_; rintro e w1 ⟨rfl, hf1⟩; have HF1 := Lib.hid hf1; have hbx := ((Below.refl X.heap.size X).alloc (Nat.le_refl _) (.cells #[.int .i64 0, .slice none 0 0] 68)).drew.trans (hf1.below.mono (by show _ ≤ (X.alloc _).heap.size; rw [World.size_alloc]; exact Nat.le_succ _)); have HBX := Lib.hid hbx; obtain ⟨A, hA, _⟩ := HFR.out _ _ _ _ hf1; have hlk := HLK.out _ _ _ hf1.map; have hd0 := HD0.out _ hbx; rw [hA] at hlk; have HAA := Lib.hid hA; obtain ⟨z0, z1, z2, z3, z4⟩ := form_cells hXs hf1; clear hf1 hbx hA))
    all_goals go_wp2_with fail
    all_goals go_meet
    all_goals first
      | exact ⟨_, rfl, rfl, Lib.hid (pc_alloc HBX.out (by have := HFR.out _ _ _ _ HF1.out; rwa [HAA.out] at this))⟩
      | exact ⟨_, rfl, rfl, Lib.hid (pc_set hXs HF1.out HBX.out (by have := HFR.out _ _ _ _ HF1.out; rwa [HAA.out] at this))⟩
  case rest =>
    obtain ⟨q, rfl, rfl, HPC⟩ := hcut
    obtain ⟨A, hq, hrow⟩ := HPC.out.at'
    have c0 : wc.cell? ⟨q, 0, none⟩ = some (.int .i64 k) := by simp [World.cell?, hq]
    have c1 : wc.cell? ⟨q, 1, none⟩ = some (.slice A fs.length fs.length) := by simp [World.cell?, hq]
    have hz := HCA.out.go HPC.out.below (by omega)
    have hbw := HB.out.trans (HPC.out.below.mono HB.out.size)
    have hlt := hz.lt
    obtain ⟨d0, d1, d2, d3, d4, d5, d6⟩ := hz.facts
    have g0 := hz.frozen 0
    have g1 := hz.frozen 1
    have g2 := hz.frozen 2
    have g3 := hz.frozen 3
    have g4 := hz.frozen 4
    have g5 := hz.frozen 5
    have g6 := hz.frozen 6
    have HBW := Lib.hid hbw
    have HZ := Lib.hid hz
    clear hq hrow hbw hz hd5 hd6 hd7
    unfold Cl.zero at d0 d1 d2 d3 d4 d5 d6
    rcases hno with rfl | hno
    · go_wp2_with fail
      all_goals change bodyPost _ _ _ _ _ (clStore wc W.heap.size (Cl.zero 0))
      all_goals have hz2 := clStore_at HZ.out (Cl.zero 0)
      all_goals have hb2 := clStore_below HBW.out (Nat.le_refl _) (Cl.zero 0)
      all_goals generalize clStore wc W.heap.size (Cl.zero 0) = wF at *
      all_goals clear d0 d1 d2 d3 d4 d5 d6 g0 g1 g2 g3 g4 g5 g6 c0 c1
      all_goals obtain ⟨d0, d1, d2, d3, d4, d5, d6⟩ := hz2.facts
      all_goals unfold Cl.zero at d0 d1 d2 d3 d4 d5 d6
      all_goals exact bodyPost_ret_by (v := .tuple #[(Cl.zero 0).v, .bool false]) (by rw [results_cell_tmp (fn := Tryz.f47) rfl]; go_simp; rfl) rfl ⟨HE.out, hb2⟩
    · have hno' : (((r.length : Int) + 1) != 1 + (fs.length : Int)) = true := by rw [bne_iff_ne]; omega
      cases bf <;> go_wp2_with fail
      all_goals change bodyPost _ _ _ _ _ (clStore wc W.heap.size (Cl.zero 0))
      all_goals have hz2 := clStore_at HZ.out (Cl.zero 0)
      all_goals have hb2 := clStore_below HBW.out (Nat.le_refl _) (Cl.zero 0)
      all_goals generalize clStore wc W.heap.size (Cl.zero 0) = wF at *
      all_goals clear d0 d1 d2 d3 d4 d5 d6 g0 g1 g2 g3 g4 g5 g6 c0 c1
      all_goals obtain ⟨d0, d1, d2, d3, d4, d5, d6⟩ := hz2.facts
      all_goals unfold Cl.zero at d0 d1 d2 d3 d4 d5 d6
      all_goals exact bodyPost_ret_by (v := .tuple #[(Cl.zero 0).v, .bool false]) (by rw [results_cell_tmp (fn := Tryz.f47) rfl]; go_simp; rfl) rfl ⟨HE.out, hb2⟩
end Go.Proofs.YtkpofjfndokaeaaGreatDoor
