/- The evaluator's operations against the model's: composite values, built-in functions, calls. -/
import Derived.Test.YteohlibpfgmcaaaGreatDoorK7
namespace Go.Proofs.YteohlibpfgmcaaaGreatDoor
namespace Ev
open Go
set_option linter.unusedVariables false
set_option linter.unusedSimpArgs false
variable {ρ : Ren} {P : Program} {h : Heap} {w : World} {id n : Nat} {ts : Tr Value} {a : Act}

/-! ### Composite values -/

inductive PsRel (ρ : Ren) : List (Nat × Value) → List (Nat × Value) → Prop
  | nil : PsRel ρ [] []
  | cons {i : Nat} {v v' : Value} {l l' : List (Nat × Value)} (h : VRel ρ v v') (t : PsRel ρ l l') : PsRel ρ ((i, v) :: l) ((i, v') :: l')

theorem opvPs_rel (hr : Rel P ρ h w) (ht : TRel ρ ts n a) : ∀ {xs : List (Nat × Operand)} {l : List (Nat × Value)}, opvPs P ts xs = some l → PsRel ρ l (xs.map fun (i, x) => (i, a.eval x))
  | [], l, H => by simp [opvPs] at H; subst H; exact .nil
  | (i, x) :: xs, l, H => by
    simp only [opvPs, bnd_some] at H
    obtain ⟨v, hv, r, hl, H⟩ := H
    cases H
    exact .cons (opv_rel hr ht hv) (opvPs_rel hr ht hl)

theorem foldl_set_rel : ∀ {l l' : List Value} (j : Nat) {c c' : Array Value} (off : Nat), LRel ρ l l' → LRel ρ c.toList c'.toList →
    LRel ρ ((l.zipIdx j).foldl (fun cs (x : Value × Nat) => cs.setIfInBounds (off + x.2) x.1) c).toList ((l'.zipIdx j).foldl (fun cs (x : Value × Nat) => cs.setIfInBounds (off + x.2) x.1) c').toList
  | [], l', j, c, c', off, hl, hc => by cases hl; exact hc
  | v :: l, l', j, c, c', off, hl, hc => by
    cases hl with
    | cons hv ht =>
      simp only [List.zipIdx_cons, List.foldl_cons]
      refine foldl_set_rel (j + 1) off ht ?_
      simpa [Array.toList_setIfInBounds] using hc.set hv (off + j)

theorem zip_fold (v : Array Value) (off : Nat) (c : Array Value) : v.zipIdx.foldl (fun cs (x : Value × Nat) => cs.setIfInBounds (off + x.2) x.1) c = (v.toList.zipIdx 0).foldl (fun cs (x : Value × Nat) => cs.setIfInBounds (off + x.2) x.1) c := by
  rw [← Array.foldl_toList, Array.toList_zipIdx]

theorem fill_rel {place place' : Nat → Option (Nat × Nat)} (hp : ∀ j q, place j = some q → place' j = some q) : ∀ {ps ps' : List (Nat × Value)} {c c' r : Array Value}, PsRel ρ ps ps' → LRel ρ c.toList c'.toList → Instr.fill place c ps = some r →
    ∃ r', Instr.fill place' c' ps' = some r' ∧ LRel ρ r.toList r'.toList
  | [], ps', c, c', r, h1, h2, H => by
    cases h1
    simp [Instr.fill] at H; subst H
    exact ⟨c', rfl, h2⟩
  | (i, v) :: ps, ps', c, c', r, h1, h2, H => by
    cases h1 with
    | cons hv ht =>
      simp only [Instr.fill] at H ⊢
      split at H
      · cases H
      · rename_i off size hq
        rw [hp _ _ hq]
        simp only
        have e1 := hv.cells.length
        have e2 := h2.length
        simp only [Array.length_toList] at e1 e2
        rw [← e1, ← e2]
        split at H
        · cases H
        · rename_i hc
          rw [if_neg hc]
          refine fill_rel hp ht ?_ H
          rw [zip_fold, zip_fold]
          exact foldl_set_rel 0 off hv.cells h2

theorem allInfo_ex {fs : List Field} (H : allInfo P fs = true) : ∀ f ∈ fs, ∃ i, P.info? f.type = some i := by
  induction fs with
  | nil => simp
  | cons f fs ih =>
    simp only [allInfo] at H
    split at H
    · rename_i i hi
      intro g hg
      rcases List.mem_cons.1 hg with rfl | hg
      · exact ⟨i, hi⟩
      · exact ih H g hg
    · cases H

theorem places_run (w : World) : ∀ (fs : List Field), (∀ f ∈ fs, ∃ i, P.info? f.type = some i) → ((fs.mapM fun f => do pure (f.offset, ← sizeOf f.type) : Sem (List (Nat × Nat)))).run P w = .ok (fs.map fun f => (f.offset, P.cellsOf f.type)) w
  | [], _ => rfl
  | f :: fs, hf => by
    obtain ⟨i, hi⟩ := hf f (by simp)
    have ih := places_run w fs (fun g hg => hf g (by simp [hg]))
    simp only [List.mapM_cons, Sem.run_bind, run_sizeOf w hi, Result.andThen_ok, Sem.run_pure, ih, List.map_cons]

theorem build_run {t : TypeId} {ps ps' : List (Nat × Value)} {v : Value} (hps : PsRel ρ ps ps') (H : buildA P t ps = some v) : ∃ v', (Instr.build t ps'.toArray).run P w = .ok v' w ∧ VRel ρ v v' := by
  simp only [buildA, bnd_some] at H
  obtain ⟨i, hi, z, hz, u, hu, H⟩ := H
  split at H
  · rename_i fs hp
    split at H
    · rename_i hall
      simp only [bnd_some] at H
      obtain ⟨cs, hf, H⟩ := H
      cases H
      have hpl := places_run (P := P) w fs.toList (allInfo_ex hall)
      have hpl2 : (fs.mapM fun f => do pure (f.offset, ← sizeOf f.type) : Sem (Array (Nat × Nat))).run P w = .ok (fs.map fun f => (f.offset, P.cellsOf f.type)) w := by
        rw [Array.mapM_eq_mapM_toList]
        simp only [Sem.run_map, hpl, Result.andThen_ok]
        congr 1
        apply Array.ext'
        simp
      obtain ⟨r', q1, q2⟩ := fill_rel (place' := ((fs.map fun f => (f.offset, P.cellsOf f.type))[·]?)) (fun j q hq => by
        simp only [placeF, bnd_some] at hq
        obtain ⟨f, hf, i, hi, hq⟩ := hq
        cases hq
        simp [hf, Program.cellsOf, hi]) hps (plainV_rel (ρ := ρ) hp).cells hf
      refine ⟨.agg r', ?_, .agg q2⟩
      simp only [Instr.build, Sem.run_bind, run_zero hi hz, run_underlying hu, Result.andThen_ok, hpl2, q1, Sem.run_pure]
    · cases H
  · rename_i m e hp
    simp only [bnd_some] at H
    obtain ⟨ie, hie, cs, hf, H⟩ := H
    cases H
    have hs : P.cellsOf e = ie.size := by simp [Program.cellsOf, hie]
    obtain ⟨r', q1, q2⟩ := fill_rel (place' := fun j => some (j * ie.size, ie.size)) (fun j q hq => hq) hps (plainV_rel (ρ := ρ) hp).cells hf
    refine ⟨.agg r', ?_, .agg q2⟩
    simp [Instr.build, run_zero hi hz, run_underlying hu, run_sizeOf w hie, hs, q1]
  · cases H

theorem sound_build {t : TypeId} {parts : Array (Nat × Operand)} {out : Out} {o : Oper} (ho : o.op = .build t parts) (hr : Rel P ρ h w) (ht : TRel ρ ts n a) (H : bnd (opvPs P ts parts.toList) (fun ps => toVal (buildA P t ps)) = some out) : OutOk P ρ h w id (execOp a.eval o) out := by
  simp only [bnd_some] at H
  obtain ⟨ps, hps, H⟩ := H
  rw [toVal_some] at H
  obtain ⟨v, hq, H⟩ := H
  cases H
  obtain ⟨v', h1, h2⟩ := build_run (w := w) (opvPs_rel hr ht hps) hq
  have e : (parts.map fun x => (x.1, a.eval x.2)) = (parts.toList.map fun (i, x) => (i, a.eval x)).toArray := by apply Array.ext'; simp
  refine .val (v' := v') ?_ h2
  simp only [execOp, ho]
  rw [e]
  simp only [Sem.run_bind, h1, Result.andThen_ok, Sem.run_pure]

theorem sound_buildSlice {t : TypeId} {len : Nat} {parts : Array (Nat × Operand)} {out : Out} {o : Oper} (ho : o.op = .buildSlice t len parts) (hr : Rel P ρ h w) (ht : TRel ρ ts n a) (H : bnd (opvPs P ts parts.toList) (fun ps => sliceLit P t id len ps) = some out) : OutOk P ρ h w id (execOp a.eval o) out := by
  simp only [bnd_some, sliceLit] at H
  obtain ⟨ps, hps, u, hu, H⟩ := H
  have hps := opvPs_rel hr ht hps
  split at H
  · rename_i e
    simp only [bnd_some] at H
    obtain ⟨ie, hie, z, hz, H⟩ := H
    split at H
    · rename_i hcond
      simp only [Bool.and_eq_true] at hcond
      obtain ⟨⟨hp, h1⟩, h2⟩ := hcond
      have h1 := Nat.le_of_ble_eq_true h1
      have h2 := Nat.eq_of_beq_eq_true h2
      simp only [bnd_some] at H
      obtain ⟨cs, hf, H⟩ := H
      cases H
      have hs : P.cellsOf e = ie.size := by simp [Program.cellsOf, hie]
      have hz0 : LRel ρ ((Array.range (len * ie.size)).map (z.cells[· % z.cells.size]!)).toList ((Array.range (len * ie.size)).map (z.cells[· % z.cells.size]!)).toList := by
        refine LRel.of_get rfl fun j v v' hv hv' => ?_
        rw [hv] at hv'; cases hv'
        have hjl : j < len * ie.size := by
          have := (List.getElem?_eq_some_iff.1 hv).1
          simpa using this
        have hz1 : 0 < z.cells.size := by
          rw [h2]
          rcases Nat.eq_zero_or_pos ie.size with e0 | e0
          · rw [e0] at hjl; simp at hjl
          · exact e0
        have hlt := Nat.mod_lt j hz1
        have hv2 : z.cells[j % z.cells.size]? = some v := by
          have := madeCells_get (z := z.cells) (len * ie.size) hz1 hjl
          rw [← this]
          unfold madeCells
          rw [← Array.getElem?_toList]
          exact hv
        obtain ⟨v', g1, g2⟩ := (plainV_rel (ρ := ρ) hp).cells.get (i := j % z.cells.size) (v := v) (by simpa using hv2)
        have g1 : z.cells[j % z.cells.size]? = some v' := by simpa using g1
        rw [hv2] at g1; cases g1
        exact g2
      obtain ⟨r', q1, q2⟩ := fill_rel (place' := fun j => some (j * ie.size, ie.size)) (fun j q hq => hq) hps hz0 hf
      have e4 : (parts.map fun x => (x.1, a.eval x.2)) = (parts.toList.map fun (i, x) => (i, a.eval x)).toArray := by apply Array.ext'; simp
      refine new_row (v' := .slice (some ⟨w.heap.size, 0, none⟩) len len) (c' := r') (t := e) (w' := w.alloc (.cells r' e)) ?_ (grown_alloc _ _) q2 (fun ρ' g1 _ => .sl 0 _ g1 (.inl rfl))
      have h5 : ¬ (2 ^ 24 < len * ie.size) := by omega
      simp only [execOp, ho]
      rw [e4]
      by_cases h6 : len * ie.size = 0
      · have q3 : Instr.fill (fun j => some (j * ie.size, ie.size)) ((Array.range (len * ie.size)).map ((#[] : Array Value)[· % (#[] : Array Value).size]!)) (parts.toList.map fun (i, x) => (i, a.eval x)) = some r' := by
          rw [← q1]; congr 1; rw [h6]; simp
        simp only [Instr.buildSlice, Sem.run_bind, run_underlying hu, run_sizeOf w hie, hs, Result.andThen_ok, if_neg h5, if_pos h6, Sem.run_pure, q3, run_newRow]
      · simp only [Instr.buildSlice, Sem.run_bind, run_underlying hu, run_sizeOf w hie, hs, Result.andThen_ok, if_neg h5, if_neg h6, Sem.run_pure, run_zero hie hz, q1, run_newRow]
    · cases H
  · cases H

/-! ### Built-in functions -/

theorem len_run {argTypes : Array TypeId} {ty : TypeId} {args : List Value} {args' : Array Value} {v : Value} (hr : Rel P ρ h w) (ha : LRel ρ args args'.toList) (H : lenB P h argTypes args = some v) :
    (Builtin.len_ argTypes ty args').run P w = .ok v w ∧ VRel ρ v v := by
  simp only [lenB, bnd_some] at H
  obtain ⟨t, ht, u, hu, H⟩ := H
  obtain ⟨l'⟩ := args'
  simp only at ha
  split at H
  · rw [intV_eq] at H; cases H
    cases ha with
    | cons hv ht' => cases ht'; cases hv; exact ⟨by simp [Builtin.len_, ht, run_underlying hu, goInt], .int _ _⟩
  · rw [intV_eq] at H; cases H
    cases ha with
    | cons hv ht' => cases ht'; exact ⟨by simp [Builtin.len_, ht, run_underlying hu, goInt], .int _ _⟩
  · simp only [bnd_some] at H
    obtain ⟨u2, hu2, H⟩ := H
    split at H
    · rw [intV_eq] at H; cases H
      cases ha with
      | cons hv ht' => cases ht'; exact ⟨by simp [Builtin.len_, ht, run_underlying hu, run_underlying hu2, goInt], .int _ _⟩
    · cases H
  · rw [intV_eq] at H; cases H
    cases ha with
    | cons hv ht' => cases ht'; cases hv <;> exact ⟨by simp [Builtin.len_, ht, run_underlying hu, goInt], .int _ _⟩
  · rw [intV_eq] at H; cases H
    cases ha with
    | cons hv ht' => cases ht'; cases hv; exact ⟨by simp [Builtin.len_, ht, run_underlying hu, goInt], .int _ _⟩
  · split at H
    · rename_i es c ho
      rw [intV_eq] at H; cases H
      cases ha with
      | cons hv ht' =>
        cases ht'
        obtain ⟨p, hp, em⟩ := hv.mapOf
        subst em
        obtain ⟨es', he1, he2⟩ := map_obj hr hp ho
        have hl : es.length = es'.size := by
          have : ∀ {l l' : List MapEntry}, ERel ρ l l' → l.length = l'.length := fun hh => by induction hh with | nil => rfl | cons _ _ _ _ ih => simp [ih]
          simpa using this he2
        exact ⟨by simp [Builtin.len_, ht, run_underlying hu, goInt, MapKept.run_getObj_map (P := P) he1, hl], .int _ _⟩
    · cases H
  · cases H

theorem min_run {ts : Array TypeId} {ty : TypeId} {args : List Value} {args' : Array Value} {v : Value} (ha : LRel ρ args args'.toList) (H : minA false args = some v) : (Builtin.min_ ts ty args').run P w = .ok v w ∧ VRel ρ v v := by
  obtain ⟨l'⟩ := args'
  simp only at ha
  unfold minA at H
  split at H
  · rename_i k x l
    cases ha with
    | cons hv ht =>
      cases hv
      have key : ∀ (l : List Value) (l' : List Value) (x : Int), LRel ρ l l' → minF false k x l = some v → (l'.foldlM Builtin.min2 (.int k x)).run P w = .ok v w ∧ VRel ρ v v := by
        intro l
        induction l with
        | nil => intro l' x hl H; cases hl; simp [minF] at H; subst H; exact ⟨rfl, .int _ _⟩
        | cons u l ih =>
          intro l' x hl H
          cases hl with
          | cons hu ht =>
            simp only [minF] at H
            split at H
            · cases hu
              obtain ⟨g1, g2⟩ := ih _ _ ht H
              exact ⟨by simp only [List.foldlM_cons, Builtin.min2, Sem.run_bind, Sem.run_pure, Result.andThen_ok]; exact g1, g2⟩
            · cases H
      exact key _ _ _ ht H
  · cases H

theorem max_run {ts : Array TypeId} {ty : TypeId} {args : List Value} {args' : Array Value} {v : Value} (ha : LRel ρ args args'.toList) (H : minA true args = some v) : (Builtin.max_ ts ty args').run P w = .ok v w ∧ VRel ρ v v := by
  obtain ⟨l'⟩ := args'
  simp only at ha
  unfold minA at H
  split at H
  · rename_i k x l
    cases ha with
    | cons hv ht =>
      cases hv
      have key : ∀ (l : List Value) (l' : List Value) (x : Int), LRel ρ l l' → minF true k x l = some v → (l'.foldlM Builtin.max2 (.int k x)).run P w = .ok v w ∧ VRel ρ v v := by
        intro l
        induction l with
        | nil => intro l' x hl H; cases hl; simp [minF] at H; subst H; exact ⟨rfl, .int _ _⟩
        | cons u l ih =>
          intro l' x hl H
          cases hl with
          | cons hu ht =>
            simp only [minF] at H
            split at H
            · cases hu
              obtain ⟨g1, g2⟩ := ih _ _ ht H
              exact ⟨by simp only [List.foldlM_cons, Builtin.max2, Sem.run_bind, Sem.run_pure, Result.andThen_ok]; exact g1, g2⟩
            · cases H
      exact key _ _ _ ht H
  · cases H

end Ev
end Go.Proofs.YteohlibpfgmcaaaGreatDoor
