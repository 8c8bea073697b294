/- The evaluator's memory against the model's: reading, writing, new blocks. -/
import Derived.Test.YteohlibpfgmcaaaGreatDoorK1
import Derived.Laws.IdiomCopy
import Derived.Laws.Cells
import Derived.ChangeKeysEq
namespace Go.Proofs.YteohlibpfgmcaaaGreatDoor
namespace Ev
open Go
set_option linter.unusedVariables false
set_option linter.unusedSimpArgs false
variable {ρ : Ren} {P : Program}

def ARel (ρ : Ren) (a a' : Addr) : Prop := ∃ p, ρ a.block = some p ∧ a.spot = none ∧ a' = ⟨p.blk, a.off, none⟩

theorem VRel.addr {a : Addr} {v : Value} (h : VRel ρ (.pointer (some a)) v) : ∃ a', v = .pointer (some a') ∧ ARel ρ a a' := by
  cases h with
  | ptr o h => exact ⟨_, rfl, _, h, rfl, rfl⟩

theorem addA_rel {a a' : Addr} (h : ARel ρ a a') (n : Nat) : ARel ρ (addA a n) (a'.add n) := by
  obtain ⟨p, h1, h2, rfl⟩ := h
  cases n with
  | zero => exact ⟨p, h1, h2, by simp [Addr.add, addA]⟩
  | succ n => exact ⟨p, h1, rfl, by simp [Addr.add, addA]⟩

theorem ARel.add {a a' : Addr} (h : ARel ρ a a') (n : Nat) : a'.add n = ⟨a'.block, a.off + n, none⟩ := by
  obtain ⟨p, h1, h2, rfl⟩ := h
  unfold Addr.add
  split
  · subst_vars; rfl
  · rfl

theorem ARel.ptr {a a' : Addr} (h : ARel ρ a a') : VRel ρ (.pointer (some a)) (.pointer (some a')) := by
  obtain ⟨p, h1, h2, rfl⟩ := h
  obtain ⟨b, o, s⟩ := a
  cases h2
  exact .ptr o h1

/-! ### Reading -/

theorem rdN_spec {n : Nat} {z : Array Value} {cs : Tr Value} : ∀ {k i : Nat} {l : List Value}, rdN n z cs k i = some l → l.length = k ∧ ∀ j v, l[j]? = some v → cellAt n z cs (i + j) = some v
  | 0, i, l, h => by simp [rdN] at h; subst h; simp
  | k + 1, i, l, h => by
    simp only [rdN, bnd_some] at h
    obtain ⟨v, hv, r, hr, e⟩ := h
    cases e
    obtain ⟨h1, h2⟩ := rdN_spec hr
    refine ⟨by simp [h1], fun j u hu => ?_⟩
    cases j with
    | zero => simp at hu; subst hu; exact hv
    | succ j =>
      have := h2 j u (by simpa using hu)
      rwa [show i + 1 + j = i + (j + 1) by omega] at this

/-- what lies at related places -/
theorem cell_rel {h : Heap} {w : World} (hr : Rel P ρ h w) {a a' : Addr} (ha : ARel ρ a a') {n : Nat} {z : Array Value} {cs : Tr Value} (ho : (∃ g, h.get a.block = some (.row n g z cs)) ∨ (h.get a.block = some (.rom n cs) ∧ z = #[])) {i : Nat} {v : Value}
    (hv : cellAt n z cs (a.off + i) = some v) : ∃ v', w.cell? (a'.add i) = some v' ∧ VRel ρ v v' := by
  rw [ha.add i]
  obtain ⟨p, h1, h2, rfl⟩ := ha
  rcases ho with ⟨g, ho⟩ | ⟨ho, rfl⟩
  · obtain ⟨c, el, fz, e, _, _, _, _, hc⟩ := hr.obj _ _ _ h1 ho
    obtain ⟨v', h3, h4⟩ := hc _ _ hv
    exact ⟨v', by simp [World.cell?, e, h3], h4⟩
  · obtain ⟨_, c, el, fz, e, hc⟩ := hr.obj _ _ _ h1 ho
    obtain ⟨v', h3, h4⟩ := hc _ _ hv
    exact ⟨v', by simp [World.cell?, e, h3], h4⟩

theorem rdCells_rel {h : Heap} {w : World} (hr : Rel P ρ h w) {a a' : Addr} (ha : ARel ρ a a') {k : Nat} {l : List Value} (hl : rdCells h a k = some l) :
    ∃ l', LRel ρ l l' ∧ l'.length = k ∧ ∀ j v, l'[j]? = some v → w.cell? (a'.add j) = some v := by
  have gen : ∀ (n : Nat) (z : Array Value) (cs : Tr Value), ((∃ g, h.get a.block = some (.row n g z cs)) ∨ (h.get a.block = some (.rom n cs) ∧ z = #[])) → rdN n z cs k a.off = some l →
      ∃ l', LRel ρ l l' ∧ l'.length = k ∧ ∀ j v, l'[j]? = some v → w.cell? (a'.add j) = some v := by
    intro n z cs ho hl
    obtain ⟨h1, h2⟩ := rdN_spec hl
    clear hl
    have key : ∀ (l : List Value) (i : Nat), (∀ j v, l[j]? = some v → cellAt n z cs (a.off + (i + j)) = some v) → ∃ l', LRel ρ l l' ∧ l'.length = l.length ∧ ∀ j v, l'[j]? = some v → w.cell? (a'.add (i + j)) = some v := by
      intro l
      induction l with
      | nil => intro i _; exact ⟨[], .nil, rfl, fun j v hv => by simp at hv⟩
      | cons x l ih =>
        intro i hx
        obtain ⟨x', hx1, hx2⟩ := cell_rel hr ha ho (hx 0 x rfl)
        obtain ⟨l', q1, q2, q3⟩ := ih (i + 1) fun j v hv => by
          have := hx (j + 1) v (by simpa using hv)
          rwa [show i + (j + 1) = i + 1 + j by omega] at this
        refine ⟨x' :: l', .cons hx2 q1, by simp [q2], fun j v hv => ?_⟩
        cases j with
        | zero => simp at hv; subst hv; exact hx1
        | succ j =>
          have := q3 j v (by simpa using hv)
          rwa [show i + 1 + j = i + (j + 1) by omega] at this
    obtain ⟨l', q1, q2, q3⟩ := key l 0 fun j v hv => by simpa using h2 j v hv
    exact ⟨l', q1, by rw [q2, h1], fun j v hv => by simpa using q3 j v hv⟩
  unfold rdCells at hl
  split at hl
  · cases hl
  · split at hl
    · rename_i n g z cs ho
      exact gen n z cs (.inl ⟨g, ho⟩) hl
    · rename_i n cs ho
      exact gen n #[] cs (.inr ⟨ho, rfl⟩) hl
    · cases hl

theorem rdCells_run {h : Heap} {w : World} (hr : Rel P ρ h w) {a a' : Addr} (ha : ARel ρ a a') {k : Nat} {l : List Value} (hl : rdCells h a k = some l) :
    ∃ l', LRel ρ l l' ∧ (loadCells a' k).run P w = .ok l'.toArray w := by
  obtain ⟨l', h1, h2, h3⟩ := rdCells_rel hr ha hl
  exact ⟨l', h1, h2 ▸ run_loadCells_list (P := P) w a' l' h3⟩

theorem isAgg_run {t : TypeId} {d : TypeDesc} (h : P.underlying t = some d) (w : World) : (isAgg t).run P w = .ok (isAggD d) w := by
  unfold isAgg
  simp only [Sem.run_bind, run_underlying h, Result.andThen_ok]
  cases d <;> rfl

theorem loadV_run {h : Heap} {w : World} (hr : Rel P ρ h w) {a a' : Addr} (ha : ARel ρ a a') {t : TypeId} {v : Value} (hl : loadV P h t a = some v) :
    ∃ v', (loadVar t a').run P w = .ok v' w ∧ VRel ρ v v' := by
  simp only [loadV, bnd_some] at hl
  obtain ⟨d, hd, hl⟩ := hl
  unfold loadVar
  simp only [Sem.run_bind, isAgg_run hd, Result.andThen_ok]
  split at hl
  · rename_i hag
    simp only [bnd_some] at hl
    obtain ⟨i, hi, l, hl, e⟩ := hl
    cases e
    obtain ⟨l', h1, h2⟩ := rdCells_run hr ha hl
    have hs : P.cellsOf t = i.size := by simp [Program.cellsOf, hi]
    refine ⟨.agg l'.toArray, ?_, .agg h1⟩
    simp [hag, run_sizeOf w hi, hs, h2]
  · rename_i hag
    simp only [bnd_some] at hl
    obtain ⟨l, hl, e⟩ := hl
    obtain ⟨l', h1, h2, h3⟩ := rdCells_rel hr ha hl
    cases h1 with
    | nil => simp at e
    | cons hv ht =>
      simp at e; subst e
      refine ⟨_, ?_, hv⟩
      have := h3 0 _ rfl
      rw [show a'.add 0 = a' by simp [Addr.add]] at this
      simp [hag, load, Sem.run, this]

/-! ### Writing -/

def writeAt (c : Array Value) (o : Nat) : List Value → Array Value
  | [] => c
  | v :: r => writeAt (c.setIfInBounds o v) (o + 1) r

theorem writeAt_size (l : List Value) : ∀ (c : Array Value) (o : Nat), (writeAt c o l).size = c.size := by
  induction l with
  | nil => intro c o; rfl
  | cons v r ih => intro c o; simp [writeAt, ih]

theorem writeAt_out (l : List Value) : ∀ (c : Array Value) (o i : Nat), (i < o ∨ o + l.length ≤ i) → (writeAt c o l)[i]? = c[i]? := by
  induction l with
  | nil => intro c o i _; rfl
  | cons v r ih =>
    intro c o i h
    simp only [List.length_cons] at h
    rw [writeAt, ih _ _ _ (by omega), Array.getElem?_setIfInBounds_ne (by omega)]

theorem writeAt_in (l : List Value) : ∀ (c : Array Value) (o j : Nat), o + l.length ≤ c.size → j < l.length → (writeAt c o l)[o + j]? = l[j]? := by
  induction l with
  | nil => intro c o j _ h; simp at h
  | cons v r ih =>
    intro c o j h hj
    simp only [List.length_cons] at h hj
    cases j with
    | zero =>
      rw [writeAt, writeAt_out _ _ _ _ (by omega)]
      simp [show o < c.size by omega]
    | succ j =>
      rw [writeAt, show o + (j + 1) = o + 1 + j by omega, ih _ _ _ (by simp; omega) (by omega)]
      simp

theorem setIf_same {α : Type} {xs : Array α} {b : Nat} {x : α} (h : xs[b]? = some x) : xs.setIfInBounds b x = xs := by
  apply Array.ext_getElem?
  intro i
  by_cases hi : b = i
  · subst hi
    have hb : b < xs.size := (Array.getElem?_eq_some_iff.1 h).1
    rw [h]; simp [hb]
  · rw [Array.getElem?_setIfInBounds_ne hi]

theorem setCell_heap {b o : Nat} {el : TypeId} {fz : Nat × Nat} {v : Value} {w : World} {c : Array Value} (h : w.heap[b]? = some (.cells c el fz)) :
    w.setCell ⟨b, o, none⟩ v = { w with heap := w.heap.setIfInBounds b (.cells (c.setIfInBounds o v) el fz) } := by
  unfold World.setCell
  congr 1
  apply Array.ext_getElem?
  intro i
  by_cases hi : b = i
  · subst hi
    have hb : b < w.heap.size := (Array.getElem?_eq_some_iff.1 h).1
    rw [Array.getElem?_modify, h]; simp [hb]
  · rw [Array.getElem?_setIfInBounds_ne hi, Array.getElem?_modify]; simp [hi]

theorem setCells_heap {b : Nat} {el : TypeId} {fz : Nat × Nat} : ∀ (l : List Value) (o : Nat) (w : World) (c : Array Value), w.heap[b]? = some (.cells c el fz) →
    w.setCells b o l = { w with heap := w.heap.setIfInBounds b (.cells (writeAt c o l) el fz) }
  | [], o, w, c, h => by simp only [World.setCells, writeAt, setIf_same h]
  | v :: r, o, w, c, h => by
    have hb : b < w.heap.size := (Array.getElem?_eq_some_iff.1 h).1
    rw [World.setCells, setCell_heap h, setCells_heap (el := el) (fz := fz) r (o + 1) _ (c.setIfInBounds o v) (by simp [hb]), writeAt]
    congr 1
    apply Array.ext_getElem?
    intro i
    by_cases hi : b = i
    · subst hi; simp [hb]
    · simp [Array.getElem?_setIfInBounds_ne hi]

theorem wrN_spec : ∀ {l : List Value} {cs cs' : Tr Value} {i : Nat}, wrN cs l i = some cs' → (∀ v ∈ l, oneCell v = true) ∧ ∀ j, cs'.get j = if i ≤ j ∧ j < i + l.length then l[j - i]? else cs.get j
  | [], cs, cs', i, h => by
    simp [wrN] at h; subst h
    exact ⟨by simp, fun j => by rw [if_neg (fun hh => by simp at hh; omega)]⟩
  | v :: l, cs, cs', i, h => by
    simp only [wrN] at h
    split at h
    · cases h
    · rename_i hv
      obtain ⟨h1, h2⟩ := wrN_spec h
      refine ⟨by simpa [hv] using h1, fun j => ?_⟩
      rw [h2 j]
      simp only [List.length_cons]
      by_cases hj : i + 1 ≤ j ∧ j < i + 1 + l.length
      · rw [if_pos hj, if_pos (by omega), show j - i = (j - (i + 1)) + 1 by omega]; rfl
      · rw [if_neg hj, Tr.get_set]
        by_cases hji : j = i
        · subst hji; simp
        · rw [if_neg hji, if_neg (by omega)]

theorem oneCell_one {v v' : Value} (h : oneCell v = true) (r : VRel ρ v v') : v'.oneCell' = true := by
  cases r <;> first | rfl | (simp [oneCell] at h)

theorem LRel.one {l l' : List Value} (h : LRel ρ l l') (h1 : ∀ v ∈ l, oneCell v = true) : ∀ v ∈ l', v.oneCell' = true := by
  induction l generalizing l' with
  | nil => cases h; simp
  | cons x l ih =>
    cases h with
    | cons hv ht =>
      intro v hm
      rcases List.mem_cons.1 hm with rfl | hm
      · exact oneCell_one (h1 x (by simp)) hv
      · exact ih ht (fun v hv => h1 v (by simp [hv])) v hm

/-- cells of one block are written -/
theorem write_rel {h : Heap} {w : World} (hr : Rel P ρ h w) {b : Nat} {p : Pl} (hb : ρ b = some p) {n g : Nat} {z : Array Value} {cs cs' : Tr Value} (ho : h.get b = some (.row n g z cs)) {o : Nat} {l l' : List Value}
    (hl : LRel ρ l l') (hw : wrN cs l o = some cs') (hn : o + l.length ≤ n) (lo hi : Nat) :
    (storeCells ⟨p.blk, o, none⟩ l').run P w = .ok () (w.setCells p.blk o l') ∧ Rel P ρ (h.set b (.row n g z cs')) (w.setCells p.blk o l') ∧ Ext lo hi ρ h w ρ (h.set b (.row n g z cs')) (w.setCells p.blk o l') := by
  obtain ⟨c, el, fz, e, hs, hnp, hg, hth, hc⟩ := hr.obj _ _ _ hb ho
  obtain ⟨hone, hget⟩ := wrN_spec hw
  have hlen := hl.length
  have hheap := setCells_heap (el := el) (fz := fz) l' o w c e
  have hblk := hr.blk b p hb
  have hcell : ∀ j, j < l'.length → (w.cell? ⟨p.blk, o + j, none⟩).isSome = true := fun j hj => by simp [World.cell?, e]; omega
  refine ⟨?_, ⟨?_, ?_, ?_, hr.glb⟩, { ext := fun _ _ h => h, new := fun b p h1 h2 => (by rw [h1] at h2; cases h2), rng := fun b p h1 h2 => (by rw [h1] at h2; cases h2), size := ?_, fr := ?_, pend := ?_, away := ?_, dead := ?_, tape := ?_, os := ?_, output := ?_ }⟩
  · have := run_storeCells_cells (P := P) p.blk o l' 0 w (by simpa using hcell) (fun j hj => by
      simp only [World.frozen?, e, Nat.add_zero]
      have := hth (o + j) (.inl (by omega))
      by_cases h1 : fz.1 ≤ o + j <;> by_cases h2 : o + j < fz.2 <;> simp [h1, h2] <;> omega) (hl.one hone)
    simpa using this
  · intro b2 p2 o2 h1 h2
    rw [hheap]
    by_cases hbb : b2 = b
    · subst hbb
      rw [hb] at h1; cases h1
      rw [Tr.get_set_self] at h2; cases h2
      refine ⟨writeAt c o l', el, fz, by simp [hblk], by rw [writeAt_size, hs], hnp, hg, by rw [writeAt_size]; exact hth, fun i v hv => ?_⟩
      unfold cellAt at hv
      split at hv
      · rename_i hin
        have hin := Nat.le_of_ble_eq_true hin
        rw [hget i] at hv
        by_cases hrange : o ≤ i ∧ i < o + l.length
        · rw [if_pos hrange] at hv
          obtain ⟨j, rfl⟩ : ∃ j, i = o + j := ⟨i - o, by omega⟩
          rw [writeAt_in _ _ _ _ (by omega) (by omega)]
          rw [show o + j - o = j by omega] at hv
          cases hlj : l[j]? with
          | none => rw [List.getElem?_eq_none_iff] at hlj; omega
          | some u =>
            rw [hlj] at hv
            simp at hv; subst hv
            exact hl.get hlj
        · rw [if_neg hrange] at hv
          rw [writeAt_out _ _ _ _ (by omega)]
          refine hc i v ?_
          unfold cellAt
          rw [show Nat.ble (i + 1) n = true from Nat.ble_eq_true_of_le hin]
          exact hv
      · cases hv
    · rw [Tr.get_set_ne _ _ hbb] at h2
      have hold := hr.obj b2 p2 o2 h1 h2
      by_cases hpp : p2.blk = p.blk
      · cases o2 with
        | dead => trivial
        | _ => exact absurd (hr.inj b2 b p2 p h1 hb (by rw [h2]; simp) (by rw [ho]; simp) hpp) hbb
      · simp only
        rw [Array.getElem?_setIfInBounds_ne (fun e => hpp e.symm)]
        exact hold
  · intro b2 p2 h1
    rw [hheap]
    simpa using hr.blk b2 p2 h1
  · intro b2 b3 p2 p3 h1 h2 h3 h4 h5
    have alive : ∀ x, (h.set b (.row n g z cs')).get x ≠ some .dead → h.get x ≠ some .dead := fun x hx => by
      by_cases hxb : x = b
      · subst hxb; rw [ho]; simp
      · rwa [Tr.get_set_ne _ _ hxb] at hx
    exact hr.inj b2 b3 p2 p3 h1 h2 (alive _ h3) (alive _ h4) h5
  · rw [hheap]; simp
  · intro c2 hc2 ha
    rw [hheap]
    have : p.blk ≠ c2 := fun e2 => by
      rcases ha b p hb e2 with x | x <;> rw [ho] at x <;> cases x
    simp only
    rw [Array.getElem?_setIfInBounds_ne this]
  · intro b2 p2 h1 h2
    rwa [Tr.get_set_ne _ _ (fun e2 => by rw [e2, ho] at h2; cases h2)]
  · intro b2 h2
    rwa [Tr.get_set_ne _ _ (fun e2 => by rw [e2, ho] at h2; cases h2)]
  · rw [hheap]
  · rw [hheap]
  · rw [hheap]
  · intro b2 h2
    rw [Tr.get_set_ne _ _ (fun e2 => by rw [e2, hb] at h2; cases h2)]

theorem wrCells_rel {h h' : Heap} {w : World} (hr : Rel P ρ h w) {a a' : Addr} (ha : ARel ρ a a') {l l' : List Value} (hl : LRel ρ l l') (hw : wrCells h a l = some h') (lo hi : Nat) :
    ∃ w', (storeCells a' l').run P w = .ok () w' ∧ Rel P ρ h' w' ∧ Ext lo hi ρ h w ρ h' w' := by
  obtain ⟨p, h1, h2, rfl⟩ := ha
  unfold wrCells at hw
  split at hw
  · cases hw
  · split at hw
    · rename_i n g z cs ho
      split at hw
      · rename_i hle
        simp only [bnd_some] at hw
        obtain ⟨cs', hcs, e⟩ := hw
        cases e
        exact ⟨_, write_rel hr h1 ho hl hcs (Nat.le_of_ble_eq_true hle) lo hi⟩
      · cases hw
    · cases hw

theorem VRel.cells {v v' : Value} (h : VRel ρ v v') : LRel ρ v.cells.toList v'.cells.toList := by
  cases h <;> first | assumption | exact .cons (by constructor <;> assumption) .nil

theorem storeV_run {h h' : Heap} {w : World} (hr : Rel P ρ h w) {a a' : Addr} (ha : ARel ρ a a') {t : TypeId} {v v' : Value} (hv : VRel ρ v v') (hs : storeV P h t a v = some h') (lo hi : Nat) :
    ∃ w', (storeVar t a' v').run P w = .ok () w' ∧ Rel P ρ h' w' ∧ Ext lo hi ρ h w ρ h' w' := by
  simp only [storeV, bnd_some] at hs
  obtain ⟨i, hi', hs⟩ := hs
  split at hs
  · rename_i heq
    obtain ⟨w', h1, h2, h3⟩ := wrCells_rel hr ha hv.cells hs lo hi
    refine ⟨w', ?_, h2, h3⟩
    have hlen := hv.cells.length
    have hsz : v'.cells.size = P.cellsOf t := by
      have := Nat.eq_of_beq_eq_true heq
      simp only [Array.length_toList] at hlen
      simp [Program.cellsOf, hi', ← this, hlen]
    unfold storeVar
    simp [run_sizeOf w hi', hsz, h1]
  · cases hs

/-! ### A new block -/

def upd (ρ : Ren) (id : Nat) (p : Pl) : Ren := fun b => if b = id then some p else ρ b

theorem upd_self (id : Nat) (p : Pl) : upd ρ id p id = some p := by simp [upd]
theorem upd_ext {id : Nat} {p : Pl} (hid : ρ id = none) : ∀ b q, ρ b = some q → upd ρ id p b = some q := fun b q hb => by
  unfold upd; rw [if_neg (fun e => by rw [e, hid] at hb; cases hb)]; exact hb

structure Grown (w w' : World) (co : Obj) : Prop where
  heap : w'.heap = w.heap.push co
  tape : w'.tape = w.tape
  os : w'.os = w.os
  output : w'.output = w.output

/-- a block is laid; the evaluator has it already, or not yet -/
theorem Rel.grow {h : Heap} {w w' : World} (hr : Rel P ρ h w) {co : Obj} (hg : Grown w w' co) {id : Nat} (hid : ρ id = none) {p : Pl} (hp : p.blk = w.heap.size)
    (ho : ∀ o, h.get id = some o → ORel (upd ρ id p) p o (some co)) : Rel P (upd ρ id p) h w' ∧ Ext id (id + 1) ρ h w (upd ρ id p) h w' := by
  have hext := upd_ext (p := p) hid
  have hold : ∀ c, c < w.heap.size → w'.heap[c]? = w.heap[c]? := fun c hc => by rw [hg.heap, Array.getElem?_push_lt hc, Array.getElem?_eq_getElem hc]
  have hnew : w'.heap[p.blk]? = some co := by rw [hg.heap, hp]; simp
  refine ⟨⟨?_, ?_, ?_, ?_⟩, { ext := hext, new := ?_, rng := ?_, size := ?_, fr := ?_, pend := ?_, away := ?_, dead := ?_, tape := hg.tape, os := hg.os, output := hg.output }⟩
  · intro b q o hb hgt
    by_cases hbi : b = id
    · subst hbi
      rw [upd_self] at hb; cases hb
      rw [hnew]
      exact ho o hgt
    · have hb' : ρ b = some q := by simpa [upd, hbi] using hb
      rw [hold _ (hr.blk b q hb')]
      exact (hr.obj b q o hb' hgt).mono hext
  · intro b q hb
    by_cases hbi : b = id
    · subst hbi; rw [upd_self] at hb; cases hb; rw [hp, hg.heap]; simp
    · have hb' : ρ b = some q := by simpa [upd, hbi] using hb
      have := hr.blk b q hb'
      rw [hg.heap]; simp; omega
  · intro b b' q q' hb hb' h3 h4 h5
    by_cases hbi : b = id
    · by_cases hbi' : b' = id
      · rw [hbi, hbi']
      · subst hbi
        rw [upd_self] at hb; cases hb
        have hb2 : ρ b' = some q' := by simpa [upd, hbi'] using hb'
        have := hr.blk b' q' hb2
        omega
    · have hb1 : ρ b = some q := by simpa [upd, hbi] using hb
      by_cases hbi' : b' = id
      · subst hbi'
        rw [upd_self] at hb'; cases hb'
        have := hr.blk b q hb1
        omega
      · have hb2 : ρ b' = some q' := by simpa [upd, hbi'] using hb'
        exact hr.inj b b' q q' hb1 hb2 h3 h4 h5
  · intro g hgl
    obtain ⟨q, h1, h2⟩ := hr.glb g hgl
    exact ⟨q, hext _ _ h1, h2⟩
  · intro b q h1 h2
    by_cases hbi : b = id
    · subst hbi; omega
    · simp [upd, hbi, h1] at h2
  · intro b q h1 h2
    by_cases hbi : b = id
    · subst hbi; rw [upd_self] at h2; cases h2; exact .inl (by omega)
    · simp [upd, hbi, h1] at h2
  · rw [hg.heap]; simp
  · intro c hc _; exact hold c hc
  · intro _ _ _ h; exact h
  · intro _ h; exact h
  · intro _ _; rfl

/-- the evaluator lays a block that lies there, or is to come -/
theorem Rel.lay {h : Heap} {w : World} (hr : Rel P ρ h w) {id : Nat} {ob : AObj} (ho : ∀ p, ρ id = some p → ORel ρ p ob (w.heap[p.blk]?)) (hd : h.get id ≠ some .dead) : Rel P ρ (h.set id ob) w := by
  refine ⟨?_, hr.blk, ?_, hr.glb⟩
  · intro b q o hb hgt
    by_cases hbi : b = id
    · subst hbi
      rw [Tr.get_set_self] at hgt; cases hgt
      exact ho q hb
    · rw [Tr.get_set_ne _ _ hbi] at hgt
      exact hr.obj b q o hb hgt
  · intro b b' q q' hb hb' h3 h4 h5
    refine hr.inj b b' q q' hb hb' (fun e => ?_) (fun e => ?_) h5
    · exact h3 (by rw [Tr.get_set_ne _ _ (fun e2 => by rw [e2] at e; exact hd e)]; exact e)
    · exact h4 (by rw [Tr.get_set_ne _ _ (fun e2 => by rw [e2] at e; exact hd e)]; exact e)

/-- both at once -/
theorem Rel.alloc {h : Heap} {w w' : World} (hr : Rel P ρ h w) {co : Obj} (hg : Grown w w' co) {id : Nat} (hid : ρ id = none) (hd : h.get id = none) {p : Pl} (hp : p.blk = w.heap.size) {ob : AObj}
    (ho : ORel (upd ρ id p) p ob (some co)) : Rel P (upd ρ id p) (h.set id ob) w' ∧ Ext id (id + 1) ρ h w (upd ρ id p) (h.set id ob) w' := by
  obtain ⟨h1, e⟩ := hr.grow hg hid hp (fun o hgt => by rw [hd] at hgt; cases hgt)
  refine ⟨h1.lay (fun q hq => ?_) (by rw [hd]; simp), { e with pend := fun b hb => ?_, away := fun b q hb hn => ?_, dead := fun b hn => ?_ }⟩
  · rw [upd_self] at hq; cases hq
    have : w'.heap[p.blk]? = some co := by rw [hg.heap, hp]; simp
    rw [this]; exact ho
  · rwa [Tr.get_set_ne _ _ (fun e2 => by rw [e2, hid] at hb; cases hb)]
  · rwa [Tr.get_set_ne _ _ (fun e2 => by rw [e2, hd] at hn; cases hn)]
  · rw [Tr.get_set_ne _ _ (fun e2 => by rw [e2, upd_self] at hb; cases hb)]

/-- a row of cells that is laid as it is -/
theorem mkRow_rel {g : Nat} {c c' : Array Value} (h : LRel ρ c.toList c'.toList) {p : Pl} (hc : p.cap = c'.size) (hg : p.g = g) {el : TypeId} : ORel ρ p (mkRow g c) (some (.cells c' el)) := by
  have hl := h.length
  simp only [Array.length_toList] at hl
  refine ⟨c', el, (0, 0), rfl, hc.symm, by omega, hg.symm, fun i _ h => by omega, fun i v hv => ?_⟩
  unfold cellAt at hv
  split at hv
  · rename_i hi
    rw [Tr.get_ofL] at hv
    split at hv
    · rename_i u hu
      cases hv
      obtain ⟨v', h1, h2⟩ := h.get hu
      exact ⟨v', by simpa using h1, h2⟩
    · rename_i hn
      have hi := Nat.le_of_ble_eq_true hi
      simp at hn; omega
  · cases hv

end Ev
end Go.Proofs.YteohlibpfgmcaaaGreatDoor
