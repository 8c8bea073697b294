/- What an operation hangs on among the temporaries; what is ahead of what in a region. -/
import Derived.Test.YteohlibpfgmcaaaGreatDoorK11
namespace Go.Proofs.YteohlibpfgmcaaaGreatDoor
namespace Ev
open Go
set_option linter.unusedVariables false
set_option linter.unusedSimpArgs false
variable {ρ : Ren} {P : Program} {h : Heap} {w : World} {id n : Nat} {ts ts' : Tr Value} {a : Act}

theorem opvs_congr : ∀ {xs : List Operand}, (∀ x ∈ xs, opv P ts x = opv P ts' x) → opvs P ts xs = opvs P ts' xs
  | [], _ => rfl
  | x :: xs, H => by
    have e := opvs_congr (xs := xs) fun y hy => H y (List.mem_cons_of_mem _ hy)
    simp only [opvs, H x (by simp), e]

theorem opvPs_congr : ∀ {xs : List (Nat × Operand)}, (∀ x ∈ xs, opv P ts x.2 = opv P ts' x.2) → opvPs P ts xs = opvPs P ts' xs
  | [], _ => rfl
  | x :: xs, H => by
    have e := opvPs_congr (xs := xs) fun y hy => H y (List.mem_cons_of_mem _ hy)
    simp only [opvPs, H x (by simp), e]

theorem evOp_congr {o : Oper} (H : ∀ x ∈ o.op.operands, opv P ts x = opv P ts' x) : evOp P h id ts o = evOp P h id ts' o := by
  unfold evOp
  cases ho : o.op <;> rw [ho] at H <;> simp only [Op.operands] at H <;> first | rfl | skip
  case move x => simp only [H x (by simp)]
  case assign x => simp only [H x (by simp)]
  case pick c x y => simp only [opPick, H c (by simp), H x (by simp), H y (by simp)]
  case box e x => simp only [opBox, H x (by simp)]
  case build t ps =>
    have e : opvPs P ts ps.toList = opvPs P ts' ps.toList := opvPs_congr fun x hx => H x.2 (by simp; exact ⟨x.1, by simpa using hx⟩)
    simp only [e]
  case buildSlice t l ps =>
    have e : opvPs P ts ps.toList = opvPs P ts' ps.toList := opvPs_congr fun x hx => H x.2 (by simp; exact ⟨x.1, by simpa using hx⟩)
    simp only [e]
  case insert t m k x => simp only [opUpd, H m (by simp), H k (by simp), H x (by simp)]
  case load t x => simp only [op1, H x (by simp)]
  case store t x y => simp only [op2, H x (by simp), H y (by simp)]
  case nilCheck x => simp only [op1, H x (by simp)]
  case binOp op t x y t' => simp only [op2, H x (by simp), H y (by simp)]
  case unOp op t x => simp only [op1, H x (by simp)]
  case convert s d x => simp only [op1, H x (by simp)]
  case makeInterface t x => simp only [op1, H x (by simp)]
  case makeFunc fn f c => simp only [opFunc, opvs_congr (P := P) (ts := ts) (ts' := ts') (xs := f.toList) fun x hx => H x (by simp at hx ⊢; exact .inl hx), opvs_congr (P := P) (ts := ts) (ts' := ts') (xs := c.toList) fun x hx => H x (by simp at hx ⊢; exact .inr hx)]
  case makeMap t r => cases r <;> rfl
  case makeSlice t l c => simp only [op2, H l (by simp), H c (by simp)]
  case slice t x lo hi mx =>
    have hO : ∀ z : Option Operand, (∀ y, z = some y → opv P ts y = opv P ts' y) → opvO P ts z = opvO P ts' z := fun z hz => by
      cases z with
      | none => rfl
      | some y => simp only [opvO, hz y rfl]
    simp only [opSlice, H x (by simp), hO lo fun y hy => H y (by subst hy; simp), hO hi fun y hy => H y (by subst hy; simp), hO mx fun y hy => H y (by subst hy; simp)]
  case fieldAddr s x f => simp only [op1, H x (by simp)]
  case field s x f => simp only [op1, H x (by simp)]
  case indexAddr t x ix => simp only [op2, H x (by simp), H ix (by simp)]
  case index t x ix => simp only [op2, H x (by simp), H ix (by simp)]
  case lookup t x ix ok => simp only [op2, H x (by simp), H ix (by simp)]
  case mapUpdate t m k x => simp only [opUpd, H m (by simp), H k (by simp), H x (by simp)]
  case range t x => simp only [op1, H x (by simp)]
  case next x s => simp only [op1, H x (by simp)]
  case typeAssert x t t' ok => simp only [op1, H x (by simp)]
  case extract x i => simp only [op1, H x (by simp)]
  case call c =>
    have ha : opvs P ts c.args.toList = opvs P ts' c.args.toList := opvs_congr fun x hx => H x (by simp at hx; simp [Call.operands, hx])
    simp only [callA, ha]
    cases hc : c.callee with
    | value f => simp only [H f (by simp [Call.operands, hc])]
    | invoke r m => simp only [H r (by simp [Call.operands, hc])]
    | builtin b => rfl

/-- two states of the temporaries that an operation can't tell apart -/
def Alike (all : Array Oper) (o : Oper) (ts ts' : Tr Value) : Prop := ∀ t ∈ o.looksAt all, ts.get t = ts'.get t

theorem Alike.op {all : Array Oper} {o : Oper} (H : Alike all o ts ts') : evOp P h id ts o = evOp P h id ts' o :=
  evOp_congr fun x hx => by
    cases x with
    | tmp t =>
      have : ts.get t = ts'.get t := H t (List.mem_append_left _ (List.mem_filterMap.2 ⟨.tmp t, by simpa using hx, rfl⟩))
      simp only [opv, this]
    | _ => rfl

theorem Alike.wanted {all : Array Oper} {o : Oper} (H : Alike all o ts ts') : wantedA ts all o = wantedA ts' all o := by
  unfold wantedA
  cases hg : o.guard with
  | none => rfl
  | some g =>
    obtain ⟨j, want⟩ := g
    simp only
    cases hd : bnd (all[j]?) (·.dst) with
    | none => rfl
    | some d =>
      have hmem : d ∈ o.looksAt all := by
        refine List.mem_append_right _ ?_
        rw [hg]
        obtain ⟨g, hg1, hg2⟩ := bnd_some.1 hd
        simp [hg1, hg2]
      simp only [H d hmem]

theorem wanted_rel {all : Array Oper} {o : Oper} (ht : TRel ρ ts n a) : Region.wanted o (yielded all a.tmps) = wantedA ts all o := by
  unfold wantedA Region.wanted
  cases hg : o.guard with
  | none => rfl
  | some g =>
    obtain ⟨j, want⟩ := g
    simp only
    cases hj : all[j]? with
    | none => simp [yielded, hj, bnd]
    | some g =>
      cases hd : g.dst with
      | none => simp [yielded, hj, hd, bnd]
      | some d =>
        have hr := ht.get d
        have hy : yielded all a.tmps j = match a.tmps[d]? with | some (.bool b) => some b | _ => none := by
          unfold yielded
          rw [hj]
          simp only [Option.bind_some, hd]
          rfl
        rw [hy]
        simp only [bnd, hd]
        cases hts : ts.get d with
        | none =>
          rw [hts] at hr
          cases hq : a.tmps[d]? with
          | none => rfl
          | some v =>
            rw [Array.getD_eq_getD_getElem?, hq] at hr
            simp at hr
            cases hr
            rfl
        | some u =>
          rw [hts] at hr
          cases hq : a.tmps[d]? with
          | none =>
            rw [Array.getD_eq_getD_getElem?, hq] at hr
            simp at hr
            generalize hun : undef = z at hr
            cases hr <;> first | rfl | (cases hun; done)
          | some v =>
            rw [Array.getD_eq_getD_getElem?, hq] at hr
            simp at hr
            cases hr <;> rfl

/-! ### What is ahead of what -/

def maskOf (acc : Array Nat) (o : Oper) : Nat := o.after.foldl (fun s e => if Region.binds .any e then s ||| 2 ^ e.on ||| acc.getD e.on 0 else s) 0

theorem maskOf_bit {acc : Array Nat} {o : Oper} {k : Nat} (H : (maskOf acc o).testBit k = true) : ∃ e ∈ o.after, Region.binds .any e = true ∧ (k = e.on ∨ (acc.getD e.on 0).testBit k = true) := by
  unfold maskOf at H
  rw [← Array.foldl_toList] at H
  have key : ∀ (l : List Edge) (s : Nat), (l.foldl (fun s e => if Region.binds .any e then s ||| 2 ^ e.on ||| acc.getD e.on 0 else s) s).testBit k = true → s.testBit k = true ∨ ∃ e ∈ l, Region.binds .any e = true ∧ (k = e.on ∨ (acc.getD e.on 0).testBit k = true) := by
    intro l
    induction l with
    | nil => intro s h; exact .inl h
    | cons e l ih =>
      intro s h
      simp only [List.foldl_cons] at h
      rcases ih _ h with h | ⟨e', h1, h2⟩
      · split at h
        · rename_i hb
          simp only [Nat.testBit_or, Bool.or_eq_true] at h
          rcases h with (h | h) | h
          · exact .inl h
          · rw [Nat.testBit_two_pow] at h
            exact .inr ⟨e, by simp, hb, .inl (by simpa using (of_decide_eq_true h).symm)⟩
          · exact .inr ⟨e, by simp, hb, .inr h⟩
        · exact .inl h
      · exact .inr ⟨e', by simp [h1], h2⟩
  rcases key _ _ H with h | ⟨e, h1, h2⟩
  · simp at h
  · exact ⟨e, by simpa using h1, h2⟩

theorem before_foldl : ∀ (l : List Oper) (acc : Array Nat), (l.foldl (fun acc o => acc.push (maskOf acc o)) acc).size = acc.size + l.length ∧
    (∀ j, j < acc.size → (l.foldl (fun acc o => acc.push (maskOf acc o)) acc)[j]? = acc[j]?)
  | [], acc => by simp
  | o :: l, acc => by
    obtain ⟨h1, h2⟩ := before_foldl l (acc.push (maskOf acc o))
    refine ⟨by simp [h1]; omega, fun j hj => ?_⟩
    simp only [List.foldl_cons]
    rw [h2 j (by simp; omega), Array.getElem?_push_lt hj, Array.getElem?_eq_getElem hj]

theorem before_eq (ops : Array Oper) : Region.before ops = ops.toList.foldl (fun acc o => acc.push (maskOf acc o)) #[] := by
  unfold Region.before maskOf
  rw [← Array.foldl_toList]

theorem before_size (ops : Array Oper) : (Region.before ops).size = ops.size := by
  rw [before_eq, (before_foldl _ _).1]; simp

/-- one step of what is ahead -/
theorem before_bit {ops : Array Oper} {j k : Nat} (H : ((Region.before ops).getD j 0).testBit k = true) :
    ∃ o, ops[j]? = some o ∧ ∃ e ∈ o.after, Region.binds .any e = true ∧ (k = e.on ∨ ((Region.before ops).getD e.on 0).testBit k = true) := by
  have hj : j < ops.size := by
    rcases Nat.lt_or_ge j ops.size with hj | hj
    · exact hj
    · have : (Region.before ops)[j]? = none := Array.getElem?_eq_none (by rw [before_size]; exact hj)
      simp [Array.getD_eq_getD_getElem?, this] at H
  have ho : ops[j]? = some ops[j] := Array.getElem?_eq_getElem hj
  refine ⟨ops[j], ho, ?_⟩
  -- the masks so far
  have hsplit : ops.toList = ops.toList.take j ++ ops[j] :: ops.toList.drop (j + 1) := by
    rw [← List.take_append_drop j ops.toList]
    congr 1
    · simp
    · rw [List.take_append_drop]
      exact List.drop_eq_getElem_cons (by simpa using hj)
  have hacc := before_foldl (ops.toList.take j) #[]
  generalize hA : (ops.toList.take j).foldl (fun acc o => acc.push (maskOf acc o)) #[] = A at hacc
  have hAs : A.size = j := by rw [hacc.1]; simp; omega
  have hB : Region.before ops = (ops.toList.drop (j + 1)).foldl (fun acc o => acc.push (maskOf acc o)) (A.push (maskOf A ops[j])) := by
    rw [before_eq]
    conv => lhs; rw [hsplit]
    rw [List.foldl_append, List.foldl_cons, hA]
  have hrest := before_foldl (ops.toList.drop (j + 1)) (A.push (maskOf A ops[j]))
  have hget : ∀ i, i < j → (Region.before ops)[i]? = A[i]? := fun i hi => by
    rw [hB, hrest.2 i (by simp; omega), Array.getElem?_push_lt (by omega), Array.getElem?_eq_getElem (by omega)]
  have hgj : (Region.before ops)[j]? = some (maskOf A ops[j]) := by
    rw [hB, hrest.2 j (by simp; omega)]
    simp [← hAs]
  have H2 : (maskOf A ops[j]).testBit k = true := by
    rw [Array.getD_eq_getD_getElem?, hgj] at H
    exact H
  obtain ⟨e, h1, h2, h3⟩ := maskOf_bit H2
  refine ⟨e, h1, h2, h3.imp (fun h => h) fun h4 => ?_⟩
  rcases Nat.lt_or_ge e.on j with hlt | hge
  · rw [Array.getD_eq_getD_getElem?, hget _ hlt, ← Array.getD_eq_getD_getElem?]
    exact h4
  · have : A[e.on]? = none := Array.getElem?_eq_none (by omega)
    simp [Array.getD_eq_getD_getElem?, this] at h4

theorem down_spec {ops : Array Oper} (H : down ops = true) {j : Nat} {o : Oper} (ho : ops[j]? = some o) {e : Edge} (he : e ∈ o.after) (hb : Region.binds .any e = true) : e.on < j := by
  have hj : j < ops.size := (Array.getElem?_eq_some_iff.1 ho).1
  simp only [down, List.all_eq_true, List.mem_range] at H
  have := H j hj
  rw [ho] at this
  simp only [List.all_eq_true] at this
  have := this e (by simpa using he)
  rw [hb] at this
  simp only [Bool.not_true, Bool.false_or] at this
  exact Nat.le_of_ble_eq_true this

theorem disc_spec {ops : Array Oper} (H : disc ops = true) {i j : Nat} {oi oj : Oper} (hi : ops[i]? = some oi) (hj : ops[j]? = some oj) (hij : i < j) :
    ((Region.before ops).getD j 0).testBit i = true ∨ ((∀ d, oi.dst = some d → d ∉ namesO ops oj) ∧ (∀ d, oj.dst = some d → d ∉ namesO ops oi)) := by
  have hjs : j < ops.size := (Array.getElem?_eq_some_iff.1 hj).1
  simp only [disc, List.all_eq_true, List.mem_range] at H
  have := H j hjs
  rw [hj] at this
  simp only [List.all_eq_true, List.mem_range] at this
  have := this i hij
  rw [hi] at this
  simp only [Bool.or_eq_true, Bool.and_eq_true] at this
  rcases this with h | ⟨h1, h2⟩
  · exact .inl h
  · refine .inr ⟨fun d hd hm => ?_, fun d hd hm => ?_⟩
    · rw [hd] at h1
      simp at h1
      exact h1 hm
    · rw [hd] at h2
      simp at h2
      exact h2 hm

end Ev
end Go.Proofs.YteohlibpfgmcaaaGreatDoor
