/- The evaluator's operations against the model's: maps, strings, interfaces, composite values. -/
import Derived.Test.YteohlibpfgmcaaaGreatDoorK5
namespace Go.Proofs.YteohlibpfgmcaaaGreatDoor
namespace Ev
open Go
set_option linter.unusedVariables false
set_option linter.unusedSimpArgs false
variable {ρ : Ren} {P : Program} {h : Heap} {w : World} {id n : Nat} {ts : Tr Value} {a : Act}

theorem okV_rel {ok b : Bool} {v v' : Value} (hv : VRel ρ v v') : VRel ρ (okV ok v b) (if ok then .tuple #[v', .bool b] else v') := by
  cases ok
  · exact hv
  · exact .tuple (.cons hv (.cons (.bool b) .nil))

theorem sound_assert {x : Operand} {xt t : TypeId} {ok : Bool} {out : Out} {o : Oper} (ho : o.op = .typeAssert x xt t ok) (hr : Rel P ρ h w) (ht : TRel ρ ts n a) (H : op1 P ts x (fun xv => toVal (assertA P t ok xv)) = some out) : OutOk P ρ h w id (execOp a.eval o) out := by
  rw [op1_some] at H
  obtain ⟨v, hv0, H⟩ := H
  have hv := opv_rel hr ht hv0
  clear hv0
  rw [toVal_some] at H
  obtain ⟨r, hq, H⟩ := H
  cases H
  simp only [assertA, bnd_some] at hq
  obtain ⟨u, hu, hq⟩ := hq
  have hfail : ∀ z, zeroOf P t = some z → VRel ρ (.tuple #[z, .bool false]) (.tuple #[z, .bool false]) := fun z hz => .tuple (.cons (zeroOf_run hz w).2 (.cons (.bool _) .nil))
  split at hq
  · rename_i want d v0
    simp only [bnd_some] at hq
    obtain ⟨i, hi, hq⟩ := hq
    cases ex : a.eval x <;> rw [ex] at hv <;> cases hv
    rename_i v0' hv0
    have hti : (typeInfo d).run P w = .ok i w := run_typeInfo w hi
    split at hq
    · rename_i hm
      cases hq
      refine .val ?_ (okV_rel (.iface d hv0))
      simp [execOp, ho, ex, Instr.typeAssert, run_underlying hu, hti, hm]
    · rename_i m hm
      simp only [bnd_some] at hq
      obtain ⟨z, hz, hq⟩ := hq
      cases hq
      refine .val ?_ (hfail z hz)
      simp [execOp, ho, ex, Instr.typeAssert, run_underlying hu, hti, hm, (zeroOf_run (ρ := ρ) hz w).1]
    · cases hq
  · split at hq
    · simp only [bnd_some] at hq
      obtain ⟨z, hz, hq⟩ := hq
      cases hq
      cases ex : a.eval x <;> rw [ex] at hv <;> cases hv
      refine .val ?_ (hfail z hz)
      simp [execOp, ho, ex, Instr.typeAssert, run_underlying hu, (zeroOf_run (ρ := ρ) hz w).1]
    · cases hq
  · rename_i d v0 hno
    cases ex : a.eval x <;> rw [ex] at hv <;> cases hv
    rename_i v0' hv0
    split at hq
    · rename_i hd
      have hd := Nat.eq_of_beq_eq_true hd
      subst hd
      cases hq
      refine .val ?_ (okV_rel hv0)
      cases u <;> first | (exfalso; exact hno _ rfl) | (simp [execOp, ho, ex, Instr.typeAssert, run_underlying hu]; done)
    · rename_i hd
      have hd := Nat.ne_of_beq_eq_false hd
      simp only [bnd_some] at hq
      obtain ⟨z, hz, hq⟩ := hq
      cases hq
      refine .val ?_ (hfail z hz)
      cases u <;> first | (exfalso; exact hno _ rfl) | simp [execOp, ho, ex, Instr.typeAssert, run_underlying hu, hd, (zeroOf_run (ρ := ρ) hz w).1]
    · cases hq
  · rename_i hno
    split at hq
    · simp only [bnd_some] at hq
      obtain ⟨z, hz, hq⟩ := hq
      cases hq
      cases ex : a.eval x <;> rw [ex] at hv <;> cases hv
      refine .val ?_ (hfail z hz)
      cases u <;> first | (exfalso; exact hno _ rfl) | simp [execOp, ho, ex, Instr.typeAssert, run_underlying hu, (zeroOf_run (ρ := ρ) hz w).1]
    · cases hq
  · cases hq

/-! ### Strings -/

theorem bytesOf_spec : ∀ {l l' : List Value} {s r : ByteArray}, LRel ρ l l' → bytesOf l s = some r → ∃ ns : List Int, l' = ns.map (Value.int .u8) ∧ r = ns.foldl (fun r n => r.push (UInt8.ofNat n.toNat)) s
  | [], l', s, r, hl, H => by
    cases hl
    simp [bytesOf] at H
    exact ⟨[], rfl, H.symm⟩
  | v :: l, l', s, r, hl, H => by
    cases hl with
    | cons hv ht =>
      simp only [bytesOf] at H
      split at H
      · cases hv
        obtain ⟨ns, e1, e2⟩ := bytesOf_spec ht H
        exact ⟨_ :: ns, by rw [e1]; rfl, by rw [e2]; rfl⟩
      · cases H

theorem convA_run {s d : TypeId} {x x' r : Value} (hr : Rel P ρ h w) (hx : VRel ρ x x') (H : convA P h s d x = some r) : (convert s d x').run P w = .ok r w ∧ VRel ρ r r := by
  simp only [convA, bnd_some] at H
  obtain ⟨us, hs, ud, hd, H⟩ := H
  split at H
  · rw [intV_eq] at H; cases H; cases hx
    exact ⟨by simp [convert, run_underlying hs, run_underlying hd, Conv.intToInt], .int _ _⟩
  · cases H; cases hx
    exact ⟨by cases us <;> simp [convert, run_underlying hs, run_underlying hd], .string _⟩
  · cases H; cases hx
    exact ⟨by simp [convert, run_underlying hs, run_underlying hd, Conv.intToString], .string _⟩
  · rename_i e b len cap
    simp only [bnd_some] at H
    obtain ⟨ue, he, H⟩ := H
    split at H
    · cases H; cases hx
      exact ⟨by rw [run_convert_bytes_string w s d e _ _ _ hs he hd]; rfl, .string _⟩
    · rename_i ad
      split at H
      · cases H
        obtain ⟨ad', cap', ex⟩ : ∃ ad' cap', x' = .slice (some ad') 0 cap' := by cases hx <;> exact ⟨_, _, rfl⟩
        subst ex
        refine ⟨?_, .string _⟩
        rw [run_convert_bytes_string w s d e _ _ _ hs he hd]
        exact run_bytesToString w ad' 0 cap' [] rfl
      · rename_i m
        simp only [bnd_some] at H
        obtain ⟨l, hl, str, hst, H⟩ := H
        cases H
        obtain ⟨ad', cap', ex, ha⟩ := slice_addr hx (by omega)
        subst ex
        obtain ⟨l', q1, q2⟩ := rdCells_run hr ha hl
        obtain ⟨ns, e1, e2⟩ := bytesOf_spec q1 hst
        refine ⟨?_, .string _⟩
        rw [run_convert_bytes_string w s d e _ _ _ hs he hd, e2]
        exact run_bytesToString w ad' _ cap' ns (by rw [q2, e1])
    · cases H
  · cases H

theorem sound_conv {s d : TypeId} {x : Operand} {out : Out} {o : Oper} (ho : o.op = .convert s d x) (hr : Rel P ρ h w) (ht : TRel ρ ts n a) (H : op1 P ts x (opConv P h id s d) = some out) : OutOk P ρ h w id (execOp a.eval o) out := by
  rw [op1_some] at H
  obtain ⟨v, hv0, H⟩ := H
  have hv := opv_rel hr ht hv0
  clear hv0
  unfold opConv at H
  split at H
  · rename_i str e0 he0
    simp only [strBytes, bnd_some] at H
    obtain ⟨us, hs, ud, hd, H⟩ := H
    cases ex : a.eval x <;> rw [ex] at hv <;> cases hv
    split at H
    · rename_i e
      simp only [bnd_some] at H
      obtain ⟨ue, he, H⟩ := H
      split at H
      · cases H
        have hrun := run_bytes_of_string (P := P) w s d e str hs hd he
        have hge := grownCap_ge w str.size 0 e
        have hsz : (bytesRow str (grownCap w str.size 0 e)).size = grownCap w str.size 0 e := by
          simp only [bytesRow, Array.size_append, Array.size_map, Array.size_replicate]
          show str.data.size + _ = _
          have : str.size = str.data.size := rfl
          omega
        refine ⟨_, _, _, ⟨w.heap.size, grownCap w str.size 0 e, 1, none⟩, .inl (by simp only [execOp, ho, ex, Sem.run_bind, hrun, Result.andThen_ok]; rfl), grown_drew _ _, rfl, fun ρ' q1 q2 => ⟨.sl 0 _ q1 (.inr ⟨hge, fun _ => by simp⟩), ?_⟩⟩
        refine ⟨_, e, _, rfl, hsz, by simp; exact hge, rfl, fun i hi hh => ?_, fun j v hv => ?_⟩
        · rcases hi with hi | hi
          · exact absurd hh.1 (Nat.not_le.2 hi)
          · exact absurd hi (by decide)
        · unfold cellAt at hv
          split at hv
          · rename_i hj
            have hj := Nat.le_of_ble_eq_true hj
            have hsd : str.size = str.data.size := rfl
            have hj2 : j < str.data.size := by have h5 : j + 1 ≤ str.size := (by simpa using hj); omega
            rw [Tr.get_ofL] at hv
            rw [bytesRow_at _ _ _ hj2]
            have hjd : str.data[j]? = some (str.data[j]'hj2) := Array.getElem?_eq_getElem _
            simp [hjd] at hv
            subst hv
            exact ⟨_, rfl, .int _ _⟩
          · cases hv
      · cases H
    · cases H
  · obtain ⟨r, hq, H⟩ := toVal_some.1 H
    cases H
    obtain ⟨h1, h2⟩ := convA_run hr hv hq
    exact .val (by simp [execOp, ho, h1]) h2

/-! ### Going through a string -/

/-- an object that is not a row is another one now -/
theorem Rel.put {b : Nat} {p : Pl} {o o' : AObj} {co co' : Obj} (hr : Rel P ρ h w) (hb : ρ b = some p) (ho : h.get b = some o) (hd : o ≠ .dead) (hc : w.heap[p.blk]? = some co) (ho' : ORel ρ p o' (some co')) (hd' : o' ≠ .dead) (lo hi : Nat) :
    Rel P ρ (h.set b o') { w with heap := w.heap.setIfInBounds p.blk co' } ∧ Ext lo hi ρ h w ρ (h.set b o') { w with heap := w.heap.setIfInBounds p.blk co' } := by
  have hblk := hr.blk b p hb
  have alive : ∀ x, (h.set b o').get x ≠ some .dead → h.get x ≠ some .dead := fun x hx => by
    by_cases hxb : x = b
    · subst hxb; rw [ho]; simpa using hd
    · rwa [Tr.get_set_ne _ _ hxb] at hx
  refine ⟨⟨?_, ?_, ?_, hr.glb⟩, { ext := fun _ _ h => h, new := fun b p h1 h2 => (by rw [h1] at h2; cases h2), rng := fun b p h1 h2 => (by rw [h1] at h2; cases h2), size := by simp, fr := ?_, pend := ?_, away := ?_, dead := ?_, tape := rfl, os := rfl, output := rfl }⟩
  · intro b2 p2 o2 h1 h2
    by_cases hbb : b2 = b
    · subst hbb
      rw [hb] at h1; cases h1
      rw [Tr.get_set_self] at h2; cases h2
      simpa [hblk] using ho'
    · rw [Tr.get_set_ne _ _ hbb] at h2
      have hold := hr.obj b2 p2 o2 h1 h2
      by_cases hpp : p2.blk = p.blk
      · cases o2 with
        | dead => trivial
        | _ => exact absurd (hr.inj b2 b p2 p h1 hb (by rw [h2]; simp) (by rw [ho]; simpa using hd) hpp) hbb
      · simp only
        rw [Array.getElem?_setIfInBounds_ne (fun e => hpp e.symm)]
        exact hold
  · intro b2 p2 h1
    simpa using hr.blk b2 p2 h1
  · intro b2 b3 p2 p3 h1 h2 h3 h4 h5
    exact hr.inj b2 b3 p2 p3 h1 h2 (alive _ h3) (alive _ h4) h5
  · intro c2 hc2 ha
    have : p.blk ≠ c2 := fun e2 => by
      rcases ha b p hb e2 with x | x
      · rw [ho] at x; cases x
      · rw [ho] at x; exact hd (Option.some.inj x)
    simp only
    rw [Array.getElem?_setIfInBounds_ne this]
  · intro b2 p2 h1 h2
    rwa [Tr.get_set_ne _ _ (fun e2 => by rw [e2, ho] at h2; cases h2)]
  · intro b2 h2
    rwa [Tr.get_set_ne _ _ (fun e2 => by rw [e2, ho] at h2; exact hd (Option.some.inj h2))]
  · intro b2 h2
    rw [Tr.get_set_ne _ _ (fun e2 => by rw [e2, hb] at h2; cases h2)]

theorem sound_range {t : TypeId} {x : Operand} {out : Out} {o : Oper} (ho : o.op = .range t x) (hr : Rel P ρ h w) (ht : TRel ρ ts n a) (H : op1 P ts x (opRange P id t) = some out) : OutOk P ρ h w id (execOp a.eval o) out := by
  rw [op1_some] at H
  obtain ⟨v, hv0, H⟩ := H
  have hv := opv_rel hr ht hv0
  clear hv0
  simp only [opRange, bnd_some] at H
  obtain ⟨u, hu, H⟩ := H
  split at H
  · cases H
    cases ex : a.eval x <;> rw [ex] at hv <;> cases hv
    rename_i s
    refine ⟨.pointer (some ⟨w.heap.size, 0, none⟩), w.alloc (.stringIter s 0), _, ⟨w.heap.size, 0, 0, none⟩, .inl ?_, grown_alloc _ _, rfl, fun ρ' h1 _ => ⟨.ptr 0 h1, rfl⟩⟩
    simp [execOp, ho, ex, Instr.range, run_underlying hu]
  · cases H

theorem sound_next {x : Operand} {isS : Bool} {out : Out} {o : Oper} (ho : o.op = .next x isS) (hr : Rel P ρ h w) (ht : TRel ρ ts n a) (H : op1 P ts x (opNext h isS) = some out) : OutOk P ρ h w id (execOp a.eval o) out := by
  rw [op1_some] at H
  obtain ⟨v, hv0, H⟩ := H
  have hv := opv_rel hr ht hv0
  clear hv0
  unfold opNext at H
  split at H
  · rename_i ad
    split at H
    · rename_i e1 e2
      obtain ⟨ad', ex, p, hp, hs, had⟩ := hv.addr
      subst had
      rw [e1] at ex
      unfold nextA at H
      split at H
      · rename_i s pos ho1
        have hobj := hr.obj _ _ _ hp ho1
        have hobj : w.heap[p.blk]? = some (.stringIter s pos) := hobj
        have hget : (getObj p.blk).run P w = .ok (.stringIter s pos) w := by simp [getObj, Sem.run, hobj]
        split at H
        · rename_i hlt
          have hlt := Nat.le_of_ble_eq_true hlt
          rw [forceI_eq, forceN_eq, intV_eq] at H
          simp only [bnd, Option.some.injEq] at H
          cases H
          intro hid
          obtain ⟨g1, g2⟩ := hr.put (o' := .siter s (pos + (Utf8.decode s pos).2)) (co' := .stringIter s (pos + (Utf8.decode s pos).2)) hp ho1 (by simp) hobj rfl (by simp) id (id + 1)
          refine ⟨_, _, ρ, .inl ?_, .tuple (.cons (.bool true) (.cons (.int .i64 pos) (.cons (.int .i32 (Utf8.decode s pos).1) .nil))), g1, g2⟩
          have hset : ∀ o', (setObj p.blk o').run P w = .ok () { w with heap := w.heap.setIfInBounds p.blk o' } := fun o' => by simp [setObj, Sem.run, hobj]
          have hlt' : pos < s.size := hlt
          simp only [execOp, ho, ex, Instr.next, Sem.run_bind, hget, Result.andThen_ok, if_pos hlt', hset]
          rfl
        · rename_i hlt
          have hlt : ¬ pos < s.size := fun hc => by rw [Nat.ble_eq_true_of_le hc] at hlt; cases hlt
          cases H
          refine .val (v' := .tuple #[.bool false]) ?_ (.tuple (.cons (.bool _) .nil))
          simp only [execOp, ho, ex, Instr.next, Sem.run_bind, hget, Result.andThen_ok, if_neg hlt]
          rfl
      · cases H
    · cases H
  · cases H

end Ev
end Go.Proofs.YteohlibpfgmcaaaGreatDoor
