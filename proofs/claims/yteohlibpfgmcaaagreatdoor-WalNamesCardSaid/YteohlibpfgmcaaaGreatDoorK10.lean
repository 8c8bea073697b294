/- The evaluator's operations against the model's: copy, delete, calls; all of them together. -/
import Derived.Test.YteohlibpfgmcaaaGreatDoorK9
import Derived.KernelRfl
namespace Go.Proofs.YteohlibpfgmcaaaGreatDoor
namespace Ev
open Go
set_option linter.unusedVariables false
set_option linter.unusedSimpArgs false
variable {ρ : Ren} {P : Program} {h : Heap} {w : World} {id n : Nat} {ts : Tr Value} {a : Act}

theorem copy_ok {argTypes : Array TypeId} {ty : TypeId} {args : List Value} {args' : Array Value} {out : Out} {s : Sem Next} (hr : Rel P ρ h w) (ha : LRel ρ args args'.toList) (H : copyA P h argTypes args = some out)
    (hrun : ∀ v' w', (Builtin.copy_ argTypes ty args').run P w = .ok v' w' → s.run P w = .ok (.value v') w') : OutOk P ρ h w id s out := by
  simp only [copyA, bnd_some] at H
  obtain ⟨t, ht, u, hu, H⟩ := H
  obtain ⟨l'⟩ := args'
  simp only at ha
  split at H
  · rename_i e ad dLen cap src
    simp only [bnd_some] at H
    obtain ⟨i, hi, sl, hsl, cells, hc, H⟩ := H
    cases ha with
    | cons hd ht1 =>
      cases ht1 with
      | cons hsr ht2 =>
        cases ht2
        rename_i d' s'
        obtain ⟨cells', l1, l2, l3⟩ := first_run hr hsr hc
        have hs : P.cellsOf e = i.size := by simp [Program.cellsOf, hi]
        have hex : ∃ ad' cap', d' = .slice (some ad') dLen cap' := by cases hd <;> exact ⟨_, _, rfl⟩
        obtain ⟨ad', cap', ed⟩ := hex
        subst ed
        split at H
        · simp only [bnd_some, intV_eq, Option.some.injEq] at H
          obtain ⟨v, hv, H⟩ := H
          cases hv; cases H
          cases l1
          refine .val (hrun _ _ ?_) (.int _ _)
          simp only [Builtin.copy_, ht, show (⟨[.slice (some ad') dLen cap', s']⟩ : Array Value)[0]? = some (.slice (some ad') dLen cap') from rfl, show (⟨[.slice (some ad') dLen cap', s']⟩ : Array Value)[1]? = some s' from rfl, Sem.run_bind, run_underlying hu, Result.andThen_ok, lenOf_run hsr hsl, run_sizeOf w hi, hs, l2]
          rfl
        · simp only [bnd_some, intV_eq, Option.some.injEq] at H
          obtain ⟨h', hw, v, hv, H⟩ := H
          cases hv; cases H
          intro hid
          have had : ARel ρ ad ad' := by
            cases hd with
            | sl o l hb hcc => exact ⟨_, hb, rfl, rfl⟩
            | slx => cases hw
          obtain ⟨w', g1, g2, g3⟩ := wrCells_rel hr had l1 hw id (id + 1)
          refine ⟨_, w', ρ, .inl (hrun _ _ ?_), .int _ _, g2, g3⟩
          simp only [Builtin.copy_, ht, show (⟨[.slice (some ad') dLen cap', s']⟩ : Array Value)[0]? = some (.slice (some ad') dLen cap') from rfl, show (⟨[.slice (some ad') dLen cap', s']⟩ : Array Value)[1]? = some s' from rfl, Sem.run_bind, run_underlying hu, Result.andThen_ok, lenOf_run hsr hsl, run_sizeOf w hi, hs, l2, g1]
          rfl
  · cases H

theorem ERel.eraseIdx {l l' : List MapEntry} (he : ERel ρ l l') : ∀ j, ERel ρ (l.eraseIdx j) (l'.eraseIdx j) := by
  induction he with
  | nil => intro j; simp; exact .nil
  | cons a b c t ih =>
    intro j
    cases j with
    | zero => exact t
    | succ j => exact .cons a b c (ih j)

theorem delete_ok {argTypes : Array TypeId} {ty : TypeId} {args : List Value} {args' : Array Value} {out : Out} {s : Sem Next} (hr : Rel P ρ h w) (ha : LRel ρ args args'.toList) (H : deleteA P h argTypes args = some out)
    (hrun : ∀ v' w', (Builtin.delete_ argTypes ty args').run P w = .ok v' w' → s.run P w = .ok (.value v') w') : OutOk P ρ h w id s out := by
  simp only [deleteA, bnd_some] at H
  obtain ⟨t, ht, u, hu, H⟩ := H
  obtain ⟨l'⟩ := args'
  simp only at ha
  split at H
  · rename_i kt et r k
    cases ha with
    | cons hm ht1 =>
      cases ht1 with
      | cons hk ht2 =>
        cases ht2
        rename_i m' k'
        obtain ⟨p, hp, em⟩ := hm.mapOf
        subst em
        split at H
        · rename_i es c hob
          obtain ⟨es', he1, he2⟩ := map_obj hr hp hob
          have hget := MapKept.run_getObj_map (P := P) he1
          simp only [bnd_some] at H
          obtain ⟨ku, hku, H⟩ := H
          split at H
          · rename_i hkt
            simp only [bnd_some] at H
            obtain ⟨f, hf, H⟩ := H
            have hc : (Instr.checkKey es'.isEmpty 10000 kt k').run P w = .ok () w := keyT_check hku hkt _ _ w 9999
            have e0 : (⟨[.map (some p.blk), k']⟩ : Array Value)[0]? = some (.map (some p.blk)) := rfl
            have e1 : (⟨[.map (some p.blk), k']⟩ : Array Value)[1]? = some k' := rfl
            rcases findE_now hk he2 hf with ⟨rfl, q2⟩ | ⟨j, v, v', e', rfl, q2, q3, q4, q5, q6⟩
            · cases H
              intro hid
              have hfk : (Instr.findKey kt k' es'.toList).run P w = .ok none w := MapKept.run_findKey hku q2
              obtain ⟨g1, g2⟩ := hr.put (o' := .map es c) (co' := .map es' c) hp hob (by simp) he1 ⟨_, rfl, he2⟩ (by simp) id (id + 1)
              have hsame : ({ w with heap := w.heap.setIfInBounds p.blk (.map es' c) } : World) = w := by rw [setIf_same he1]
              refine ⟨_, w, ρ, .inl (hrun _ _ ?_), .tuple .nil, ?_, Ext.refl _ _ _ _ _⟩
              · simp only [Builtin.delete_, ht, e0, e1, Sem.run_bind, run_underlying hu, Result.andThen_ok, hget, hc, hfk, MapKept.run_setObj_map _ he1, hsame]
                rfl
              · exact hr
            · cases H
              intro hid
              have hfk : (Instr.findKey kt k' es'.toList).run P w = .ok (some (0 + j, v')) w := MapKept.run_findKey hku q2
              obtain ⟨g1, g2⟩ := hr.put (o' := .map (es.eraseIdx (0 + j)) c) (co' := .map (es'.eraseIdxIfInBounds (0 + j)) c) hp hob (by simp) he1
                ⟨_, rfl, by
                  have hj : 0 + j < es'.size := by
                    have := (List.getElem?_eq_some_iff.1 q4).1
                    simpa using this
                  have : (es'.eraseIdxIfInBounds (0 + j)).toList = es'.toList.eraseIdx (0 + j) := by
                    simp only [Array.eraseIdxIfInBounds, hj, dif_pos, Array.toList_eraseIdx]
                  rw [this]
                  exact he2.eraseIdx _⟩ (by simp) id (id + 1)
              refine ⟨_, _, ρ, .inl (hrun _ _ ?_), .tuple .nil, g1, g2⟩
              simp only [Builtin.delete_, ht, e0, e1, Sem.run_bind, run_underlying hu, Result.andThen_ok, hget, hc, hfk, MapKept.run_setObj_map _ he1]
              rfl
          · cases H
        · cases H
  · cases H

/-! ### Calls -/

theorem callFunc_run {f : FuncId} {args : Array Value} (H : enterable P f = true) (w : World) : (callFunc f args).run P w = .ok (.enter f args) w := by
  unfold enterable at H
  split at H
  · rename_i fn hf
    simp only [Bool.and_eq_true, Bool.not_eq_true'] at H
    obtain ⟨h1, h2⟩ := H
    have h3 : fn.body.isNone = false := by cases hb : fn.body <;> simp_all
    simp only [callFunc, Sem.run_bind, run_program, Result.andThen_ok, hf, h2, h3, Bool.false_eq_true, if_false]
    rfl
  · cases H

theorem clone_next {fn : Func} (H : fn.name = "maps.clone") (Ho : fn.origin = "") : Extern.findNext fn = none ∧ Extern.find fn = some Extern.MapsClone.clone := by
  constructor
  · unfold Extern.findNext
    rw [H, Ho]
    kernel_rfl
  · unfold Extern.find
    rw [H, Ho]
    kernel_rfl

theorem clone_run {r : Nat} {es : Array MapEntry} {clock : Nat} (t : TypeId) (hb : w.heap[r]? = some (.map es clock)) :
    (Extern.MapsClone.clone #[.iface t (.map (some r))]).run P w = .ok (.iface t (.map (some w.heap.size))) (w.alloc (.map es clock)) := by
  have e : Extern.MapsClone.clone #[.iface t (.map (some r))] = (getObj r >>= fun o => match o with
      | .map entries clock => (newObj (.map entries clock) >>= fun n => pure (.iface t (.map (some n))))
      | _ => stuck "maps.clone: a map expected") := rfl
  rw [e]
  simp [MapKept.run_getObj_map hb]

theorem goFn_ok {f : FuncId} {args : List Value} {args' : Array Value} {out : Out} {s : Sem Next} (hr : Rel P ρ h w) (ha : LRel ρ args args'.toList) (H : goFn P h id f args = some out)
    (hrun : ∀ r w', (callFunc f args').run P w = .ok r w' → s.run P w = .ok r w') : OutOk P ρ h w id s out := by
  unfold goFn at H
  split at H
  · rename_i he
    cases H
    exact ⟨args', hrun _ _ (callFunc_run he w), ha⟩
  · split at H
    · rename_i hc
      unfold isClone at hc
      split at hc
      · rename_i fn hf
        simp only [Bool.and_eq_true, beq_iff_eq] at hc
        obtain ⟨h1, h2, h3⟩ := hc
        obtain ⟨n1, n2⟩ := clone_next h2 h3
        unfold cloneA at H
        split at H
        · rename_i t r
          split at H
          · rename_i es c hob
            cases H
            obtain ⟨l'⟩ := args'
            cases ha with
            | cons hv ht =>
              cases ht
              cases hv with
              | iface t hv =>
                obtain ⟨p, hp, em⟩ := hv.mapOf
                subst em
                obtain ⟨es', he1, he2⟩ := map_obj hr hp hob
                refine ⟨_, w.alloc (.map es' c), _, ⟨w.heap.size, 0, 0, none⟩, .inl (hrun _ _ ?_), grown_alloc _ _, rfl, fun ρ' q1 q2 => ⟨.iface t (.map q1), es', rfl, he2.mono q2⟩⟩
                have hnm : (fn.name == "runtime.NumGoroutine") = false := by rw [h2]; decide
                simp only [callFunc, Sem.run_bind, run_program, Result.andThen_ok, hf, hnm, h1, n1, n2, Bool.false_eq_true, if_false, if_true]
                have hmark : (mark (.extern f)).run P w = .ok () w := rfl
                have hcl := clone_run (P := P) t he1
                simp only [hmark, Result.andThen_ok, Sem.run_bind, hcl, Sem.run_pure]
          · cases H
        · cases H
      · cases hc
    · cases H

theorem method_ok {t : TypeId} {v v' : Value} {name : String} {args : List Value} {args' : Array Value} {out : Out} {s : Sem Next} (hr : Rel P ρ h w) (hv : VRel ρ v v') (ha : LRel ρ args args'.toList) (H : methodA P t v name args = some out)
    (hrun : ∀ r w', (callMethod (.iface t v') name args').run P w = .ok r w' → s.run P w = .ok r w') : OutOk P ρ h w id s out := by
  simp only [methodA, bnd_some] at H
  obtain ⟨i, hi, m, hm, u, hu, H⟩ := H
  split at H
  · rename_i f e ad hp hf
    split at H
    · rename_i he
      cases H
      obtain ⟨ad', ev, had⟩ := hv.addr
      subst ev
      refine ⟨#[.pointer (some ad')] ++ args', hrun _ _ ?_, ?_⟩
      · have hmt : (method (P.types.size + Made.depth) t (.pointer (some ad')) name).run P w = .ok (f, .pointer (some ad')) w := by
          show (method ((P.types.size + (Made.depth - 1)) + 1) t (.pointer (some ad')) name).run P w = _
          simp only [method, Sem.run_bind, run_typeInfo w hi, Result.andThen_ok, hm, hp, follow, Sem.run_pure, hf, receiverAt, run_underlying hu, Place.get]
        simp only [callMethod, Sem.run_bind, run_program, Result.andThen_ok, hmt, callFunc_run he]
      · simpa using LRel.cons hv ha
    · cases H
  · cases H

theorem builtin_ok {b : Builtin} {argTypes : Array TypeId} {ty : TypeId} {consts : Array Bool} {args : List Value} {args' : Array Value} {out : Out} {s : Sem Next} (hr : Rel P ρ h w) (hd : h.get id = none) (ha : LRel ρ args args'.toList)
    (H : builtinA P h id b argTypes args = some out) (hrun : ∀ r w', (builtin b argTypes ty consts args').run P w = .ok r w' → s.run P w = .ok r w') : OutOk P ρ h w id s out := by
  unfold builtinA at H
  split at H
  · unfold appendA at H
    split at H
    · rename_i st xt base len cap x het
      obtain ⟨l'⟩ := args'
      cases ha with
      | cons h1 ht1 =>
        cases ht1 with
        | cons h2 ht2 =>
          cases ht2
          have e : argTypes = #[st, xt] := by
            apply Array.ext'
            simpa using het
          subst e
          exact append_ok (ty := ty) hr hd h1 h2 H fun v' w' hq => hrun _ _ (by simp [builtin, hq])
    · cases H
  · simp only [bnd_some] at H
    obtain ⟨v, hv, H⟩ := H
    cases H
    obtain ⟨g1, g2⟩ := len_run (ty := ty) hr ha hv
    exact .val (hrun _ _ (by simp [builtin, g1])) g2
  · exact copy_ok (ty := ty) hr ha H fun v' w' hq => hrun _ _ (by simp [builtin, hq])
  · exact delete_ok (ty := ty) hr ha H fun v' w' hq => hrun _ _ (by simp [builtin, hq])
  · simp only [bnd_some] at H
    obtain ⟨v, hv, H⟩ := H
    cases H
    obtain ⟨g1, g2⟩ := min_run (ts := argTypes) (ty := ty) (w := w) (P := P) ha hv
    exact .val (hrun _ _ (by simp [builtin, g1])) g2
  · simp only [bnd_some] at H
    obtain ⟨v, hv, H⟩ := H
    cases H
    obtain ⟨g1, g2⟩ := max_run (ts := argTypes) (ty := ty) (w := w) (P := P) ha hv
    exact .val (hrun _ _ (by simp [builtin, g1])) g2
  · cases H

theorem sound_call {c : Call} {out : Out} {o : Oper} (ho : o.op = .call c) (hr : Rel P ρ h w) (ht : TRel ρ ts n a) (hd : h.get id = none) (H : callA P h id ts c = some out) : OutOk P ρ h w id (execOp a.eval o) out := by
  simp only [callA, bnd_some] at H
  obtain ⟨args, hargs, H⟩ := H
  have hargs := opvs_rel hr ht hargs
  have ea : (c.args.map a.eval).toList = c.args.toList.map a.eval := by simp
  rw [← ea] at hargs
  split at H
  · rename_i b hc
    exact builtin_ok (ty := o.type) (consts := (c.args.map fun | .const _ => true | _ => false)) hr hd hargs H fun r w' hq => by
      simp only [execOp, ho, resolve, hc, Sem.run_bind, Sem.run_pure, Result.andThen_ok, invoke]
      exact hq
  · rename_i f hc
    simp only [bnd_some] at H
    obtain ⟨fv, hfv, H⟩ := H
    have hfv := opv_rel hr ht hfv
    split at H
    · rename_i g first captured
      cases ef : a.eval f <;> rw [ef] at hfv <;> cases hfv
      rename_i f1 f1' c1 c1' hf1 hc1
      refine goFn_ok (args' := (⟨f1'⟩ ++ c.args.map a.eval) ++ ⟨c1'⟩) hr ?_ H fun r w' hq => ?_
      · simpa using (hf1.append hargs).append hc1
      · simp only [execOp, ho, resolve, hc, ef, Deferred.ofValue, Sem.run_bind, Sem.run_pure, Result.andThen_ok, invoke]
        exact hq
    · rename_i name first captured
      cases ef : a.eval f <;> rw [ef] at hfv <;> cases hfv
      rename_i f1 f1' c1 c1' hf1 hc1
      have hall := hf1.append hargs
      split at H
      · rename_i t v rest hl
        simp only at hl
        rw [hl] at hall
        generalize hq1 : f1' ++ (c.args.map a.eval).toList = l' at hall
        cases hall with
        | cons hv hrest =>
          cases hv with
          | iface t hv =>
            rename_i rest' v'
            refine method_ok (args' := rest'.toArray) hr hv hrest H fun r w' hq => ?_
            have earr : (⟨f1'⟩ : Array Value) ++ c.args.map a.eval = ⟨Value.iface t v' :: rest'⟩ := by
              apply Array.ext'
              simpa using hq1
            have e2 : (⟨Value.iface t v' :: rest'⟩ : Array Value).extract 1 (⟨Value.iface t v' :: rest'⟩ : Array Value).size = rest'.toArray := by
              apply Array.ext'
              simp [Array.toList_extract]
            have e3 : (⟨Value.iface t v' :: rest'⟩ : Array Value)[0]? = some (.iface t v') := rfl
            simp only [execOp, ho, resolve, hc, ef, Deferred.ofValue, Sem.run_bind, Sem.run_pure, Result.andThen_ok, invoke, earr, e2, e3]
            exact hq
      · cases H
    · cases H
  · rename_i r name hc
    simp only [bnd_some] at H
    obtain ⟨rv, hrv, H⟩ := H
    have hrv := opv_rel hr ht hrv
    split at H
    · rename_i t v _
      cases er : a.eval r <;> rw [er] at hrv <;> cases hrv
      rename_i v' hv
      refine method_ok (args' := c.args.map a.eval) hr hv hargs H fun q w' hq => ?_
      have e2 : (#[Value.iface t v'] ++ c.args.map a.eval).extract 1 (#[Value.iface t v'] ++ c.args.map a.eval).size = c.args.map a.eval := by
        apply Array.ext'
        simp [Array.toList_extract]
        exact List.take_of_length_le (by simp)
      have e3 : (#[Value.iface t v'] ++ c.args.map a.eval)[0]? = some (.iface t v') := by rw [Array.getElem?_append_left (by simp)]; rfl
      simp only [execOp, ho, resolve, hc, er, Sem.run_bind, Sem.run_pure, Result.andThen_ok, invoke, e2, e3]
      exact hq
    · cases H

theorem evOp_sound {o : Oper} {out : Out} (hr : Rel P ρ h w) (ht : TRel ρ ts n a) (hd : isNewQ o.op = true ∨ h.get id = none) (H : evOp P h id ts o = some out) : OutOk P ρ h w id (execOp a.eval o) out := by
  unfold evOp at H
  split at H
  · rename_i x ho
    rw [toVal_some] at H
    obtain ⟨v, hv, H⟩ := H
    cases H
    exact .val (by simp [execOp, ho]) (opv_rel hr ht hv)
  · rename_i x ho
    rw [toVal_some] at H
    obtain ⟨v, hv, H⟩ := H
    cases H
    exact .val (by simp [execOp, ho]) (opv_rel hr ht hv)
  · rename_i ho; exact sound_pick ho hr ht H
  · rename_i ho; exact sound_alloc ho H
  · rename_i ho; exact sound_box ho hr ht H
  · rename_i ho; exact sound_build ho hr ht H
  · rename_i ho; exact sound_buildSlice ho hr ht H
  · rename_i ho; exact sound_load ho hr ht H
  · rename_i ho; exact sound_store ho hr ht H
  · rename_i ho; exact sound_nil ho hr ht H
  · rename_i ho; exact sound_bin ho hr ht H
  · rename_i ho; exact sound_un ho hr ht H
  · rename_i ho; exact sound_conv ho hr ht H
  · rename_i ho; exact sound_ifc ho hr ht H
  · rename_i ho; exact sound_func ho hr ht H
  · rename_i ho; exact sound_makeMap (r := none) ho H
  · rename_i ho; exact sound_makeSlice ho hr ht H
  · rename_i ho; exact sound_slice ho hr ht H
  · rename_i ho; exact sound_fieldAddr ho hr ht H
  · rename_i ho; exact sound_field ho hr ht H
  · rename_i ho; exact sound_indexAddr ho hr ht H
  · rename_i ho; exact sound_index ho hr ht H
  · rename_i ho; exact sound_lookup ho hr ht H
  · rename_i ho; exact sound_upd (.inl ho) hr ht H
  · rename_i ho; exact sound_upd (.inr ho) hr ht H
  · rename_i ho; exact sound_extract ho hr ht H
  · rename_i ho; exact sound_range ho hr ht H
  · rename_i ho; exact sound_next ho hr ht H
  · rename_i ho; exact sound_assert ho hr ht H
  · rename_i ho; exact sound_call ho hr ht (hd.resolve_left (by rw [ho]; simp [isNewQ])) H
  · cases H

end Ev
end Go.Proofs.YteohlibpfgmcaaaGreatDoor
