/- The evaluator's operations against the model's: maps, composite values. -/
import Derived.Test.YteohlibpfgmcaaaGreatDoorK6
namespace Go.Proofs.YteohlibpfgmcaaaGreatDoor
namespace Ev
open Go
set_option linter.unusedVariables false
set_option linter.unusedSimpArgs false
variable {ρ : Ren} {P : Program} {h : Heap} {w : World} {id n : Nat} {ts : Tr Value} {a : Act}

/-! ### Maps -/

def stays : Value → Bool
  | .int _ _ => true
  | .string _ => true
  | .bool _ => true
  | _ => false

theorem stays_run {k : Value} (h : stays k = true) (w : World) : (Instr.keyThatStays k k).run P w = .ok k w := by
  have : Instr.sameBits 10000 k k = true := by
    cases k <;> first | (simp [stays] at h; done) | skip
    · simp [Instr.sameBits]
    · simp [Instr.sameBits]
    · simp [Instr.sameBits, MapKept.bytes_beq]
  simp [Instr.keyThatStays, this]

theorem keyEq_now {u : TypeDesc} {x y x' y' : Value} {b : Bool} (hx : VRel ρ x x') (hy : VRel ρ y y') (H : keyEq u x y = some b) : Instr.sameNow u x' y' = some b ∧ (b = true → x' = x ∧ y' = x ∧ stays x = true) := by
  unfold keyEq at H
  split at H
  · split at H
    · rename_i hk
      have hk := of_decide_eq_true hk
      cases H; cases hx; cases hy
      subst hk
      refine ⟨by simp [Instr.sameNow], fun e => ⟨rfl, ?_, rfl⟩⟩
      rw [eq_of_beq e]
    · cases H
  · cases H; cases hx; cases hy
    refine ⟨by simp [Instr.sameNow], fun e => ⟨rfl, ?_, rfl⟩⟩
    rw [(MapKept.bytes_beq _ _).1 e]
  · cases H; cases hx; cases hy
    refine ⟨by simp [Instr.sameNow], fun e => ⟨rfl, ?_, rfl⟩⟩
    rw [eq_of_beq e]
  · cases H

theorem findE_now {u : TypeDesc} {k k' : Value} (hk : VRel ρ k k') : ∀ {es es' : List MapEntry} {i : Nat} {r : Option (Nat × Value)}, ERel ρ es es' → findE u k es i = some r →
    (r = none ∧ Instr.findNow u k' es' i = some none) ∨
    (∃ j v v' e', r = some (i + j, v) ∧ Instr.findNow u k' es' i = some (some (i + j, v')) ∧ VRel ρ v v' ∧ es'[j]? = some e' ∧ e'.key = k' ∧ stays k' = true)
  | [], es', i, r, he, H => by
    cases he
    simp [findE] at H
    exact .inl ⟨H.symm, rfl⟩
  | e :: es, es', i, r, he, H => by
    cases he with
    | cons hke hve hb ht =>
      simp only [findE, bnd_some] at H
      obtain ⟨b, hq, H⟩ := H
      obtain ⟨h1, h2⟩ := keyEq_now hk hke hq
      split at H
      · cases H
        obtain ⟨g1, g2, g3⟩ := h2 rfl
        exact .inr ⟨0, _, _, _, rfl, by simp [Instr.findNow, h1], hve, rfl, by rw [g1, g2], by rw [g1]; exact g3⟩
      · rcases findE_now hk ht H with ⟨q1, q2⟩ | ⟨j, v, v', e', q1, q2, q3, q4, q5, q6⟩
        · exact .inl ⟨q1, by simp [Instr.findNow, h1, q2]⟩
        · exact .inr ⟨j + 1, v, v', e', by rw [q1]; congr 2; omega, by simp [Instr.findNow, h1, q2]; omega, q3, by simpa using q4, q5, q6⟩

theorem keyT_check {u : TypeDesc} {kt : TypeId} (hu : P.underlying kt = some u) (hk : keyT u = true) (e : Bool) (k : Value) (w : World) (d : Nat) : (Instr.checkKey e (d + 1) kt k).run P w = .ok () w := by
  unfold Instr.checkKey
  simp only [Sem.run_bind, run_underlying hu, Result.andThen_ok]
  cases u <;> first | (simp [keyT] at hk; done) | rfl

theorem map_obj (hr : Rel P ρ h w) {r : Nat} {p : Pl} (hp : ρ r = some p) {es : List MapEntry} {c : Nat} (ho : h.get r = some (.map es c)) : ∃ es', w.heap[p.blk]? = some (.map es' c) ∧ ERel ρ es es'.toList := hr.obj _ _ _ hp ho

theorem VRel.mapOf {r : Nat} {v : Value} (hv : VRel ρ (.map (some r)) v) : ∃ p, ρ r = some p ∧ v = .map (some p.blk) := by
  cases hv with
  | map h => exact ⟨_, h, rfl⟩

theorem sound_lookup {t : TypeId} {x ix : Operand} {ok : Bool} {out : Out} {o : Oper} (ho : o.op = .lookup t x ix ok) (hr : Rel P ρ h w) (ht : TRel ρ ts n a) (H : op2 P ts x ix (fun xv iv => toVal (lookupA P h t xv iv ok)) = some out) : OutOk P ρ h w id (execOp a.eval o) out := by
  rw [op2_some] at H
  obtain ⟨v, u, hv0, hu0, H⟩ := H
  have hv := opv_rel hr ht hv0
  have hi := opv_rel hr ht hu0
  clear hv0 hu0
  rw [toVal_some] at H
  obtain ⟨r, hq, H⟩ := H
  cases H
  simp only [lookupA, bnd_some] at hq
  obtain ⟨u, hu, hq⟩ := hq
  split at hq
  · rename_i kt et
    simp only [bnd_some] at hq
    obtain ⟨ku, hku, hq⟩ := hq
    cases ex : a.eval x <;> rw [ex] at hv <;> cases hv
    split at hq
    · rename_i hk
      simp only [bnd_some] at hq
      obtain ⟨z, hz, hq⟩ := hq
      cases hq
      refine .val ?_ (okV_rel (zeroOf_run hz w).2)
      have hc : (Instr.checkKey true 10000 kt (a.eval ix)).run P w = .ok () w := keyT_check hku hk true _ w 9999
      have hf : (Instr.findKey kt (a.eval ix) []).run P w = .ok none w := MapKept.run_findKey hku rfl
      simp [execOp, ho, ex, Instr.lookup, run_underlying hu, hc, hf, (zeroOf_run (ρ := ρ) hz w).1]
    · cases hq
  · rename_i kt et b
    obtain ⟨p, hp, ex⟩ := hv.mapOf
    split at hq
    · rename_i es c hob
      obtain ⟨es', he1, he2⟩ := map_obj hr hp hob
      have hget := MapKept.run_getObj_map (P := P) he1
      simp only [bnd_some] at hq
      obtain ⟨ku, hku, hq⟩ := hq
      split at hq
      · rename_i hk
        simp only [bnd_some] at hq
        obtain ⟨f, hf, hq⟩ := hq
        have hc : (Instr.checkKey es'.isEmpty 10000 kt (a.eval ix)).run P w = .ok () w := keyT_check hku hk _ _ w 9999
        rcases findE_now hi he2 hf with ⟨rfl, q2⟩ | ⟨j, v, v', e', rfl, q2, q3, _⟩
        · simp only [bnd_some] at hq
          obtain ⟨z, hz, hq⟩ := hq
          cases hq
          refine .val ?_ (okV_rel (zeroOf_run hz w).2)
          have hf : (Instr.findKey kt (a.eval ix) es'.toList).run P w = .ok none w := MapKept.run_findKey hku q2
          simp [execOp, ho, ex, Instr.lookup, run_underlying hu, hget, hc, hf, (zeroOf_run (ρ := ρ) hz w).1]
        · cases hq
          refine .val ?_ (okV_rel q3)
          have hf : (Instr.findKey kt (a.eval ix) es'.toList).run P w = .ok (some (0 + j, v')) w := MapKept.run_findKey hku q2
          simp [execOp, ho, ex, Instr.lookup, run_underlying hu, hget, hc, hf]
      · cases hq
    · cases hq
  · cases hq

theorem ERel.append {l l' m m' : List MapEntry} (h1 : ERel ρ l l') (h2 : ERel ρ m m') : ERel ρ (l ++ m) (l' ++ m') := by
  induction h1 with
  | nil => exact h2
  | cons a b c _ ih => exact .cons a b c ih

theorem ERel.modify {l l' : List MapEntry} {v v' : Value} (he : ERel ρ l l') (hv : VRel ρ v v') : ∀ (j : Nat) (k : Value), (∀ e', l'[j]? = some e' → e'.key = k) → ERel ρ (modE v l j) (l'.modify j fun e => { e with key := k, val := v' }) := by
  induction he with
  | nil => intro j k _; simp [modE]; exact .nil
  | cons a b c t ih =>
    intro j k hk
    cases j with
    | zero =>
      have := hk _ rfl
      simp only [modE, List.modify_zero_cons]
      exact .cons (by rw [← this]; exact a) hv c t
    | succ j =>
      simp only [modE, List.modify_succ_cons]
      exact .cons a b c (ih j k fun e' he' => hk e' (by simpa using he'))

theorem upd_run {t : TypeId} {m k x : Value} {m' k' x' : Value} {h' : Heap} (hr : Rel P ρ h w) (hm : VRel ρ m m') (hk : VRel ρ k k') (hx : VRel ρ x x') (H : updateA P h t m k x = some h') (lo hi : Nat) :
    ∃ w', (Instr.mapUpdate t m' k' x').run P w = .ok () w' ∧ Rel P ρ h' w' ∧ Ext lo hi ρ h w ρ h' w' := by
  simp only [updateA, bnd_some] at H
  obtain ⟨u, hu, H⟩ := H
  split at H
  · rename_i kt et r
    obtain ⟨p, hp, em⟩ := hm.mapOf
    subst em
    split at H
    · rename_i es c hob
      obtain ⟨es', he1, he2⟩ := map_obj hr hp hob
      have hget := MapKept.run_getObj_map (P := P) he1
      simp only [bnd_some] at H
      obtain ⟨ku, hku, H⟩ := H
      split at H
      · rename_i hkt
        simp only [bnd_some] at H
        obtain ⟨f, hf, H⟩ := H
        have hc : (Instr.checkKey false 10000 kt k').run P w = .ok () w := keyT_check hku hkt _ _ w 9999
        rcases findE_now hk he2 hf with ⟨rfl, q2⟩ | ⟨j, v, v', e', rfl, q2, q3, q4, q5, q6⟩
        · cases H
          have hfk : (Instr.findKey kt k' es'.toList).run P w = .ok none w := MapKept.run_findKey hku q2
          obtain ⟨g1, g2⟩ := hr.put (o' := .map (es ++ [{ key := k, val := x, born := c }]) (c + 1)) (co' := .map (es'.push { key := k', val := x', born := c }) (c + 1)) hp hob (by simp) he1
            ⟨_, rfl, by simpa using he2.append (ERel.cons (e := { key := k, val := x, born := c }) (e' := { key := k', val := x', born := c }) hk hx rfl .nil)⟩ (by simp) lo hi
          refine ⟨_, ?_, g1, g2⟩
          simp [Instr.mapUpdate, run_underlying hu, hget, hc, hfk, MapKept.run_setObj_map _ he1]
        · cases H
          have hfk : (Instr.findKey kt k' es'.toList).run P w = .ok (some (j, v')) w := by simpa using MapKept.run_findKey hku q2
          have hj : es'[j]? = some e' := by simpa using q4
          have hstay := stays_run (P := P) q6 w
          obtain ⟨g1, g2⟩ := hr.put (o' := .map (modE x es (0 + j)) c) (co' := .map (es'.modify j fun e => { e with key := k', val := x' }) c) hp hob (by simp) he1
            ⟨_, rfl, by
              have := he2.modify hx j k' (fun e2 h2 => by rw [q4] at h2; cases h2; exact q5)
              simpa [Array.toList_modify] using this⟩ (by simp) lo hi
          refine ⟨_, ?_, g1, g2⟩
          simp [Instr.mapUpdate, run_underlying hu, hget, hc, hfk, hj, q5, hstay, MapKept.run_setObj_map _ he1]
      · cases H
    · cases H
  · cases H

theorem sound_upd {t : TypeId} {m k x : Operand} {out : Out} {o : Oper} (ho : o.op = .mapUpdate t m k x ∨ o.op = .insert t m k x) (hr : Rel P ρ h w) (ht : TRel ρ ts n a) (H : opUpd P h ts t m k x = some out) : OutOk P ρ h w id (execOp a.eval o) out := by
  simp only [opUpd, bnd_some] at H
  obtain ⟨mv, hm, kv, hk, xv, hx, h', hq, H⟩ := H
  cases H
  intro hid
  obtain ⟨w', h1, h2, h3⟩ := upd_run hr (opv_rel hr ht hm) (opv_rel hr ht hk) (opv_rel hr ht hx) hq id (id + 1)
  refine ⟨undef, w', ρ, .inr ⟨?_, rfl⟩, undef_rel, h2, h3⟩
  rcases ho with ho | ho <;> simp [execOp, ho, h1]

end Ev
end Go.Proofs.YteohlibpfgmcaaaGreatDoor
