/- What an operation yields hangs on what it reads alone. -/
import Derived.Test.YteohlibpfgmcaaaGreatDoorK10
namespace Go.Proofs.YteohlibpfgmcaaaGreatDoor
namespace Ev
open Go
set_option linter.unusedVariables false
set_option linter.unusedSimpArgs false
variable {P : Program} {h h' : Heap} {id id' : Nat} {ts : Tr Value}

theorem evOp_still {o : Oper} (hq : readsH o.op = false) : evOp P h id ts o = evOp P h' id' ts o := by
  unfold evOp
  cases ho : o.op <;> first | rfl | (rw [ho] at hq; simp [readsH] at hq)

theorem evOp_new {o : Oper} {v : Value} {ob : AObj} (hq : isNewQ o.op = true) (H : evOp P h id ts o = some (.new v ob)) : evOp P h' id ts o = some (.new v ob) := by
  unfold evOp at H ⊢
  cases ho : o.op <;> rw [ho] at hq H <;> first | (simp [isNewQ] at hq; done) | exact H | skip
  case convert s d x =>
    simp only [op1_some] at H ⊢
    obtain ⟨u, hu, H⟩ := H
    refine ⟨u, hu, ?_⟩
    unfold opConv at H ⊢
    split at H
    · exact H
    · rw [toVal_some] at H
      obtain ⟨r, _, H⟩ := H
      cases H
  case makeMap t r => cases r <;> exact H

def Le (h h' : Heap) : Prop := ∀ b o, h.get b = some o → h'.get b = some o

theorem Le.refl (h : Heap) : Le h h := fun _ _ e => e
theorem Le.trans {h h' h'' : Heap} (a : Le h h') (b : Le h' h'') : Le h h'' := fun x o e => b x o (a x o e)
theorem Le.set {h : Heap} {id : Nat} {o : AObj} (hn : h.get id = none) : Le h (h.set id o) := fun b o' e => by
  rw [Tr.get_set_ne _ _ (fun e2 => by rw [e2, hn] at e; cases e)]; exact e

theorem rdCells_mono (hl : Le h h') {a : Addr} {k : Nat} {l : List Value} (H : rdCells h a k = some l) : rdCells h' a k = some l := by
  unfold rdCells at H ⊢
  split at H
  · cases H
  · split at H
    · rename_i hb
      rw [hl _ _ hb]; exact H
    · rename_i hb
      rw [hl _ _ hb]; exact H
    · cases H

theorem loadV_mono (hl : Le h h') {t : TypeId} {a : Addr} {v : Value} (H : loadV P h t a = some v) : loadV P h' t a = some v := by
  simp only [loadV, bnd_some] at H ⊢
  obtain ⟨d, hd, H⟩ := H
  refine ⟨d, hd, ?_⟩
  split at H
  · rename_i e
    simp only [bnd_some] at H ⊢
    obtain ⟨i, hi, l, hq, H⟩ := H
    exact ⟨i, hi, l, rdCells_mono hl hq, H⟩
  · rename_i e
    simp only [bnd_some] at H ⊢
    obtain ⟨l, hq, H⟩ := H
    exact ⟨l, rdCells_mono hl hq, H⟩

theorem isRow0_mono (hl : Le h h') {b : Nat} (H : isRow0 h b = true) : isRow0 h' b = true := by
  obtain ⟨n, z, cs, e⟩ := isRow0_row H
  simp [isRow0, hl _ _ e]

theorem eqP_mono (hl : Le h h') {a b : Addr} {r : Bool} (H : eqP h a b = some r) : eqP h' a b = some r := by
  obtain ⟨b1, o1, s1⟩ := a
  obtain ⟨b2, o2, s2⟩ := b
  cases s1 <;> cases s2 <;> first | (cases H; done) | skip
  simp only [eqP] at H ⊢
  cases hb : Nat.beq b1 b2 with
  | true => rw [hb] at H; exact H
  | false =>
    rw [hb] at H
    simp only at H ⊢
    cases hc : (isRow0 h b1 && isRow0 h b2) with
    | false => rw [hc] at H; cases H
    | true =>
      rw [hc] at H
      simp only [Bool.and_eq_true] at hc
      rw [isRow0_mono hl hc.1, isRow0_mono hl hc.2]
      exact H

theorem eqA_mono (hl : Le h h') {t : TypeId} {x y : Value} {r : Bool} (H : eqA P h t x y = some r) : eqA P h' t x y = some r := by
  simp only [eqA, bnd_some] at H ⊢
  obtain ⟨u, hu, H⟩ := H
  refine ⟨u, hu, ?_⟩
  split at H <;> first | exact H | skip
  simp only [bnd_some] at H ⊢
  obtain ⟨i, hi, H⟩ := H
  refine ⟨i, hi, ?_⟩
  split at H
  · cases H
  · rename_i hs
    cases hsz : i.size with
    | zero => exact absurd hsz (by simpa using hs)
    | succ m => exact eqP_mono hl H

theorem cmpA_mono (hl : Le h h') {op : BinOp} {t : TypeId} {x y v : Value} (H : cmpA P h op t x y = some v) : cmpA P h' op t x y = some v := by
  unfold cmpA at H ⊢
  cases op <;> first | (cases H; done) | skip
  · obtain ⟨r, hq, H⟩ := bnd_some.1 H
    exact bnd_some.2 ⟨r, eqA_mono hl hq, H⟩
  · obtain ⟨r, hq, H⟩ := bnd_some.1 H
    exact bnd_some.2 ⟨r, eqA_mono hl hq, H⟩

theorem eqL_mono (hl : Le h h') {t : TypeId} {x y : Value} {r : Bool} (H : eqL P h t x y = some r) : eqL P h' t x y = some r := by
  unfold eqL at H ⊢
  split at H
  · exact H
  · exact H
  · exact eqA_mono hl H

theorem eqFs_mono (hl : Le h h') {c d : Array Value} : ∀ (fs : List Field) {r : Bool}, eqFs P h fs c d = some r → eqFs P h' fs c d = some r
  | [], r, H => H
  | f :: fs, r, H => by
    unfold eqFs at H ⊢
    split at H
    · exact eqFs_mono hl fs H
    · obtain ⟨a, ha, H⟩ := bnd_some.1 H
      obtain ⟨b, hb, H⟩ := bnd_some.1 H
      obtain ⟨q, hq, H⟩ := bnd_some.1 H
      refine bnd_some.2 ⟨a, ha, bnd_some.2 ⟨b, hb, bnd_some.2 ⟨q, eqL_mono hl hq, ?_⟩⟩⟩
      cases q with
      | true => exact eqFs_mono hl fs H
      | false => exact H

theorem aggO_mono (hl : Le h h') {op : BinOp} {t : TypeId} {c d : Array Value} {v : Value} (H : aggO P h op t c d = some v) : aggO P h' op t c d = some v := by
  unfold aggO at H ⊢
  split at H
  · obtain ⟨u, hu, H⟩ := bnd_some.1 H
    refine bnd_some.2 ⟨u, hu, ?_⟩
    split at H
    · obtain ⟨r, hq, H⟩ := bnd_some.1 H
      exact bnd_some.2 ⟨r, eqFs_mono hl _ hq, H⟩
    · cases H
  · cases H

theorem binO_mono (hl : Le h h') {op : BinOp} {t : TypeId} {k : Bool} {x y v : Value} (H : binO P h op t k x y = some v) : binO P h' op t k x y = some v := by
  unfold binO at H ⊢
  split at H
  · exact H
  · exact H
  · exact aggO_mono hl H
  · exact cmpA_mono hl H

theorem binA_mono (hl : Le h h') {op : BinOp} {t : TypeId} {k : Bool} {x y v : Value} (H : binA P h op t k x y = some v) : binA P h' op t k x y = some v := by
  unfold binA at H ⊢
  split at H
  · exact H
  · exact binO_mono hl H

theorem firstA_mono (hl : Le h h') {size n : Nat} {x : Value} {l : List Value} (H : firstA h size n x = some l) : firstA h' size n x = some l := by
  unfold firstA at H ⊢
  split at H
  · cases hq : n * size with
    | zero => simp only [hq] at H ⊢; exact H
    | succ m => simp only [hq] at H ⊢; exact rdCells_mono hl H
  · exact H
  · exact H
  · cases H

theorem convA_mono (hl : Le h h') {s d : TypeId} {x v : Value} (H : convA P h s d x = some v) : convA P h' s d x = some v := by
  simp only [convA, bnd_some] at H ⊢
  obtain ⟨us, hs, ud, hd, H⟩ := H
  refine ⟨us, hs, ud, hd, ?_⟩
  split at H <;> first | exact H | skip
  simp only [bnd_some] at H ⊢
  obtain ⟨ue, he, H⟩ := H
  refine ⟨ue, he, ?_⟩
  split at H
  · exact H
  · split at H
    · exact H
    · simp only [bnd_some] at H ⊢
      obtain ⟨l, hq, H⟩ := H
      exact ⟨l, rdCells_mono hl hq, H⟩
  · cases H

theorem lookupA_mono (hl : Le h h') {t : TypeId} {x ix v : Value} {ok : Bool} (H : lookupA P h t x ix ok = some v) : lookupA P h' t x ix ok = some v := by
  simp only [lookupA, bnd_some] at H ⊢
  obtain ⟨u, hu, H⟩ := H
  refine ⟨u, hu, ?_⟩
  split at H
  · exact H
  · split at H
    · rename_i hb
      rw [hl _ _ hb]; exact H
    · cases H
  · cases H

theorem lenB_mono (hl : Le h h') {ts : Array TypeId} {args : List Value} {v : Value} (H : lenB P h ts args = some v) : lenB P h' ts args = some v := by
  simp only [lenB, bnd_some] at H ⊢
  obtain ⟨t, ht, u, hu, H⟩ := H
  refine ⟨t, ht, u, hu, ?_⟩
  split at H <;> first | exact H | skip
  split at H
  · rename_i hb
    rw [hl _ _ hb]; exact H
  · cases H

theorem append_mono (hl : Le h h') {st xt : TypeId} {base : Option Addr} {len cap : Nat} {x v : Value} (H : appendS P h id st xt base len cap x = some (.val v)) : appendS P h' id' st xt base len cap x = some (.val v) := by
  simp only [appendS, bnd_some] at H ⊢
  obtain ⟨u, hu, H⟩ := H
  refine ⟨u, hu, ?_⟩
  split at H
  · simp only [bnd_some] at H ⊢
    obtain ⟨xu, hxu, H⟩ := H
    refine ⟨xu, hxu, ?_⟩
    split at H
    · cases H
    · rename_i e
      simp only [bnd_some] at H ⊢
      obtain ⟨i, hi, n, hn, new, hnew, z, hz, H⟩ := H
      refine ⟨i, hi, n, hn, new, firstA_mono hl hnew, z, hz, ?_⟩
      split at H
      · cases H
      · split at H
        · unfold appIn at H ⊢
          split at H
          · exact H
          · split at H
            · cases H
            · exact H
            · simp only [bnd_some] at H
              obtain ⟨_, _, H⟩ := H
              cases H
        · unfold appGrow at H
          split at H
          · split at H <;> cases H
          · split at H
            · split at H
              · simp only [bnd_some] at H
                obtain ⟨_, _, H⟩ := H
                cases H
              · cases H
            · cases H
  · cases H

theorem copy_mono (hl : Le h h') {ts : Array TypeId} {args : List Value} {v : Value} (H : copyA P h ts args = some (.val v)) : copyA P h' ts args = some (.val v) := by
  simp only [copyA, bnd_some] at H ⊢
  obtain ⟨t, ht, u, hu, H⟩ := H
  refine ⟨t, ht, u, hu, ?_⟩
  split at H
  · simp only [bnd_some] at H ⊢
    obtain ⟨i, hi, sl, hsl, cells, hc, H⟩ := H
    refine ⟨i, hi, sl, hsl, cells, firstA_mono hl hc, ?_⟩
    split at H
    · exact H
    · simp only [bnd_some] at H
      obtain ⟨_, _, _, _, H⟩ := H
      cases H
  · cases H

theorem goFn_noVal {f : FuncId} {args : List Value} {v : Value} (H : goFn P h id f args = some (.val v)) : False := by
  unfold goFn at H
  split at H
  · cases H
  · split at H
    · unfold cloneA at H
      split at H
      · split at H <;> cases H
      · cases H
    · cases H

theorem methodA_noVal {t : TypeId} {x : Value} {name : String} {args : List Value} {v : Value} (H : methodA P t x name args = some (.val v)) : False := by
  simp only [methodA, bnd_some] at H
  obtain ⟨_, _, _, _, _, _, H⟩ := H
  split at H
  · split at H <;> cases H
  · cases H

theorem callA_mono (hl : Le h h') {c : Call} {v : Value} (H : callA P h id ts c = some (.val v)) : callA P h' id' ts c = some (.val v) := by
  simp only [callA, bnd_some] at H ⊢
  obtain ⟨args, ha, H⟩ := H
  refine ⟨args, ha, ?_⟩
  split at H
  · unfold builtinA at H ⊢
    split at H
    · unfold appendA at H ⊢
      split at H
      · exact append_mono hl H
      · cases H
    · simp only [bnd_some] at H ⊢
      obtain ⟨u, hu, H⟩ := H
      exact ⟨u, lenB_mono hl hu, H⟩
    · exact copy_mono hl H
    · exfalso
      simp only [deleteA, bnd_some] at H
      obtain ⟨_, _, _, _, H⟩ := H
      split at H
      · split at H
        · simp only [bnd_some] at H
          obtain ⟨_, _, H⟩ := H
          split at H
          · simp only [bnd_some] at H
            obtain ⟨f, _, H⟩ := H
            split at H <;> cases H
          · cases H
        · cases H
      · cases H
    · exact H
    · exact H
    · cases H
  · simp only [bnd_some] at H ⊢
    obtain ⟨fv, hf, H⟩ := H
    exfalso
    split at H
    · exact goFn_noVal H
    · split at H
      · exact methodA_noVal H
      · cases H
    · cases H
  · simp only [bnd_some] at H ⊢
    obtain ⟨fv, hf, H⟩ := H
    exfalso
    split at H
    · exact methodA_noVal H
    · cases H

theorem evOp_mono (hl : Le h h') {o : Oper} {v : Value} (H : evOp P h id ts o = some (.val v)) : evOp P h' id' ts o = some (.val v) := by
  cases hq : readsH o.op with
  | false => rw [← H]; exact evOp_still hq
  | true =>
    unfold evOp at H ⊢
    cases ho : o.op <;> rw [ho] at hq H <;> first | (simp [readsH] at hq; done) | (cases H; done) | skip
    case alloc e => simp only [opAlloc, bnd_some] at H; obtain ⟨_, _, H⟩ := H; cases H
    case box e x => simp only [opBox, bnd_some] at H; obtain ⟨_, _, H⟩ := H; cases H
    case buildSlice t l p =>
      simp only [bnd_some, sliceLit] at H
      obtain ⟨_, _, _, _, H⟩ := H
      split at H
      · simp only [bnd_some] at H
        obtain ⟨_, _, _, _, H⟩ := H
        split at H
        · simp only [bnd_some] at H; obtain ⟨_, _, H⟩ := H; cases H
        · cases H
      · cases H
    case insert t m k x => simp only [opUpd, bnd_some] at H; obtain ⟨_, _, _, _, _, _, _, _, H⟩ := H; cases H
    case mapUpdate t m k x => simp only [opUpd, bnd_some] at H; obtain ⟨_, _, _, _, _, _, _, _, H⟩ := H; cases H
    case load t x =>
      simp only [op1_some] at H ⊢
      obtain ⟨u, hu, H⟩ := H
      refine ⟨u, hu, ?_⟩
      unfold opLoad at H ⊢
      split at H
      · rw [toVal_some] at H ⊢
        obtain ⟨r, hr, H⟩ := H
        exact ⟨r, loadV_mono hl hr, H⟩
      · cases H
    case store t x y =>
      simp only [op2_some] at H
      obtain ⟨_, _, _, _, H⟩ := H
      unfold opStore at H
      split at H
      · simp only [bnd_some] at H; obtain ⟨_, _, H⟩ := H; cases H
      · cases H
    case binOp op t x y t' =>
      simp only [op2_some, toVal_some] at H ⊢
      obtain ⟨u, u', hu, hu', r, hr, H⟩ := H
      exact ⟨u, u', hu, hu', r, binA_mono hl hr, H⟩
    case convert s d x =>
      simp only [op1_some] at H ⊢
      obtain ⟨u, hu, H⟩ := H
      refine ⟨u, hu, ?_⟩
      unfold opConv at H ⊢
      split at H
      · simp only [strBytes, bnd_some] at H
        obtain ⟨_, _, _, _, H⟩ := H
        split at H
        · simp only [bnd_some] at H
          obtain ⟨_, _, H⟩ := H
          split at H <;> cases H
        · cases H
      · rename_i hno
        rw [toVal_some] at H
        obtain ⟨r, hr, H⟩ := H
        cases H
        exact toVal_some.2 ⟨_, convA_mono hl hr, rfl⟩
    case makeMap t r => cases r <;> cases H
    case makeSlice t l c =>
      simp only [op2_some, makeSl, bnd_some] at H
      obtain ⟨_, _, _, _, _, _, H⟩ := H
      split at H
      · simp only [bnd_some] at H
        obtain ⟨_, _, _, _, H⟩ := H
        split at H <;> cases H
      · cases H
    case lookup t x ix ok =>
      simp only [op2_some, toVal_some] at H ⊢
      obtain ⟨u, u', hu, hu', r, hr, H⟩ := H
      exact ⟨u, u', hu, hu', r, lookupA_mono hl hr, H⟩
    case range t x =>
      simp only [op1_some, opRange, bnd_some] at H
      obtain ⟨_, _, _, _, H⟩ := H
      split at H <;> cases H
    case next x isS =>
      simp only [op1_some] at H ⊢
      obtain ⟨u, hu, H⟩ := H
      refine ⟨u, hu, ?_⟩
      unfold opNext at H ⊢
      split at H
      · split at H
        · unfold nextA at H ⊢
          split at H
          · rename_i hb
            rw [hl _ _ hb]
            simp only
            split at H
            · rw [forceI_eq, forceN_eq, intV_eq] at H; cases H
            · exact H
          · cases H
        · cases H
      · cases H
    case typeAssert x t t' ok => exact H
    case call c => exact callA_mono hl H

/-! ### Equal by the test -/

theorem veqS_eq {a b : Value} (h : veqS a b = true) : a = b := by
  unfold veqS at h
  split at h <;> first | rfl | (cases h; done) | skip
  · simp at h; rw [h]
  · simp at h; rw [h.1, h.2]
  · simp at h; congr 1; exact ByteArray.ext h
  · rename_i x y
    simp only [Bool.and_eq_true, decide_eq_true_eq] at h
    obtain ⟨⟨h1, h2⟩, h3⟩ := h
    obtain ⟨b1, o1, s1⟩ := x
    obtain ⟨b2, o2, s2⟩ := y
    have := Nat.eq_of_beq_eq_true h1
    have := Nat.eq_of_beq_eq_true h2
    simp_all
  · simp only [Bool.and_eq_true] at h
    rw [Nat.eq_of_beq_eq_true h.1, Nat.eq_of_beq_eq_true h.2]
  · rename_i x a b y c d
    simp only [Bool.and_eq_true, decide_eq_true_eq] at h
    obtain ⟨⟨⟨⟨h1, h2⟩, h3⟩, h4⟩, h5⟩ := h
    obtain ⟨b1, o1, s1⟩ := x
    obtain ⟨b2, o2, s2⟩ := y
    have := Nat.eq_of_beq_eq_true h1
    have := Nat.eq_of_beq_eq_true h2
    have := Nat.eq_of_beq_eq_true h4
    have := Nat.eq_of_beq_eq_true h5
    simp_all
  · rw [Nat.eq_of_beq_eq_true h]

theorem veqL_eq : ∀ {a b : List Value}, veqL a b = true → a = b
  | [], [], _ => rfl
  | [], _ :: _, h => by cases h
  | _ :: _, [], h => by cases h
  | x :: a, y :: b, h => by
    simp only [veqL, Bool.and_eq_true] at h
    rw [veqS_eq h.1, veqL_eq h.2]

theorem veq_eq {a b : Value} (h : veq a b = true) : a = b := by
  unfold veq at h
  split at h
  · congr 1; exact Array.ext' (veqL_eq h)
  · congr 1; exact Array.ext' (veqL_eq h)
  · simp only [Bool.and_eq_true] at h
    rw [Nat.eq_of_beq_eq_true h.1, veqS_eq h.2]
  · simp only [Bool.and_eq_true, decide_eq_true_eq] at h
    obtain ⟨⟨h1, h2⟩, h3⟩ := h
    rw [h1, Array.ext' (veqL_eq h2), Array.ext' (veqL_eq h3)]
  · exact veqS_eq h

theorem sameOut_eq {o : Oper} {v : Value} (H : sameOut P h ts o v = true) : evOp P h 0 ts o = some (.val v) := by
  unfold sameOut at H
  rw [evOpF_eq] at H
  split at H
  · rename_i u hu
    rw [veq_eq H] at hu
    exact hu
  · cases H

theorem Tr.ends {α : Type} (t : Tr α) : ∃ N, ∀ m, N ≤ m → t.get m = none := by
  induction t with
  | lf => exact ⟨0, fun _ _ => rfl⟩
  | nd l v r ihl ihr =>
    obtain ⟨a, ha⟩ := ihl
    obtain ⟨b, hb⟩ := ihr
    refine ⟨2 * (a + b) + 3, fun m hm => ?_⟩
    cases m with
    | zero => omega
    | succ m =>
      rw [Tr.get_nd]
      rcases Nat.mod_two_eq_zero_or_one m with e | e
      · rw [Tr.getS_even _ _ _ e]; exact ha _ (by omega)
      · rw [Tr.getS_odd _ _ _ e]; exact hb _ (by omega)

/-- an operation that yields a value and leaves memory as it is -/
theorem evOp_sound_val {ρ : Ren} {w : World} {n : Nat} {a : Act} {o : Oper} {v : Value} (hr : Rel P ρ h w) (ht : TRel ρ ts n a) (H : evOp P h id ts o = some (.val v)) : ∃ v', Runs P (execOp a.eval o) w v' w ∧ VRel ρ v v' := by
  obtain ⟨N, hN⟩ := h.ends
  exact evOp_sound hr ht (.inr (hN N (Nat.le_refl _))) (evOp_mono (id' := N) (Le.refl h) H)

end Ev
end Go.Proofs.YteohlibpfgmcaaaGreatDoor
