/- The evaluator's operations against the model's. -/
import Derived.Test.YteohlibpfgmcaaaGreatDoorK2
namespace Go.Proofs.YteohlibpfgmcaaaGreatDoor
namespace Ev
open Go
set_option linter.unusedVariables false
set_option linter.unusedSimpArgs false
variable {ρ : Ren} {P : Program}

def Runs (P : Program) (s : Sem Next) (w : World) (v' : Value) (w' : World) : Prop := s.run P w = .ok (.value v') w' ∨ (s.run P w = .ok .skip w' ∧ v' = undef)

def OutOk (P : Program) (ρ : Ren) (h : Heap) (w : World) (id : Nat) (s : Sem Next) : Out → Prop
  | .val v => ∃ v', Runs P s w v' w ∧ VRel ρ v v'
  | .new v ob => ∃ v' w' co p, Runs P s w v' w' ∧ Grown w w' co ∧ p.blk = w.heap.size ∧ ∀ ρ' : Ren, ρ' id = some p → (∀ b q, ρ b = some q → ρ' b = some q) → VRel ρ' v v' ∧ ORel ρ' p ob (some co)
  | .act v h' => ρ id = none → ∃ v' w' ρ', Runs P s w v' w' ∧ VRel ρ' v v' ∧ Rel P ρ' h' w' ∧ Ext id (id + 1) ρ h w ρ' h' w'
  | .enter f args => ∃ args' : Array Value, s.run P w = .ok (.enter f args') w ∧ LRel ρ args args'.toList

theorem toVal_some {x : Option Value} {out : Out} : toVal x = some out ↔ ∃ v, x = some v ∧ .val v = out := by
  cases x with
  | none => simp [toVal]
  | some v => exact ⟨fun e => ⟨v, rfl, Option.some.inj e⟩, fun ⟨u, e1, e2⟩ => by cases e1; rw [← e2]; rfl⟩

theorem op1_some {ts : Tr Value} {x : Operand} {k : Value → Option Out} {out : Out} : op1 P ts x k = some out ↔ ∃ v, opv P ts x = some v ∧ k v = some out := by
  cases e : opv P ts x <;> simp [op1, e]
theorem op2_some {ts : Tr Value} {x y : Operand} {k : Value → Value → Option Out} {out : Out} : op2 P ts x y k = some out ↔ ∃ a b, opv P ts x = some a ∧ opv P ts y = some b ∧ k a b = some out := by
  cases e : opv P ts x <;> cases e' : opv P ts y <;> simp [op2, e, e']

section
variable {h : Heap} {w : World} {id n : Nat} {ts : Tr Value} {a : Act}

theorem OutOk.val {s : Sem Next} {v v' : Value} (hr : s.run P w = .ok (.value v') w) (hv : VRel ρ v v') : OutOk P ρ h w id s (.val v) := ⟨v', .inl hr, hv⟩

/-! ### Blocks -/

theorem run_zero {t : TypeId} {i : TypeInfo} {z : Value} (hi : P.info? t = some i) (hz : i.zero = some z) (w : World) : (zeroValue t).run P w = .ok z w := by
  simp [zeroValue, typeInfo, hi, hz]

theorem run_newRow (t : TypeId) (c : Array Value) (w : World) : (newRow t c).run P w = .ok ⟨w.heap.size, 0, none⟩ (w.alloc (.cells c t)) := by
  rfl

theorem grown_alloc (w : World) (o : Obj) : Grown w (w.alloc o) o := ⟨rfl, rfl, rfl, rfl⟩
theorem grown_drew (w : World) (o : Obj) : Grown w (w.drew.alloc o) o := ⟨rfl, rfl, rfl, rfl⟩

theorem new_row {s : Sem Next} {v' : Value} {t : TypeId} {c c' : Array Value} {g : Nat} {v : Value} {w' : World} (hr : s.run P w = .ok (.value v') w') (hg : Grown w w' (.cells c' t)) (hc : LRel ρ c.toList c'.toList)
    (hv : ∀ ρ' : Ren, ρ' id = some ⟨w.heap.size, c'.size, g, none⟩ → (∀ b q, ρ b = some q → ρ' b = some q) → VRel ρ' v v') : OutOk P ρ h w id s (.new v (mkRow g c)) :=
  ⟨v', w', _, ⟨w.heap.size, c'.size, g, none⟩, .inl hr, hg, rfl, fun ρ' h1 h2 => ⟨hv ρ' h1 h2, mkRow_rel (hc.mono h2) rfl rfl⟩⟩

theorem zeroOf_run {t : TypeId} {z : Value} (H : zeroOf P t = some z) (w : World) : (zeroValue t).run P w = .ok z w ∧ VRel ρ z z := by
  simp only [zeroOf, bnd_some] at H
  obtain ⟨i, hi, u, hu, H⟩ := H
  split at H
  · rename_i hp
    cases H
    exact ⟨run_zero hi hu w, plainV_rel hp⟩
  · cases H

theorem sound_alloc {e : TypeId} {out : Out} {ρe : Operand → Value} {o : Oper} (ho : o.op = .alloc e) (H : opAlloc P id e = some out) : OutOk P ρ h w id (execOp ρe o) out := by
  simp only [opAlloc, bnd_some] at H
  obtain ⟨z, hz, H⟩ := H
  cases H
  obtain ⟨h1, h2⟩ := zeroOf_run (ρ := ρ) hz w
  refine new_row (v' := .pointer (some ⟨w.heap.size, 0, none⟩)) (c' := z.cells) (w' := w.alloc (.cells z.cells e)) ?_ (grown_alloc _ _) h2.cells (fun ρ' h1 _ => .ptr 0 h1)
  simp [execOp, ho, Instr.alloc, h1, newVar, run_newRow]

theorem sound_box {e : TypeId} {x : Operand} {out : Out} {o : Oper} (ho : o.op = .box e x) (hr : Rel P ρ h w) (ht : TRel ρ ts n a) (H : opBox P id ts x = some out) : OutOk P ρ h w id (execOp a.eval o) out := by
  simp only [opBox, bnd_some] at H
  obtain ⟨v, hv, H⟩ := H
  cases H
  have hv := opv_rel hr ht hv
  refine new_row (v' := .pointer (some ⟨w.heap.size, 0, none⟩)) (c' := (a.eval x).cells) (w' := w.alloc (.cells (a.eval x).cells e)) ?_ (grown_alloc _ _) hv.cells (fun ρ' h1 _ => .ptr 0 h1)
  simp [execOp, ho, Instr.box, newVar, run_newRow]


theorem sound_pick {c x y : Operand} {out : Out} {o : Oper} (ho : o.op = .pick c x y) (hr : Rel P ρ h w) (ht : TRel ρ ts n a) (H : opPick P ts c x y = some out) : OutOk P ρ h w id (execOp a.eval o) out := by
  simp only [opPick, bnd_some] at H
  obtain ⟨cv, hc, xv, hx, yv, hy, H⟩ := H
  have hc := opv_rel hr ht hc
  have hx := opv_rel hr ht hx
  have hy := opv_rel hr ht hy
  split at H
  · cases H
    cases e : a.eval c <;> rw [e] at hc <;> cases hc
    exact .val (by simp [execOp, ho, e, asBool]) hx
  · cases H
    cases e : a.eval c <;> rw [e] at hc <;> cases hc
    exact .val (by simp [execOp, ho, e, asBool]) hy
  · cases H

theorem sound_load {t : TypeId} {x : Operand} {out : Out} {o : Oper} (ho : o.op = .load t x) (hr : Rel P ρ h w) (ht : TRel ρ ts n a) (H : op1 P ts x (opLoad P h t) = some out) : OutOk P ρ h w id (execOp a.eval o) out := by
  obtain ⟨v, hv, H⟩ := op1_some.1 H
  have hv := opv_rel hr ht hv
  unfold opLoad at H
  split at H
  · obtain ⟨u, hu, H⟩ := toVal_some.1 H
    cases H
    obtain ⟨a', e, ha⟩ := hv.addr
    obtain ⟨v', h1, h2⟩ := loadV_run hr ha hu
    exact .val (by simp [execOp, ho, e, Instr.loadAt, Instr.sureAddr, h1]) h2
  · cases H

theorem sound_store {t : TypeId} {x y : Operand} {out : Out} {o : Oper} (ho : o.op = .store t x y) (hr : Rel P ρ h w) (ht : TRel ρ ts n a) (H : op2 P ts x y (opStore P h t) = some out) : OutOk P ρ h w id (execOp a.eval o) out := by
  obtain ⟨v, u, hv, hu, H⟩ := op2_some.1 H
  have hv := opv_rel hr ht hv
  have hu := opv_rel hr ht hu
  unfold opStore at H
  split at H
  · simp only [bnd_some] at H
    obtain ⟨h', hs, H⟩ := H
    cases H
    obtain ⟨a', e, ha⟩ := hv.addr
    intro hid
    obtain ⟨w', h1, h2, h3⟩ := storeV_run hr ha hu hs id (id + 1)
    exact ⟨undef, w', ρ, .inr ⟨by simp [execOp, ho, e, Instr.storeAt, Instr.sureAddr, h1], rfl⟩, undef_rel, h2, h3⟩
  · cases H

theorem sound_nil {x : Operand} {out : Out} {o : Oper} (ho : o.op = .nilCheck x) (hr : Rel P ρ h w) (ht : TRel ρ ts n a) (H : op1 P ts x opNil = some out) : OutOk P ρ h w id (execOp a.eval o) out := by
  obtain ⟨v, hv, H⟩ := op1_some.1 H
  have hv := opv_rel hr ht hv
  unfold opNil at H
  split at H
  · cases H
    obtain ⟨a', e, ha⟩ := hv.addr
    exact .val (v' := .pointer (some a')) (by simp [execOp, ho, e]) (e ▸ hv)
  · cases H
    refine .val (v' := a.eval x) ?_ hv
    cases e : a.eval x <;> rw [e] at hv <;> cases hv
    simp [execOp, ho, e]
  · cases H
    refine .val (v' := a.eval x) ?_ hv
    cases e : a.eval x <;> rw [e] at hv <;> cases hv
    simp [execOp, ho, e]
  · cases H

/-! ### Numbers -/

theorem forceN_eq {β : Type} (m : Nat) (k : Nat → β) : forceN m k = k m := by cases m <;> rfl
theorem forceI_eq {β : Type} (m : Int) (k : Int → β) : forceI m k = k m := by cases m <;> simp [forceI, forceN_eq]
theorem intV_eq (k : IntKind) (m : Int) : intV k m = some (.int k m) := by simp [intV, forceI_eq]

theorem natV_eq (k : IntKind) (m : Nat) : natV k m = some (.int k (k.wrap (.ofNat m))) := by
  cases k <;> simp only [natV, forceN_eq]
  · split
    · rename_i hm
      have hm := Nat.le_of_ble_eq_true hm
      simp only [IntKind.wrap, IntKind.bits, IntKind.signed]
      simp; omega
    · rfl
  · split
    · rename_i hm
      have hm := Nat.le_of_ble_eq_true hm
      simp only [IntKind.wrap, IntKind.bits, IntKind.signed]
      simp; omega
    · rfl
  · simp only [IntKind.wrap, IntKind.bits, IntKind.signed]; simp; rfl
  · simp only [IntKind.wrap, IntKind.bits, IntKind.signed]; simp; rfl
  · simp only [IntKind.wrap, IntKind.bits, IntKind.signed]; simp; rfl

/-- what the model says of two ints of one kind -/
theorem binG_run {op : BinOp} {k : IntKind} {x y : Int} {v : Value} {t : TypeId} (h1 : op ≠ .shl) (h2 : op ≠ .shr) (H : binG op k x y = some v) : (binOp op t (.int k x) (.int k y)).run P w = .ok v w := by
  cases op <;> first | contradiction | skip
  all_goals simp only [binG, intV_eq] at H
  case quo => split at H <;> simp_all [binOp, Op.intDiv]
  case rem => split at H <;> simp_all [binOp, Op.intDiv]
  all_goals first | (cases H; simp [binOp, Op.intArith, Op.intBits, Op.intCmp]; done) | cases H

theorem binG_val {op : BinOp} {k : IntKind} {x y : Int} {v : Value} (H : binG op k x y = some v) : VRel ρ v v := by
  cases op <;> simp only [binG, intV_eq] at H <;> first | (cases H; constructor; done) | (cases H; done) | (split at H <;> cases H; constructor)

theorem wrap_mod (k : IntKind) (m : Nat) : k.wrap (Int.ofNat (m % 2 ^ k.bits)) = k.wrap (Int.ofNat m) := by
  unfold IntKind.wrap
  have : (Int.ofNat (m % 2 ^ k.bits)) % (2 ^ k.bits : Int) = (Int.ofNat m) % (2 ^ k.bits : Int) := by
    simp [Int.emod_emod_of_dvd]
  simp only [this]

theorem ofNat_toNat (k : IntKind) (m : Nat) : (BitVec.ofInt k.bits (Int.ofNat m)).toNat = m % 2 ^ k.bits := by
  simp [BitVec.toNat_ofInt]

theorem chk_some {α : Type} {b : Bool} {x : Option α} {y : α} (h : chk b x = some y) : b = true ∧ x = some y := by
  cases b <;> simp [chk] at h ⊢; exact h

theorem neg_false (m : Nat) : decide (Int.ofNat m < 0) = false := decide_eq_false (by have : (0 : Int) ≤ Int.ofNat m := Int.natCast_nonneg m; omega)
theorem succ_false (m : Nat) : decide (Int.ofNat (m + 1) = 0) = false := decide_eq_false (by intro h; have : (Int.ofNat (m + 1)) = ((m + 1 : Nat) : Int) := rfl; omega)

/-- the short cuts for numbers that are not below 0 -/
theorem binN_eq {op : BinOp} {k : IntKind} {sk : Bool} {m n : Nat} {v : Value} (H : binN op k sk m n = some v) : binZ op k sk (.ofNat m) (.ofNat n) = some v := by
  cases op <;> simp only [binN, binZ] at H ⊢
  case shl =>
    rw [natV_eq] at H
    rw [neg_false, ← H]
    simp only [intV_eq]
    congr 2
  case shr =>
    rw [forceN_eq] at H
    rw [neg_false, ← H]
    simp only [intV_eq]
    congr 2
    rw [Int.fdiv_eq_ediv_of_nonneg _ (Int.pow_nonneg (by decide))]
    simp
    rfl
  case sub =>
    obtain ⟨hs, H2⟩ := chk_some H; subst hs; clear H; have H := H2; clear H2
    simp only [chk]
    split at H
    · rename_i hle
      rw [natV_eq] at H
      rw [← H, binG, intV_eq]
      congr 3
      have := Nat.le_of_ble_eq_true hle
      exact (Int.ofNat_sub this).symm
    · exact H
  case quo =>
    obtain ⟨hs, H2⟩ := chk_some H; subst hs; clear H; have H := H2; clear H2
    simp only [chk, binG]
    cases n with
    | zero => cases H
    | succ n => rw [succ_false, intV_eq]; exact (natV_eq k _).symm.trans H
  case rem =>
    obtain ⟨hs, H2⟩ := chk_some H; subst hs; clear H; have H := H2; clear H2
    simp only [chk, binG]
    cases n with
    | zero => cases H
    | succ n => rw [succ_false, intV_eq]; exact (forceN_eq (m % (n + 1)) (fun m => some (Value.int k (Int.ofNat m)))).symm.trans H
  case and =>
    obtain ⟨hs, H2⟩ := chk_some H; subst hs; clear H; have H := H2; clear H2
    rw [natV_eq] at H
    simp only [chk, binG, intV_eq]
    rw [← H, BitVec.toNat_and, ofNat_toNat, ofNat_toNat, ← Nat.and_mod_two_pow]
    exact congrArg (fun x => some (Value.int k x)) (wrap_mod k _)
  case or =>
    obtain ⟨hs, H2⟩ := chk_some H; subst hs; clear H; have H := H2; clear H2
    rw [natV_eq] at H
    simp only [chk, binG, intV_eq]
    rw [← H, BitVec.toNat_or, ofNat_toNat, ofNat_toNat, ← Nat.or_mod_two_pow]
    exact congrArg (fun x => some (Value.int k x)) (wrap_mod k _)
  case xor =>
    obtain ⟨hs, H2⟩ := chk_some H; subst hs; clear H; have H := H2; clear H2
    rw [natV_eq] at H
    simp only [chk, binG, intV_eq]
    rw [← H, BitVec.toNat_xor, ofNat_toNat, ofNat_toNat, ← Nat.xor_mod_two_pow]
    exact congrArg (fun x => some (Value.int k x)) (wrap_mod k _)
  case add => obtain ⟨hs, H2⟩ := chk_some H; subst hs; clear H; have H := H2; clear H2; rw [natV_eq] at H; simp only [chk, binG, intV_eq]; exact H
  case mul => obtain ⟨hs, H2⟩ := chk_some H; subst hs; clear H; have H := H2; clear H2; rw [natV_eq] at H; simp only [chk, binG, intV_eq]; exact H
  case eql =>
    obtain ⟨hs, H2⟩ := chk_some H; subst hs; clear H; have H := H2; clear H2
    rw [← H]; simp only [chk, binG]
    congr 2
    rw [Bool.eq_iff_iff]; simp [Int.ofNat_inj]
  case neq =>
    obtain ⟨hs, H2⟩ := chk_some H; subst hs; clear H; have H := H2; clear H2
    rw [← H]; simp only [chk, binG]
    congr 2
    rw [Bool.eq_iff_iff]; cases hb : Nat.beq m n <;> simp [Int.ofNat_inj] <;> first | exact Nat.eq_of_beq_eq_true hb | exact Nat.ne_of_beq_eq_false hb
  case lss =>
    obtain ⟨hs, H2⟩ := chk_some H; subst hs; clear H; have H := H2; clear H2
    rw [← H]; simp only [chk, binG]
    congr 2
    rw [Bool.eq_iff_iff]; simp [Nat.succ_le_iff]
  case leq =>
    obtain ⟨hs, H2⟩ := chk_some H; subst hs; clear H; have H := H2; clear H2
    rw [← H]; simp only [chk, binG]
    congr 2
    rw [Bool.eq_iff_iff]; simp
  case gtr =>
    obtain ⟨hs, H2⟩ := chk_some H; subst hs; clear H; have H := H2; clear H2
    rw [← H]; simp only [chk, binG]
    congr 2
    rw [Bool.eq_iff_iff]; simp [Nat.succ_le_iff]
  case geq =>
    obtain ⟨hs, H2⟩ := chk_some H; subst hs; clear H; have H := H2; clear H2
    rw [← H]; simp only [chk, binG]
    congr 2
    rw [Bool.eq_iff_iff]; simp
  all_goals exact H

theorem sameK_eq {j k : IntKind} (h : sameK j k = true) : j = k := by
  revert h; cases j <;> cases k <;> decide

theorem binZ_run {op : BinOp} {k k' : IntKind} {x y : Int} {v : Value} {t : TypeId} (H : binZ op k (sameK k k') x y = some v) : (binOp op t (.int k x) (.int k' y)).run P w = .ok v w ∧ VRel ρ v v := by
  by_cases h1 : op = .shl
  · subst h1
    simp only [binZ] at H
    split at H
    · cases H
    · rename_i hd
      rw [intV_eq] at H; cases H
      exact ⟨by simp [binOp, Op.shift, of_decide_eq_false hd], .int _ _⟩
  · by_cases h2 : op = .shr
    · subst h2
      simp only [binZ] at H
      split at H
      · cases H
      · rename_i hd
        rw [intV_eq] at H; cases H
        exact ⟨by simp [binOp, Op.shift, of_decide_eq_false hd], .int _ _⟩
    · have H2 : chk (sameK k k') (binG op k x y) = some v := by
        cases op <;> first | contradiction | exact H
      obtain ⟨hk, H3⟩ := chk_some H2
      have := sameK_eq hk
      subst this
      exact ⟨binG_run h1 h2 H3, binG_val H3⟩

theorem binI_run {op : BinOp} {k k' : IntKind} {x y : Int} {v : Value} {t : TypeId} (H : binI op k (sameK k k') x y = some v) : (binOp op t (.int k x) (.int k' y)).run P w = .ok v w ∧ VRel ρ v v := by
  unfold binI at H
  split at H
  · split at H
    · exact binZ_run (binN_eq H)
    · exact binZ_run H
  · exact binZ_run H

theorem binS_run {op : BinOp} {x y : ByteArray} {v : Value} {t : TypeId} (H : binS op x y = some v) : (binOp op t (.string x) (.string y)).run P w = .ok v w ∧ VRel ρ v v := by
  cases op <;> simp only [binS] at H
  case add =>
    split at H
    · rename_i hle
      have hle := Nat.le_of_ble_eq_true hle
      cases H
      refine ⟨?_, .string _⟩
      have : ¬ (((x.size + y.size : Nat) : Int) > IntKind.i64.max) := by
        simp [IntKind.max, IntKind.signed, IntKind.bits]; omega
      simp only [binOp, Op.stringOp]
      rw [if_neg this]; rfl
    · cases H
  all_goals first | (cases H; done) | (cases H; exact ⟨by simp [binOp, Op.stringOp], .bool _⟩)

/-! ### Equality -/

theorem eqGuard_run {op : BinOp} {t : TypeId} {x y : Operand} {u v : Value} (h1 : (isConstO x || isConstO y) = true ∨ ¬ (u = .nilIface ∧ v = .nilIface)) (h2 : P.eqGuardType P.depth t = false ∨ ∀ c d, ¬ (u = .agg c ∧ v = .agg d)) :
    (eqGuard op t x y u v).run P w = .ok () w := by
  have key : ∀ op, (op = .eql ∨ op = .neq) → (eqGuard op t x y u v).run P w = .ok () w := by
    intro op hop
    unfold eqGuard
    cases u with
    | nilIface =>
      cases v with
      | nilIface =>
        rcases h1 with h1 | h1
        · rcases hop with rfl | rfl <;> (cases x <;> cases y <;> first | rfl | (simp [isConstO] at h1))
        · exact absurd ⟨rfl, rfl⟩ h1
      | _ => rcases hop with rfl | rfl <;> rfl
    | agg c =>
      cases v with
      | agg d =>
        rcases h2 with h2 | h2
        · rcases hop with rfl | rfl <;> simp [h2]
        · exact absurd ⟨rfl, rfl⟩ (h2 c d)
      | _ => rcases hop with rfl | rfl <;> rfl
    | _ => rcases hop with rfl | rfl <;> rfl
  cases op <;> first | rfl | exact key _ (.inl rfl) | exact key _ (.inr rfl)

theorem VRel.notBoth {u v u' v' : Value} (hu : VRel ρ u u') (hv : VRel ρ v v') (h : ¬ (u = .nilIface ∧ v = .nilIface)) : ¬ (u' = .nilIface ∧ v' = .nilIface) := by
  rintro ⟨rfl, rfl⟩
  cases hu; cases hv
  exact h ⟨rfl, rfl⟩

theorem VRel.notAggs {u v u' v' : Value} (hu : VRel ρ u u') (hv : VRel ρ v v') (h : ∀ c d, ¬ (u = .agg c ∧ v = .agg d)) : ∀ c d, ¬ (u' = .agg c ∧ v' = .agg d) := by
  rintro c d ⟨rfl, rfl⟩
  cases hu; cases hv
  exact h _ _ ⟨rfl, rfl⟩

theorem isRow0_row {hp : Heap} {b : Nat} (h : isRow0 hp b = true) : ∃ n z cs, hp.get b = some (.row n 0 z cs) := by
  unfold isRow0 at h
  split at h
  · rename_i n z cs e; exact ⟨n, z, cs, e⟩
  · cases h

theorem eqP_run {x y x' y' : Addr} {r : Bool} (hr : Rel P ρ h w) (hx : ARel ρ x x') (hy : ARel ρ y y') (H : eqP h x y = some r) : (sameAddr x' y').run P w = .ok r w := by
  obtain ⟨p, hp, hps, rfl⟩ := hx
  obtain ⟨q, hq, hqs, rfl⟩ := hy
  unfold eqP at H
  rw [hps, hqs] at H
  simp only at H
  split at H
  · rename_i hb
    have hb := Nat.eq_of_beq_eq_true hb
    rw [hb, hq] at hp
    cases hp
    cases H
    simp only [sameAddr, beq_self_eq_true, if_true]
    show Result.ok _ w = Result.ok _ w
    congr 1
    rw [Bool.eq_iff_iff]
    simp
  · rename_i hb
    have hb := Nat.ne_of_beq_eq_false hb
    split at H
    · rename_i hrow
      cases H
      simp only [Bool.and_eq_true] at hrow
      obtain ⟨n1, z1, c1, e1⟩ := isRow0_row hrow.1
      obtain ⟨n2, z2, c2, e2⟩ := isRow0_row hrow.2
      have hne : p.blk ≠ q.blk := fun e => hb (hr.inj _ _ _ _ hp hq (by rw [e1]; simp) (by rw [e2]; simp) e)
      obtain ⟨d1, el1, fz1, f1, _, _, _, t1, _⟩ := hr.obj _ _ _ hp e1
      obtain ⟨d2, el2, fz2, f2, _, _, _, t2, _⟩ := hr.obj _ _ _ hq e2
      have fr1 : ∀ i, w.frozen? ⟨p.blk, i, none⟩ = false := fun i => by
        simp only [World.frozen?, f1]
        have := t1 i (.inr rfl)
        by_cases h1 : fz1.1 ≤ i <;> by_cases h2 : i < fz1.2 <;> simp [h1, h2] <;> omega
      have fr2 : ∀ i, w.frozen? ⟨q.blk, i, none⟩ = false := fun i => by
        simp only [World.frozen?, f2]
        have := t2 i (.inr rfl)
        by_cases h1 : fz2.1 ≤ i <;> by_cases h2 : i < fz2.2 <;> simp [h1, h2] <;> omega
      have s1 : w.shape? p.blk = some (el1, d1.size) := by simp [World.shape?, f1]
      have s2 : w.shape? q.blk = some (el2, d2.size) := by simp [World.shape?, f2]
      have hneb : (p.blk == q.blk) = false := by simpa using hne
      simp [sameAddr, hneb, frozen, Sem.run, fr1, fr2, noView, viewAt, shape, s1, s2, mayBeOne, stringish]
    · cases H

theorem VRel.aggOf {c d : Array Value} {v : Value} (h : VRel ρ (.agg c) v) : ∃ d, v = .agg d := by cases h; exact ⟨_, rfl⟩

theorem eqA_in {t : TypeId} {x y x' y' : Value} {r : Bool} (hr : Rel P ρ h w) (hx : VRel ρ x x') (hy : VRel ρ y y') (H : eqA P h t x y = some r) (d : Nat) :
    (Op.equalIn (d + 1) t x' y').run P w = .ok r w := by
  simp only [eqA, bnd_some] at H
  obtain ⟨u, hu, H⟩ := H
  split at H
  · cases H; cases hx; cases hy
    simp [Op.equalIn, run_underlying hu]
  · cases H; cases hx
    cases hy <;> simp [Op.equalIn, run_underlying hu]
  · cases H; cases hx; cases hy
    simp [Op.equalIn, run_underlying hu]
  · rename_i e _ _
    simp only [bnd_some] at H
    obtain ⟨i, hi, H⟩ := H
    obtain ⟨x2, rfl, hx2⟩ := hx.addr
    obtain ⟨y2, rfl, hy2⟩ := hy.addr
    split at H
    · cases H
    · rename_i hs
      have hsz : P.cellsOf e ≠ 0 := by simp [Program.cellsOf, hi]; exact hs
      have := eqP_run hr hx2 hy2 H
      simp [Op.equalIn, run_underlying hu, run_sizeOf w hi, hsz, this]
  · cases H; cases hx; cases hy
    simp [Op.equalIn, run_underlying hu]
  · cases H; cases hx; cases hy
    simp [Op.equalIn, run_underlying hu]
  · cases H; cases hx
    cases hy <;> simp [Op.equalIn, run_underlying hu]
  · cases H; cases hy
    cases hx <;> simp [Op.equalIn, run_underlying hu]
  · cases H; cases hx
    cases hy <;> simp [Op.equalIn, run_underlying hu]
  · cases H; cases hx; cases hy
    simp [Op.equalIn, run_underlying hu]
  · cases H; cases hx; cases hy
    simp [Op.equalIn, run_underlying hu]
  · cases H; cases hx; cases hy
    simp [Op.equalIn, run_underlying hu]
  · cases H; cases hx; cases hy
    simp [Op.equalIn, run_underlying hu]
  · cases H

/-- not two ints, not two strings: equality goes by the type -/
def byType : Value → Value → Bool
  | .int _ _, _ => false
  | .string _, _ => false
  | .float _ _, _ => false
  | .complex _ _ _, _ => false
  | _, _ => true

theorem byType_eql {t : TypeId} {x y : Value} (h : byType x y = true) : binOp .eql t x y = (do pure (.bool (← Op.equal t x y))) := by
  cases x <;> first | rfl | (simp [byType] at h)
theorem byType_neq {t : TypeId} {x y : Value} (h : byType x y = true) : binOp .neq t x y = (do pure (.bool (!(← Op.equal t x y)))) := by
  cases x <;> first | rfl | (simp [byType] at h)

theorem eqA_run {t : TypeId} {x y x' y' : Value} {r : Bool} (hr : Rel P ρ h w) (hx : VRel ρ x x') (hy : VRel ρ y y') (H : eqA P h t x y = some r) :
    (Op.equal t x' y').run P w = .ok r w := eqA_in hr hx hy H 9999

theorem eqA_byType {t : TypeId} {x y x' : Value} {y' : Value} {r : Bool} (hx : VRel ρ x x') (H : eqA P h t x y = some r) : byType x' y' = true := by
  simp only [eqA, bnd_some] at H
  obtain ⟨u, hu, H⟩ := H
  split at H <;> first | (cases hx <;> rfl) | cases H

theorem nil_nil_run {t : TypeId} {ms : Array (String × TypeId)} (hu : P.underlying t = some (.interface ms)) (w : World) (d : Nat) : (Op.equalIn (d + 1) t .nilIface .nilIface).run P w = .ok true w := by
  simp [Op.equalIn, run_underlying hu]

theorem isIfc_ex {u : TypeDesc} (h : isIfc u = true) : ∃ ms, u = .interface ms := by
  cases u <;> simp [isIfc] at h ⊢

theorem part_run {t : TypeId} {cs cs' : Array Value} {off : Nat} {v : Value} (hc : LRel ρ cs.toList cs'.toList) (H : partA P t cs off = some v) : ∃ v', (part t cs' off).run P w = .ok v' w ∧ VRel ρ v v' := by
  simp only [partA, bnd_some] at H
  obtain ⟨d, hd, H⟩ := H
  unfold part
  simp only [Sem.run_bind, isAgg_run hd, Result.andThen_ok]
  split at H
  · rename_i hag
    simp only [bnd_some] at H
    obtain ⟨i, hi, H⟩ := H
    cases H
    have hs : P.cellsOf t = i.size := by simp [Program.cellsOf, hi]
    refine ⟨.agg (cs'.extract off (off + i.size)), by simp [hag, run_sizeOf w hi, hs], ?_⟩
    have := (hc.take (off + i.size)).drop off
    have e : ∀ c : Array Value, c.extract off (off + i.size) = ⟨(c.toList.take (off + i.size)).drop off⟩ := fun c => by
      apply Array.ext'
      simp [Array.toList_extract, List.drop_take]
    rw [e cs, e cs']
    exact .agg this
  · rename_i hag
    obtain ⟨v', h1, h2⟩ := hc.get (i := off) (v := v) (by simpa using H)
    have h1 : cs'[off]? = some v' := by simpa using h1
    exact ⟨v', by simp [hag, h1], h2⟩

theorem eqL_in {t : TypeId} {x y x' y' : Value} {r : Bool} (hr : Rel P ρ h w) (hx : VRel ρ x x') (hy : VRel ρ y y') (H : eqL P h t x y = some r) (d : Nat) :
    (Op.equalIn (d + 1) t x' y').run P w = .ok r w := by
  unfold eqL at H
  split at H
  · simp only [bnd_some] at H
    obtain ⟨u, hu, H⟩ := H
    split at H
    · split at H
      · rename_i hk
        cases H; cases hx; cases hy
        have hk := sameK_eq hk
        subst hk
        simp [Op.equalIn, run_underlying hu]
      · cases H
    · cases H
  · simp only [bnd_some] at H
    obtain ⟨u, hu, H⟩ := H
    split at H
    · cases H; cases hx; cases hy
      simp [Op.equalIn, run_underlying hu]
    · cases H
  · exact eqA_in hr hx hy H d

theorem eqFs_loop {c d c' d' : Array Value} (hr : Rel P ρ h w) (hc : LRel ρ c.toList c'.toList) (hd : LRel ρ d.toList d'.toList) (n : Nat) : ∀ (fs : List Field) (r : Bool), eqFs P h fs c d = some r →
    Sem.run P (forIn fs ((none, ()) : Option Bool × Unit) fun f __s =>
                if f.name ≠ "_" then do
                  let __do_lift ← part f.type c' f.offset
                  let __do_lift_1 ← part f.type d' f.offset
                  let __do_lift ← Op.equalIn (n + 1) f.type __do_lift __do_lift_1
                  if (!__do_lift) = true then pure (ForInStep.done (some false, ()))
                    else pure (ForInStep.yield (none, ()))
                else pure (ForInStep.yield (none, ()))) w = .ok (match r with | true => (none, ()) | false => (some false, ())) w
  | [], r, H => by cases H; simp
  | f :: fs, r, H => by
    unfold eqFs at H
    rw [List.forIn_cons]
    split at H
    · rename_i hn
      have hn : f.name = "_" := by simpa using hn
      rw [if_neg (by simp [hn])]
      simp only [Sem.run_bind, Sem.run_pure, Result.andThen_ok]
      exact eqFs_loop hr hc hd n fs r H
    · rename_i hn
      have hn : f.name ≠ "_" := by simpa using hn
      rw [if_pos hn]
      simp only [bnd_some] at H
      obtain ⟨a, ha, b, hb, q, hq, H⟩ := H
      obtain ⟨a', ha, va⟩ := part_run (w := w) hc ha
      obtain ⟨b', hb, vb⟩ := part_run (w := w) hd hb
      have he := eqL_in hr va vb hq n
      simp only [Sem.run_bind, ha, hb, he, Result.andThen_ok]
      split at H
      · simp only [Bool.not_true, Bool.false_eq_true, ↓reduceIte, Sem.run_pure, Result.andThen_ok]
        exact eqFs_loop hr hc hd n fs r H
      · cases H
        simp only [Bool.not_false, ↓reduceIte, Sem.run_pure, Result.andThen_ok]

theorem eqFs_in {c d c' d' : Array Value} (hr : Rel P ρ h w) (hc : LRel ρ c.toList c'.toList) (hd : LRel ρ d.toList d'.toList) (t : TypeId) (fs : Array Field) (hu : P.underlying t = some (.struct fs)) (hs : P.stoodInHeld t = false) {r : Bool} (H : eqFs P h fs.toList c d = some r) (n : Nat) :
    (Op.equalIn (n + 2) t (.agg c') (.agg d')).run P w = .ok r w := by
  unfold Op.equalIn
  simp only [Sem.run_bind, run_underlying hu, Result.andThen_ok]
  simp only [show Sem.run P program w = .ok P w from rfl, Result.andThen_ok, hs, Bool.false_eq_true, ↓reduceIte, Sem.run_bind, ← Array.forIn_toList]
  rw [eqFs_loop hr hc hd n _ _ H]
  cases r <;> simp
theorem aggO_run {op : BinOp} {t : TypeId} {c d c' d' : Array Value} {v : Value} (hr : Rel P ρ h w) (hc : LRel ρ c.toList c'.toList) (hd : LRel ρ d.toList d'.toList) (H : aggO P h op t c d = some v) :
    (binOp op t (.agg c') (.agg d')).run P w = .ok v w ∧ VRel ρ v v ∧ P.eqGuardType P.depth t = false := by
  unfold aggO at H
  split at H
  · rename_i g1 g2
    simp only [bnd_some] at H
    obtain ⟨u, hu, H⟩ := H
    split at H
    · rename_i fs
      simp only [bnd_some] at H
      obtain ⟨r, hq, H⟩ := H
      have he : (Op.equal t (.agg c') (.agg d')).run P w = .ok r w := eqFs_in hr hc hd t fs hu g2 hq 9998
      split at H
      · cases H
        exact ⟨by rw [byType_eql rfl]; simp [he], .bool _, g1⟩
      · cases H
        exact ⟨by rw [byType_neq rfl]; simp [he], .bool _, g1⟩
      · cases H
    · cases H
  · cases H

theorem binO_run {op : BinOp} {t : TypeId} {ko : Bool} {x y x' y' v : Value} (hr : Rel P ρ h w) (hx : VRel ρ x x') (hy : VRel ρ y y') (H : binO P h op t ko x y = some v) :
    (binOp op t x' y').run P w = .ok v w ∧ VRel ρ v v ∧ (ko = true ∨ ¬ (x = .nilIface ∧ y = .nilIface)) ∧ (P.eqGuardType P.depth t = false ∨ ∀ c d, ¬ (x = .agg c ∧ y = .agg d)) := by
  unfold binO at H
  split at H
  · cases hx; cases hy
    obtain ⟨h1, h2⟩ := binS_run (P := P) (ρ := ρ) (w := w) (t := t) H
    exact ⟨h1, h2, .inr (by simp), .inr (by simp)⟩
  · cases hx; cases hy
    split at H
    · simp only [bnd_some] at H
      obtain ⟨u, hu, H⟩ := H
      split at H
      · rename_i hi
        cases H
        obtain ⟨ms, rfl⟩ := isIfc_ex hi
        exact ⟨by rw [byType_eql rfl]; simp [show (Op.equal t .nilIface .nilIface).run P w = .ok true w from nil_nil_run hu w 9999], .bool _, .inl rfl, .inr (by simp)⟩
      · cases H
    · simp only [bnd_some] at H
      obtain ⟨u, hu, H⟩ := H
      split at H
      · rename_i hi
        cases H
        obtain ⟨ms, rfl⟩ := isIfc_ex hi
        exact ⟨by rw [byType_neq rfl]; simp [show (Op.equal t .nilIface .nilIface).run P w = .ok true w from nil_nil_run hu w 9999], .bool _, .inl rfl, .inr (by simp)⟩
      · cases H
    · cases H
  · cases hx with | agg hx => cases hy with | agg hy =>
    obtain ⟨h1, h2, h3⟩ := aggO_run hr hx hy H
    exact ⟨h1, h2, .inr (by simp), .inl h3⟩
  · rename_i hn1 hn2 hn3
    have hagg : ∀ r, eqA P h t x y = some r → ∀ c d, ¬ (x = .agg c ∧ y = .agg d) := by
      rintro r hq c d ⟨rfl, rfl⟩
      simp only [eqA, bnd_some] at hq
      obtain ⟨u, hu, hq⟩ := hq
      cases u <;> simp at hq
    unfold cmpA at H
    split at H
    · simp only [bnd_some] at H
      obtain ⟨r, hq, H⟩ := H
      cases H
      have h1 := eqA_run hr hx hy hq
      exact ⟨by rw [byType_eql (eqA_byType hx hq)]; simp [h1], .bool _, .inr (fun e => hn2 e.1 e.2), .inr (hagg r hq)⟩
    · simp only [bnd_some] at H
      obtain ⟨r, hq, H⟩ := H
      cases H
      have h1 := eqA_run hr hx hy hq
      exact ⟨by rw [byType_neq (eqA_byType hx hq)]; simp [h1], .bool _, .inr (fun e => hn2 e.1 e.2), .inr (hagg r hq)⟩
    · cases H

theorem sound_bin {op : BinOp} {t t' : TypeId} {x y : Operand} {out : Out} {o : Oper} (ho : o.op = .binOp op t x y t') (hr : Rel P ρ h w) (ht : TRel ρ ts n a)
    (H : op2 P ts x y (fun a b => toVal (binA P h op t (isConstO x || isConstO y) a b)) = some out) : OutOk P ρ h w id (execOp a.eval o) out := by
  obtain ⟨u, v, hu, hv, H⟩ := op2_some.1 H
  have hu := opv_rel hr ht hu
  have hv := opv_rel hr ht hv
  obtain ⟨r, hq, H⟩ := toVal_some.1 H
  cases H
  have key : (binOp op t (a.eval x) (a.eval y)).run P w = .ok r w ∧ VRel ρ r r ∧ ((isConstO x || isConstO y) = true ∨ ¬ (u = .nilIface ∧ v = .nilIface)) ∧ (P.eqGuardType P.depth t = false ∨ ∀ c d, ¬ (u = .agg c ∧ v = .agg d)) := by
    unfold binA at hq
    split at hq
    · split at hq
      · cases e1 : a.eval x <;> rw [e1] at hu <;> cases hu
        cases e2 : a.eval y <;> rw [e2] at hv <;> cases hv
        obtain ⟨h1, h2⟩ := binI_run (P := P) (ρ := ρ) (w := w) (t := t) hq
        exact ⟨h1, h2, .inr (by simp), .inr (by simp)⟩
      · cases hq
    · exact binO_run hr hu hv hq
  obtain ⟨k1, k2, k3, k4⟩ := key
  have hg := eqGuard_run (P := P) (w := w) (op := op) (t := t) (x := x) (y := y) (u := a.eval x) (v := a.eval y) (k3.imp (fun h => h) (hu.notBoth hv)) (k4.imp (fun h => h) (hu.notAggs hv))
  exact .val (by simp [execOp, ho, hg, k1]) k2

theorem sound_un {op : UnOp} {t : TypeId} {x : Operand} {out : Out} {o : Oper} (ho : o.op = .unOp op t x) (hr : Rel P ρ h w) (ht : TRel ρ ts n a) (H : op1 P ts x (fun a => toVal (unA op a)) = some out) : OutOk P ρ h w id (execOp a.eval o) out := by
  obtain ⟨v, hv, H⟩ := op1_some.1 H
  have hv := opv_rel hr ht hv
  obtain ⟨r, hq, H⟩ := toVal_some.1 H
  cases H
  unfold unA at hq
  split at hq
  · rw [intV_eq] at hq; cases hq
    cases e : a.eval x <;> rw [e] at hv <;> cases hv
    exact .val (by simp [execOp, ho, e, Op.unary, Op.intArith]) (.int _ _)
  · simp only [binG, intV_eq] at hq; cases hq
    cases e : a.eval x <;> rw [e] at hv <;> cases hv
    exact .val (by simp [execOp, ho, e, Op.unary, Op.intBits]) (.int _ _)
  · cases hq
    cases e : a.eval x <;> rw [e] at hv <;> cases hv
    exact .val (by simp [execOp, ho, e, Op.unary]) (.bool _)
  · cases hq
end
end Ev
end Go.Proofs.YteohlibpfgmcaaaGreatDoor
