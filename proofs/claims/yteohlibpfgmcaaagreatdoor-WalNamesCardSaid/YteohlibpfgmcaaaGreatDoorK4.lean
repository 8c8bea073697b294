/- The evaluator's operations against the model's: the rest that lies in one function or another. -/
import Derived.Test.YteohlibpfgmcaaaGreatDoorK3
import Derived.MapKept
import Derived.Laws.MakeOwn
import Derived.Laws.Slices
import Derived.Deep.AppendSrc
import Derived.Laws.IdiomStrings
import Derived.Laws.RangeString
namespace Go.Proofs.YteohlibpfgmcaaaGreatDoor
namespace Ev
open Go
set_option linter.unusedVariables false
set_option linter.unusedSimpArgs false
variable {ρ : Ren} {P : Program} {h : Heap} {w : World} {id n : Nat} {ts : Tr Value} {a : Act}

theorem sound_ifc {t : TypeId} {x : Operand} {out : Out} {o : Oper} (ho : o.op = .makeInterface t x) (hr : Rel P ρ h w) (ht : TRel ρ ts n a) (H : op1 P ts x (opIfc P t) = some out) : OutOk P ρ h w id (execOp a.eval o) out := by
  obtain ⟨v, hv, H⟩ := op1_some.1 H
  have hv := opv_rel hr ht hv
  simp only [opIfc, bnd_some] at H
  obtain ⟨u, hu, H⟩ := H
  split at H
  · cases H
  · rename_i hi
    cases H
    refine .val (v' := .iface t (a.eval x)) ?_ (.iface t hv)
    cases u <;> first | (simp [isIfc] at hi; done) | simp [execOp, ho, Instr.makeInterface, run_underlying hu]

theorem opvs_rel (hr : Rel P ρ h w) (ht : TRel ρ ts n a) : ∀ {xs : List Operand} {l : List Value}, opvs P ts xs = some l → LRel ρ l (xs.map a.eval)
  | [], l, H => by simp [opvs] at H; subst H; exact .nil
  | x :: xs, l, H => by
    simp only [opvs, bnd_some] at H
    obtain ⟨v, hv, r, hl, H⟩ := H
    cases H
    exact .cons (opv_rel hr ht hv) (opvs_rel hr ht hl)

theorem sound_func {fn : Fn} {first captured : Array Operand} {out : Out} {o : Oper} (ho : o.op = .makeFunc fn first captured) (hr : Rel P ρ h w) (ht : TRel ρ ts n a) (H : opFunc P ts fn first captured = some out) : OutOk P ρ h w id (execOp a.eval o) out := by
  simp only [opFunc, bnd_some] at H
  obtain ⟨f, hf, c, hc, H⟩ := H
  cases H
  have hf := opvs_rel hr ht hf
  have hc := opvs_rel hr ht hc
  refine .val (v' := .func fn ⟨first.toList.map a.eval⟩ ⟨captured.toList.map a.eval⟩) ?_ (.func fn hf hc)
  have e1 : first.map a.eval = ⟨first.toList.map a.eval⟩ := by apply Array.ext'; simp
  have e2 : captured.map a.eval = ⟨captured.toList.map a.eval⟩ := by apply Array.ext'; simp
  simp only [execOp, ho, Instr.makeFunc, e1, e2]
  rfl

theorem sound_makeMap {t : TypeId} {r : Option Operand} {out : Out} {ρe : Operand → Value} {o : Oper} (ho : o.op = .makeMap t r) (H : opMakeMap id r = some out) : OutOk P ρ h w id (execOp ρe o) out := by
  cases r with
  | some r => cases H
  | none =>
    cases H
    exact ⟨.map (some w.heap.size), w.alloc (.map #[] 0), _, ⟨w.heap.size, 0, 0, none⟩, .inl (by simp only [execOp, ho]; rfl), grown_alloc _ _, rfl, fun ρ' h1 _ => ⟨.map h1, #[], rfl, .nil⟩⟩

theorem madeCells_get {z : Array Value} (m : Nat) (hz : 0 < z.size) {i : Nat} (hi : i < m) : (madeCells z m)[i]? = z[i % z.size]? := by
  have := Nat.mod_lt i hz
  simp [madeCells, hi, this]

theorem sound_makeSlice {t : TypeId} {l c : Operand} {out : Out} {o : Oper} (ho : o.op = .makeSlice t l c) (hr : Rel P ρ h w) (ht : TRel ρ ts n a) (H : op2 P ts l c (makeSl P t id) = some out) : OutOk P ρ h w id (execOp a.eval o) out := by
  obtain ⟨lv, cv, hl, hc, H⟩ := op2_some.1 H
  have hl := opv_rel hr ht hl
  have hc := opv_rel hr ht hc
  simp only [makeSl, bnd_some] at H
  obtain ⟨u, hu, H⟩ := H
  split at H
  · rename_i e kl l0 kc c0 _ _
    simp only [bnd_some] at H
    obtain ⟨i, hi, z, hz, H⟩ := H
    split at H
    · rename_i hcond
      simp only [Bool.and_eq_true] at hcond
      obtain ⟨⟨⟨⟨hp, h1⟩, h2⟩, h3⟩, h4⟩ := hcond
      have h1 := Nat.le_of_ble_eq_true h1
      have h2 := Nat.le_of_ble_eq_true h2
      have h3 := Nat.le_of_ble_eq_true h3
      have h4 := Nat.eq_of_beq_eq_true h4
      cases H
      cases e1 : a.eval l <;> rw [e1] at hl <;> cases hl
      cases e2 : a.eval c <;> rw [e2] at hc <;> cases hc
      have hprod : i.bytes * c0 ≤ 1000000 * 1000000 := Nat.mul_le_mul h3 h2
      have hb : (i.bytes : Int) * Int.ofNat c0 ≤ 281474976710656 := by
        have : (i.bytes : Int) * Int.ofNat c0 = ((i.bytes * c0 : Nat) : Int) := by simp
        rw [this]; omega
      have hrun := run_make (P := P) w t e i z hu hi hz kl kc (Int.ofNat l0) (Int.ofNat c0) (Int.natCast_nonneg _) (by simpa using h1) hb (by simp; omega)
      refine ⟨_, _, _, ⟨w.heap.size, c0 * i.size, i.size, none⟩, .inl (by simp only [execOp, ho, e1, e2, Sem.run_bind, hrun, Result.andThen_ok]; rfl), grown_alloc _ _, rfl, fun ρ' q1 q2 => ⟨.sl 0 _ q1 (.inl rfl), ?_⟩⟩
      refine ⟨_, e, (0, 0), rfl, by simp [madeCells], Nat.le_refl _, rfl, fun _ _ h => by omega, fun j v hv => ?_⟩
      unfold cellAt at hv
      split at hv
      · rename_i hj
        have hj := Nat.le_of_ble_eq_true hj
        rw [Tr.get_lf] at hv
        have hz0 : 0 < z.cells.size := by
          rw [h4]
          rcases Nat.eq_zero_or_pos i.size with e0 | e0
          · rw [e0] at hj; simp at hj
          · exact e0
        simp only [Int.toNat_natCast, show (Int.ofNat c0).toNat = c0 from rfl]
        rw [madeCells_get _ hz0 (by omega)]
        have hzr : LRel ρ' z.cells.toList z.cells.toList := (plainV_rel (ρ := ρ') hp).cells
        obtain ⟨v', g1, g2⟩ := hzr.get (i := j % z.cells.size) (v := v) (by simpa using hv)
        exact ⟨v', by simpa using g1, g2⟩
      · cases hv
    · cases H
  · cases H

/-! ### Slices -/

inductive ORelV (ρ : Ren) : Option Value → Option Value → Prop
  | none : ORelV ρ none none
  | some {v v' : Value} (h : VRel ρ v v') : ORelV ρ (some v) (some v')

theorem opvO_rel (hr : Rel P ρ h w) (ht : TRel ρ ts n a) {x : Option Operand} {v : Option Value} (H : opvO P ts x = some v) : ORelV ρ v (x.map a.eval) := by
  cases x with
  | none => cases H; exact .none
  | some x =>
    simp only [opvO, bnd_some] at H
    obtain ⟨u, hu, H⟩ := H
    cases H
    exact .some (opv_rel hr ht hu)

theorem boundA_some {v : Value} {d y r : Nat} (H : boundA (some v) d y = some r) : r ≤ y ∧ ∃ k, v = .int k (.ofNat r) := by
  unfold boundA at H
  split at H
  · rename_i e; cases e
  · rename_i k i e
    cases e
    split at H
    · rename_i hle; cases H; exact ⟨Nat.le_of_ble_eq_true hle, k, rfl⟩
    · cases H
  · cases H

theorem run_bound (k : IntKind) (i y : Nat) (code : BoundsCode) (h : i ≤ y) (w : World) : (Instr.sliceBound (.int k (Int.ofNat i)) y code).run P w = .ok i w := by
  have := run_sliceBound (P := P) w k (Int.ofNat i) y code (Int.natCast_nonneg _) (by simp; omega)
  exact this

/-- the bounds of a slice, where the capacity is at least what the evaluator knows -/
theorem bounds_run {isS : Bool} {len cap cap' m hh l : Nat} {lo hi mx lo' hi' mx' : Option Value} (hl : ORelV ρ lo lo') (hh' : ORelV ρ hi hi') (hm : ORelV ρ mx mx') (hc : cap ≤ cap')
    (h0 : (mx.isSome && hi.isNone) = false) (h1 : boundA mx cap cap = some m) (h2 : boundA hi len m = some hh) (h3 : boundA lo 0 hh = some l) :
    ∃ m', (Instr.sliceBounds isS len cap' lo' hi' mx').run P w = .ok (l, hh, m') w ∧ m ≤ m' ∧ (mx.isSome = true → m' = m) ∧ (mx.isSome = false → m = cap ∧ m' = cap') ∧ l ≤ hh ∧ m ≤ cap := by
  have hlq : l ≤ hh ∧ (lo' = none ∧ l = 0 ∨ ∃ k, lo' = some (.int k (.ofNat l))) := by
    cases hl with
    | none => cases h3; exact ⟨Nat.zero_le _, .inl ⟨rfl, rfl⟩⟩
    | some hv => obtain ⟨b1, k, rfl⟩ := boundA_some h3; cases hv; exact ⟨b1, .inr ⟨k, rfl⟩⟩
  obtain ⟨b3, hlq⟩ := hlq
  cases hm with
  | none =>
    cases h1
    refine ⟨cap', ?_, hc, by simp, by simp, b3, Nat.le_refl _⟩
    cases hh' with
    | none =>
      cases h2
      rcases hlq with ⟨rfl, rfl⟩ | ⟨k, rfl⟩
      · simp [Instr.sliceBounds]
      · simp only [Instr.sliceBounds, Sem.run_bind, Sem.run_pure, Result.andThen_ok, run_bound k l len _ b3]
    | some hv =>
      obtain ⟨b2, k2, rfl⟩ := boundA_some h2
      cases hv
      have b4 : hh ≤ cap' := by omega
      rcases hlq with ⟨rfl, rfl⟩ | ⟨k, rfl⟩
      · simp only [Instr.sliceBounds, Sem.run_bind, run_bound k2 hh cap' _ b4, Sem.run_pure, Result.andThen_ok]
      · simp only [Instr.sliceBounds, Sem.run_bind, run_bound k2 hh cap' _ b4, Sem.run_pure, Result.andThen_ok, run_bound k l hh _ b3]
  | some hvm =>
    obtain ⟨b1, k1, rfl⟩ := boundA_some h1
    cases hvm
    refine ⟨m, ?_, Nat.le_refl _, fun _ => rfl, by simp, b3, b1⟩
    have b5 : m ≤ cap' := by omega
    cases hh' with
    | none => simp at h0
    | some hv =>
      obtain ⟨b2, k2, rfl⟩ := boundA_some h2
      cases hv
      rcases hlq with ⟨rfl, rfl⟩ | ⟨k, rfl⟩
      · simp only [Instr.sliceBounds, Sem.run_bind, run_bound k1 m cap' _ b5, run_bound k2 hh m _ b2, Sem.run_pure, Result.andThen_ok]
      · simp only [Instr.sliceBounds, Sem.run_bind, run_bound k1 m cap' _ b5, run_bound k2 hh m _ b2, Sem.run_pure, Result.andThen_ok, run_bound k l hh _ b3]

/-- what is cut out of a slice -/
theorem cutA_rel {base : Option Addr} {base' : Option Addr} {len cap cap' l hh m m' size : Nat} {mx : Bool} {v : Value} (hv : VRel ρ (.slice base len cap) (.slice base' len cap'))
    (H : cutA base l hh m size mx = some v) (hm : m ≤ m') (h1 : mx = true → m' = m) (h2 : mx = false → m = cap ∧ m' = cap') (hl : l ≤ hh) (hle : hh ≤ m) (hmc : m ≤ cap) :
    VRel ρ v (.slice (if m' = l then base' else base'.map (·.add (l * size))) (hh - l) (m' - l)) := by
  unfold cutA at H
  split at H
  · cases H
    cases hv
    have : m' = m := by
      cases mx with
      | true => exact h1 rfl
      | false => obtain ⟨a, b⟩ := h2 rfl; omega
    subst this
    simp
    exact .sl0 _ _
  · rename_i ad
    cases hv with
    | slx a' c' =>
      have e1 : m = 0 := by omega
      have e2 : hh = 0 := by omega
      have e3 : l = 0 := by omega
      subst e1 e2 e3
      simp only [Nat.beq_eq_true_eq] at H
      have H : some (Value.slice (some lost) 0 0) = some v := H
      cases H
      have e0 : (if m' = 0 then some a' else Option.map (fun x : Addr => x.add (0 * size)) (some a')) = some a' := by split <;> simp [Addr.add]
      rw [e0]
      exact .slx _ _
    | sl o l0 hb hc =>
      rename_i b p
      split at H
      · rename_i he
        have he := Nat.eq_of_beq_eq_true he
        subst he
        have e1 : hh - m = 0 := by omega
        split at H
        · cases H
          have e0 : (if m' = 0 then some (⟨p.blk, o, none⟩ : Addr) else Option.map (fun x : Addr => x.add (0 * size)) (some ⟨p.blk, o, none⟩)) = some ⟨p.blk, o, none⟩ := by split <;> simp [Addr.add]
          rw [e0]
          have : hh = 0 := by omega
          subst this
          refine .sl o 0 hb ?_
          cases mx with
          | true => rw [h1 rfl]; exact .inl rfl
          | false => obtain ⟨q1, q2⟩ := h2 rfl; subst q2; have q3 : cap = 0 := q1.symm; subst q3; simpa using hc
        · cases H
          rw [h1 rfl, if_pos rfl, e1]
          exact .sl o 0 hb (.inl (by omega))
        · cases H
          rw [e1]
          split
          · exact .slx _ _
          · exact .slx _ _
      · rename_i he
        have he := Nat.ne_of_beq_eq_false he
        cases H
        rw [if_neg (by omega)]
        have e0 : Option.map (fun x => Addr.add x (l * size)) (some (⟨p.blk, o, none⟩ : Addr)) = some ⟨p.blk, o + l * size, none⟩ := by
          simp only [Option.map_some]
          unfold Addr.add
          split
          · rename_i e; rw [e]; rfl
          · rfl
        have e2 : addA (⟨b, o, none⟩ : Addr) (l * size) = ⟨b, o + l * size, none⟩ := by
          cases hq : l * size <;> simp [addA]
        rw [e0, e2]
        refine .sl _ _ hb ?_
        cases mx with
        | true => rw [h1 rfl]; exact .inl rfl
        | false =>
          obtain ⟨q1, q2⟩ := h2 rfl
          subst q1 q2
          rcases hc with hc | ⟨c1, c2⟩
          · rw [hc]; exact .inl rfl
          · refine .inr ⟨by omega, fun ho => ?_⟩
            have := c2 (by omega)
            exact Nat.le_trans (Nat.mul_le_mul_right _ (Nat.sub_le _ _)) this

theorem subArr_rel {ad ad' : Addr} {n : Nat} {e : TypeId} {lo hi mx lo' hi' mx' : Option Value} {v : Value} (hr : Rel P ρ h w) (ha : ARel ρ ad ad') (hl : ORelV ρ lo lo') (hh' : ORelV ρ hi hi') (hm : ORelV ρ mx mx')
    (H : subArr P ad n e lo hi mx = some v) : ∃ l hh m i, P.info? e = some i ∧ (Instr.sliceBounds false n n lo' hi' mx').run P w = .ok (l, hh, m) w ∧
      VRel ρ v (.slice (some (if m = l then ad' else ad'.add (l * i.size))) (hh - l) (m - l)) := by
  unfold subArr at H
  split at H
  · cases H
  · rename_i h0
    simp only [bnd_some] at H
    obtain ⟨m, q1, hh, q2, l, q3, i, hi, H⟩ := H
    obtain ⟨m', r1, r2, r3, r4, r5, r6⟩ := bounds_run (P := P) (w := w) (isS := false) hl hh' hm (Nat.le_refl n) (by simpa using h0) q1 q2 q3
    have hmm : m' = m := by
      cases hq : mx.isSome with
      | true => exact r3 hq
      | false => obtain ⟨x, y⟩ := r4 hq; omega
    subst hmm
    refine ⟨l, hh, m', i, hi, r1, ?_⟩
    obtain ⟨p, p1, p2, rfl⟩ := ha
    obtain ⟨b, o, s⟩ := ad
    cases p2
    split at H
    · rename_i he
      have he := Nat.eq_of_beq_eq_true he
      cases H
      rw [if_pos he]
      exact .sl _ _ p1 (.inl rfl)
    · rename_i he
      have he := Nat.ne_of_beq_eq_false he
      cases H
      rw [if_neg he]
      have e0 : (⟨p.blk, o, none⟩ : Addr).add (l * i.size) = ⟨p.blk, o + l * i.size, none⟩ := by
        unfold Addr.add
        split
        · rename_i e; rw [e]; rfl
        · rfl
      have e2 : addA (⟨b, o, none⟩ : Addr) (l * i.size) = ⟨b, o + l * i.size, none⟩ := by
        cases hq : l * i.size <;> simp [addA]
      rw [e0, e2]
      exact .sl _ _ p1 (.inl rfl)

theorem sound_slice {t : TypeId} {x : Operand} {lo hi mx : Option Operand} {out : Out} {o : Oper} (ho : o.op = .slice t x lo hi mx) (hr : Rel P ρ h w) (ht : TRel ρ ts n a) (H : opSlice P ts t x lo hi mx = some out) : OutOk P ρ h w id (execOp a.eval o) out := by
  simp only [opSlice, bnd_some] at H
  obtain ⟨xv, hx0, lv, hl0, hv, hh0, mv, hm0, H⟩ := H
  have hx := opv_rel hr ht hx0
  have hl := opvO_rel hr ht hl0
  have hh' := opvO_rel hr ht hh0
  have hm := opvO_rel hr ht hm0
  clear hx0 hl0 hh0 hm0
  generalize hlo : lo.map a.eval = lo' at hl
  generalize hhi : hi.map a.eval = hi' at hh'
  generalize hmx : mx.map a.eval = mx' at hm
  obtain ⟨v, hq, H⟩ := toVal_some.1 H
  cases H
  simp only [sliceA, bnd_some] at hq
  obtain ⟨u, hu, hq⟩ := hq
  split at hq
  · cases e : a.eval x <;> rw [e] at hx <;> cases hx
    split at hq
    · cases hq
    · simp only [bnd_some] at hq
      obtain ⟨hh, q2, l, q3, hq⟩ := hq
      cases hq
      obtain ⟨m', r1, _⟩ := bounds_run (P := P) (w := w) (isS := false) hl hh' hm (Nat.le_refl _) rfl rfl q2 q3
      cases hm with
      | none => exact .val (by simp [execOp, ho, e, hlo, hhi, hmx, Instr.sliceAt, Instr.slice, run_underlying hu, r1]) (.string _)
  · rename_i e base len cap
    split at hq
    · cases hq
    · rename_i h0
      simp only [bnd_some] at hq
      obtain ⟨m, q1, hh, q2, l, q3, i, hi, hq⟩ := hq
      obtain ⟨hle, hq⟩ := chk_some hq
      have hle := Nat.le_of_ble_eq_true hle
      have hex : ∃ base' cap', a.eval x = .slice base' len cap' ∧ cap ≤ cap' := by
        generalize a.eval x = q at hx
        cases hx with
        | sl0 => exact ⟨_, _, rfl, Nat.le_refl _⟩
        | sl o l h hc => exact ⟨_, _, rfl, by rcases hc with hc | hc <;> omega⟩
        | slx => exact ⟨_, _, rfl, Nat.zero_le _⟩
      obtain ⟨base', cap', ex, hc⟩ := hex
      rw [ex] at hx
      obtain ⟨m', r1, r2, r3, r4, r5, r6⟩ := bounds_run (P := P) (w := w) (isS := true) hl hh' hm hc (by simpa using h0) q1 q2 q3
      have hs : P.cellsOf e = i.size := by simp [Program.cellsOf, hi]
      refine .val ?_ (cutA_rel hx hq r2 r3 r4 r5 hle r6)
      simp [execOp, ho, ex, hlo, hhi, hmx, Instr.sliceAt, Instr.slice, run_underlying hu, r1, run_sizeOf w hi, hs]
  · rename_i n' e ad
    obtain ⟨ad', ex, ha⟩ := hx.addr
    obtain ⟨l, hh, m, i, hi, r1, r2⟩ := subArr_rel (P := P) (w := w) hr ha hl hh' hm hq
    have hs : P.cellsOf e = i.size := by simp [Program.cellsOf, hi]
    refine .val ?_ r2
    simp [execOp, ho, ex, hlo, hhi, hmx, Instr.sliceAt, Instr.sureAddr, run_underlying hu, r1, run_sizeOf w hi, hs]
  · rename_i arr ad
    simp only [bnd_some] at hq
    obtain ⟨u2, hu2, hq⟩ := hq
    split at hq
    · rename_i n' e
      obtain ⟨ad', ex, ha⟩ := hx.addr
      obtain ⟨l, hh, m, i, hi, r1, r2⟩ := subArr_rel (P := P) (w := w) hr ha hl hh' hm hq
      have hs : P.cellsOf e = i.size := by simp [Program.cellsOf, hi]
      refine .val ?_ r2
      simp [execOp, ho, ex, hlo, hhi, hmx, Instr.sliceAt, Instr.slice, asAddr, run_underlying hu, run_underlying hu2, r1, run_sizeOf w hi, hs]
    · cases hq
  · cases hq

end Ev
end Go.Proofs.YteohlibpfgmcaaaGreatDoor
