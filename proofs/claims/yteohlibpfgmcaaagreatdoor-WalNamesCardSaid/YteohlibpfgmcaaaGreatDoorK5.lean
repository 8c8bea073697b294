/- The evaluator's operations against the model's: fields, elements, maps, strings. -/
import Derived.Test.YteohlibpfgmcaaaGreatDoorK4
import Derived.MapKept
namespace Go.Proofs.YteohlibpfgmcaaaGreatDoor
namespace Ev
open Go
set_option linter.unusedVariables false
set_option linter.unusedSimpArgs false
variable {ρ : Ren} {P : Program} {h : Heap} {w : World} {id n : Nat} {ts : Tr Value} {a : Act}

theorem sound_fieldAddr {s : TypeId} {x : Operand} {f : Nat} {out : Out} {o : Oper} (ho : o.op = .fieldAddr s x f) (hr : Rel P ρ h w) (ht : TRel ρ ts n a) (H : op1 P ts x (fun xv => toVal (fieldAd P s xv f)) = some out) : OutOk P ρ h w id (execOp a.eval o) out := by
  obtain ⟨v, hv0, H⟩ := op1_some.1 H
  have hv := opv_rel hr ht hv0
  clear hv0
  obtain ⟨r, hq, H⟩ := toVal_some.1 H
  cases H
  simp only [fieldAd, bnd_some] at hq
  obtain ⟨u, hu, hq⟩ := hq
  split at hq
  · rename_i fs ad
    simp only [bnd_some] at hq
    obtain ⟨fl, hf, i, hi, hq⟩ := hq
    obtain ⟨ad', ex, ha⟩ := hv.addr
    split at hq
    · cases hq
    · rename_i hs
      cases hq
      have hsz : P.cellsOf fl.type ≠ 0 := by simp [Program.cellsOf, hi]; exact hs
      refine .val (v' := .pointer (some (ad'.add fl.offset))) ?_ (addA_rel ha _).ptr
      simp [execOp, ho, ex, Instr.fieldAt, Instr.sureAddr, run_underlying hu, hf, fieldPlace, run_sizeOf w hi, hsz]
  · cases hq

theorem sound_field {s : TypeId} {x : Operand} {f : Nat} {out : Out} {o : Oper} (ho : o.op = .field s x f) (hr : Rel P ρ h w) (ht : TRel ρ ts n a) (H : op1 P ts x (fun xv => toVal (fieldOf P s xv f)) = some out) : OutOk P ρ h w id (execOp a.eval o) out := by
  obtain ⟨v, hv0, H⟩ := op1_some.1 H
  have hv := opv_rel hr ht hv0
  clear hv0
  obtain ⟨r, hq, H⟩ := toVal_some.1 H
  cases H
  simp only [fieldOf, bnd_some] at hq
  obtain ⟨u, hu, hq⟩ := hq
  split at hq
  · rename_i fs cs
    simp only [bnd_some] at hq
    obtain ⟨fl, hf, hq⟩ := hq
    cases ex : a.eval x <;> rw [ex] at hv <;> cases hv
    rename_i l l' hc
    obtain ⟨v', h1, h2⟩ := part_run (P := P) (w := w) (cs := ⟨l⟩) (cs' := ⟨l'⟩) hc hq
    exact .val (by simp [execOp, ho, ex, Instr.field, asAgg, run_underlying hu, hf, h1]) h2
  · cases hq

theorem slice_addr {ad : Addr} {len cap : Nat} {v : Value} (hv : VRel ρ (.slice (some ad) len cap) v) (hl : 0 < len) : ∃ ad' cap', v = .slice (some ad') len cap' ∧ ARel ρ ad ad' := by
  cases hv with
  | sl o l h hc => exact ⟨_, _, rfl, _, h, rfl, rfl⟩
  | slx => omega

theorem sound_indexAddr {t : TypeId} {x ix : Operand} {out : Out} {o : Oper} (ho : o.op = .indexAddr t x ix) (hr : Rel P ρ h w) (ht : TRel ρ ts n a) (H : op2 P ts x ix (fun xv iv => toVal (idxA P t xv iv)) = some out) : OutOk P ρ h w id (execOp a.eval o) out := by
  obtain ⟨v, u, hv0, hu0, H⟩ := op2_some.1 H
  have hv := opv_rel hr ht hv0
  have hi := opv_rel hr ht hu0
  clear hv0 hu0
  obtain ⟨r, hq, H⟩ := toVal_some.1 H
  cases H
  unfold idxA at hq
  split at hq
  · rename_i k j
    simp only [bnd_some] at hq
    obtain ⟨u, hu, hq⟩ := hq
    cases ei : a.eval ix <;> rw [ei] at hi <;> cases hi
    split at hq
    · rename_i len e ad
      split at hq
      · rename_i hle
        have hle := Nat.le_of_ble_eq_true hle
        simp only [bnd_some] at hq
        obtain ⟨inf, hinf, hq⟩ := hq
        cases hq
        obtain ⟨ad', ex, ha⟩ := hv.addr
        have hs : P.cellsOf e = inf.size := by simp [Program.cellsOf, hinf]
        refine .val (v' := .pointer (some (ad'.add (j * inf.size)))) ?_ (addA_rel ha _).ptr
        have h0 : (0 : Int) ≤ Int.ofNat j ∧ Int.ofNat j < (len : Int) := ⟨Int.natCast_nonneg _, by simp; omega⟩
        simp only [execOp, ho, ex, ei, Instr.indexAt, asIntOf, Sem.run_bind, Sem.run_pure, Result.andThen_ok, run_underlying hu, Instr.sureAddr, if_pos h0, run_sizeOf w hinf, hs]
        rfl
      · cases hq
    · rename_i e ad len cap
      split at hq
      · rename_i hle
        have hle := Nat.le_of_ble_eq_true hle
        simp only [bnd_some] at hq
        obtain ⟨inf, hinf, hq⟩ := hq
        cases hq
        obtain ⟨ad', cap', ex, ha⟩ := slice_addr hv (by omega)
        have hs : P.cellsOf e = inf.size := by simp [Program.cellsOf, hinf]
        refine .val (v' := .pointer (some (ad'.add (j * inf.size)))) ?_ (addA_rel ha _).ptr
        have h0 : (0 : Int) ≤ Int.ofNat j ∧ Int.ofNat j < (len : Int) := ⟨Int.natCast_nonneg _, by simp; omega⟩
        simp only [execOp, ho, ex, ei, Instr.indexAt, asIntOf, Sem.run_bind, Sem.run_pure, Result.andThen_ok, run_underlying hu, if_pos h0, run_sizeOf w hinf, hs]
        rfl
      · cases hq
    · cases hq
  · cases hq

theorem sound_index {t : TypeId} {x ix : Operand} {out : Out} {o : Oper} (ho : o.op = .index t x ix) (hr : Rel P ρ h w) (ht : TRel ρ ts n a) (H : op2 P ts x ix (fun xv iv => toVal (indexA P t xv iv)) = some out) : OutOk P ρ h w id (execOp a.eval o) out := by
  obtain ⟨v, u, hv0, hu0, H⟩ := op2_some.1 H
  have hv := opv_rel hr ht hv0
  have hi := opv_rel hr ht hu0
  clear hv0 hu0
  obtain ⟨r, hq, H⟩ := toVal_some.1 H
  cases H
  unfold indexA at hq
  split at hq
  · rename_i k j
    simp only [bnd_some] at hq
    obtain ⟨u, hu, hq⟩ := hq
    cases ei : a.eval ix <;> rw [ei] at hi <;> cases hi
    split at hq
    · rename_i len e cs
      split at hq
      · rename_i hle
        have hle := Nat.le_of_ble_eq_true hle
        simp only [bnd_some] at hq
        obtain ⟨inf, hinf, hq⟩ := hq
        cases ex : a.eval x <;> rw [ex] at hv <;> cases hv
        rename_i l l' hc
        have hs : P.cellsOf e = inf.size := by simp [Program.cellsOf, hinf]
        obtain ⟨v', h1, h2⟩ := part_run (P := P) (w := w) (cs := ⟨l⟩) (cs' := ⟨l'⟩) hc hq
        have h0 : (0 : Int) ≤ Int.ofNat j ∧ Int.ofNat j < (len : Int) := ⟨Int.natCast_nonneg _, by simp; omega⟩
        refine .val (v' := v') ?_ h2
        simp only [execOp, ho, ex, ei, Instr.index, asIntOf, Sem.run_bind, Sem.run_pure, Result.andThen_ok, run_underlying hu, if_pos h0, run_sizeOf w hinf, hs, show (Int.ofNat j).toNat = j from rfl, h1]
      · cases hq
    · rename_i s
      simp only [bnd_some] at hq
      obtain ⟨b, hb, hq⟩ := hq
      rw [forceN_eq] at hq
      cases hq
      cases ex : a.eval x <;> rw [ex] at hv <;> cases hv
      refine .val (v' := .int .u8 (Int.ofNat b.toNat)) ?_ (.int _ _)
      have h0 : (0 : Int) ≤ Int.ofNat j := Int.natCast_nonneg _
      simp only [execOp, ho, ex, ei, Instr.index, asIntOf, Sem.run_bind, Sem.run_pure, Result.andThen_ok, run_underlying hu, if_pos h0, show (Int.ofNat j).toNat = j from rfl, hb]
      rfl
    · cases hq
  · cases hq

theorem sound_extract {x : Operand} {i : Nat} {out : Out} {o : Oper} (ho : o.op = .extract x i) (hr : Rel P ρ h w) (ht : TRel ρ ts n a) (H : op1 P ts x (fun tv => opExtract tv i) = some out) : OutOk P ρ h w id (execOp a.eval o) out := by
  obtain ⟨v, hv0, H⟩ := op1_some.1 H
  have hv := opv_rel hr ht hv0
  clear hv0
  unfold opExtract at H
  split at H
  · rename_i vs
    obtain ⟨r, hq, H⟩ := toVal_some.1 H
    cases H
    cases ex : a.eval x <;> rw [ex] at hv <;> cases hv
    rename_i l l' hc
    obtain ⟨v', h1, h2⟩ := hc.get (i := i) (v := r) (by simpa using hq)
    refine .val (v' := v') ?_ h2
    have h3 : (⟨l'⟩ : Array Value)[i]? = some v' := by simpa using h1
    simp [execOp, ho, ex, Instr.extract, h3]
  · cases H

end Ev
end Go.Proofs.YteohlibpfgmcaaaGreatDoor
