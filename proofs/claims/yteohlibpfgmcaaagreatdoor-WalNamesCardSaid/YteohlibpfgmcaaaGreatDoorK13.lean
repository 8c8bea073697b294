/- A region that draws its order: whatever order is drawn, it comes to what the evaluator has made of it. -/
import Derived.Test.YteohlibpfgmcaaaGreatDoorK12
namespace Go.Proofs.YteohlibpfgmcaaaGreatDoor
namespace Ev
open Go
set_option linter.unusedVariables false
set_option linter.unusedSimpArgs false
variable {ρ : Ren} {P : Program} {w : World} {n nx0 : Nat} {a : Act} {ops : Array Oper}

inductive Cl where
  | skip
  | still
  | read
  | new (ob : AObj)
  | act

/-- what the evaluator did with a region, operation by operation -/
structure Tc where
  ts : Nat → Tr Value
  h : Nat → Heap
  nx : Nat → Nat
  val : Nat → Value
  cl : Nat → Cl

abbrev bit (ops : Array Oper) (j k : Nat) : Prop := ((Region.before ops).getD j 0).testBit k = true

/-- an operation that others may not pass by, wherever it is carried out -/
def SemA (P : Program) (ops : Array Oper) (n nx0 : Nat) (T : Tc) (i : Nat) (o : Oper) : Prop :=
  ∀ ts', Alike ops o (T.ts i) ts' → ∀ (ρ : Ren) (w : World) (a : Act), Rel P ρ (T.h i) w → TRel ρ ts' n a → ρ (nx0 + i) = none → (T.h i).get (nx0 + i) = none →
    (∀ b, T.nx i ≤ b → ρ b = none ∧ (T.h i).get b = none) → ∀ (Q : Exit → Act → World → Prop) (K : Act → World → Prop),
    (∀ v' w' ρ', VRel ρ' (T.val i) v' → Rel P ρ' (T.h (i + 1)) w' → Ext nx0 (T.nx (i + 1)) ρ (T.h i) w ρ' (T.h (i + 1)) w' →
      (∀ b p, ρ b = none → ρ' b = some p → b = nx0 + i ∨ T.nx i ≤ b) → K (a.put o.dst v') w') → wpOp P ops Q i K a w

def StepOK (P : Program) (ops : Array Oper) (n nx0 : Nat) (T : Tc) (i : Nat) : Prop :=
  ∃ o, ops[i]? = some o ∧ putA (T.ts i) n o.dst (T.val i) = some (T.ts (i + 1)) ∧
    match T.cl i with
    | .skip => wantedA (T.ts i) ops o = false ∧ T.val i = undefV ∧ T.h (i + 1) = T.h i ∧ T.nx (i + 1) = T.nx i
    | .still => wantedA (T.ts i) ops o = true ∧ readsH o.op = false ∧ evOp P (T.h i) (nx0 + i) (T.ts i) o = some (.val (T.val i)) ∧ T.h (i + 1) = T.h i ∧ T.nx (i + 1) = T.nx i
    | .read => wantedA (T.ts i) ops o = true ∧ evOp P (T.h i) (nx0 + i) (T.ts i) o = some (.val (T.val i)) ∧ T.h (i + 1) = T.h i ∧ T.nx (i + 1) = T.nx i ∧
        ∀ j, j < i → T.cl j = .act → ¬ bit ops i j → evOp P (T.h j) 0 (T.ts i) o = some (.val (T.val i))
    | .new ob => wantedA (T.ts i) ops o = true ∧ isNewQ o.op = true ∧ evOp P (T.h i) (nx0 + i) (T.ts i) o = some (.new (T.val i) ob) ∧ T.h (i + 1) = (T.h i).set (nx0 + i) ob ∧ T.nx (i + 1) = T.nx i
    | .act => T.nx i ≤ T.nx (i + 1) ∧ SemA P ops n nx0 T i o ∧ (∀ j, j < i → T.cl j = .act → bit ops i j) ∧
        ∀ j oj, j < i → T.cl j = .read → ¬ bit ops i j → ops[j]? = some oj → evOp P (T.h (i + 1)) 0 (T.ts j) oj = some (.val (T.val j))

abbrev Ls (ls : Array Bool) (i : Nat) : Prop := ls.getD i false = true

structure Inv (P : Program) (ops : Array Oper) (n nx0 : Nat) (T : Tc) (ρ₀ : Ren) (w₀ : World) (q : Nat) (ls : Array Bool) (ρ : Ren) (ts : Tr Value) (a : Act) (w : World) : Prop where
  q_le : q ≤ ops.size
  size : ls.size = ops.size
  closed : ∀ j, Ls ls j → ∀ k, bit ops j k → Ls ls k
  ahead : ∀ j, j < q → T.cl j = .act → Ls ls j
  behind : ∀ j, q ≤ j → Ls ls j → T.cl j ≠ .act
  rel : Rel P ρ (T.h q) w
  trel : TRel ρ ts n a
  slots : ∀ t, (∃ i o, Ls ls i ∧ ops[i]? = some o ∧ o.dst = some t ∧ (∀ j o', Ls ls j → ops[j]? = some o' → o'.dst = some t → j ≤ i) ∧ ts.get t = some (T.val i)) ∨
    ((∀ i o, Ls ls i → ops[i]? = some o → o.dst ≠ some t) ∧ ts.get t = (T.ts 0).get t)
  free : ∀ i, i < ops.size → ¬ Ls ls i → ρ (nx0 + i) = none
  fresh : ∀ b, T.nx q ≤ b → ρ b = none ∧ (T.h q).get b = none
  nx : nx0 + ops.size ≤ T.nx q
  early : ∀ i ob, q ≤ i → Ls ls i → T.cl i = .new ob → ∃ p, ρ (nx0 + i) = some p ∧ ORel ρ p ob (w.heap[p.blk]?)
  blank : ∀ i, q ≤ i → i < ops.size → (T.h q).get (nx0 + i) = none
  blanks : ∀ i ob, i < q → T.cl i = .new ob → (T.h i).get (nx0 + i) = none
  pending : ∀ i ob, i < q → ¬ Ls ls i → T.cl i = .new ob → (T.h q).get (nx0 + i) = some ob
  core : ExtC nx0 (T.nx q) ρ₀ (T.h 0) w₀ ρ (T.h q) w
  pend : ∀ b, ρ b = none → (∀ i ob, i < q → ¬ Ls ls i → T.cl i = .new ob → b ≠ nx0 + i) → (T.h q).get b = (T.h 0).get b

theorem ls_set {ls : Array Bool} {i j : Nat} (hi : i < ls.size) : Ls (ls.setIfInBounds i true) j ↔ j = i ∨ Ls ls j := by
  unfold Ls
  by_cases h : j = i
  · subst h; simp [hi]
  · rw [getD_set_ne false (Ne.symm h)]; simp [h]

variable {T : Tc} {ρ₀ : Ren} {w₀ : World} {q : Nat} {ls : Array Bool} {ts : Tr Value}

theorem ready_spec {i : Nat} (hc : ∀ j, Ls ls j → ∀ k, bit ops j k → Ls ls k) (hs : ls.size = ops.size) (h : i ∈ Region.ready .any ops ls) : i < ops.size ∧ ¬ Ls ls i ∧ ∀ k, bit ops i k → Ls ls k := by
  obtain ⟨h0, o, ho, hall⟩ := mem_ready.1 h
  have hi : i < ops.size := (Array.getElem?_eq_some_iff.1 ho).1
  refine ⟨hi, fun hl => ?_, fun k hk => ?_⟩
  · unfold Ls at hl
    have hi' : i < ls.size := by omega
    simp [Array.getD_eq_getD_getElem?, hi'] at h0 hl
    rw [h0] at hl; cases hl
  · obtain ⟨o', ho', e, he, hb, hk⟩ := before_bit hk
    rw [ho] at ho'; cases ho'
    rcases hk with rfl | hk
    · exact hall e he hb
    · exact hc _ (hall e he hb) k hk

/-- what the temporaries are in the evaluator's run -/
theorem slot_at (hst : ∀ i, i < ops.size → StepOK P ops n nx0 T i) : ∀ i, i ≤ ops.size → ∀ t,
    (∃ k o, k < i ∧ ops[k]? = some o ∧ o.dst = some t ∧ (∀ j o', j < i → ops[j]? = some o' → o'.dst = some t → j ≤ k) ∧ (T.ts i).get t = some (T.val k)) ∨
    ((∀ k o, k < i → ops[k]? = some o → o.dst ≠ some t) ∧ (T.ts i).get t = (T.ts 0).get t)
  | 0, _, t => .inr ⟨fun k o hk => by omega, rfl⟩
  | i + 1, hi, t => by
    obtain ⟨o, ho, hp, _⟩ := hst i (by omega)
    have ih := slot_at hst i (by omega) t
    cases hd : o.dst with
    | none =>
      rw [hd] at hp
      simp [putA] at hp
      rcases ih with ⟨k, ok, h1, h2, h3, h4, h5⟩ | ⟨h1, h2⟩
      · refine .inl ⟨k, ok, by omega, h2, h3, fun j o' hj hj1 hj2 => ?_, by rw [← hp]; exact h5⟩
        rcases Nat.lt_or_ge j i with hji | hji
        · exact h4 j o' hji hj1 hj2
        · have : j = i := by omega
          subst this; rw [ho] at hj1; cases hj1; rw [hd] at hj2; cases hj2
      · refine .inr ⟨fun k ok hk hk1 hk2 => ?_, by rw [← hp]; exact h2⟩
        rcases Nat.lt_or_ge k i with hki | hki
        · exact h1 k ok hki hk1 hk2
        · have : k = i := by omega
          subst this; rw [ho] at hk1; cases hk1; rw [hd] at hk2; cases hk2
    | some d =>
      rw [hd] at hp
      simp only [putA] at hp
      split at hp
      · have hp2 := (Option.some.inj hp).symm
        by_cases htd : t = d
        · subst htd
          exact .inl ⟨i, o, by omega, ho, hd, fun j o' hj _ _ => by omega, by rw [hp2]; exact Tr.get_set_self _ _ _⟩
        · have hget : (T.ts (i + 1)).get t = (T.ts i).get t := by rw [hp2]; exact Tr.get_set_ne _ _ htd
          rw [hget]
          rcases ih with ⟨k, ok, h1, h2, h3, h4, h5⟩ | ⟨h1, h2⟩
          · refine .inl ⟨k, ok, by omega, h2, h3, fun j o' hj hj1 hj2 => ?_, h5⟩
            rcases Nat.lt_or_ge j i with hji | hji
            · exact h4 j o' hji hj1 hj2
            · have : j = i := by omega
              subst this; rw [ho] at hj1; cases hj1; rw [hd] at hj2; cases hj2; exact absurd rfl htd
          · refine .inr ⟨fun k ok hk hk1 hk2 => ?_, h2⟩
            rcases Nat.lt_or_ge k i with hki | hki
            · exact h1 k ok hki hk1 hk2
            · have : k = i := by omega
              subst this; rw [ho] at hk1; cases hk1; rw [hd] at hk2; cases hk2; exact absurd rfl htd
      · cases hp

/-- two ways to the same slot -/
theorem slot_alike (hst : ∀ i, i < ops.size → StepOK P ops n nx0 T i) (hdisc : disc ops = true) (I : Inv P ops n nx0 T ρ₀ w₀ q ls ρ ts a w) {i : Nat} {o : Oper} (ho : ops[i]? = some o) (hn : ¬ Ls ls i)
    (hm : ∀ k, bit ops i k → Ls ls k) {t : Tmp} (ht : t ∈ namesO ops o) : (T.ts i).get t = ts.get t ∧ ∀ j o', Ls ls j → ops[j]? = some o' → o'.dst = some t → j < i := by
  have hi : i < ops.size := (Array.getElem?_eq_some_iff.1 ho).1
  have hlt : ∀ j o', Ls ls j → ops[j]? = some o' → o'.dst = some t → j < i := fun j o' hj ho' hd => by
    rcases Nat.lt_trichotomy j i with h | h | h
    · exact h
    · subst h; exact absurd hj hn
    · rcases disc_spec hdisc ho ho' h with hb | ⟨_, h2⟩
      · exact absurd (I.closed j hj i hb) hn
      · exact absurd ht (h2 t hd)
  have hge : ∀ j o', j < i → ops[j]? = some o' → o'.dst = some t → Ls ls j := fun j o' hj ho' hd => by
    rcases disc_spec hdisc ho' ho hj with hb | ⟨h1, _⟩
    · exact hm j hb
    · exact absurd ht (h1 t hd)
  refine ⟨?_, hlt⟩
  rcases slot_at hst i (by omega) t with ⟨k, ok, h1, h2, h3, h4, h5⟩ | ⟨h1, h2⟩
  · rcases I.slots t with ⟨k', ok', g1, g2, g3, g4, g5⟩ | ⟨g1, g2⟩
    · have e1 := g4 k ok (hge k ok h1 h2 h3) h2 h3
      have e2 := h4 k' ok' (hlt k' ok' g1 g2 g3) g2 g3
      have : k = k' := by omega
      subst this
      rw [h5, g5]
    · exact absurd h3 (g1 k ok (hge k ok h1 h2 h3) h2)
  · rcases I.slots t with ⟨k', ok', g1, g2, g3, g4, g5⟩ | ⟨g1, g2⟩
    · exact absurd g3 (h1 k' ok' (hlt k' ok' g1 g2 g3) g2)
    · rw [h2, g2]

theorem alike_at (hst : ∀ i, i < ops.size → StepOK P ops n nx0 T i) (hdisc : disc ops = true) (I : Inv P ops n nx0 T ρ₀ w₀ q ls ρ ts a w) {i : Nat} {o : Oper} (ho : ops[i]? = some o) (hn : ¬ Ls ls i)
    (hm : ∀ k, bit ops i k → Ls ls k) : Alike ops o (T.ts i) ts := fun t ht => (slot_alike hst hdisc I ho hn hm (List.mem_append_right _ ht)).1

/-- one more is through: the temporaries -/
theorem slots_put (hst : ∀ i, i < ops.size → StepOK P ops n nx0 T i) (hdisc : disc ops = true) (I : Inv P ops n nx0 T ρ₀ w₀ q ls ρ ts a w) {i : Nat} {o : Oper} (ho : ops[i]? = some o) (hn : ¬ Ls ls i)
    (hm : ∀ k, bit ops i k → Ls ls k) : ∃ ts', putA ts n o.dst (T.val i) = some ts' ∧
    ∀ t, (∃ k o', Ls (ls.setIfInBounds i true) k ∧ ops[k]? = some o' ∧ o'.dst = some t ∧ (∀ j o', Ls (ls.setIfInBounds i true) j → ops[j]? = some o' → o'.dst = some t → j ≤ k) ∧ ts'.get t = some (T.val k)) ∨
    ((∀ k o', Ls (ls.setIfInBounds i true) k → ops[k]? = some o' → o'.dst ≠ some t) ∧ ts'.get t = (T.ts 0).get t) := by
  have hi : i < ops.size := (Array.getElem?_eq_some_iff.1 ho).1
  have hsz : i < ls.size := by rw [I.size]; exact hi
  obtain ⟨o2, ho2, hp, _⟩ := hst i hi
  rw [ho] at ho2; cases ho2
  -- a slot that it does not write
  have other : ∀ t, o.dst ≠ some t → (∃ k o', Ls (ls.setIfInBounds i true) k ∧ ops[k]? = some o' ∧ o'.dst = some t ∧ (∀ j o', Ls (ls.setIfInBounds i true) j → ops[j]? = some o' → o'.dst = some t → j ≤ k) ∧ ts.get t = some (T.val k)) ∨
      ((∀ k o', Ls (ls.setIfInBounds i true) k → ops[k]? = some o' → o'.dst ≠ some t) ∧ ts.get t = (T.ts 0).get t) := fun t hdt => by
    have strip : ∀ j o', Ls (ls.setIfInBounds i true) j → ops[j]? = some o' → o'.dst = some t → Ls ls j := fun j o' hj ho' hd' => by
      rcases (ls_set hsz).1 hj with rfl | h
      · rw [ho] at ho'; cases ho'; exact absurd hd' hdt
      · exact h
    rcases I.slots t with ⟨k, o', g1, g2, g3, g4, g5⟩ | ⟨g1, g2⟩
    · exact .inl ⟨k, o', (ls_set hsz).2 (.inr g1), g2, g3, fun j o' hj hj1 hj2 => g4 j o' (strip j o' hj hj1 hj2) hj1 hj2, g5⟩
    · exact .inr ⟨fun k o' hk hk1 hk2 => g1 k o' (strip k o' hk hk1 hk2) hk1 hk2, g2⟩
  cases hd : o.dst with
  | none => exact ⟨ts, rfl, fun t => other t (by rw [hd]; simp)⟩
  | some d =>
    rw [hd] at hp
    simp only [putA] at hp ⊢
    split at hp
    · rename_i hle
      refine ⟨ts.set d (T.val i), rfl, fun t => ?_⟩
      by_cases htd : t = d
      · subst htd
        have hmax := (slot_alike hst hdisc I ho hn hm (t := t) (List.mem_append_left _ (by rw [hd]; simp))).2
        refine .inl ⟨i, o, (ls_set hsz).2 (.inl rfl), ho, hd, fun j o' hj hj1 hj2 => ?_, Tr.get_set_self _ _ _⟩
        rcases (ls_set hsz).1 hj with rfl | h
        · exact Nat.le_refl _
        · exact Nat.le_of_lt (hmax j o' h hj1 hj2)
      · rw [Tr.get_set_ne _ _ htd]
        exact other t (by rw [hd]; simpa using Ne.symm htd)
    · cases hp

theorem closed_put (I : Inv P ops n nx0 T ρ₀ w₀ q ls ρ ts a w) {i : Nat} (hi : i < ops.size) (hm : ∀ k, bit ops i k → Ls ls k) : ∀ j, Ls (ls.setIfInBounds i true) j → ∀ k, bit ops j k → Ls (ls.setIfInBounds i true) k := by
  have hsz : i < ls.size := by rw [I.size]; exact hi
  intro j hj k hk
  rcases (ls_set hsz).1 hj with rfl | h
  · exact (ls_set hsz).2 (.inr (hm k hk))
  · exact (ls_set hsz).2 (.inr (I.closed j h k hk))

end Ev
end Go.Proofs.YteohlibpfgmcaaaGreatDoor
