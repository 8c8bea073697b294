/- A region that draws its order: whatever order is drawn. -/
import Derived.Test.YteohlibpfgmcaaaGreatDoorK14
namespace Go.Proofs.YteohlibpfgmcaaaGreatDoor
namespace Ev
open Go
set_option linter.unusedVariables false
set_option linter.unusedSimpArgs false
variable {ρ : Ren} {P : Program} {w : World} {n nx0 : Nat} {a : Act} {ops : Array Oper}
variable {T : Tc} {ρ₀ : Ren} {w₀ : World} {q : Nat} {ls : Array Bool} {ts : Tr Value}

theorem wp_runs {Q : Exit → Act → World → Prop} {K : Act → World → Prop} {i : Nat} {o : Oper} {v' : Value} {w' : World} (ho : ops[i]? = some o) (hw : Region.wanted o (yielded ops a.tmps) = true) (hr : Runs P (execOp a.eval o) w v' w') (hk : K (a.put o.dst v') w') :
    wpOp P ops Q i K a w := by
  unfold wpOp
  simp only [ho, hw, if_true]
  refine .inl ?_
  unfold Oper.wp
  rcases hr with hr | ⟨hr, rfl⟩
  · rw [hr]; exact hk
  · rw [hr]; exact hk

theorem wp_struck {Q : Exit → Act → World → Prop} {K : Act → World → Prop} {i : Nat} {o : Oper} (ho : ops[i]? = some o) (hw : Region.wanted o (yielded ops a.tmps) = false) (hk : K (a.put o.dst undef) w) : wpOp P ops Q i K a w := by
  unfold wpOp
  simp only [ho, hw, Bool.false_eq_true, if_false]
  exact hk

def cnt (N : Nat) (ls : Array Bool) : Nat := ((List.range N).filter fun j => !ls.getD j false).length

theorem filter_lt {p p' : Nat → Bool} (hle : ∀ j, p' j = true → p j = true) {i : Nat} (hi : p i = true) (hi' : p' i = false) : ∀ {l : List Nat}, i ∈ l → (l.filter p').length < (l.filter p).length
  | [], h => by cases h
  | x :: l, h => by
    have le : ∀ l : List Nat, (l.filter p').length ≤ (l.filter p).length := fun l => by
      induction l with
      | nil => simp
      | cons y l ih =>
        simp only [List.filter_cons]
        cases h1 : p' y
        · simp only [Bool.false_eq_true, if_false]
          split
          · simp; omega
          · exact ih
        · simp only [hle y h1, if_true, List.length_cons]; omega
    rcases List.mem_cons.1 h with rfl | h
    · simp only [List.filter_cons, hi, hi', if_true, Bool.false_eq_true, if_false, List.length_cons]
      have := le l
      omega
    · have ih := filter_lt hle hi hi' h
      simp only [List.filter_cons]
      cases h1 : p' x
      · simp only [Bool.false_eq_true, if_false]
        split
        · simp; omega
        · exact ih
      · simp only [hle x h1, if_true, List.length_cons]; omega

theorem cnt_set {N i : Nat} (hs : ls.size = N) (hi : i < N) (hn : ¬ Ls ls i) : cnt N (ls.setIfInBounds i true) < cnt N ls := by
  have hsz : i < ls.size := by omega
  unfold cnt
  refine filter_lt (i := i) (fun j hj => ?_) ?_ ?_ (List.mem_range.2 hi)
  · simp only [Bool.not_eq_true'] at hj ⊢
    cases hl : ls.getD j false with
    | false => rfl
    | true =>
      have : Ls (ls.setIfInBounds i true) j := (ls_set hsz).2 (.inr hl)
      unfold Ls at this
      rw [hj] at this; cases this
  · simp only [Bool.not_eq_true']
    cases hl : ls.getD i false with
    | false => rfl
    | true => exact absurd hl hn
  · simp only [Bool.not_eq_false']
    exact (ls_set (j := i) hsz).2 (.inl rfl)

theorem all_listed (hdown : down ops = true) (hs : ls.size = ops.size) (hr : Region.ready .any ops ls = []) : ∀ i, i < ops.size → Ls ls i := by
  intro i
  induction i using Nat.strongRecOn with
  | _ i ih =>
    intro hi
    cases hl : ls.getD i false with
    | true => exact hl
    | false =>
      exfalso
      have hmem : i ∈ Region.ready .any ops ls := by
        refine mem_ready.2 ⟨?_, ops[i], Array.getElem?_eq_getElem hi, fun e he hb => ?_⟩
        · have : i < ls.size := by omega
          simp [Array.getD_eq_getD_getElem?, this] at hl ⊢
          exact hl
        · have := down_spec hdown (Array.getElem?_eq_getElem hi) he hb
          exact ih e.on this (by omega)
      rw [hr] at hmem
      cases hmem

theorem cnt_zero {N : Nat} (h : cnt N ls = 0) : ∀ i, i < N → Ls ls i := by
  intro i hi
  unfold cnt at h
  have := List.eq_nil_of_length_eq_zero h
  cases hl : ls.getD i false with
  | true => exact hl
  | false =>
    have hmem : i ∈ (List.range N).filter fun j => !ls.getD j false := List.mem_filter.2 ⟨List.mem_range.2 hi, by rw [hl]; rfl⟩
    rw [this] at hmem
    cases hmem

/-- when all are through -/
theorem Inv.done (I : Inv P ops n nx0 T ρ₀ w₀ q ls ρ ts a w) (hst : ∀ i, i < ops.size → StepOK P ops n nx0 T i) (hq : q = ops.size ∨ T.cl q = .act) (hall : ∀ i, i < ops.size → Ls ls i) :
    Rel P ρ (T.h ops.size) w ∧ TRel ρ (T.ts ops.size) n a ∧ Ext nx0 (T.nx ops.size) ρ₀ (T.h 0) w₀ ρ (T.h ops.size) w := by
  have hqe : q = ops.size := by
    rcases hq with hq | hq
    · exact hq
    · have := I.q_le
      rcases Nat.lt_or_ge q ops.size with h | h
      · exact absurd hq (I.behind q (Nat.le_refl _) (hall q h))
      · omega
  subst hqe
  refine ⟨I.rel, ⟨I.trel.size, I.trel.defers, fun t => ?_⟩, { I.core with pend := fun b hb => I.pend b hb fun i ob hi hl _ => absurd (hall i hi) hl }⟩
  have e : (T.ts ops.size).get t = ts.get t := by
    rcases slot_at hst ops.size (Nat.le_refl _) t with ⟨k, ok, h1, h2, h3, h4, h5⟩ | ⟨h1, h2⟩
    · rcases I.slots t with ⟨k', ok', g1, g2, g3, g4, g5⟩ | ⟨g1, g2⟩
      · have e1 := g4 k ok (hall k h1) h2 h3
        have hk' : k' < ops.size := (Array.getElem?_eq_some_iff.1 g2).1
        have e2 := h4 k' ok' hk' g2 g3
        have : k = k' := by omega
        subst this
        rw [h5, g5]
      · exact absurd h3 (g1 k ok (hall k h1) h2)
    · rcases I.slots t with ⟨k', ok', g1, g2, g3, g4, g5⟩ | ⟨g1, g2⟩
      · exact absurd g3 (h1 k' ok' (Array.getElem?_eq_some_iff.1 g2).1 g2)
      · rw [h2, g2]
  rw [e]
  exact I.trel.get t

/-- **WHATEVER ORDER IS DRAWN** -/
theorem any_main (hst : ∀ i, i < ops.size → StepOK P ops n nx0 T i) (hdisc : disc ops = true) (hdown : down ops = true) (H0 : ∀ b, nx0 ≤ b → ρ₀ b = none ∧ (T.h 0).get b = none) {Q : Exit → Act → World → Prop}
    (hQ : ∀ ρ a w, Rel P ρ (T.h ops.size) w → TRel ρ (T.ts ops.size) n a → Ext nx0 (T.nx ops.size) ρ₀ (T.h 0) w₀ ρ (T.h ops.size) w → Q .normal a w) :
    ∀ (fuel : Nat) (ls : Array Bool) (ρ : Ren) (ts : Tr Value) (a : Act) (w : World) (q : Nat), Inv P ops n nx0 T ρ₀ w₀ q ls ρ ts a w → cnt ops.size ls ≤ fuel → wpAny P .any ops Q fuel ls a w := by
  have fin : ∀ (ls : Array Bool) (ρ : Ren) (ts : Tr Value) (a : Act) (w : World) (q : Nat), Inv P ops n nx0 T ρ₀ w₀ q ls ρ ts a w → (∀ i, i < ops.size → Ls ls i) → Q .normal a w := by
    intro ls ρ ts a w q I hall
    obtain ⟨q', I', hq'⟩ := Inv.far hst H0 (ops.size - q) q (by have := I.q_le; omega) I
    obtain ⟨h1, h2, h3⟩ := I'.done hst hq' hall
    exact hQ ρ a w h1 h2 h3
  intro fuel
  induction fuel with
  | zero =>
    intro ls ρ ts a w q I hc
    have hall := cnt_zero (Nat.le_zero.1 hc)
    refine ⟨?_, fin ls ρ ts a w q I hall⟩
    cases hr : Region.ready .any ops ls with
    | nil => rfl
    | cons i rs =>
      have hmem : i ∈ Region.ready .any ops ls := by rw [hr]; simp
      obtain ⟨h1, h2, _⟩ := ready_spec I.closed I.size hmem
      exact absurd (hall i h1) h2
  | succ fuel ih =>
    intro ls ρ ts a w q I hc
    refine ⟨fun hr => fin ls ρ ts a w q I (all_listed hdown I.size hr), fun i hmem => ?_⟩
    obtain ⟨hi, hn, hm⟩ := ready_spec I.closed I.size hmem
    obtain ⟨q', I', hq'⟩ := Inv.far hst H0 (ops.size - q) q (by have := I.q_le; omega) I
    clear I
    have I := I'
    have hcnt : cnt ops.size (ls.setIfInBounds i true) ≤ fuel := by have := cnt_set I.size hi hn; omega
    obtain ⟨o, ho, hp, hcl⟩ := hst i hi
    have hal := alike_at hst hdisc I ho hn hm
    have hwant := wanted_rel (all := ops) (o := o) I.trel
    rw [← hal.wanted] at hwant
    cases hk : T.cl i with
    | skip =>
      rw [hk] at hcl
      obtain ⟨c1, c2, c3, c4⟩ := hcl
      obtain ⟨ts', I2⟩ := I.quiet hst hdisc ho hn hm (by rw [hk]; simp) (by rw [hk]; simp) (v' := undef) (by rw [c2]; exact undef_rel)
      exact wp_struck ho (by rw [hwant]; exact c1) (ih _ _ _ _ _ _ I2 hcnt)
    | still =>
      rw [hk] at hcl
      obtain ⟨c1, c2, c3, c4, c5⟩ := hcl
      have he : evOp P (T.h q') 0 ts o = some (.val (T.val i)) := by rw [← hal.op, ← c3]; exact evOp_still c2
      obtain ⟨v', r1, r2⟩ := evOp_sound_val I.rel I.trel he
      obtain ⟨ts', I2⟩ := I.quiet hst hdisc ho hn hm (by rw [hk]; simp) (by rw [hk]; simp) r2
      exact wp_runs ho (by rw [hwant]; exact c1) r1 (ih _ _ _ _ _ _ I2 hcnt)
    | read =>
      have he0 := I.reads hst hq' ho hn hm hk
      rw [hk] at hcl
      obtain ⟨c1, c2, c3, c4, c5⟩ := hcl
      have he : evOp P (T.h q') 0 ts o = some (.val (T.val i)) := by rw [← hal.op]; exact he0
      obtain ⟨v', r1, r2⟩ := evOp_sound_val I.rel I.trel he
      obtain ⟨ts', I2⟩ := I.quiet hst hdisc ho hn hm (by rw [hk]; simp) (by rw [hk]; simp) r2
      exact wp_runs ho (by rw [hwant]; exact c1) r1 (ih _ _ _ _ _ _ I2 hcnt)
    | new ob =>
      rw [hk] at hcl
      obtain ⟨c1, c2, c3, c4, c5⟩ := hcl
      have he : evOp P (T.h q') (nx0 + i) ts o = some (.new (T.val i) ob) := by rw [← hal.op]; exact evOp_new c2 c3
      obtain ⟨v', w', co, p, r1, r2, r3, r4⟩ := evOp_sound I.rel I.trel (.inl c2) he
      obtain ⟨ρ', ts', I2⟩ := I.lays hst hdisc ho hn hm hk r2 r3 r4
      exact wp_runs ho (by rw [hwant]; exact c1) r1 (ih _ _ _ _ _ _ I2 hcnt)
    | act =>
      rw [hk] at hcl
      obtain ⟨c1, c2, c3, c4⟩ := hcl
      have hiq : i = q' := by
        rcases Nat.lt_or_ge i q' with h | h
        · exact absurd (I.ahead i h hk) hn
        · rcases hq' with hq' | hq'
          · omega
          · rcases Nat.lt_or_ge q' i with h2 | h2
            · have hb := c3 q' h2 hq'
              exact absurd hq' (I.behind q' (Nat.le_refl _) (hm q' hb))
            · omega
      subst hiq
      refine c2 ts hal ρ w a I.rel I.trel (I.free i hi hn) (I.blank i (Nat.le_refl _) hi) I.fresh Q _ fun v' w' ρ' g1 g2 g3 g4 => ?_
      obtain ⟨ts', I2⟩ := I.acts hst hdisc ho hn hm hk g1 g2 g3 g4 c1
      exact ih _ _ _ _ _ _ I2 hcnt

end Ev
end Go.Proofs.YteohlibpfgmcaaaGreatDoor
