/- A region that draws its order: the steps of whatever order is drawn. -/
import Derived.Test.YteohlibpfgmcaaaGreatDoorK13
namespace Go.Proofs.YteohlibpfgmcaaaGreatDoor
namespace Ev
open Go
set_option linter.unusedVariables false
set_option linter.unusedSimpArgs false
variable {ρ : Ren} {P : Program} {w : World} {n nx0 : Nat} {a : Act} {ops : Array Oper}
variable {T : Tc} {ρ₀ : Ren} {w₀ : World} {q : Nat} {ls : Array Bool} {ts : Tr Value}

/-- one that leaves memory as it is -/
theorem Inv.quiet (I : Inv P ops n nx0 T ρ₀ w₀ q ls ρ ts a w) (hst : ∀ i, i < ops.size → StepOK P ops n nx0 T i) (hdisc : disc ops = true) {i : Nat} {o : Oper} (ho : ops[i]? = some o) (hn : ¬ Ls ls i)
    (hm : ∀ k, bit ops i k → Ls ls k) (h1 : T.cl i ≠ .act) (h2 : ∀ ob, T.cl i ≠ .new ob) {v' : Value} (hv : VRel ρ (T.val i) v') :
    ∃ ts', Inv P ops n nx0 T ρ₀ w₀ q (ls.setIfInBounds i true) ρ ts' (a.put o.dst v') w := by
  have hi : i < ops.size := (Array.getElem?_eq_some_iff.1 ho).1
  have hsz : i < ls.size := by rw [I.size]; exact hi
  obtain ⟨ts', hp, hs⟩ := slots_put hst hdisc I ho hn hm
  have keep : ∀ j, ¬ Ls (ls.setIfInBounds i true) j → ¬ Ls ls j := fun j hj h => hj ((ls_set hsz).2 (.inr h))
  exact ⟨ts', {
    q_le := I.q_le, size := by simpa using I.size, closed := closed_put I hi hm,
    ahead := fun j hj hc => (ls_set hsz).2 (.inr (I.ahead j hj hc)),
    behind := fun j hj hl => by
      rcases (ls_set hsz).1 hl with rfl | h
      · exact h1
      · exact I.behind j hj h
    rel := I.rel, trel := I.trel.put hp hv, slots := hs,
    free := fun j hj hl => I.free j hj (keep j hl), fresh := I.fresh, nx := I.nx,
    early := fun j ob hj hl hc => by
      rcases (ls_set hsz).1 hl with rfl | h
      · exact absurd hc (h2 ob)
      · exact I.early j ob hj h hc
    blank := I.blank, blanks := I.blanks,
    pending := fun j ob hj hl hc => I.pending j ob hj (keep j hl) hc
    core := I.core,
    pend := fun b hb hx => I.pend b hb fun j ob hj hl hc => hx j ob hj (fun h => by
      rcases (ls_set hsz).1 h with rfl | h
      · exact h2 ob hc
      · exact hl h) hc }⟩

/-- one that lays a block -/
theorem Inv.lays (I : Inv P ops n nx0 T ρ₀ w₀ q ls ρ ts a w) (hst : ∀ i, i < ops.size → StepOK P ops n nx0 T i) (hdisc : disc ops = true) {i : Nat} {o : Oper} (ho : ops[i]? = some o) (hn : ¬ Ls ls i)
    (hm : ∀ k, bit ops i k → Ls ls k) {ob : AObj} (hcl : T.cl i = .new ob) {v' : Value} {w' : World} {co : Obj} {p : Pl} (hg : Grown w w' co) (hp : p.blk = w.heap.size)
    (hv : ∀ ρ' : Ren, ρ' (nx0 + i) = some p → (∀ b q, ρ b = some q → ρ' b = some q) → VRel ρ' (T.val i) v' ∧ ORel ρ' p ob (some co)) :
    ∃ ρ' ts', Inv P ops n nx0 T ρ₀ w₀ q (ls.setIfInBounds i true) ρ' ts' (a.put o.dst v') w' := by
  have hi : i < ops.size := (Array.getElem?_eq_some_iff.1 ho).1
  have hsz : i < ls.size := by rw [I.size]; exact hi
  obtain ⟨ts', hpt, hs⟩ := slots_put hst hdisc I ho hn hm
  have keep : ∀ j, ¬ Ls (ls.setIfInBounds i true) j → ¬ Ls ls j := fun j hj h => hj ((ls_set hsz).2 (.inr h))
  have hid : ρ (nx0 + i) = none := I.free i hi hn
  have hext := upd_ext (p := p) hid
  obtain ⟨v1, v2⟩ := hv (upd ρ (nx0 + i) p) (upd_self _ _) hext
  obtain ⟨r1, r2⟩ := I.rel.grow hg hid hp (fun o' hgt => by
    rcases Nat.lt_or_ge i q with hq | hq
    · rw [I.pending i ob hq hn hcl] at hgt; cases hgt; exact v2
    · rw [I.blank i hq hi] at hgt; cases hgt)
  have hnx := I.nx
  have hnew : w'.heap[p.blk]? = some co := by rw [hg.heap, hp]; simp
  refine ⟨upd ρ (nx0 + i) p, ts', {
    q_le := I.q_le, size := by simpa using I.size, closed := closed_put I hi hm,
    ahead := fun j hj hc => (ls_set hsz).2 (.inr (I.ahead j hj hc)),
    behind := fun j hj hl => by
      rcases (ls_set hsz).1 hl with rfl | h
      · rw [hcl]; simp
      · exact I.behind j hj h
    rel := r1, trel := (I.trel.mono hext).put hpt v1, slots := hs,
    free := fun j hj hl => by
      have hji : j ≠ i := fun e => hl ((ls_set hsz).2 (.inl e))
      have := I.free j hj (keep j hl)
      unfold upd; rw [if_neg (by omega)]; exact this
    fresh := fun b hb => by
      have := I.fresh b hb
      refine ⟨?_, this.2⟩
      unfold upd; rw [if_neg (by omega)]; exact this.1
    nx := I.nx,
    early := fun j ob' hj hl hc => by
      rcases (ls_set hsz).1 hl with rfl | h
      · rw [hcl] at hc; cases hc
        exact ⟨p, upd_self _ _, by rw [hnew]; exact v2⟩
      · obtain ⟨p2, g1, g2⟩ := I.early j ob' hj h hc
        refine ⟨p2, hext _ _ g1, ?_⟩
        have hb := I.rel.blk _ _ g1
        have : w'.heap[p2.blk]? = w.heap[p2.blk]? := by rw [hg.heap, Array.getElem?_push_lt hb, Array.getElem?_eq_getElem hb]
        rw [this]; exact g2.mono hext
    blank := I.blank, blanks := I.blanks,
    pending := fun j ob' hj hl hc => I.pending j ob' hj (keep j hl) hc
    core := I.core.trans (r2.wide (Nat.le_refl _) (by omega : nx0 + i + 1 ≤ T.nx q)).toExtC (by omega) (Nat.le_refl _),
    pend := fun b hb hx => by
      have hbi : b ≠ nx0 + i := fun e => by rw [e, upd_self] at hb; cases hb
      have hb' : ρ b = none := by
        cases hq : ρ b with
        | none => rfl
        | some z => rw [hext _ _ hq] at hb; cases hb
      refine I.pend b hb' fun j ob' hj hl hc => ?_
      by_cases hji : j = i
      · subst hji; exact hbi
      · exact hx j ob' hj (fun h => by
          rcases (ls_set hsz).1 h with e | h
          · exact hji e
          · exact hl h) hc }⟩

/-- the one that nobody passes by -/
theorem Inv.acts (I : Inv P ops n nx0 T ρ₀ w₀ q ls ρ ts a w) (hst : ∀ i, i < ops.size → StepOK P ops n nx0 T i) (hdisc : disc ops = true) {o : Oper} (ho : ops[q]? = some o) (hn : ¬ Ls ls q)
    (hm : ∀ k, bit ops q k → Ls ls k) (hcl : T.cl q = .act) {v' : Value} {w' : World} {ρ' : Ren} (hv : VRel ρ' (T.val q) v') (hr : Rel P ρ' (T.h (q + 1)) w') (hx : Ext nx0 (T.nx (q + 1)) ρ (T.h q) w ρ' (T.h (q + 1)) w')
    (hnew : ∀ b p, ρ b = none → ρ' b = some p → b = nx0 + q ∨ T.nx q ≤ b) (hle : T.nx q ≤ T.nx (q + 1)) :
    ∃ ts', Inv P ops n nx0 T ρ₀ w₀ (q + 1) (ls.setIfInBounds q true) ρ' ts' (a.put o.dst v') w' := by
  have hi : q < ops.size := (Array.getElem?_eq_some_iff.1 ho).1
  have hsz : q < ls.size := by rw [I.size]; exact hi
  obtain ⟨ts', hpt, hs⟩ := slots_put hst hdisc I ho hn hm
  have keep : ∀ j, ¬ Ls (ls.setIfInBounds q true) j → ¬ Ls ls j ∧ j ≠ q := fun j hj => ⟨fun h => hj ((ls_set hsz).2 (.inr h)), fun e => hj ((ls_set hsz).2 (.inl e))⟩
  have hnx := I.nx
  have still : ∀ j, j < ops.size → j ≠ q → ρ (nx0 + j) = none → ρ' (nx0 + j) = none := fun j hj hjq h => by
    cases hq : ρ' (nx0 + j) with
    | none => rfl
    | some p =>
      rcases hnew _ _ h hq with e | e
      · omega
      · omega
  have old : ∀ j, Ls (ls.setIfInBounds q true) j → j ≠ q → Ls ls j := fun j hj hjq => ((ls_set hsz).1 hj).resolve_left hjq
  refine ⟨ts', {
    q_le := hi, size := by simpa using I.size, closed := closed_put I hi hm,
    ahead := fun j hj hc => by
      by_cases e : j = q
      · exact (ls_set hsz).2 (.inl e)
      · exact (ls_set hsz).2 (.inr (I.ahead j (by omega) hc))
    behind := fun j hj hl => I.behind j (by omega) (old j hl (by omega)),
    rel := hr, trel := (I.trel.mono hx.ext).put hpt hv, slots := hs,
    free := fun j hj hl => still j hj (keep j hl).2 (I.free j hj (keep j hl).1),
    fresh := fun b hb => by
      have h1 := I.fresh b (by omega)
      have h2 : ρ' b = none := by
        cases hq : ρ' b with
        | none => rfl
        | some p => have := (hx.new b p h1.1 hq).2; omega
      exact ⟨h2, by rw [hx.pend b h2]; exact h1.2⟩
    nx := by omega,
    early := fun j ob hj hl hc => by
      have hl2 := old j hl (by omega)
      obtain ⟨p, g1, g2⟩ := I.early j ob (by omega) hl2 hc
      have hjs : j < ops.size := by
        have : j < ls.size := by
          rcases Nat.lt_or_ge j ls.size with h | h
          · exact h
          · unfold Ls at hl2; simp [Array.getD_eq_getD_getElem?, Array.getElem?_eq_none h] at hl2
        rw [I.size] at this; exact this
      have hblank := I.blank j (by omega) hjs
      refine ⟨p, hx.ext _ _ g1, ?_⟩
      rw [hx.fr p.blk (I.rel.blk _ _ g1) fun b2 p2 hb2 he => ?_]
      · exact g2.mono hx.ext
      · cases hg : (T.h q).get b2 with
        | none => exact .inl hg
        | some o2 =>
          cases o2 with
          | dead => exact .inr hg
          | _ =>
            have := I.rel.inj b2 (nx0 + j) p2 p hb2 g1 (by rw [hg]; simp) (by rw [hblank]; simp) he
            rw [this, hblank] at hg; cases hg
    blank := fun j hj hjs => by
      have hb := I.blank j (by omega) hjs
      cases hq : ρ (nx0 + j) with
      | none => rw [hx.pend _ (still j hjs (by omega) hq)]; exact hb
      | some p => exact hx.away _ _ hq hb
    blanks := fun j ob hj hc => by
      by_cases e : j = q
      · subst e; rw [hcl] at hc; cases hc
      · exact I.blanks j ob (by omega) hc
    pending := fun j ob hj hl hc => by
      obtain ⟨k1, k2⟩ := keep j hl
      rw [hx.pend _ (still j (by omega) k2 (I.free j (by omega) k1))]
      exact I.pending j ob (by omega) k1 hc
    core := I.core.trans hx.toExtC (Nat.le_refl _) hle,
    pend := fun b hb hxx => by
      have hb' : ρ b = none := by
        cases hq : ρ b with
        | none => rfl
        | some z => rw [hx.ext _ _ hq] at hb; cases hb
      rw [hx.pend b hb]
      refine I.pend b hb' fun j ob hj hl hc => hxx j ob (by omega) (fun h => ?_) hc
      exact hl (old j h (by omega)) }⟩

/-- the evaluator goes on by one that is quiet -/
theorem Inv.on (I : Inv P ops n nx0 T ρ₀ w₀ q ls ρ ts a w) (hst : ∀ i, i < ops.size → StepOK P ops n nx0 T i) (H0 : ∀ b, nx0 ≤ b → ρ₀ b = none ∧ (T.h 0).get b = none) (hq : q < ops.size) (hcl : T.cl q ≠ .act) :
    Inv P ops n nx0 T ρ₀ w₀ (q + 1) ls ρ ts a w := by
  obtain ⟨o, ho, hp, hc⟩ := hst q hq
  have hnx := I.nx
  have plain : (∀ ob, T.cl q ≠ .new ob) → T.h (q + 1) = T.h q → T.nx (q + 1) = T.nx q → Inv P ops n nx0 T ρ₀ w₀ (q + 1) ls ρ ts a w := fun hno e1 e2 => {
    q_le := hq, size := I.size, closed := I.closed,
    ahead := fun j hj hcc => by
      by_cases e : j = q
      · subst e; exact absurd hcc hcl
      · exact I.ahead j (by omega) hcc
    behind := fun j hj hl => I.behind j (by omega) hl,
    rel := e1 ▸ I.rel, trel := I.trel, slots := I.slots, free := I.free, fresh := fun b hb => by rw [e1]; exact I.fresh b (by omega),
    nx := by omega, early := fun j ob hj hl hc => I.early j ob (by omega) hl hc,
    blank := fun j hj hjs => by rw [e1]; exact I.blank j (by omega) hjs,
    blanks := fun j ob hj hcc => by
      by_cases e : j = q
      · subst e; exact absurd hcc (hno ob)
      · exact I.blanks j ob (by omega) hcc
    pending := fun j ob hj hl hcc => by
      by_cases e : j = q
      · subst e; exact absurd hcc (hno ob)
      · rw [e1]; exact I.pending j ob (by omega) hl hcc
    core := by rw [e1, e2]; exact I.core,
    pend := fun b hb hx => by rw [e1]; exact I.pend b hb fun j ob hj hl hc => hx j ob (by omega) hl hc }
  cases hk : T.cl q with
  | act => exact absurd hk hcl
  | skip => rw [hk] at hc; exact plain (by rw [hk]; simp) hc.2.2.1 hc.2.2.2
  | still => rw [hk] at hc; exact plain (by rw [hk]; simp) hc.2.2.2.1 hc.2.2.2.2
  | read => rw [hk] at hc; exact plain (by rw [hk]; simp) hc.2.2.1 hc.2.2.2.1
  | new ob =>
    rw [hk] at hc
    obtain ⟨_, _, _, e1, e2⟩ := hc
    have hbl := I.blank q (Nat.le_refl _) hq
    exact {
      q_le := hq, size := I.size, closed := I.closed,
      ahead := fun j hj hcc => by
        by_cases e : j = q
        · subst e; exact absurd hcc hcl
        · exact I.ahead j (by omega) hcc
      behind := fun j hj hl => I.behind j (by omega) hl,
      rel := by
        rw [e1]
        refine I.rel.lay (fun p hp => ?_) (by rw [hbl]; simp)
        by_cases hl : Ls ls q
        · obtain ⟨p2, g1, g2⟩ := I.early q ob (Nat.le_refl _) hl hk
          rw [hp] at g1; cases g1; exact g2
        · rw [I.free q hq hl] at hp; cases hp
      trel := I.trel, slots := I.slots, free := I.free,
      fresh := fun b hb => by
        have := I.fresh b (by omega)
        rw [e1, Tr.get_set_ne _ _ (by omega)]; exact this
      nx := by omega, early := fun j ob' hj hl hc => I.early j ob' (by omega) hl hc,
      blank := fun j hj hjs => by rw [e1, Tr.get_set_ne _ _ (by omega)]; exact I.blank j (by omega) hjs,
      blanks := fun j ob' hj hcc => by
        by_cases e : j = q
        · subst e; exact hbl
        · exact I.blanks j ob' (by omega) hcc
      pending := fun j ob' hj hl hcc => by
        rw [e1]
        by_cases e : j = q
        · subst e; rw [hk] at hcc; cases hcc; exact Tr.get_set_self _ _ _
        · rw [Tr.get_set_ne _ _ (by omega)]; exact I.pending j ob' (by omega) hl hcc
      core := by
        rw [e1, e2]
        exact { I.core with
          away := fun b p hb hn => by
            rw [Tr.get_set_ne _ _ (fun e => by rw [e, (H0 (nx0 + q) (by omega)).1] at hb; cases hb)]
            exact I.core.away b p hb hn
          dead := fun b hn => by
            rw [Tr.get_set_ne _ _ (fun e => by rw [e, (H0 (nx0 + q) (by omega)).2] at hn; cases hn)]
            exact I.core.dead b hn }
      pend := fun b hb hx => by
        have hbq : b ≠ nx0 + q := fun e => by
          by_cases hl : Ls ls q
          · obtain ⟨p2, g1, g2⟩ := I.early q ob (Nat.le_refl _) hl hk
            rw [e, g1] at hb; cases hb
          · exact hx q ob (by omega) hl hk e
        rw [e1, Tr.get_set_ne _ _ hbq]
        exact I.pend b hb fun j ob' hj hl hc => hx j ob' (by omega) hl hc }

/-- to the next one that nobody passes by, or to the end -/
theorem Inv.far (hst : ∀ i, i < ops.size → StepOK P ops n nx0 T i) (H0 : ∀ b, nx0 ≤ b → ρ₀ b = none ∧ (T.h 0).get b = none) : ∀ (k q : Nat), k + q = ops.size → Inv P ops n nx0 T ρ₀ w₀ q ls ρ ts a w →
    ∃ q', Inv P ops n nx0 T ρ₀ w₀ q' ls ρ ts a w ∧ (q' = ops.size ∨ T.cl q' = .act)
  | 0, q, hk, I => ⟨q, I, .inl (by omega)⟩
  | k + 1, q, hk, I => by
    cases hc : T.cl q with
    | act => exact ⟨q, I, .inr hc⟩
    | _ => exact Inv.far hst H0 k (q + 1) (by omega) (I.on hst H0 (by omega) (by rw [hc]; simp))

/-- what is read may be read now -/
theorem Inv.reads (I : Inv P ops n nx0 T ρ₀ w₀ q ls ρ ts a w) (hst : ∀ i, i < ops.size → StepOK P ops n nx0 T i) (hq : q = ops.size ∨ T.cl q = .act) {i : Nat} {o : Oper} (ho : ops[i]? = some o) (hn : ¬ Ls ls i)
    (hm : ∀ k, bit ops i k → Ls ls k) (hcl : T.cl i = .read) : evOp P (T.h q) 0 (T.ts i) o = some (.val (T.val i)) := by
  have hi : i < ops.size := (Array.getElem?_eq_some_iff.1 ho).1
  obtain ⟨o2, ho2, hp, hc⟩ := hst i hi
  rw [ho] at ho2; cases ho2
  rw [hcl] at hc
  obtain ⟨hw, he, e1, e2, hb⟩ := hc
  rcases Nat.lt_or_ge i q with hiq | hiq
  · have key : ∀ k m, i < m → m + k = q → evOp P (T.h m) 0 (T.ts i) o = some (.val (T.val i)) → evOp P (T.h q) 0 (T.ts i) o = some (.val (T.val i)) := by
      intro k
      induction k with
      | zero => intro m _ hmq h; have : m = q := by omega
                subst this; exact h
      | succ k ih =>
        intro m him hmq h
        refine ih (m + 1) (by omega) (by omega) ?_
        have hql := I.q_le
        obtain ⟨om, hom, _, hcm⟩ := hst m (by omega)
        cases hk : T.cl m with
        | skip => rw [hk] at hcm; rw [hcm.2.2.1]; exact h
        | still => rw [hk] at hcm; rw [hcm.2.2.2.1]; exact h
        | read => rw [hk] at hcm; rw [hcm.2.2.1]; exact h
        | new ob =>
          rw [hk] at hcm
          rw [hcm.2.2.2.1]
          exact evOp_mono (Le.set (I.blanks m ob (by omega) hk)) h
        | act =>
          rw [hk] at hcm
          refine hcm.2.2.2 i o him hcl (fun hbit => ?_) ho
          exact hn (I.closed m (I.ahead m (by omega) hk) i hbit)
    exact key (q - (i + 1)) (i + 1) (by omega) (by omega) (by rw [e1]; exact evOp_mono (Le.refl _) he)
  · rcases hq with hq | hq
    · omega
    · have hne : i ≠ q := fun e => by rw [e, hq] at hcl; cases hcl
      have hnq : ¬ Ls ls q := fun h => I.behind q (Nat.le_refl _) h hq
      exact hb q (by omega) hq fun hbit => hnq (hm q hbit)

end Ev
end Go.Proofs.YteohlibpfgmcaaaGreatDoor
