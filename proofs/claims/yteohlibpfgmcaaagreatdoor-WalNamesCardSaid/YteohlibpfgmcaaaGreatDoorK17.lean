/- The evaluator is sound: regions. -/
import Derived.Test.YteohlibpfgmcaaaGreatDoorK16
namespace Go.Proofs.YteohlibpfgmcaaaGreatDoor
namespace Ev
open Go
set_option linter.unusedVariables false
set_option linter.unusedSimpArgs false
variable {P : Program} {all : Array Oper} {n nx0 i : Nat} {T₀ : Tc} {ts : Tr Value} {h : Heap} {nx : Nat}

theorem drop_cons {α : Type} {l : List α} {x : α} {r : List α} {i : Nat} (h : l.drop i = x :: r) : l[i]? = some x ∧ l.drop (i + 1) = r ∧ i < l.length := by
  have h1 : l[i]? = some x := by
    have := List.getElem?_drop (xs := l) (i := i) (j := 0)
    rw [h] at this
    simpa using this.symm
  refine ⟨h1, ?_, (List.getElem?_eq_some_iff.1 h1).1⟩
  have : l.drop (i + 1) = (l.drop i).drop 1 := by rw [List.drop_drop]
  rw [this, h]; rfl

theorem any_next {o : Oper} {l : List Oper} {b : Nat} {bs : List Nat} {act' : Nat} {hs' : List (Nat × Heap)} {rq' : List (Nat × Oper × Value × Tr Value)} {v : Value} {c : Cl} {ts' : Tr Value} {h' : Heap} {nx' : Nat} {r : Rs}
    (hd1 : all.toList.drop i = o :: l) (hd2 : (Region.before all).toList.drop i = b :: bs) (hnx : nx0 + all.size ≤ nx') (hlt : act' < 2 ^ (i + 1)) (e1 : T₀.ts i = ts) (e2 : T₀.h i = h) (e3 : T₀.nx i = nx)
    (hst : ∀ j, j < i → StepOK P all n nx0 T₀ j) (hA : ∀ j, j < i → T₀.cl j = .act → act'.testBit j = true ∧ (j, T₀.h j) ∈ hs') (hR : ∀ j oj, j < i → T₀.cl j = .read → all[j]? = some oj → (j, oj, T₀.val j, T₀.ts j) ∈ rq')
    (hAi : c = .act → act'.testBit i = true ∧ (i, h) ∈ hs') (hRi : c = .read → (i, o, v, ts) ∈ rq') (hle : nx ≤ nx')
    (hstep : StepOK P all n nx0 (T₀.put i v c ts' h' nx') i) (G : Good P (.any all l bs (i + 1) nx0 act' hs' rq') ts' n h' nx' r) :
    r.e = .normal ∧ nx ≤ r.nx ∧ ∃ T : Tc, (∀ j, j < all.size → StepOK P all n nx0 T j) ∧ T.ts 0 = T₀.ts 0 ∧ T.h 0 = T₀.h 0 ∧ T.nx 0 = T₀.nx 0 ∧ T.ts all.size = r.ts ∧ T.h all.size = r.h ∧ T.nx all.size = r.nx := by
  obtain ⟨ho, hd1', hi⟩ := drop_cons hd1
  obtain ⟨_, hd2', _⟩ := drop_cons hd2
  have hi : i < all.size := by simpa using hi
  have ho : all[i]? = some o := by simpa using ho
  obtain ⟨g1, g2, T, g3, g4, g5, g6, g7, g8, g9⟩ := G (T₀.put i v c ts' h' nx') hd1' hd2' hi hnx hlt (by simp [Tc.put]) (by simp [Tc.put]) (by simp [Tc.put])
    (fun j hj => by
      rcases Nat.lt_or_ge j i with hji | hji
      · exact put_steps hst j hji
      · have : j = i := by omega
        subst this; exact hstep)
    (fun j hj hc => by
      rcases Nat.lt_or_ge j i with hji | hji
      · simp only [Tc.put, show j ≠ i by omega, show j ≠ i + 1 by omega, if_false] at hc ⊢
        exact hA j hji hc
      · have : j = i := by omega
        subst this
        simp only [Tc.put, if_true] at hc
        simp only [Tc.put, show j ≠ j + 1 by omega, if_false, e2]
        exact hAi hc)
    (fun j oj hj hc hoj => by
      rcases Nat.lt_or_ge j i with hji | hji
      · simp only [Tc.put, show j ≠ i by omega, show j ≠ i + 1 by omega, if_false] at hc ⊢
        exact hR j oj hji hc hoj
      · have : j = i := by omega
        subst this
        simp only [Tc.put, if_true] at hc
        simp only [Tc.put, show j ≠ j + 1 by omega, if_false, if_true, e1]
        rw [ho] at hoj; cases hoj
        exact hRi hc)
  exact ⟨g1, Nat.le_trans hle g2, T, g3, by rw [g4]; simp [Tc.put], by rw [g5]; simp [Tc.put], by rw [g6]; simp [Tc.put], g7, g8, g9⟩

/-! ### Those that nobody passes by -/

theorem semA_of {o : Oper} {T : Tc} {out : Out} (ho : all[i]? = some o) (hi : i < all.size) (hw : wantedA (T.ts i) all o = true) (he : evOp P (T.h i) (nx0 + i) (T.ts i) o = some out) (hnx : nx0 + all.size ≤ T.nx i) (hle : T.nx i ≤ T.nx (i + 1))
    (hout : match out with
      | .act v h' => T.val i = v ∧ T.h (i + 1) = h'
      | .new v ob => T.val i = v ∧ T.h (i + 1) = (T.h i).set (nx0 + i) ob
      | .enter f args => GoodCall P f args (T.h i) (T.nx i) (T.val i) (T.h (i + 1)) (T.nx (i + 1))
      | .val _ => False) : SemA P all n nx0 T i o := by
  intro ts' hal ρ w a hr ht hid hd hfr Q K hK
  have hwant : Region.wanted o (yielded all a.tmps) = true := by rw [wanted_rel ht, ← hal.wanted]; exact hw
  have he2 : evOp P (T.h i) (nx0 + i) ts' o = some out := by rw [← hal.op]; exact he
  have hok := evOp_sound hr ht (.inr hd) he2
  cases out with
  | val v => exact hout.elim
  | act v h' =>
    obtain ⟨e1, e2⟩ := hout
    obtain ⟨v', w', ρ', r1, r2, r3, r4⟩ := hok hid
    refine wp_runs ho hwant r1 (hK v' w' ρ' (by rw [e1]; exact r2) (by rw [e2]; exact r3) (by rw [e2]; exact r4.wide (by omega) (by omega)) fun b p h1 h2 => ?_)
    have := r4.new b p h1 h2
    exact .inl (by omega)
  | new v ob =>
    obtain ⟨e1, e2⟩ := hout
    obtain ⟨v', w', co, p, r1, r2, r3, r4⟩ := hok
    have hext := upd_ext (p := p) hid
    obtain ⟨v1, v2⟩ := r4 _ (upd_self _ _) hext
    obtain ⟨g1, g2⟩ := hr.alloc r2 hid hd r3 v2
    refine wp_runs ho hwant r1 (hK v' w' _ (by rw [e1]; exact v1) (by rw [e2]; exact g1) (by rw [e2]; exact g2.wide (by omega) (by omega)) fun b q h1 h2 => ?_)
    have := g2.new b q h1 h2
    exact .inl (by omega)
  | enter f args =>
    obtain ⟨args', r1, r2⟩ := hok
    obtain ⟨c1, c2⟩ := hout
    have hc := c2 ρ w args' hr hfr r2
    unfold wpOp
    simp only [ho, hwant, if_true]
    refine .inl ?_
    unfold Oper.wp
    rw [r1]
    refine Calls.mono hc fun e w' hx => ?_
    obtain ⟨v', ρ', rfl, g1, g2, g3⟩ := hx
    exact hK v' w' ρ' g1 g2 (g3.wide (by omega) (Nat.le_refl _)) fun b q h1 h2 => .inr (g3.new b q h1 h2).1

theorem any_act {o : Oper} {l : List Oper} {b : Nat} {bs : List Nat} {act : Nat} {hs : List (Nat × Heap)} {rq : List (Nat × Oper × Value × Tr Value)} {v : Value} {h' : Heap} {nx' : Nat} {r : Rs} {rec : Rec} {out : Out}
    (hrec : ∀ t ts n h nx r, rec t ts n h nx = some r → Good P t ts n h nx r)
    (hd1 : all.toList.drop i = o :: l) (hd2 : (Region.before all).toList.drop i = b :: bs) (hnx : nx0 + all.size ≤ nx) (hlt : act < 2 ^ i) (e1 : T₀.ts i = ts) (e2 : T₀.h i = h) (e3 : T₀.nx i = nx)
    (hst : ∀ j, j < i → StepOK P all n nx0 T₀ j) (hA : ∀ j, j < i → T₀.cl j = .act → act.testBit j = true ∧ (j, T₀.h j) ∈ hs) (hR : ∀ j oj, j < i → T₀.cl j = .read → all[j]? = some oj → (j, oj, T₀.val j, T₀.ts j) ∈ rq)
    (hw : wantedA ts all o = true) (he : evOp P h (nx0 + i) ts o = some out) (hle : nx ≤ nx')
    (hout : match out with
      | .act v0 h0 => v = v0 ∧ h' = h0
      | .new v0 ob => v = v0 ∧ h' = h.set (nx0 + i) ob
      | .enter f args => GoodCall P f args h nx v h' nx'
      | .val _ => False)
    (H : actAny P rec all l b bs i nx0 act hs rq ts o.dst n h v h' nx' = some r) :
    r.e = .normal ∧ nx ≤ r.nx ∧ ∃ T : Tc, (∀ j, j < all.size → StepOK P all n nx0 T j) ∧ T.ts 0 = T₀.ts 0 ∧ T.h 0 = T₀.h 0 ∧ T.nx 0 = T₀.nx 0 ∧ T.ts all.size = r.ts ∧ T.h all.size = r.h ∧ T.nx all.size = r.nx := by
  unfold actAny at H
  split at H
  · rename_i hc
    simp only [Bool.and_eq_true] at hc
    obtain ⟨m1, m2⟩ := hc
    unfold goAny at H
    split at H
    · cases H
    · rename_i ts' hput
      have G := hrec _ _ _ _ _ _ H
      obtain ⟨ho, _, hi⟩ := drop_cons hd1
      obtain ⟨hb, _, _⟩ := drop_cons hd2
      have hi : i < all.size := by simpa using hi
      have ho : all[i]? = some o := by simpa using ho
      have hbb : (Region.before all).getD i 0 = b := by
        rw [Array.getD_eq_getD_getElem?]
        have : (Region.before all)[i]? = some b := by simpa using hb
        rw [this]; rfl
      have hadd := fun j => mask_add (act := act) (i := i) (j := j) hlt
      refine any_next (v := v) (c := .act) hd1 hd2 (by omega) (by rw [Nat.pow_succ]; omega) e1 e2 e3 hst
        (fun j hj hcj => ⟨by rw [hadd]; simp [(hA j hj hcj).1], List.mem_cons_of_mem _ (hA j hj hcj).2⟩) hR (fun _ => ⟨by rw [hadd]; simp, by simp⟩) (fun hc => by cases hc) hle ?_ G
      refine ⟨o, ho, by simp [Tc.put, e1, hput], ?_⟩
      have hcl : (T₀.put i v .act ts' h' nx').cl i = .act := by simp [Tc.put]
      rw [hcl]
      refine ⟨by simp [Tc.put, e3]; exact hle, ?_, fun j hj hcj => ?_, fun j oj hj hcj hbj hoj => ?_⟩
      · refine semA_of (out := out) ho hi (by simp [Tc.put, e1]; exact hw) (by simp [Tc.put, e1, e2]; exact he) (by simp [Tc.put, e3]; exact hnx) (by simp [Tc.put, e3]; exact hle) ?_
        cases out with
        | val v => exact hout
        | act v0 h0 => simpa [Tc.put] using hout
        | new v0 ob => simpa [Tc.put, e2] using hout
        | enter f args => simpa [Tc.put, e2, e3] using hout
      · have hcj' : T₀.cl j = .act := by simpa [Tc.put, show j ≠ i by omega] using hcj
        show ((Region.before all).getD i 0).testBit j = true
        rw [hbb]
        exact mask_sub m1 (hA j hj hcj').1
      · have hcj' : T₀.cl j = .read := by simpa [Tc.put, show j ≠ i by omega] using hcj
        have hbj' : ¬ b.testBit j = true := by
          have : ¬ ((Region.before all).getD i 0).testBit j = true := hbj
          rwa [hbb] at this
        have := recheck_spec m2 j oj (T₀.val j) (T₀.ts j) (hR j oj hj hcj' hoj) hbj'
        simpa [Tc.put, show j ≠ i by omega, show j ≠ i + 1 by omega] using this
  · cases H

theorem good_any {l : List Oper} {bs : List Nat} {act : Nat} {hs : List (Nat × Heap)} {rq : List (Nat × Oper × Value × Tr Value)} {r : Rs} {rec : Rec} (hrec : ∀ t ts n h nx r, rec t ts n h nx = some r → Good P t ts n h nx r)
    (H : anyS P rec all l bs i nx0 act hs rq ts n h nx = some r) : Good P (.any all l bs i nx0 act hs rq) ts n h nx r := by
  intro T₀ hd1 hd2 hile hnx hlt e1 e2 e3 hst hA hR
  unfold anyS at H
  split at H
  · cases H
    have : i = all.size := by
      have := List.drop_eq_nil_iff.1 hd1
      simp at this; omega
    subst this
    exact ⟨rfl, Nat.le_refl _, T₀, hst, rfl, rfl, rfl, e1, e2, e3⟩
  · rename_i o l b bs
    obtain ⟨ho, _, hi⟩ := drop_cons hd1
    obtain ⟨hb, _, _⟩ := drop_cons hd2
    have hi : i < all.size := by simpa using hi
    have ho : all[i]? = some o := by simpa using ho
    have hbb : (Region.before all).getD i 0 = b := by
      rw [Array.getD_eq_getD_getElem?]
      have : (Region.before all)[i]? = some b := by simpa using hb
      rw [this]; rfl
    have hlt2 : act < 2 ^ (i + 1) := by rw [Nat.pow_succ]; omega
    split at H
    · rename_i hw
      unfold goAny at H
      split at H
      · cases H
      · rename_i ts' hput
        have G := hrec _ _ _ _ _ _ H
        refine any_next (v := undefV) (c := .skip) hd1 hd2 hnx hlt2 e1 e2 e3 hst hA hR (fun hc => by cases hc) (fun hc => by cases hc) (Nat.le_refl _) ?_ G
        refine ⟨o, ho, by simp [Tc.put, e1, hput], ?_⟩
        have hcl : (T₀.put i undefV .skip ts' h nx).cl i = .skip := by simp [Tc.put]
        rw [hcl]
        exact ⟨by simp [Tc.put, e1]; exact hw, by simp [Tc.put], by simp [Tc.put, e2], by simp [Tc.put, e3]⟩
    · rename_i hw
      rw [evOpF_eq] at H
      unfold outAny at H
      split at H
      · cases H
      · rename_i out he
        split at H
        · rename_i v
          unfold valAny at H
          split at H
          · rename_i hread
            unfold goAny at H
            split at H
            · cases H
            · rename_i ts' hput
              have G := hrec _ _ _ _ _ _ H
              refine any_next (v := v) (c := .still) hd1 hd2 hnx hlt2 e1 e2 e3 hst hA hR (fun hc => by cases hc) (fun hc => by cases hc) (Nat.le_refl _) ?_ G
              refine ⟨o, ho, by simp [Tc.put, e1, hput], ?_⟩
              have hcl : (T₀.put i v .still ts' h nx).cl i = .still := by simp [Tc.put]
              rw [hcl]
              exact ⟨by simp [Tc.put, e1]; exact hw, hread, by simp [Tc.put, e1, e2]; exact he, by simp [Tc.put, e2], by simp [Tc.put, e3]⟩
          · split at H
            · rename_i hback
              unfold goAny at H
              split at H
              · cases H
              · rename_i ts' hput
                have G := hrec _ _ _ _ _ _ H
                refine any_next (v := v) (c := .read) hd1 hd2 hnx hlt2 e1 e2 e3 hst hA (fun j oj hj hc hoj => List.mem_cons_of_mem _ (hR j oj hj hc hoj)) (fun hc => by cases hc) (fun _ => by simp) (Nat.le_refl _) ?_ G
                refine ⟨o, ho, by simp [Tc.put, e1, hput], ?_⟩
                have hcl : (T₀.put i v .read ts' h nx).cl i = .read := by simp [Tc.put]
                rw [hcl]
                refine ⟨by simp [Tc.put, e1]; exact hw, by simp [Tc.put, e1, e2]; exact he, by simp [Tc.put, e2], by simp [Tc.put, e3], fun j hj hcj hbj => ?_⟩
                have hcj' : T₀.cl j = .act := by simpa [Tc.put, show j ≠ i by omega] using hcj
                have hbj' : ¬ b.testBit j = true := by
                  have : ¬ ((Region.before all).getD i 0).testBit j = true := hbj
                  rwa [hbb] at this
                have := backcheck_spec hback j (T₀.h j) (hA j hj hcj').2 hbj'
                simpa [Tc.put, show j ≠ i by omega, show j ≠ i + 1 by omega, e1] using this
            · cases H
        · rename_i v ob
          unfold newAny at H
          split at H
          · rename_i hq
            unfold goAny at H
            split at H
            · cases H
            · rename_i ts' hput
              have G := hrec _ _ _ _ _ _ H
              refine any_next (v := v) (c := .new ob) hd1 hd2 hnx hlt2 e1 e2 e3 hst hA hR (fun hc => by cases hc) (fun hc => by cases hc) (Nat.le_refl _) ?_ G
              refine ⟨o, ho, by simp [Tc.put, e1, hput], ?_⟩
              have hcl : (T₀.put i v (.new ob) ts' (h.set (nx0 + i) ob) nx).cl i = .new ob := by simp [Tc.put]
              rw [hcl]
              exact ⟨by simp [Tc.put, e1]; exact hw, hq, by simp [Tc.put, e1, e2]; exact he, by simp [Tc.put, e2], by simp [Tc.put, e3]⟩
          · exact any_act hrec hd1 hd2 hnx hlt e1 e2 e3 hst hA hR hw he (Nat.le_refl _) ⟨rfl, rfl⟩ H
        · exact any_act hrec hd1 hd2 hnx hlt e1 e2 e3 hst hA hR hw he (Nat.le_refl _) ⟨rfl, rfl⟩ H
        · rename_i f args
          unfold retAny at H
          split at H
          · cases H
          · rename_i r0 hr0
            have G0 : GoodCall P f args h nx r0.v r0.h r0.nx := hrec _ _ _ _ _ _ hr0
            exact any_act hrec hd1 hd2 hnx hlt e1 e2 e3 hst hA hR hw he G0.1 G0 H
  · cases H

end Ev
end Go.Proofs.YteohlibpfgmcaaaGreatDoor
