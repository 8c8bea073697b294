/- The evaluator is sound: code, calls. -/
import Derived.Test.YteohlibpfgmcaaaGreatDoorK17
namespace Go.Proofs.YteohlibpfgmcaaaGreatDoor
namespace Ev
open Go
set_option linter.unusedVariables false
set_option linter.unusedSimpArgs false
variable {P : Program}

/-! ### Operations in the order of the text -/

theorem good_ops {all : Array Oper} {l : List Oper} {ts : Tr Value} {n : Nat} {h : Heap} {nx : Nat} {r : Rs} {rec : Rec} (hrec : ∀ t ts n h nx r, rec t ts n h nx = some r → Good P t ts n h nx r)
    (H : opsS P rec all l ts n h nx = some r) : Good P (.ops all l) ts n h nx r := by
  intro i hd
  unfold opsS at H
  split at H
  · cases H
    exact ⟨rfl, Nat.le_refl _, fun ρ w a hr hf ht Q hQ => hQ ρ a w hr ht (Ext.refl _ _ _ _ _)⟩
  · rename_i o l
    obtain ⟨ho, hd', hi⟩ := drop_cons hd
    have ho : all[i]? = some o := by simpa using ho
    have hlist : List.range' i (o :: l).length = i :: List.range' (i + 1) l.length := by simp [List.range'_succ]
    rw [hlist]
    -- the rest
    have next : ∀ {v : Value} {ts' : Tr Value} {h' : Heap} {nx' : Nat}, goOps rec all l (some ts') n h' nx' = some r → r.e = .normal ∧ nx' ≤ r.nx ∧ ∀ (ρ : Ren) (w : World) (a : Act), Rel P ρ h' w → Fresh nx' ρ h' → TRel ρ ts' n a →
        ∀ Q : Exit → Act → World → Prop, (∀ ρ' a' w', Rel P ρ' r.h w' → TRel ρ' r.ts n a' → Ext nx' r.nx ρ h' w ρ' r.h w' → Q .normal a' w') → wpOps P all Q (List.range' (i + 1) l.length) a w := fun hgo => hrec _ _ _ _ _ _ hgo (i + 1) hd'
    have putOf : ∀ {v : Value} {h' : Heap} {nx' : Nat}, goOps rec all l (putA ts n o.dst v) n h' nx' = some r → ∃ ts', putA ts n o.dst v = some ts' ∧ goOps rec all l (some ts') n h' nx' = some r := fun {v h' nx'} hgo => by
      cases hq : putA ts n o.dst v with
      | none => rw [hq] at hgo; cases hgo
      | some ts' => exact ⟨ts', rfl, by rw [hq] at hgo; exact hgo⟩
    split at H
    · rename_i hw
      obtain ⟨ts', hp, hgo⟩ := putOf H
      obtain ⟨g1, g2, g3⟩ := next (v := undefV) hgo
      refine ⟨g1, g2, fun ρ w a hr hf ht Q hQ => ?_⟩
      rw [wpOps_cons]
      exact wp_struck ho (by rw [wanted_rel ht]; exact hw) (g3 ρ w _ hr hf (ht.put hp undef_rel) Q hQ)
    · rename_i hw
      rw [evOpF_eq] at H
      unfold outOps at H
      split at H
      · cases H
      · rename_i out he
        split at H
        · rename_i v
          obtain ⟨ts', hp, hgo⟩ := putOf H
          obtain ⟨g1, g2, g3⟩ := next (v := v) hgo
          refine ⟨g1, g2, fun ρ w a hr hf ht Q hQ => ?_⟩
          rw [wpOps_cons]
          obtain ⟨v', r1, r2⟩ := evOp_sound_val hr ht he
          exact wp_runs ho (by rw [wanted_rel ht]; exact hw) r1 (g3 ρ w _ hr hf (ht.put hp r2) Q hQ)
        · rename_i v ob
          obtain ⟨ts', hp, hgo⟩ := putOf H
          obtain ⟨g1, g2, g3⟩ := next (v := v) hgo
          refine ⟨g1, by omega, fun ρ w a hr hf ht Q hQ => ?_⟩
          rw [wpOps_cons]
          obtain ⟨f1, f2⟩ := hf nx (Nat.le_refl _)
          obtain ⟨v', w', co, p, r1, r2, r3, r4⟩ := evOp_sound hr ht (.inr f2) he
          have hext := upd_ext (p := p) f1
          obtain ⟨v1, v2⟩ := r4 _ (upd_self _ _) hext
          obtain ⟨k1, k2⟩ := hr.alloc r2 f1 f2 r3 v2
          exact wp_runs ho (by rw [wanted_rel ht]; exact hw) r1 (g3 _ w' _ k1 (hf.on k2 (by omega)) ((ht.mono hext).put hp v1) Q fun ρ' a' w'' q1 q2 q3 => hQ ρ' a' w'' q1 q2 (k2.trans q3 (by omega) (by omega)))
        · rename_i v h'
          obtain ⟨ts', hp, hgo⟩ := putOf H
          obtain ⟨g1, g2, g3⟩ := next (v := v) hgo
          refine ⟨g1, by omega, fun ρ w a hr hf ht Q hQ => ?_⟩
          rw [wpOps_cons]
          obtain ⟨f1, f2⟩ := hf nx (Nat.le_refl _)
          obtain ⟨v', w', ρ', r1, r2, r3, r4⟩ := evOp_sound hr ht (.inr f2) he f1
          exact wp_runs ho (by rw [wanted_rel ht]; exact hw) r1 (g3 _ w' _ r3 (hf.on r4 (by omega)) ((ht.mono r4.ext).put hp r2) Q fun ρ' a' w'' q1 q2 q3 => hQ ρ' a' w'' q1 q2 (r4.trans q3 (by omega) (by omega)))
        · rename_i f args
          unfold retOps at H
          split at H
          · cases H
          · rename_i r0 hr0
            have G0 : GoodCall P f args h nx r0.v r0.h r0.nx := hrec _ _ _ _ _ _ hr0
            obtain ⟨ts', hp, hgo⟩ := putOf H
            obtain ⟨g1, g2, g3⟩ := next (v := r0.v) hgo
            have hle := G0.1
            refine ⟨g1, by omega, fun ρ w a hr hf ht Q hQ => ?_⟩
            rw [wpOps_cons]
            obtain ⟨f1, f2⟩ := hf nx (Nat.le_refl _)
            obtain ⟨args', r1, r2⟩ := evOp_sound hr ht (.inr f2) he
            have hc := G0.2 ρ w args' hr hf r2
            unfold wpOp
            simp only [ho, show Region.wanted o (yielded all a.tmps) = true by rw [wanted_rel ht]; exact hw, if_true]
            refine .inl ?_
            unfold Oper.wp
            rw [r1]
            refine Calls.mono hc fun e w' hx => ?_
            obtain ⟨v', ρ', rfl, q1, q2, q3⟩ := hx
            exact g3 ρ' w' _ q2 (hf.on q3 hle) ((ht.mono q3.ext).put hp q1) Q fun ρ'' a' w'' y1 y2 y3 => hQ ρ'' a' w'' y1 y2 (q3.trans y3 (by omega) (by omega))

/-! ### Code -/

variable {ts : Tr Value} {n : Nat} {h : Heap} {nx : Nat} {r : Rs} {rec : Rec}

/-- one that goes on at once -/
theorem goodAt_leaf {c : Code} {e0 : Ex} {e : Exit} (he : ExOk e0 e) (hw : ∀ (b : Frame) (a : Act) (w : World) (k : List Item) (cs : List Frame), Arrives P (lone (b.at a (.code c :: k)) cs w) b k cs e a w) :
    GoodAt P c [] ⟨e0, undefV, ts, h, nx⟩ ts n h nx :=
  ⟨Nat.le_refl _, fun ρ w a hr hf ht b k cs => ⟨e, a, w, ⟨he, ρ, hr, ht, Ext.refl _ _ _ _ _⟩, hw b a w k cs⟩⟩

/-- behind some code -/
theorem goodAt_then {c d : Code} {x y : List Item} {r1 : Rs} (G1 : GoodAt P c x r1 ts n h nx) (he : r1.e = .normal) (G2 : GoodAt P d y r r1.ts n r1.h r1.nx) {c0 : Code} {x0 : List Item}
    (h0 : ∀ (b : Frame) (a : Act) (w : World) (k : List Item) (cs : List Frame), Steps P (lone (b.at a (.code c0 :: (x0 ++ k))) cs w) (lone (b.at a (.code c :: (x ++ (.code d :: (y ++ k))))) cs w)) :
    GoodAt P c0 x0 r ts n h nx := by
  refine ⟨Nat.le_trans G1.1 G2.1, fun ρ w a hr hf ht b k cs => ?_⟩
  obtain ⟨e, a1, w1, ⟨e1, ρ1, q1, q2, q3⟩, harr⟩ := G1.2 ρ w a hr hf ht b (.code d :: (y ++ k)) cs
  rw [he] at e1
  cases e <;> simp only [ExOk] at e1
  obtain ⟨e, a2, w2, ⟨e2, ρ2, p1, p2, p3⟩, harr2⟩ := G2.2 ρ1 w1 a1 q1 (hf.on q3 G1.1) q2 b k cs
  exact ⟨e, a2, w2, ⟨e2, ρ2, p1, p2, q3.trans p3 G1.1 G2.1⟩, .of_steps ((h0 b a w k cs).trans harr) harr2⟩

/-- an exit that is no end goes through what is no block and no scope -/
theorem arrives_through {m : Machine} {b : Frame} {x : Item} {k : List Item} {cs : List Frame} {e : Exit} {a : Act} {w : World} (hx : x.plain = true) (he : e ≠ .normal) (h : Arrives P m b (x :: k) cs e a w) : Arrives P m b k cs e a w :=
  Arrives.pass hx (fun a' w' => .inl he) h

theorem ExOk.notNormal {e0 : Ex} {e : Exit} (h : ExOk e0 e) (hn : e0 ≠ .normal) : e ≠ .normal := by
  intro he
  subst he
  cases e0 <;> simp [ExOk] at h
  exact hn rfl

theorem good_seq {c d : Code} (hrec : ∀ t ts n h nx r, rec t ts n h nx = some r → Good P t ts n h nx r) (H : then1 rec d n (rec (.code c) ts n h nx) = some r) : GoodAt P (.seq c d) [] r ts n h nx := by
  unfold then1 at H
  split at H
  · cases H
  · rename_i r1 h1
    have G1 := (hrec _ _ _ _ _ _ h1).1
    split at H
    · rename_i he
      have G2 := (hrec _ _ _ _ _ _ H).1
      exact goodAt_then G1 he G2 (fun b a w k cs => by simpa using Steps.one step_seq)
    · rename_i hne
      cases H
      refine ⟨G1.1, fun ρ w a hr hf ht b k cs => ?_⟩
      obtain ⟨e, a1, w1, hp, harr⟩ := G1.2 ρ w a hr hf ht b (.code d :: k) cs
      exact ⟨e, a1, w1, hp, .of_steps (.one step_seq) (arrives_through rfl (hp.1.notNormal hne) harr)⟩

theorem good_loop {c : Code} (hrec : ∀ t ts n h nx r, rec t ts n h nx = some r → Good P t ts n h nx r) (H : then1 rec (.loop c) n (rec (.code c) ts n h nx) = some r) : GoodAt P c [.inLoop c] r ts n h nx := by
  unfold then1 at H
  split at H
  · cases H
  · rename_i r1 h1
    have G1 := (hrec _ _ _ _ _ _ h1).1
    split at H
    · rename_i he
      have G2 := (hrec _ _ _ _ _ _ H).2 c rfl
      refine ⟨Nat.le_trans G1.1 G2.1, fun ρ w a hr hf ht b k cs => ?_⟩
      obtain ⟨e, a1, w1, ⟨e1, ρ1, q1, q2, q3⟩, harr⟩ := G1.2 ρ w a hr hf ht b (.inLoop c :: k) cs
      rw [he] at e1
      cases e <;> simp only [ExOk] at e1
      obtain ⟨e, a2, w2, ⟨e2, ρ2, p1, p2, p3⟩, harr2⟩ := G2.2 ρ1 w1 a1 q1 (hf.on q3 G1.1) q2 b k cs
      have hst : Steps P (lone (b.at a (.code c :: ([.inLoop c] ++ k))) cs w) (lone (b.at a1 (.code c :: ([.inLoop c] ++ k))) cs w1) := Steps.trans harr (.one step_inLoop)
      exact ⟨e, a2, w2, ⟨e2, ρ2, p1, p2, q3.trans p3 G1.1 G2.1⟩, .of_steps hst harr2⟩
    · rename_i hne
      cases H
      refine ⟨G1.1, fun ρ w a hr hf ht b k cs => ?_⟩
      obtain ⟨e, a1, w1, hp, harr⟩ := G1.2 ρ w a hr hf ht b (.inLoop c :: k) cs
      exact ⟨e, a1, w1, hp, arrives_through rfl (hp.1.notNormal hne) harr⟩

theorem goodAt_step {c d : Code} {x : List Item} (G : GoodAt P d x r ts n h nx) (h0 : ∀ (b : Frame) (a : Act) (w : World) (k : List Item) (cs : List Frame), Steps P (lone (b.at a (.code c :: k)) cs w) (lone (b.at a (.code d :: (x ++ k))) cs w)) : GoodAt P c [] r ts n h nx :=
  ⟨G.1, fun ρ w a hr hf ht b k cs => let ⟨e, a1, w1, hp, harr⟩ := G.2 ρ w a hr hf ht b k cs; ⟨e, a1, w1, hp, .of_steps (h0 b a w k cs) harr⟩⟩

theorem good_cond {c : Operand} {x y : Code} (hrec : ∀ t ts n h nx r, rec t ts n h nx = some r → Good P t ts n h nx r) (H : condS rec (opv P ts c) x y ts n h nx = some r) : GoodAt P (.cond c x y) [] r ts n h nx := by
  unfold condS at H
  split at H
  · rename_i hc
    have G := (hrec _ _ _ _ _ _ H).1
    refine ⟨G.1, fun ρ w a hr hf ht b k cs => ?_⟩
    have hv := opv_rel hr ht hc
    have hv : a.eval c = .bool true := by generalize a.eval c = z at hv; cases hv; rfl
    obtain ⟨e, a1, w1, hp, harr⟩ := G.2 ρ w a hr hf ht b k cs
    exact ⟨e, a1, w1, hp, .of_steps (.one (step_cond hv)) harr⟩
  · rename_i hc
    have G := (hrec _ _ _ _ _ _ H).1
    refine ⟨G.1, fun ρ w a hr hf ht b k cs => ?_⟩
    have hv := opv_rel hr ht hc
    have hv : a.eval c = .bool false := by generalize a.eval c = z at hv; cases hv; rfl
    obtain ⟨e, a1, w1, hp, harr⟩ := G.2 ρ w a hr hf ht b k cs
    exact ⟨e, a1, w1, hp, .of_steps (.one (step_cond hv)) harr⟩
  · cases H

theorem good_block {id : Nat} {c : Code} (hrec : ∀ t ts n h nx r, rec t ts n h nx = some r → Good P t ts n h nx r) (H : blockS id (rec (.code c) ts n h nx) = some r) : GoodAt P (.block id c) [] r ts n h nx := by
  unfold blockS at H
  split at H
  · cases H
  · rename_i r1 h1
    have G1 := (hrec _ _ _ _ _ _ h1).1
    have base : ∀ (ρ : Ren) (w : World) (a : Act), Rel P ρ h w → Fresh nx ρ h → TRel ρ ts n a → ∀ (b : Frame) (k : List Item) (cs : List Frame), ∃ e a' w', Post P r1 n nx ρ h w e a' w' ∧ Arrives P (lone (b.at a (.code (.block id c) :: k)) cs w) b (.inBlock id :: k) cs e a' w' := by
      intro ρ w a hr hf ht b k cs
      obtain ⟨e, a1, w1, hp, harr⟩ := G1.2 ρ w a hr hf ht b (.inBlock id :: k) cs
      exact ⟨e, a1, w1, hp, .of_steps (.one step_block) harr⟩
    split at H
    · rename_i id' he
      split at H
      · rename_i hid
        have hid := Nat.eq_of_beq_eq_true hid
        subst hid
        cases H
        refine ⟨G1.1, fun ρ w a hr hf ht b k cs => ?_⟩
        obtain ⟨e, a1, w1, ⟨e1, ρ1, q1, q2, q3⟩, harr⟩ := base ρ w a hr hf ht b k cs
        rw [he] at e1
        cases e <;> simp only [ExOk] at e1
        subst e1
        exact ⟨.normal, a1, w1, ⟨trivial, ρ1, q1, q2, q3⟩, harr k (by simp [exitTo])⟩
      · rename_i hid
        have hid := Nat.ne_of_beq_eq_false hid
        cases H
        refine ⟨G1.1, fun ρ w a hr hf ht b k cs => ?_⟩
        obtain ⟨e, a1, w1, ⟨e1, hp⟩, harr⟩ := base ρ w a hr hf ht b k cs
        refine ⟨e, a1, w1, ⟨e1, hp⟩, ?_⟩
        rw [he] at e1
        cases e <;> simp only [ExOk] at e1
        subst e1
        intro k' hk'
        have hb : (id == id') = false := by simp; exact fun e => hid e.symm
        exact harr k' (by simp [exitTo, hb, hk'])
    · rename_i hne
      cases H
      refine ⟨G1.1, fun ρ w a hr hf ht b k cs => ?_⟩
      obtain ⟨e, a1, w1, ⟨e1, hp⟩, harr⟩ := base ρ w a hr hf ht b k cs
      refine ⟨e, a1, w1, ⟨e1, hp⟩, ?_⟩
      cases e with
      | normal => exact Steps.trans harr (.one step_inBlock)
      | exit i =>
        exfalso
        cases hq : r.e <;> rw [hq] at e1 <;> simp only [ExOk] at e1
        exact hne _ hq
      | goto l => exact fun k' hk => harr k' (by simp [gotoIn, hk])
      | ret => exact harr
      | panic ch => exact harr
      | outgrown => exact harr

theorem good_scope {b c : Code} (hrec : ∀ t ts n h nx r, rec t ts n h nx = some r → Good P t ts n h nx r) (H : scopeS rec b n (rec (.code c) ts n h nx) = some r) : GoodAt P c [.inScope b] r ts n h nx := by
  unfold scopeS at H
  split at H
  · cases H
  · rename_i r1 h1
    have G1 := (hrec _ _ _ _ _ _ h1).1
    -- what leaves the scope
    have leave : (∀ l, r1.e = .goto l → findLabel b l = none) → GoodAt P c [.inScope b] r1 ts n h nx := fun hgo => by
      refine ⟨G1.1, fun ρ w a hr hf ht fr k cs => ?_⟩
      obtain ⟨e, a1, w1, ⟨e1, hp⟩, harr⟩ := G1.2 ρ w a hr hf ht fr (.inScope b :: k) cs
      refine ⟨e, a1, w1, ⟨e1, hp⟩, ?_⟩
      cases e with
      | normal => exact Steps.trans harr (.one step_inScope)
      | exit i => exact fun k' hk => harr k' (by simp [exitTo, hk])
      | goto l =>
        have hl : r1.e = .goto l := by
          cases hq : r1.e <;> rw [hq] at e1 <;> simp only [ExOk] at e1
          rw [e1]
        exact fun k' hk => harr k' (by simp [gotoIn, hgo l hl, hk])
      | ret => exact harr
      | panic ch => exact harr
      | outgrown => exact harr
    split at H
    · rename_i l he
      split at H
      · rename_i rest hf
        have G2 : GoodAt P rest [.inScope b] r r1.ts n r1.h r1.nx := hrec _ _ _ _ _ _ H
        refine ⟨Nat.le_trans G1.1 G2.1, fun ρ w a hr hfr ht fr k cs => ?_⟩
        obtain ⟨e, a1, w1, ⟨e1, ρ1, q1, q2, q3⟩, harr⟩ := G1.2 ρ w a hr hfr ht fr (.inScope b :: k) cs
        rw [he] at e1
        cases e <;> simp only [ExOk] at e1
        subst e1
        obtain ⟨e, a2, w2, ⟨e2, ρ2, p1, p2, p3⟩, harr2⟩ := G2.2 ρ1 w1 a1 q1 (hfr.on q3 G1.1) q2 fr k cs
        have hst := harr (.code rest :: .inScope b :: k) (by simp [gotoIn, hf])
        exact ⟨e, a2, w2, ⟨e2, ρ2, p1, p2, q3.trans p3 G1.1 G2.1⟩, .of_steps hst harr2⟩
      · rename_i hf
        cases H
        exact leave fun l' hl' => by rw [he] at hl'; cases hl'; exact hf
    · rename_i hne
      cases H
      exact leave fun l' hl' => absurd hl' (hne l')

theorem goodAt_of_wp {c : Code} (hle : nx ≤ r.nx) (H : ∀ (ρ : Ren) (w : World) (a : Act), Rel P ρ h w → Fresh nx ρ h → TRel ρ ts n a → c.wp P (Post P r n nx ρ h w) a w) : GoodAt P c [] r ts n h nx :=
  ⟨hle, fun ρ w a hr hf ht b k cs => H ρ w a hr hf ht b k cs⟩

theorem Rel.drew {ρ : Ren} {w : World} (hr : Rel P ρ h w) : Rel P ρ h { w with drawn := w.drawn + 1 } := ⟨hr.obj, hr.blk, hr.inj, hr.glb⟩

theorem good_region {id : Nat} {ops : Array Oper} (hrec : ∀ t ts n h nx r, rec t ts n h nx = some r → Good P t ts n h nx r) (H : regionS P rec ops ts n h nx = some r) : GoodAt P (.region id ops true) [] r ts n h nx := by
  unfold regionS at H
  split at H
  · rename_i hc
    simp only [Bool.and_eq_true] at hc
    obtain ⟨⟨c1, c2⟩, c3⟩ := hc
    have G := hrec _ _ _ _ _ _ H
    let T₀ : Tc := { ts := fun _ => ts, h := fun _ => h, nx := fun _ => nx + ops.size, val := fun _ => undefV, cl := fun _ => .skip }
    obtain ⟨g1, g2, T, g3, g4, g5, g6, g7, g8, g9⟩ := G T₀ rfl rfl (Nat.zero_le _) (Nat.le_refl _) (by simp) rfl rfl rfl (fun j hj => by omega) (fun j hj => by omega) (fun j oj hj => by omega)
    refine goodAt_of_wp (by omega) fun ρ w a hr hf ht => wp_region_any c3 ?_
    have hH0 : ∀ b, nx ≤ b → ρ b = none ∧ (T.h 0).get b = none := fun b hb => by rw [g5]; exact hf b hb
    have hrep : ∀ i, ¬ Ls (Array.replicate ops.size false) i := fun i hl => by
      unfold Ls at hl
      by_cases hi : i < ops.size <;> simp [Array.getD_eq_getD_getElem?, hi] at hl
    refine any_main (T := T) (ρ₀ := ρ) (w₀ := { w with drawn := w.drawn + 1 }) g3 c1 c2 hH0 (fun ρ' a' w' q1 q2 q3 => ?_) ops.size _ ρ ts a _ 0 ?_ (by unfold cnt; exact Nat.le_trans (List.length_filter_le _ _) (by simp))
    · rw [g8] at q1; rw [g7] at q2; rw [g8, g9, g5] at q3
      refine ⟨by rw [g1]; trivial, ρ', q1, q2, ?_⟩
      exact { q3 with }
    · exact {
        q_le := Nat.zero_le _, size := by simp, closed := fun j hj => absurd hj (hrep j), ahead := fun j hj => by omega, behind := fun j _ hl => absurd hl (hrep j),
        rel := by rw [g5]; exact hr.drew, trel := by simpa using ht,
        slots := fun t => .inr ⟨fun i o hl => absurd hl (hrep i), by rw [g4]⟩,
        free := fun i _ _ => (hf _ (by omega)).1, fresh := fun b hb => by rw [g5]; exact hf b (by rw [g6] at hb; simp [T₀] at hb; omega),
        nx := by rw [g6]; exact Nat.le_refl _, early := fun i ob _ hl => absurd hl (hrep i), blank := fun i _ _ => by rw [g5]; exact (hf _ (by omega)).2,
        blanks := fun i ob hi => by omega, pending := fun i ob hi => by omega,
        core := (Ext.refl _ _ _ _ _).toExtC, pend := fun b _ _ => rfl }
  · cases H

theorem good_code {c : Code} (hrec : ∀ t ts n h nx r, rec t ts n h nx = some r → Good P t ts n h nx r) (H : codeS P rec c ts n h nx = some r) : Good P (.code c) ts n h nx r := by
  refine ⟨?_, fun b hb => ?_⟩
  · unfold codeS at H
    split at H
    · cases H; exact goodAt_leaf (e := .normal) trivial fun b a w k cs => .one step_skip
    · cases H; exact goodAt_leaf (e := .normal) trivial fun b a w k cs => .one step_label
    · exact good_seq hrec H
    · exact good_cond hrec H
    · exact good_block hrec H
    · exact goodAt_step (good_loop hrec H) fun b a w k cs => .one step_loop
    · rename_i i; cases H; exact goodAt_leaf (e0 := .exit i) (e := .exit i) rfl fun b a w k cs => fun k' hk => Steps.one (step_exit hk)
    · rename_i i; cases H; exact goodAt_leaf (e0 := .goto i) (e := .goto i) rfl fun b a w k cs => fun k' hk => Steps.one (step_goto hk)
    · cases H; exact goodAt_leaf (e := .ret) trivial fun b a w k cs => ⟨_, .one step_ret⟩
    · have G := hrec _ _ _ _ _ _ H
      exact goodAt_step (x := [.inScope _]) G fun b a w k cs => .one step_scope
    · rename_i id ops
      have G := hrec _ _ _ _ _ _ H 0 rfl
      obtain ⟨g1, g2, g3⟩ := G
      refine goodAt_of_wp g2 fun ρ w a hr hf ht => wp_region ?_
      have := g3 ρ w a hr hf ht (Post P r n nx ρ h w) fun ρ' a' w' q1 q2 q3 => ⟨by rw [g1]; trivial, ρ', q1, q2, q3⟩
      simpa [List.range_eq_range'] using this
    · exact good_region hrec H
    · cases H
  · subst hb
    exact good_loop hrec H

/-! ### Calls -/

theorem get_ofList : ∀ (l : List Value) (i : Nat) (t : Tr Value) (m : Nat), (Tr.ofList l i t).get m = if i ≤ m ∧ m < i + l.length then l[m - i]? else t.get m
  | [], i, t, m => by rw [if_neg (fun hh => by simp at hh; omega)]; rfl
  | x :: l, i, t, m => by
    rw [Tr.ofList, get_ofList l (i + 1) (t.set i x) m]
    simp only [List.length_cons]
    by_cases hm : i + 1 ≤ m ∧ m < i + 1 + l.length
    · rw [if_pos hm, if_pos (by omega), show m - i = (m - (i + 1)) + 1 by omega]; rfl
    · rw [if_neg hm, Tr.get_set]
      by_cases hmi : m = i
      · subst hmi; simp
      · rw [if_neg hmi, if_neg (by omega)]

theorem enter_rel {ρ : Ren} {args : List Value} {args' : Array Value} (ha : LRel ρ args args'.toList) (m : Nat) :
    TRel ρ (Tr.ofList args 0 .lf) (args.length + (m - args.length)) { tmps := args' ++ Array.replicate (m - args'.size) undef, defers := [] } := by
  have hl := ha.length
  simp only [Array.length_toList] at hl
  refine ⟨by simp [hl], rfl, fun t => ?_⟩
  rw [get_ofList, Tr.get_lf]
  by_cases ht : t < args.length
  · rw [if_pos (by omega)]
    simp only [Nat.sub_zero]
    cases hq : args[t]? with
    | none => rw [List.getElem?_eq_none_iff] at hq; omega
    | some v =>
      obtain ⟨v', g1, g2⟩ := ha.get hq
      have g1 : args'[t]? = some v' := by simpa using g1
      rw [Array.getD_eq_getD_getElem?, Array.getElem?_append_left (by omega), g1]
      exact g2
  · rw [if_neg (by omega)]
    rw [Array.getD_eq_getD_getElem?, Array.getElem?_append_right (by omega), Array.getElem?_replicate]
    split <;> exact undef_rel

theorem res_run {ρ : Ren} {w : World} {a : Act} (hr : Rel P ρ h w) (ht : TRel ρ ts n a) : ∀ {l : List ResultVar} {vs : List Value}, resA P h ts l = some vs →
    ∃ vs', (l.mapM (fun | .tmp t => pure (a.tmps.getD t undef) | .cell c t => do loadVar t (← asAddr (a.tmps.getD c undef)) : ResultVar → Sem Value)).run P w = .ok vs' w ∧ LRel ρ vs vs'
  | [], vs, H => by simp [resA] at H; subst H; exact ⟨[], rfl, .nil⟩
  | .tmp t :: l, vs, H => by
    simp only [resA, bnd_some] at H
    obtain ⟨rs, hq, H⟩ := H
    cases H
    obtain ⟨vs', g1, g2⟩ := res_run hr ht hq
    have hv := ht.get t
    refine ⟨a.tmps.getD t undef :: vs', ?_, .cons ?_ g2⟩
    · simp only [List.mapM_cons, Sem.run_bind, Sem.run_pure, Result.andThen_ok, g1]
    · cases hts : ts.get t with
      | none => rw [hts] at hv; exact hv
      | some v => rw [hts] at hv; exact hv
  | .cell c t :: l, vs, H => by
    simp only [resA] at H
    split at H
    · rename_i ad hts
      simp only [bnd_some] at H
      obtain ⟨v, hv, rs, hq, H⟩ := H
      cases H
      obtain ⟨vs', g1, g2⟩ := res_run hr ht hq
      have hc := ht.get c
      rw [hts] at hc
      obtain ⟨ad', e, had⟩ := VRel.addr hc
      obtain ⟨v', k1, k2⟩ := loadV_run hr had hv
      refine ⟨v' :: vs', ?_, .cons k2 g2⟩
      have ha : (asAddr (a.tmps.getD c undef)).run P w = .ok ad' w := by rw [e]; rfl
      simp only [List.mapM_cons, Sem.run_bind, Sem.run_pure, Result.andThen_ok, ha, k1, g1]
    · cases H

theorem results_run {ρ : Ren} {w : World} {a : Act} {fn : Func} (hr : Rel P ρ h w) (ht : TRel ρ ts n a) {vs : List Value} (H : resA P h ts fn.results.toList = some vs) :
    ∃ v', (results fn a.tmps).run P w = .ok v' w ∧ VRel ρ (oneV vs) v' := by
  obtain ⟨vs', g1, g2⟩ := res_run hr ht H
  have hm : (fn.results.mapM (fun | .tmp t => pure (a.tmps.getD t undef) | .cell c t => do loadVar t (← asAddr (a.tmps.getD c undef)) : ResultVar → Sem Value)).run P w = .ok vs'.toArray w := by
    rw [Array.mapM_eq_mapM_toList]
    simp only [Sem.run_map, g1, Result.andThen_ok]
  have hend : ∃ v', ((Result.ok vs'.toArray w).andThen fun vs w' => (pure (if h : vs.size = 1 then vs[0] else .tuple vs) : Sem Value).run P w') = .ok v' w ∧ VRel ρ (oneV vs) v' := by
    cases g2 with
    | nil => exact ⟨_, rfl, .tuple .nil⟩
    | cons hv ht' =>
      cases ht' with
      | nil => exact ⟨_, rfl, hv⟩
      | cons hv2 ht2 => exact ⟨_, rfl, .tuple (.cons hv (.cons hv2 ht2))⟩
  obtain ⟨v', e1, e2⟩ := hend
  refine ⟨v', ?_, e2⟩
  unfold results
  rw [Sem.run_bind]
  exact (congrArg (fun z => Result.andThen z fun vs w' => (pure (if h : vs.size = 1 then vs[0] else .tuple vs) : Sem Value).run P w') hm).trans e1

theorem good_enter {f : FuncId} {fn : Func} {args : List Value} (hrec : ∀ t ts n h nx r, rec t ts n h nx = some r → Good P t ts n h nx r) (hf : P.funcs[f]? = some fn) (H : enterS P rec fn args h nx = some r) :
    GoodCall P f args h nx r.v r.h r.nx := by
  unfold enterS at H
  split at H
  · cases H
  · rename_i c hb
    unfold endCall at H
    split at H
    · cases H
    · rename_i r1 h1
      have G := (hrec _ _ _ _ _ _ h1).1
      have key : ∀ vs, resA P r1.h r1.ts fn.results.toList = some vs → (∀ i, r1.e ≠ .exit i) → (∀ l, r1.e ≠ .goto l) → GoodCall P f args h nx (oneV vs) r1.h r1.nx := fun vs hvs he1 he2 => by
        refine ⟨G.1, fun ρ w args' hr hfr ha => calls_of_wp hf hb ?_⟩
        intro b k cs
        obtain ⟨e, a1, w1, ⟨e1, ρ1, q1, q2, q3⟩, harr⟩ := G.2 ρ w _ hr hfr (enter_rel ha fn.ntmps) b k cs
        refine ⟨e, a1, w1, ?_, harr⟩
        obtain ⟨v', k1, k2⟩ := results_run (fn := fn) q1 q2 hvs
        cases e with
        | normal => exact ⟨q2.defers, v', k1, v', ρ1, rfl, k2, q1, q3⟩
        | ret => exact ⟨q2.defers, v', k1, v', ρ1, rfl, k2, q1, q3⟩
        | exit i => cases hq : r1.e <;> rw [hq] at e1 <;> simp only [ExOk] at e1; exact absurd hq (he1 _)
        | goto l => cases hq : r1.e <;> rw [hq] at e1 <;> simp only [ExOk] at e1; exact absurd hq (he2 _)
        | panic ch => cases hq : r1.e <;> rw [hq] at e1 <;> simp only [ExOk] at e1
        | outgrown => cases hq : r1.e <;> rw [hq] at e1 <;> simp only [ExOk] at e1
      split at H
      · cases H
      · cases H
      · rename_i n1 n2
        split at H
        · cases H
        · rename_i vs hvs
          cases H
          exact key vs hvs (fun i hi => n1 i hi) (fun l hl => n2 l hl)

/-- what is answered without a look at the code is right -/
def SpecOK (P : Program) (sp : Spec) : Prop := ∀ h nx f args r, sp h nx f args = some r → GoodCall P f args h nx r.1 r.2.1 r.2.2

/-- **THE EVALUATOR IS SOUND** -/
theorem ev_good {sp : Spec} (hsp : SpecOK P sp) : ∀ (k : Nat) (t : Task) (ts : Tr Value) (n : Nat) (h : Heap) (nx : Nat) (r : Rs), ev P sp k t ts n h nx = some r → Good P t ts n h nx r
  | 0, t, ts, n, h, nx, r, H => by cases H
  | k + 1, t, ts, n, h, nx, r, H => by
    have hrec := ev_good hsp k
    have H : stepS P sp (ev P sp k) t ts n h nx = some r := H
    unfold stepS at H
    split at H
    · rw [codeF_eq] at H; exact good_code hrec H
    · exact good_scope hrec H
    · exact good_ops hrec H
    · exact good_any hrec H
    · unfold callS at H
      split at H
      · rename_i r0 hs
        cases H
        exact hsp _ _ _ _ _ hs
      · split at H
        · cases H
        · rename_i fn hf
          exact good_enter hrec hf H

def noSpec : Spec := fun _ _ _ _ => none
theorem noSpec_ok : SpecOK P noSpec := fun _ _ _ _ _ H => by cases H

end Ev
end Go.Proofs.YteohlibpfgmcaaaGreatDoor
