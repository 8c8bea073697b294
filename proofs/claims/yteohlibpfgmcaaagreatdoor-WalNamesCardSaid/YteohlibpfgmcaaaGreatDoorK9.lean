/- The evaluator's operations against the model's: append, copy, delete. -/
import Derived.Test.YteohlibpfgmcaaaGreatDoorK8
namespace Go.Proofs.YteohlibpfgmcaaaGreatDoor
namespace Ev
open Go
set_option linter.unusedVariables false
set_option linter.unusedSimpArgs false
variable {ρ : Ren} {P : Program} {h : Heap} {w : World} {id n : Nat} {ts : Tr Value} {a : Act}

theorem allOne_spec : ∀ {l : List Value}, allOne l = true → ∀ v ∈ l, oneCell v = true
  | [], _, v, hv => by cases hv
  | x :: l, H, v, hv => by
    simp only [allOne] at H
    split at H
    · rename_i hx
      rcases List.mem_cons.1 hv with rfl | hv
      · exact hx
      · exact allOne_spec H v hv
    · cases H

theorem lenOf_run {x x' : Value} (hx : VRel ρ x x') (H : lenA x = some n) (w : World) : (Builtin.lenOf x').run P w = .ok n w := by
  cases hx <;> simp [lenA] at H <;> subst H <;> rfl

/-- what is behind a slice or a string -/
theorem first_run {x x' : Value} {size : Nat} {new : List Value} (hr : Rel P ρ h w) (hx : VRel ρ x x') (H : firstA h size n x = some new) :
    ∃ new', LRel ρ new new' ∧ (Builtin.firstCells size n x').run P w = .ok new'.toArray w ∧ (Builtin.firstCells size n x').run P w.drew = .ok new'.toArray w.drew := by
  unfold firstA at H
  split at H
  · rename_i ad l c
    split at H
    · rename_i he
      cases H
      obtain ⟨ad', c', ex⟩ : ∃ ad' c', x' = .slice (some ad') l c' := by cases hx <;> exact ⟨_, _, rfl⟩
      subst ex
      exact ⟨[], .nil, by simp only [Builtin.firstCells, he]; rfl, by simp only [Builtin.firstCells, he]; rfl⟩
    · rename_i m he
      obtain ⟨ad', c', ex, ha⟩ : ∃ ad' c', x' = .slice (some ad') l c' ∧ (ARel ρ ad ad' ∨ ad = lost) := by
        cases hx with
        | sl o l hh hc => exact ⟨_, _, rfl, .inl ⟨_, hh, rfl, rfl⟩⟩
        | slx a' c' => exact ⟨_, _, rfl, .inr rfl⟩
      subst ex
      rcases ha with ha | rfl
      · obtain ⟨l', q1, q2, q3⟩ := rdCells_rel hr ha H
        refine ⟨l', q1, ?_, ?_⟩
        · simp only [Builtin.firstCells, he, Nat.succ_eq_add_one, ← q2]; exact run_loadCells_list (P := P) w _ l' q3
        · simp only [Builtin.firstCells, he, Nat.succ_eq_add_one, ← q2]; exact run_loadCells_list (P := P) w.drew _ l' q3
      · cases H
  · cases H; cases hx
    exact ⟨[], .nil, rfl, rfl⟩
  · rename_i s
    split at H
    · rename_i hc
      simp only [Bool.and_eq_true] at hc
      have h1 := Nat.eq_of_beq_eq_true hc.1
      have h2 := Nat.eq_of_beq_eq_true hc.2
      subst h1 h2
      cases H; cases hx
      refine ⟨byteCells s, plainL_rel ?_, firstCells_string s w, firstCells_string s w.drew⟩
      simp only [byteCells, List.all_map, List.all_eq_true]
      intro x _; rfl
    · cases H
  · cases H

theorem isSrcD_kind {u : TypeDesc} {t : TypeId} (hu : P.underlying t = some u) (H : isSrcD u = true) : (∃ e', P.underlying t = some (.slice e')) ∨ P.underlying t = some .string := by
  cases u <;> first | (simp [isSrcD] at H; done) | exact .inl ⟨_, hu⟩ | exact .inr hu

theorem growBy_le (need : Nat) : ∀ (r c : Nat), Builtin.growBy need r c ≤ 2 ^ r * (c + 768)
  | 0, c => by simp [Builtin.growBy]
  | r + 1, c => by
    simp only [Builtin.growBy]
    split
    · have : 1 ≤ 2 ^ (r + 1) := Nat.one_le_two_pow
      calc c ≤ 1 * (c + 768) := by omega
        _ ≤ _ := Nat.mul_le_mul_right _ this
    · refine Nat.le_trans (growBy_le need r _) ?_
      rw [Nat.pow_succ, Nat.mul_assoc]
      exact Nat.mul_le_mul_left _ (by omega)

theorem nextCap_le {need old : Nat} (h1 : old < need) (h2 : need ≤ 1000000) : Builtin.nextslicecap need old ≤ 16012288 := by
  unfold Builtin.nextslicecap
  split
  · omega
  · split
    · omega
    · refine Nat.le_trans (growBy_le need 4 old) ?_
      rw [show (2 : Nat) ^ 4 = 16 from rfl]
      omega

/-- a row's first cells are others' -/
theorem mkRow_pre {g : Nat} {c c1 c2 : Array Value} (h : LRel ρ c.toList c1.toList) {p : Pl} (hc : p.cap = (c1 ++ c2).size) (hg : p.g = g) {el : TypeId} : ORel ρ p (mkRow g c) (some (.cells (c1 ++ c2) el)) := by
  have hl := h.length
  simp only [Array.length_toList] at hl
  refine ⟨c1 ++ c2, el, (0, 0), rfl, hc.symm, by rw [hc]; simp; omega, hg.symm, fun i _ h => by omega, fun i v hv => ?_⟩
  unfold cellAt at hv
  split at hv
  · rename_i hi
    have hi := Nat.le_of_ble_eq_true hi
    rw [Tr.get_ofL] at hv
    split at hv
    · rename_i u hu
      cases hv
      obtain ⟨v', h1, h2⟩ := h.get hu
      exact ⟨v', by rw [Array.getElem?_append_left (by omega)]; simpa using h1, h2⟩
    · rename_i hn
      simp at hn; omega
  · cases hv

/-- a block that is given up -/
theorem Rel.kill {b : Nat} {p : Pl} {o : AObj} (hr : Rel P ρ h w) (hb : ρ b = some p) (ho : h.get b = some o) (lo hi : Nat) : Rel P ρ (h.set b .dead) w ∧ Ext lo hi ρ h w ρ (h.set b .dead) w := by
  refine ⟨⟨?_, hr.blk, ?_, hr.glb⟩, { Ext.refl lo hi ρ h w with pend := ?_, away := ?_, dead := ?_ }⟩
  · intro b2 p2 o2 h1 h2
    by_cases hbb : b2 = b
    · subst hbb
      rw [Tr.get_set_self] at h2; cases h2
      trivial
    · rw [Tr.get_set_ne _ _ hbb] at h2
      exact hr.obj b2 p2 o2 h1 h2
  · intro b2 b3 p2 p3 h1 h2 h3 h4 h5
    have alive : ∀ x, (h.set b .dead).get x ≠ some .dead → h.get x ≠ some .dead := fun x hx => by
      by_cases hxb : x = b
      · subst hxb; exact absurd (Tr.get_set_self _ _ _) hx
      · rwa [Tr.get_set_ne _ _ hxb] at hx
    exact hr.inj b2 b3 p2 p3 h1 h2 (alive _ h3) (alive _ h4) h5
  · intro b2 p2 h1 h2
    rwa [Tr.get_set_ne _ _ (fun e2 => by rw [e2, ho] at h2; cases h2)]
  · intro b2 h2
    by_cases hbb : b2 = b
    · subst hbb; exact Tr.get_set_self _ _ _
    · rwa [Tr.get_set_ne _ _ hbb]
  · intro b2 h2
    rw [Tr.get_set_ne _ _ (fun e2 => by rw [e2, hb] at h2; cases h2)]

/-- a block that goes on under another name, written to -/
theorem Rel.rename {b : Nat} {p : Pl} {m g : Nat} {z : Array Value} {cs cs' : Tr Value} {l l' : List Value} {k : Nat} (hr : Rel P ρ h w) (hb : ρ b = some p) (ho : h.get b = some (.row m g z cs)) (hid : ρ id = none) (hd : h.get id = none)
    (hl : LRel ρ l l') (hw : wrN cs l k = some cs') (hkm : k ≤ m) (hcap : k + l.length ≤ p.cap) :
    (storeCells ⟨p.blk, k, none⟩ l').run P w = .ok () (w.setCells p.blk k l') ∧ Rel P (upd ρ id p) ((h.set b .dead).set id (.row (k + l.length) g z cs')) (w.setCells p.blk k l') ∧
      Ext id (id + 1) ρ h w (upd ρ id p) ((h.set b .dead).set id (.row (k + l.length) g z cs')) (w.setCells p.blk k l') := by
  obtain ⟨c, el, fz, e, hs, hnp, hg, hth, hc⟩ := hr.obj _ _ _ hb ho
  obtain ⟨hone, hget⟩ := wrN_spec hw
  have hlen := hl.length
  have hheap := setCells_heap (el := el) (fz := fz) l' k w c e
  have hblk := hr.blk b p hb
  have hext := upd_ext (p := p) hid
  have hne : id ≠ b := fun e2 => by rw [e2, hb] at hid; cases hid
  have hcell : ∀ j, j < l'.length → (w.cell? ⟨p.blk, k + j, none⟩).isSome = true := fun j hj => by simp [World.cell?, e]; omega
  have alive : ∀ x, x ≠ id → ((h.set b .dead).set id (.row (k + l.length) g z cs')).get x ≠ some .dead → x ≠ b ∧ h.get x ≠ some .dead := fun x hxi hx => by
    rw [Tr.get_set_ne _ _ hxi] at hx
    have hxb : x ≠ b := fun e2 => by subst e2; exact hx (Tr.get_set_self _ _ _)
    rw [Tr.get_set_ne _ _ hxb] at hx
    exact ⟨hxb, hx⟩
  refine ⟨?_, ⟨?_, ?_, ?_, ?_⟩, { ext := hext, new := ?_, rng := ?_, size := ?_, fr := ?_, pend := ?_, away := ?_, dead := ?_, tape := ?_, os := ?_, output := ?_ }⟩
  · have := run_storeCells_cells (P := P) p.blk k l' 0 w (by simpa using hcell) (fun j hj => by
      simp only [World.frozen?, e, Nat.add_zero]
      have := hth (k + j) (.inl (by omega))
      by_cases h1 : fz.1 ≤ k + j <;> by_cases h2 : k + j < fz.2 <;> simp [h1, h2] <;> omega) (hl.one hone)
    simpa using this
  · intro b2 p2 o2 h1 h2
    rw [hheap]
    by_cases hbi : b2 = id
    · subst hbi
      rw [upd_self] at h1; cases h1
      rw [Tr.get_set_self] at h2; cases h2
      refine ⟨writeAt c k l', el, fz, by simp [hblk], by rw [writeAt_size, hs], hcap, hg, by rw [writeAt_size]; exact hth, fun i v hv => ?_⟩
      unfold cellAt at hv
      split at hv
      · rename_i hin
        have hin := Nat.le_of_ble_eq_true hin
        rw [hget i] at hv
        by_cases hrange : k ≤ i ∧ i < k + l.length
        · rw [if_pos hrange] at hv
          obtain ⟨j, rfl⟩ : ∃ j, i = k + j := ⟨i - k, by omega⟩
          rw [writeAt_in _ _ _ _ (by omega) (by omega)]
          rw [show k + j - k = j by omega] at hv
          cases hlj : l[j]? with
          | none => rw [List.getElem?_eq_none_iff] at hlj; omega
          | some u =>
            rw [hlj] at hv
            simp at hv; subst hv
            obtain ⟨v', g1, g2⟩ := hl.get hlj
            exact ⟨v', g1, g2.mono hext⟩
        · rw [if_neg hrange] at hv
          rw [writeAt_out _ _ _ _ (by omega)]
          obtain ⟨v', g1, g2⟩ := hc i v (by
            unfold cellAt
            rw [show Nat.ble (i + 1) m = true from Nat.ble_eq_true_of_le (by omega)]
            exact hv)
          exact ⟨v', g1, g2.mono hext⟩
      · cases hv
    · rw [Tr.get_set_ne _ _ hbi] at h2
      have h1' : ρ b2 = some p2 := by simpa [upd, hbi] using h1
      by_cases hbb : b2 = b
      · subst hbb
        rw [Tr.get_set_self] at h2; cases h2
        trivial
      · rw [Tr.get_set_ne _ _ hbb] at h2
        have hold := (hr.obj b2 p2 o2 h1' h2).mono hext
        by_cases hpp : p2.blk = p.blk
        · cases o2 with
          | dead => trivial
          | _ => exact absurd (hr.inj b2 b p2 p h1' hb (by rw [h2]; simp) (by rw [ho]; simp) hpp) hbb
        · simp only
          rw [Array.getElem?_setIfInBounds_ne (fun e => hpp e.symm)]
          exact hold
  · intro b2 p2 h1
    rw [hheap]
    by_cases hbi : b2 = id
    · subst hbi; rw [upd_self] at h1; cases h1; simpa using hblk
    · have h1' : ρ b2 = some p2 := by simpa [upd, hbi] using h1
      simpa using hr.blk b2 p2 h1'
  · intro b2 b3 p2 p3 h1 h2 h3 h4 h5
    by_cases hb2 : b2 = id
    · by_cases hb3 : b3 = id
      · rw [hb2, hb3]
      · subst hb2
        rw [upd_self] at h1; cases h1
        have h2' : ρ b3 = some p3 := by simpa [upd, hb3] using h2
        obtain ⟨q1, q2⟩ := alive b3 hb3 h4
        exact absurd (hr.inj b3 b p3 p h2' hb q2 (by rw [ho]; simp) h5.symm) q1
    · have h1' : ρ b2 = some p2 := by simpa [upd, hb2] using h1
      obtain ⟨q1, q2⟩ := alive b2 hb2 h3
      by_cases hb3 : b3 = id
      · subst hb3
        rw [upd_self] at h2; cases h2
        exact absurd (hr.inj b2 b p2 p h1' hb q2 (by rw [ho]; simp) h5) q1
      · have h2' : ρ b3 = some p3 := by simpa [upd, hb3] using h2
        exact hr.inj b2 b3 p2 p3 h1' h2' q2 (alive b3 hb3 h4).2 h5
  · intro g0 hgl
    obtain ⟨q, h1, h2⟩ := hr.glb g0 hgl
    exact ⟨q, hext _ _ h1, h2⟩
  · intro b2 q h1 h2
    by_cases hbi : b2 = id
    · subst hbi; omega
    · simp [upd, hbi, h1] at h2
  · intro b2 q h1 h2
    by_cases hbi : b2 = id
    · subst hbi; rw [upd_self] at h2; cases h2
      exact .inr ⟨b, p, hb, rfl, fun hA => by rcases hA with x | x <;> rw [ho] at x <;> cases x⟩
    · simp [upd, hbi, h1] at h2
  · rw [hheap]; simp
  · intro c2 hc2 ha
    rw [hheap]
    have : p.blk ≠ c2 := fun e2 => by
      rcases ha b p hb e2 with x | x <;> rw [ho] at x <;> cases x
    simp only
    rw [Array.getElem?_setIfInBounds_ne this]
  · intro b2 p2 h1 h2
    rw [Tr.get_set_ne _ _ (fun e2 => by rw [e2, hid] at h1; cases h1), Tr.get_set_ne _ _ (fun e2 => by rw [e2, ho] at h2; cases h2)]
    exact h2
  · intro b2 h2
    rw [Tr.get_set_ne _ _ (fun e2 => by rw [e2, hd] at h2; cases h2)]
    by_cases hbb : b2 = b
    · subst hbb; exact Tr.get_set_self _ _ _
    · rwa [Tr.get_set_ne _ _ hbb]
  · rw [hheap]
  · rw [hheap]
  · rw [hheap]
  · intro b2 h2
    rw [Tr.get_set_ne _ _ (fun e2 => by rw [e2, upd_self] at h2; cases h2), Tr.get_set_ne _ _ (fun e2 => by rw [e2, hext _ _ hb] at h2; cases h2)]

theorem append_ok {st xt ty : TypeId} {base : Option Addr} {len cap : Nat} {x s' x' : Value} {out : Out} {s : Sem Next} (hr : Rel P ρ h w) (hd : h.get id = none) (hs : VRel ρ (.slice base len cap) s') (hx : VRel ρ x x')
    (H : appendS P h id st xt base len cap x = some out) (hrun : ∀ v' w', (Builtin.append_ #[st, xt] ty #[s', x']).run P w = .ok v' w' → s.run P w = .ok (.value v') w') : OutOk P ρ h w id s out := by
  simp only [appendS, bnd_some] at H
  obtain ⟨u, hu, H⟩ := H
  split at H
  · rename_i e
    simp only [bnd_some] at H
    obtain ⟨xu, hxu, H⟩ := H
    split at H
    · cases H
    · rename_i hsrc
      simp only [bnd_some] at H
      obtain ⟨i, hi, n, hn, new, hnew, z, hz, H⟩ := H
      split at H
      · cases H
      · rename_i hcond
        simp only [Bool.and_eq_true] at hcond
        obtain ⟨⟨⟨⟨c1, c2⟩, c3⟩, c4⟩, c5⟩ := hcond
        have c1 := Nat.le_of_ble_eq_true c1
        have c2 := Nat.le_of_ble_eq_true c2
        have c3 := Nat.eq_of_beq_eq_true c3
        have c4 := Nat.eq_of_beq_eq_true c4
        have c5 := allOne_spec c5
        obtain ⟨new', l1, l2, l3⟩ := first_run hr hx hnew
        have hsrc2 : Src P i.size xt x' n new' w := ⟨isSrcD_kind hxu hsrc, lenOf_run hx hn, l2, l3, by rw [← l1.length, c3], l1.one c5⟩
        have hlen' : new'.length = n * i.size := hsrc2.newsLen
        have hfit : ∀ old, old < len + n → Builtin.nextslicecap (len + n) old * i.bytes ≤ 281474976710656 := fun old ho =>
          Nat.le_trans (Nat.mul_le_mul (nextCap_le ho c1) c2) (by decide)
        have h63 : ((len + n : Nat) : Int) ≤ 9223372036854775807 := by omega
        split at H
        · rename_i hle
          have hle := Nat.le_of_ble_eq_true hle
          unfold appIn at H
          split at H
          · split at H
            · cases H
              have : new' = [] := by
                apply List.eq_nil_of_length_eq_zero
                rw [hlen', Nat.zero_mul]
              subst this
              cases hs
              refine .val (hrun _ _ ?_) (.sl0 _ _)
              rcases hsrc2.kind with ⟨e', hk⟩ | hk <;> simp [Builtin.append_, run_underlying hu, run_underlying hk, sizeOf, typeInfo, hi, hsrc2.len, hsrc2.cells, show len ≤ cap from hle]
            · cases H
          · rename_i ad
            split at H
            · cases H
            · rename_i hz0 hsp
              cases H
              cases hs with
              | slx a' c' => cases hsp
              | sl o l hb hc =>
                rename_i b p c'
                have hcc : cap ≤ c' := by rcases hc with hc | hc <;> omega
                have he : new' = [] := List.eq_nil_of_length_eq_zero (by rw [hlen']; exact hz0)
                subst he
                have := run_append_room_src (P := P) w st xt ty e i hu hi p.blk o len c' x' n [] hsrc2 (by omega) (fun j hj => by cases hj) (fun j hj => by cases hj)
                exact .val (hrun _ _ this) (.sl o _ hb hc)
            · rename_i hsp hnz
              simp only [bnd_some] at H
              obtain ⟨h', hw, H⟩ := H
              cases H
              cases hs with
              | slx a' c' => cases hsp
              | sl o l hb hc =>
                rename_i b p c'
                have hcc : cap ≤ c' := by rcases hc with hc | hc <;> omega
                have ha : ARel ρ (addA ⟨b, o, none⟩ (len * i.size)) ⟨p.blk, o + len * i.size, none⟩ := by
                  have := addA_rel (ρ := ρ) (a := ⟨b, o, none⟩) (a' := ⟨p.blk, o, none⟩) ⟨p, hb, rfl, rfl⟩ (len * i.size)
                  rwa [ARel.add (ρ := ρ) (a := ⟨b, o, none⟩) ⟨p, hb, rfl, rfl⟩] at this
                intro hid
                -- the cells are there
                have hw2 := hw
                unfold wrCells at hw2
                obtain ⟨p2, hp2, hsp2, hadr⟩ := ha
                split at hw2
                · cases hw2
                · split at hw2
                  · rename_i n2 g z2 cs ho
                    split at hw2
                    · rename_i hle2
                      simp only [bnd_some] at hw2
                      obtain ⟨cs', hcs, e2⟩ := hw2
                      cases e2
                      have hoff : (addA (⟨b, o, none⟩ : Addr) (len * i.size)).off = o + len * i.size := congrArg Addr.off hadr.symm
                      have hblk : p2.blk = p.blk := (congrArg Addr.block hadr).symm
                      obtain ⟨g1, g2, g3⟩ := write_rel hr hp2 ho (l' := new') l1 hcs (Nat.le_of_ble_eq_true hle2) id (id + 1)
                      rw [hoff, hblk] at g1 g2 g3
                      obtain ⟨c, el, fz, f1, f2, f3, f4, f5, f6⟩ := hr.obj _ _ _ hp2 ho
                      rw [hblk] at f1
                      have hl3 := Nat.le_of_ble_eq_true hle2
                      rw [hoff] at hl3
                      have hlq := l1.length
                      have happ := run_append_room_src (P := P) w st xt ty e i hu hi p.blk o len c' x' n new' hsrc2 (by omega)
                        (fun j hj => by simp [World.cell?, f1]; omega)
                        (fun j hj => by
                          simp only [World.frozen?, f1]
                          have := f5 (o + len * i.size + j) (.inl (by omega))
                          by_cases h1 : fz.1 ≤ o + len * i.size + j <;> by_cases h2 : o + len * i.size + j < fz.2 <;> simp [h1, h2] <;> omega)
                      exact ⟨_, _, ρ, .inl (hrun _ _ happ), .sl o _ hb hc, g2, g3⟩
                    · cases hw2
                  · cases hw2
        · rename_i hle
          have hle : cap < len + n := by
            rcases Nat.lt_or_ge cap (len + n) with hq | hq
            · exact hq
            · rw [Nat.ble_eq_true_of_le hq] at hle; cases hle
          unfold appGrow at H
          split at H
          · split at H
            · cases H
              cases hs
              have happ := run_append_grow_src (P := P) w st xt ty e i z hu hi hz none 0 cap [] rfl x' n new' hsrc2 (by omega) h63 (hfit cap (by omega))
              simp only [Nat.zero_add, List.nil_append] at happ
              have hge := grownCap_ge w n cap e
              have hcap : (new'.toArray ++ Builtin.zeroCells z.cells (grownCap w n cap e - n)).size = grownCap w n cap e * i.size := by
                simp [size_zeroCells, c4, hlen']
                rw [← Nat.add_mul]; congr 1; omega
              refine ⟨_, _, _, ⟨w.heap.size, grownCap w n cap e * i.size, i.size, none⟩, .inl (hrun _ _ happ), grown_drew _ _, rfl, fun ρ' q1 q2 => ⟨.sl 0 _ q1 (.inr ⟨hge, fun _ => Nat.le_refl _⟩), ?_⟩⟩
              exact mkRow_pre (c := new.toArray) (c1 := new'.toArray) (l1.mono q2) hcap.symm rfl
            · cases H
          · rename_i ad
            split at H
            · rename_i m g z2 cs hoff hsp ho
              split at H
              · rename_i hcond
                simp only [Bool.and_eq_true] at hcond
                obtain ⟨⟨d1, d2⟩, d3⟩ := hcond
                have d1 := Nat.eq_of_beq_eq_true d1
                have d2 := Nat.le_of_ble_eq_true d2
                have d3 := Nat.le_of_ble_eq_true d3
                simp only [bnd_some] at H
                obtain ⟨cs', hcs, H⟩ := H
                cases H
                intro hid
                cases hs with
                | slx a' c' => cases hsp
                | sl o l hb hc =>
                  rename_i b p c'
                  have hoff : o = 0 := hoff
                  subst hoff
                  have ho : h.get b = some (.row m g z2 cs) := ho
                  obtain ⟨c, el, fz, f1, f2, f3, f4, f5, f6⟩ := hr.obj _ _ _ hb ho
                  have hlq := l1.length
                  have hadd : len * i.size + new.length = (len + n) * i.size := by rw [c3, Nat.add_mul]
                  by_cases hroom : len + n ≤ c'
                  · -- there is room after all
                    have hb2 : c' * p.g ≤ p.cap := by
                      rcases hc with hc | ⟨_, hc⟩
                      · omega
                      · exact hc rfl
                    rw [← f4, d1] at hb2
                    have hfits : len * i.size + new.length ≤ p.cap := by
                      rw [hadd]
                      exact Nat.le_trans (Nat.mul_le_mul_right _ hroom) hb2
                    obtain ⟨g1, g2, g3⟩ := hr.rename (l' := new') hb ho hid hd l1 hcs d3 hfits
                    have happ := run_append_room_src (P := P) w st xt ty e i hu hi p.blk 0 len c' x' n new' hsrc2 hroom
                        (fun j hj => by simp [World.cell?, f1]; omega)
                        (fun j hj => by
                          simp only [World.frozen?, f1]
                          have := f5 (0 + len * i.size + j) (.inl (by omega))
                          by_cases h1 : fz.1 ≤ 0 + len * i.size + j <;> by_cases h2 : 0 + len * i.size + j < fz.2 <;> simp [h1, h2] <;> omega)
                    rw [Nat.zero_add] at happ
                    refine ⟨_, _, upd ρ id p, .inl (hrun _ _ happ), .sl 0 _ (upd_self id p) (.inr ⟨hroom, fun _ => by rw [← f4, d1]; exact hb2⟩), ?_, ?_⟩
                    · rw [← hadd, d1] at *; exact g2
                    · rw [← hadd, d1] at *; exact g3
                  · -- a new row
                    have hold : ∃ old' : List Value, old'.length = len * i.size ∧ (∀ j v, j < len * i.size → cellAt m z2 cs j = some v → ∃ v', old'[j]? = some v' ∧ VRel ρ v v') ∧ ∀ j v, old'[j]? = some v → w.cell? ((⟨p.blk, 0, none⟩ : Addr).add j) = some v := by
                      refine ⟨c.toList.take (len * i.size), by simp; omega, fun j v hj hv => ?_, fun j v hv => ?_⟩
                      · obtain ⟨v', g1, g2⟩ := f6 j v hv
                        exact ⟨v', by rw [List.getElem?_take_of_lt hj]; simpa using g1, g2⟩
                      · rw [ARel.add (ρ := ρ) (a := ⟨b, 0, none⟩) ⟨p, hb, rfl, rfl⟩]
                        rw [List.getElem?_take] at hv
                        split at hv
                        · simp [World.cell?, f1]; simpa using hv
                        · cases hv
                    obtain ⟨old', o1, o2, o3⟩ := hold
                    have hfirst : (Builtin.firstCells i.size len (.slice (some ⟨p.blk, 0, none⟩) len c')).run P w.drew = .ok old'.toArray w.drew := by
                      simp only [Builtin.firstCells, ← o1]
                      exact run_loadCells_list (P := P) w.drew _ old' o3
                    have happ := run_append_grow_src (P := P) w st xt ty e i z hu hi hz (some ⟨p.blk, 0, none⟩) len c' old' hfirst x' n new' hsrc2 (by omega) h63 (hfit c' (by omega))
                    have hge := grownCap_ge w (len + n) c' e
                    have hcap : ((old' ++ new').toArray ++ Builtin.zeroCells z.cells (grownCap w (len + n) c' e - (len + n))).size = grownCap w (len + n) c' e * i.size := by
                      simp [size_zeroCells, c4, hlen', o1]
                      rw [← Nat.add_mul, ← Nat.add_mul]; congr 1; omega
                    obtain ⟨k1, k2⟩ := hr.kill hb ho id (id + 1)
                    have hne : id ≠ b := fun e2 => by rw [e2, hb] at hid; cases hid
                    have hd2 : (h.set b .dead).get id = none := by rw [Tr.get_set_ne _ _ hne]; exact hd
                    obtain ⟨hone, hget⟩ := wrN_spec hcs
                    have hext := upd_ext (p := (⟨w.heap.size, grownCap w (len + n) c' e * i.size, i.size, none⟩ : Pl)) hid
                    obtain ⟨m1, m2⟩ := k1.alloc (grown_drew w _) hid hd2 (p := ⟨w.heap.size, grownCap w (len + n) c' e * i.size, i.size, none⟩) rfl (ob := .row ((len + n) * i.size) i.size z2 cs')
                      (co := .cells ((old' ++ new').toArray ++ Builtin.zeroCells z.cells (grownCap w (len + n) c' e - (len + n))) e)
                      ⟨_, e, (0, 0), rfl, hcap, Nat.mul_le_mul_right _ hge, rfl, fun _ _ hh => by omega, fun j v hv => by
                        unfold cellAt at hv
                        split at hv
                        · rename_i hin
                          have hin := Nat.le_of_ble_eq_true hin
                          rw [hget j] at hv
                          rw [Array.getElem?_append_left (by simp [o1, hlen', ← Nat.add_mul]; omega)]
                          by_cases hrange : len * i.size ≤ j ∧ j < len * i.size + new.length
                          · rw [if_pos hrange] at hv
                            obtain ⟨q, rfl⟩ : ∃ q, j = len * i.size + q := ⟨j - len * i.size, by omega⟩
                            rw [show len * i.size + q - len * i.size = q by omega] at hv
                            cases hlj : new[q]? with
                            | none => rw [List.getElem?_eq_none_iff] at hlj; omega
                            | some u2 =>
                              rw [hlj] at hv
                              simp at hv; subst hv
                              obtain ⟨v', g1, g2⟩ := l1.get hlj
                              exact ⟨v', by simp; rw [List.getElem?_append_right (by omega), o1, show len * i.size + q - len * i.size = q by omega]; exact g1, g2.mono hext⟩
                          · rw [if_neg hrange] at hv
                            obtain ⟨v', g1, g2⟩ := o2 j v (by omega) (by
                              unfold cellAt
                              rw [show Nat.ble (j + 1) m = true from Nat.ble_eq_true_of_le (by omega)]
                              exact hv)
                            exact ⟨v', by simp; rw [List.getElem?_append_left (by omega)]; exact g1, g2.mono hext⟩
                        · cases hv⟩
                    refine ⟨_, _, _, .inl (hrun _ _ happ), .sl 0 _ (upd_self id _) (.inr ⟨hge, fun _ => Nat.le_refl _⟩), m1, ?_⟩
                    exact k2.trans m2 (Nat.le_refl _) (Nat.le_refl _)
              · cases H
            · cases H
  · cases H

end Ev
end Go.Proofs.YteohlibpfgmcaaaGreatDoor
