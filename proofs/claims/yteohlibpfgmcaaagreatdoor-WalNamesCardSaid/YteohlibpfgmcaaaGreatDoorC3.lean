/- A Spec of disk.Names for the evaluator. -/
import Derived.Test.YteohlibpfgmcaaaGreatDoorC2
namespace Go.Proofs.YteohlibpfgmcaaaGreatDoor
open Go Go.RowKit Go.Maps Go.Sort
set_option linter.unusedVariables false
set_option linter.unusedSimpArgs false
namespace Ev

def leN : List UInt8 → List UInt8 → Bool
  | [], _ => true
  | _ :: _, [] => false
  | a :: x, b :: y => match Nat.blt a.toNat b.toNat with
    | true => true
    | false => match Nat.beq a.toNat b.toNat with
      | true => leN x y
      | false => false
def insN (x : List UInt8) : List (List UInt8) → List (List UInt8)
  | [] => [x]
  | y :: l => match leN x y with
    | true => x :: y :: l
    | false => y :: insN x l
def sortN : List (List UInt8) → List (List UInt8)
  | [] => []
  | x :: l => insN x (sortN l)

theorem leN_eq : ∀ x y : List UInt8, leN x y = leB x y
  | [], y => by simp [leN, leB]
  | a :: x, [] => by
    simp only [leN, leB]
    exact (decide_eq_false (by simp)).symm
  | a :: x, b :: y => by
    unfold leN
    simp only [leB]
    split
    · rename_i h
      have h : a.toNat < b.toNat := Nat.le_of_ble_eq_true h
      symm; rw [decide_eq_true_iff]
      rw [List.cons_le_cons_iff]
      exact .inl (UInt8.lt_iff_toNat_lt.2 h)
    · rename_i h
      have h : ¬ a.toNat < b.toNat := fun hh => by
        have : Nat.blt a.toNat b.toNat = true := Nat.ble_eq_true_of_le hh
        rw [h] at this; cases this
      split
      · rename_i h2
        have h2 := Nat.eq_of_beq_eq_true h2
        have hab : a = b := UInt8.toNat_inj.1 h2
        subst hab
        rw [leN_eq x y, leB, Bool.eq_iff_iff, decide_eq_true_iff, decide_eq_true_iff, List.cons_le_cons_iff]
        simp [UInt8.lt_irrefl]
      · rename_i h2
        have h2 := Nat.ne_of_beq_eq_false h2
        symm; rw [decide_eq_false_iff_not, List.cons_le_cons_iff]
        rintro (h3 | ⟨h3, _⟩)
        · exact h (UInt8.lt_iff_toNat_lt.1 h3)
        · exact h2 (congrArg UInt8.toNat h3)
theorem insN_perm (x : List UInt8) : ∀ l, (insN x l).Perm (x :: l)
  | [] => .refl _
  | y :: l => by
    unfold insN
    split
    · exact .refl _
    · exact ((insN_perm x l).cons y).trans (.swap x y l)
theorem sortN_perm : ∀ l, (sortN l).Perm l
  | [] => .refl _
  | x :: l => (insN_perm x _).trans ((sortN_perm l).cons x)
theorem leB_trans : ∀ a b c : List UInt8, leB a b = true → leB b c = true → leB a c = true := fun a b c h1 h2 => by
  simp only [leB, decide_eq_true_eq] at *; exact List.le_trans h1 h2
theorem leB_total : ∀ a b : List UInt8, (leB a b || leB b a) = true := fun a b => by
  simp only [leB, Bool.or_eq_true, decide_eq_true_eq]; exact List.le_total a b
theorem insN_sorted (x : List UInt8) : ∀ l : List (List UInt8), l.Pairwise (fun a b => leB a b = true) → (insN x l).Pairwise (fun a b => leB a b = true)
  | [], _ => by simp [insN]
  | y :: l, h => by
    unfold insN
    rw [List.pairwise_cons] at h
    split
    · rename_i hc
      rw [leN_eq] at hc
      refine List.pairwise_cons.2 ⟨fun z hz => ?_, List.pairwise_cons.2 h⟩
      rcases List.mem_cons.1 hz with rfl | hz
      · exact hc
      · exact leB_trans _ _ _ hc (h.1 z hz)
    · rename_i hc
      rw [leN_eq] at hc
      have hyx : leB y x = true := by
        have := leB_total x y
        rw [hc] at this; simpa using this
      refine List.pairwise_cons.2 ⟨fun z hz => ?_, insN_sorted x l h.2⟩
      rcases List.mem_cons.1 ((insN_perm x l).mem_iff.1 hz) with rfl | hz
      · exact hyx
      · exact h.1 z hz
theorem sortN_sorted : ∀ l, (sortN l).Pairwise (fun a b => leB a b = true)
  | [] => .nil
  | x :: l => insN_sorted x _ (sortN_sorted l)
theorem sortN_eq (l : List (List UInt8)) : sortN l = l.mergeSort leB := by
  refine List.Perm.eq_of_pairwise (le := fun a b => leB a b = true) (fun a b _ _ h1 h2 => ?_) (sortN_sorted l) (List.pairwise_mergeSort leB_trans leB_total l) ((sortN_perm l).trans (List.mergeSort_perm l leB).symm)
  simp only [leB, decide_eq_true_eq] at h1 h2
  exact List.le_antisymm h1 h2

/-! ### The entries of a map of names -/
def eqN : List UInt8 → List UInt8 → Bool
  | [], [] => true
  | a :: x, b :: y => match Nat.beq a.toNat b.toNat with
    | true => eqN x y
    | false => false
  | _, _ => false
theorem eqN_self : ∀ l, eqN l l = true
  | [] => rfl
  | a :: l => by
    unfold eqN
    rw [Nat.beq_refl]
    exact eqN_self l
def newN (x : List UInt8) : List (List UInt8) → Bool
  | [] => true
  | y :: l => match eqN x y with
    | true => false
    | false => newN x l
def newB (x : Nat) : List Nat → Bool
  | [] => true
  | y :: l => match Nat.beq x y with
    | true => false
    | false => newB x l
theorem newN_mem {x : List UInt8} : ∀ {l : List (List UInt8)}, newN x l = true → x ∉ l
  | [], _ => by simp
  | y :: l, h => by
    unfold newN at h
    split at h
    · cases h
    · rename_i hc
      intro hm
      rcases List.mem_cons.1 hm with rfl | hm
      · rw [eqN_self] at hc; cases hc
      · exact newN_mem h hm
theorem newB_mem {x : Nat} : ∀ {l : List Nat}, newB x l = true → x ∉ l
  | [], _ => by simp
  | y :: l, h => by
    unfold newB at h
    split at h
    · cases h
    · rename_i hc
      intro hm
      rcases List.mem_cons.1 hm with rfl | hm
      · rw [Nat.beq_refl] at hc; cases hc
      · exact newB_mem h hm
/-- keys and stamps, if all is as it should be -/
def keysA (cl : Nat) : List MapEntry → Option (List (List UInt8) × List Nat)
  | [] => some ([], [])
  | e :: es => match e.key with
    | .string s => match keysA cl es with
      | some (ks, bs) => match Nat.ble s.size 1000 && Nat.ble (e.born + 1) cl && newN s.data.toList ks && newB e.born bs with
        | true => some (s.data.toList :: ks, e.born :: bs)
        | false => none
      | none => none
    | _ => none

structure KeysOK (cl : Nat) (es : List MapEntry) (ks : List (List UInt8)) (bs : List Nat) : Prop where
  keys : es.map (·.key) = ks.map fun l => Value.string ⟨l.toArray⟩
  borns : es.map (·.born) = bs
  lt : ∀ b ∈ bs, b < cl
  kn : ks.Nodup
  bn : bs.Nodup
  sz : ∀ k ∈ ks, k.length ≤ 1000

theorem keysA_rel {ρ : Ren} {cl : Nat} : ∀ {es es' : List MapEntry} {ks : List (List UInt8)} {bs : List Nat}, keysA cl es = some (ks, bs) → ERel ρ es es' → KeysOK cl es' ks bs
  | [], _, ks, bs, H, R => by
    cases R
    simp only [keysA, Option.some.injEq, Prod.mk.injEq] at H
    obtain ⟨rfl, rfl⟩ := H
    exact ⟨rfl, rfl, by simp, .nil, .nil, by simp⟩
  | e :: es, _, ks, bs, H, R => by
    cases R with
    | cons hk hv hb t =>
      unfold keysA at H
      split at H
      · rename_i s he
        split at H
        · rename_i ks0 bs0 h0
          split at H
          · rename_i hc
            simp only [Bool.and_eq_true] at hc
            obtain ⟨⟨⟨c1, c2⟩, c3⟩, c4⟩ := hc
            simp only [Option.some.injEq, Prod.mk.injEq] at H
            obtain ⟨rfl, rfl⟩ := H
            have K := keysA_rel h0 t
            rw [he] at hk
            generalize hq : MapEntry.key _ = kv at hk
            cases hk
            refine ⟨?_, ?_, ?_, List.nodup_cons.2 ⟨newN_mem c3, K.kn⟩, List.nodup_cons.2 ⟨newB_mem c4, K.bn⟩, ?_⟩
            · rw [List.map_cons, List.map_cons, K.keys, hq]
            · rw [List.map_cons, K.borns, ← hb]
            · intro b hb'
              rcases List.mem_cons.1 hb' with rfl | hb'
              · exact Nat.le_of_ble_eq_true c2
              · exact K.lt b hb'
            · intro k hk'
              rcases List.mem_cons.1 hk' with rfl | hk'
              · have := Nat.le_of_ble_eq_true c1
                rw [Array.length_toList]; exact this
              · exact K.sz k hk'
          · cases H
        · cases H
      · cases H

theorem map_len {α β γ : Type} {f : α → γ} {g : β → γ} {l : List α} {m : List β} (h : l.map f = m.map g) : l.length = m.length := by
  have := congrArg List.length h
  simpa using this

theorem KeysOK.stamped {cl : Nat} {es : Array MapEntry} {ks : List (List UInt8)} {bs : List Nat} (K : KeysOK cl es.toList ks bs) : MapKept.Stamped es cl := by
  refine ⟨fun x hx => K.lt _ (by rw [← K.borns]; exact List.mem_map_of_mem hx), by rw [K.borns]; exact K.bn, ?_⟩
  rw [K.keys]
  refine List.pairwise_map.2 (K.kn.imp fun {a b} hne e => hne ?_)
  injection e with e
  injection e with e
  exact List.toArray_inj e
theorem KeysOK.keyE {cl : Nat} {es : Array MapEntry} {ks : List (List UInt8)} {bs : List Nat} (K : KeysOK cl es.toList ks bs) : es.toList.map keyE = ks := by
  have : ∀ (l : List MapEntry) (ks : List (List UInt8)), l.map (·.key) = ks.map (fun l => Value.string ⟨l.toArray⟩) → l.map Go.Proofs.YteohlibpfgmcaaaGreatDoor.keyE = ks := by
    intro l
    induction l with
    | nil => intro ks h; cases ks with | nil => rfl | cons => simp at h
    | cons e l ih =>
      intro ks h
      cases ks with
      | nil => simp at h
      | cons k ks =>
        simp only [List.map_cons, List.cons.injEq] at h
        rw [List.map_cons, ih ks h.2]
        simp [Go.Proofs.YteohlibpfgmcaaaGreatDoor.keyE, h.1]
  exact this _ _ K.keys
theorem KeysOK.strs {cl : Nat} {es : Array MapEntry} {ks : List (List UInt8)} {bs : List Nat} (K : KeysOK cl es.toList ks bs) : ∀ e ∈ es.toList, ∃ s : ByteArray, e.key = .string s ∧ s.size ≤ maxLen := fun e he => by
  have hm : e.key ∈ es.toList.map (·.key) := List.mem_map_of_mem he
  rw [K.keys] at hm
  obtain ⟨k, hk, hk2⟩ := List.mem_map.1 hm
  refine ⟨⟨k.toArray⟩, hk2.symm, ?_⟩
  have := K.sz k hk
  show k.toArray.size ≤ maxLen
  rw [List.size_toArray]; unfold maxLen; omega

noncomputable def namesSp (f : FuncId) : Spec := fun h nx g args =>
  match Nat.beq g f with
  | true => match args with
    | [.pointer (some ⟨b, o, none⟩)] => match rdCells h ⟨b, o, none⟩ 1 with
      | some [.map (some r)] => match h.get r with
        | some (.map es cl) => match keysA cl es, Nat.ble es.length 1000000 with
          | some (ks, _), true => match sortN ks with
            | [] => some (.slice none 0 0, h, nx)
            | s => some (.slice (some ⟨nx, 0, none⟩) s.length s.length, h.set nx (mkRow 1 ⟨s.map encStr⟩), nx + 1)
          | _, _ => none
        | _ => none
      | _ => none
    | _ => none
  | false => none
theorem Rel.below {P : Program} {ρ : Ren} {h : Heap} {w w' : World} (hr : Rel P ρ h w) (hb : Below w.heap.size w w') (n : Nat) : Rel P ρ h w' ∧ Ext n n ρ h w ρ h w' := by
  refine ⟨⟨fun b p o hp ho => ?_, fun b p hp => Nat.lt_of_lt_of_le (hr.blk b p hp) hb.size, hr.inj, hr.glb⟩, ?_⟩
  · rw [hb.block _ (hr.blk b p hp)]; exact hr.obj b p o hp ho
  · exact { Ext.refl n n ρ h w with size := hb.size, fr := fun c hc _ => hb.block c hc, tape := hb.tape, os := hb.os, output := hb.output }

/-- a block that a call has laid gets a number -/
theorem Rel.add {P : Program} {ρ : Ren} {h : Heap} {w w' : World} (hr : Rel P ρ h w) (hb : Below w.heap.size w w') {id : Nat} {p : Pl} {ob : AObj} (hid : ρ id = none) (hd : h.get id = none) (hp : w.heap.size ≤ p.blk) (hlt : p.blk < w'.heap.size)
    (ho : ORel (upd ρ id p) p ob (w'.heap[p.blk]?)) : Rel P (upd ρ id p) (h.set id ob) w' ∧ Ext id (id + 1) ρ h w (upd ρ id p) (h.set id ob) w' := by
  have hne : ∀ b q, ρ b = some q → b ≠ id := fun b q hq e => by rw [e, hid] at hq; cases hq
  have hold : ∀ b q, upd ρ id p b = some q → b ≠ id → ρ b = some q := fun b q hq hbi => by simpa [upd, hbi] using hq
  obtain ⟨r, e⟩ := hr.below hb id
  refine ⟨⟨fun b q o hq hob => ?_, fun b q hq => ?_, fun b b' q q' hq hq' h1 h2 hqq => ?_, fun g hg => ?_⟩, ?_⟩
  · by_cases hbi : b = id
    · subst hbi
      rw [upd_self] at hq; cases hq
      rw [Tr.get_set_self] at hob; cases hob
      exact ho
    · rw [Tr.get_set_ne _ _ hbi] at hob
      exact (r.obj b q o (hold b q hq hbi) hob).mono (upd_ext hid)
  · by_cases hbi : b = id
    · subst hbi; rw [upd_self] at hq; cases hq; exact hlt
    · exact r.blk b q (hold b q hq hbi)
  · by_cases hbi : b = id
    · subst hbi
      rw [upd_self] at hq; cases hq
      by_cases hbi' : b' = b
      · exact hbi'.symm
      · have := hr.blk b' q' (hold b' q' hq' hbi'); omega
    · by_cases hbi' : b' = id
      · subst hbi'
        rw [upd_self] at hq'; cases hq'
        have := hr.blk b q (hold b q hq hbi); omega
      · rw [Tr.get_set_ne _ _ hbi] at h1
        rw [Tr.get_set_ne _ _ hbi'] at h2
        exact hr.inj b b' q q' (hold b q hq hbi) (hold b' q' hq' hbi') h1 h2 hqq
  · obtain ⟨q, h1, h2⟩ := hr.glb g hg
    exact ⟨q, upd_ext hid _ _ h1, h2⟩
  · exact {
      ext := upd_ext hid
      new := fun b q h1 h2 => by
        by_cases hbi : b = id
        · omega
        · rw [hold b q h2 hbi] at h1; cases h1
      rng := fun b q h1 h2 => by
        by_cases hbi : b = id
        · subst hbi; rw [upd_self] at h2; cases h2; exact .inl hp
        · rw [hold b q h2 hbi] at h1; cases h1
      size := hb.size, fr := fun c hc _ => hb.block c hc, tape := hb.tape, os := hb.os, output := hb.output
      away := fun b q hq hn => by rwa [Tr.get_set_ne _ _ (hne b q hq)]
      dead := fun b hn => by rwa [Tr.get_set_ne _ _ (fun e2 => by rw [e2, hd] at hn; cases hn)]
      pend := fun b hq => by
        by_cases hbi : b = id
        · subst hbi; rw [upd_self] at hq; cases hq
        · rw [Tr.get_set_ne _ _ hbi] }

theorem strs_rel {ρ : Ren} : ∀ l : List (List UInt8), LRel ρ (l.map encStr) (l.map encStr)
  | [] => .nil
  | x :: l => .cons (.string _) (strs_rel l)

theorem namesSp_ok : SpecOK Tryz.prog (namesSp 16) := by
  intro h nx g args r H
  unfold namesSp at H
  split at H
  · rename_i hg
    have hg := Nat.eq_of_beq_eq_true hg
    subst hg
    split at H
    · rename_i b o
      split at H
      · rename_i rb hrd
        split at H
        · rename_i es cl hes
          split at H
          · rename_i ks bs hk hble
            have hble := Nat.le_of_ble_eq_true hble
            -- what lies there
            have key : ∀ (ρ : Ren) (w : World) (v' : Value), Rel Tryz.prog ρ h w → VRel ρ (.pointer (some ⟨b, o, none⟩)) v' →
                Calls Tryz.prog 16 #[v'] w fun e w' => ∃ v, e = .returned v ∧ w'.ownsRow w.heap.size 9 1 v (sortN ks).length ((sortN ks).map encStr) ∧ (v = .slice none 0 0 ↔ sortN ks = []) ∧ Below w.heap.size w w' := fun ρ w v' hr hv => by
              cases hv with
              | ptr o hb =>
                rename_i p
                obtain ⟨l', k1, k2, k3⟩ := rdCells_rel hr (a := ⟨b, o, none⟩) (a' := ⟨p.blk, o, none⟩) ⟨p, hb, rfl, rfl⟩ hrd
                cases k1 with
                | cons hm ht =>
                  cases ht
                  cases hm with
                  | map hrb =>
                    rename_i q
                    have hcell := k3 0 _ rfl
                    rw [show (Addr.add ⟨p.blk, o, none⟩ 0 : Addr) = ⟨p.blk, o, none⟩ by simp [Addr.add]] at hcell
                    obtain ⟨es', m1, m2⟩ := hr.obj _ _ _ hrb hes
                    have K := keysA_rel hk m2
                    have hlen : es'.size = ks.length := by
                      have := map_len K.keys
                      rw [← this]; simp
                    have hesl : es.length = es'.size := by
                      have : ∀ {a b : List MapEntry}, ERel ρ a b → a.length = b.length := fun {a b} hh => by
                        induction hh with
                        | nil => rfl
                        | cons _ _ _ _ ih => simp [ih]
                      rw [this m2]; simp
                    refine (names_any p.blk o q.blk es' cl w hcell m1 K.stamped K.strs (by omega)).mono ?_
                    rintro e w' ⟨v, rfl, c1, c2, c3⟩
                    have hsl : (sortN ks).length = es'.size := by rw [(sortN_perm ks).length_eq, hlen]
                    refine ⟨v, rfl, ?_, ?_, c3⟩
                    · rw [hsl, sortN_eq, ← K.keyE]; exact c1
                    · rw [c2, ← hsl]; exact List.length_eq_zero_iff
            split at H
            · rename_i hs0
              cases H
              refine ⟨Nat.le_refl _, fun ρ w args' hr hfr ha => ?_⟩
              obtain ⟨al⟩ := args'
              cases ha with
              | cons hv ht =>
                cases ht
                refine (key ρ w _ hr hv).mono ?_
                rintro e w' ⟨v, rfl, c1, c2, c3⟩
                have hv0 := c2.2 hs0
                subst hv0
                obtain ⟨r1, r2⟩ := hr.below c3 nx
                exact ⟨_, ρ, rfl, .sl0 _ _, r1, r2⟩
            · rename_i hs0
              cases H
              refine ⟨Nat.le_succ _, fun ρ w args' hr hfr ha => ?_⟩
              obtain ⟨al⟩ := args'
              cases ha with
              | cons hv ht =>
                cases ht
                refine (key ρ w _ hr hv).mono ?_
                rintro e w' ⟨v, rfl, c1, c2, c3⟩
                obtain ⟨d1, d2⟩ := c1
                rcases d2 with ⟨d2, _⟩ | ⟨gb, cap, cur, rfl, d3, d4, d5, d6, d7, d8⟩
                · exact absurd (c2.1 d2) hs0
                · obtain ⟨f1, f2⟩ := hfr nx (Nat.le_refl _)
                  have hgl : gb < w'.heap.size := (Array.getElem?_eq_some_iff.1 d4).1
                  obtain ⟨r1, r2⟩ := hr.add c3 (id := nx) (p := ⟨gb, cur.size, 1, none⟩) (ob := mkRow 1 ⟨(sortN ks).map encStr⟩) f1 f2 d3 hgl (by
                    rw [d4]
                    refine ⟨cur, _, _, rfl, rfl, ?_, rfl, fun i _ hi => by omega, fun i x hx => ?_⟩
                    · show (Array.mk ((sortN ks).map encStr)).size ≤ cur.size
                      rw [List.size_toArray, d1, d7]; exact Nat.mul_le_mul_right _ d5
                    · unfold cellAt at hx
                      split at hx
                      · rename_i hi
                        rw [Tr.get_ofL] at hx
                        have hx : (match ((sortN ks).map encStr)[i]? with | some v => some v | none => (#[] : Array Value)[i % 0]?) = some x := hx
                        cases hu : ((sortN ks).map encStr)[i]? with
                        | some u =>
                          rw [hu] at hx
                          cases hx
                          obtain ⟨x', hx1, hx2⟩ := (strs_rel (ρ := upd ρ nx ⟨gb, cur.size, 1, none⟩) (sortN ks)).get hu
                          have hx1 : ((sortN ks).map encStr)[i]? = some x' := hx1
                          rw [hu] at hx1; cases hx1
                          refine ⟨_, ?_, hx2⟩
                          have hil := (List.getElem?_eq_some_iff.1 hu).1
                          rw [← d8, List.getElem?_take] at hu
                          split at hu
                          · simpa using hu
                          · cases hu
                        | none =>
                          rw [hu] at hx
                          cases hx
                      · cases hx)
                  refine ⟨_, _, rfl, .sl 0 _ (upd_self _ _) (.inr ⟨d5, fun _ => ?_⟩), r1, r2⟩
                  show cap * 1 ≤ cur.size
                  omega
          · cases H
        · cases H
      · cases H
    · cases H
  · cases H

/-- two Specs, one behind the other -/
def orSp (a b : Spec) : Spec := fun h nx g args => match a h nx g args with | some r => some r | none => b h nx g args
theorem orSp_ok {P : Program} {a b : Spec} (ha : SpecOK P a) (hb : SpecOK P b) : SpecOK P (orSp a b) := fun h nx g args r H => by
  unfold orSp at H
  split at H
  · rename_i r0 e; cases H; exact ha _ _ _ _ _ e
  · exact hb _ _ _ _ _ H
end Ev
end Go.Proofs.YteohlibpfgmcaaaGreatDoor
