/- ScriptLines: the walk. -/
import Derived.Test.YtkpofjfndokaeaaGreatDoorY1
import Derived.Test.YtkpofjfndokaeaaGreatDoorU1
import Derived.Maps.AppendAt
import Derived.Deep.AppendLies
import Derived.OwnWalk
namespace Go.Proofs.YtkpofjfndokaeaaGreatDoor
open Go.RowKit
set_option linter.unusedVariables false
set_option linter.unusedSimpArgs false

def Reads (w : World) (B size : Nat) (A : Option Addr) (n : Nat) (xs : List Value) : Prop :=
  xs.length = n * size ∧ (0 < n → ∃ ad, A = some ad ∧ ad.block < B ∧ ∀ j u, xs[j]? = some u → w.cell? (ad.add j) = some u)
section
variable {P : Program} (w : World)

theorem run_append_of_nil (base : Nat) (t ty e : TypeId) (i : TypeInfo) (size : Nat) (ht : P.underlying t = some (.slice e)) (hi : P.info? e = some i)
    (v : Value) (n : Nat) (xs : List Value) (hown : w.ownsRow base e size v n xs) (c : Nat) : (Builtin.append_ #[t, t] ty #[v, .slice none 0 c]).run P w = .ok v w := by
  rcases hown.2 with ⟨rfl, rfl⟩ | ⟨g, cap, cur, rfl, _, _, hnc, _⟩
  · simp [Builtin.append_, run_underlying ht, sizeOf, typeInfo, hi, Builtin.lenOf, Builtin.firstCells]
  · simp [Builtin.append_, run_underlying ht, sizeOf, typeInfo, hi, Builtin.lenOf, Builtin.firstCells, hnc, storeCells]

theorem run_append_any (base : Nat) (t ty e : TypeId) (i : TypeInfo) (z : Value) (size bytes : Nat) (ht : P.underlying t = some (.slice e)) (hi : P.info? e = some i) (hz : i.zero = some z)
    (hsize : i.size = size) (hby : i.bytes = bytes) (hzs : z.cells.size = size) (hsz : 0 < size)
    (v : Value) (n : Nat) (xs : List Value) (hown : w.ownsRow base e size v n xs)
    (B : Nat) (A : Option Addr) (m c : Nat) (news : List Value) (hr : Reads w B size A m news) (h1 : ∀ u ∈ news, u.oneCell' = true)
    (h63 : n + m ≤ maxLen) (hbytes : (n + m) * bytes ≤ 140737488355328) (hbase : base ≤ w.heap.size) :
    ∃ v' w', (Builtin.append_ #[t, t] ty #[v, .slice A m c]).run P w = .ok v' w' ∧ w'.ownsRow base e size v' (n + m) (xs ++ news) ∧ w.grownBy w' v.ownBlock ∧
      (v'.ownBlock = v.ownBlock ∨ v'.ownBlock = some w.heap.size) := by
  rcases A with _ | ad
  · have hm : m = 0 := by
      rcases Nat.eq_zero_or_pos m with h0 | h0
      · exact h0
      · obtain ⟨ad, h, _⟩ := hr.2 h0
        cases h
    subst hm
    have hn : news = [] := List.eq_nil_of_length_eq_zero (by simpa using hr.1)
    subst hn
    exact ⟨v, w, run_append_of_nil w base t ty e i size ht hi v n xs hown c, by simpa using hown, World.grownBy.refl w _, .inl rfl⟩
  · have hcells : ∀ j u, news[j]? = some u → w.cell? (ad.add j) = some u := by
      intro j u hu
      rcases Nat.eq_zero_or_pos m with h0 | h0
      · subst h0
        have hn : news = [] := List.eq_nil_of_length_eq_zero (by simpa using hr.1)
        subst hn
        simp at hu
      · obtain ⟨ad', h, _, hc⟩ := hr.2 h0
        injection h with h
        subst h
        exact hc j u hu
    obtain ⟨v', w', hrun, h2, h3, _, h5⟩ := run_append_own_at (P := P) w base t ty e i z size bytes ht hi hz hsize hby hzs hsz v n xs hown ad m c news hr.1 hcells h1 h63 hbytes hbase
    exact ⟨v', w', hrun, h2, h3, h5⟩

theorem wp_append_any {o : Oper} {a : Act} {K : Act → World → Prop} {Q : Exit → Act → World → Prop} (s x : Operand) (t : TypeId)
    (ho : o.op = .call { callee := .builtin .append, args := #[s, x], argTypes := #[t, t] })
    (base : Nat) (e : TypeId) (i : TypeInfo) (z : Value) (size bytes : Nat) (ht : P.underlying t = some (.slice e)) (hi : P.info? e = some i) (hz : i.zero = some z)
    (hsize : i.size = size) (hby : i.bytes = bytes) (hzs : z.cells.size = size) (hsz : 0 < size)
    (v : Value) (n : Nat) (xs : List Value) (hs : a.eval s = v) (hown : w.ownsRow base e size v n xs)
    (B : Nat) (A : Option Addr) (m c : Nat) (news : List Value) (hx : a.eval x = .slice A m c) (hr : Reads w B size A m news) (h1 : ∀ u ∈ news, u.oneCell' = true)
    (h63 : n + m ≤ maxLen) (hbytes : (n + m) * bytes ≤ 140737488355328) (hbase : base ≤ w.heap.size)
    (h : ∀ v' w', w'.ownsRow base e size v' (n + m) (xs ++ news) → w.grownBy w' v.ownBlock → (v'.ownBlock = v.ownBlock ∨ v'.ownBlock = some w.heap.size) → K (a.put o.dst v') w') : o.wp P a w K Q := by
  obtain ⟨v', w', hrun, h2, h3, h4⟩ := run_append_any (P := P) w base t o.type e i z size bytes ht hi hz hsize hby hzs hsz v n xs hown B A m c news hr h1 h63 hbytes hbase
  unfold Oper.wp execOp
  simp only [ho, resolve, invoke, builtin, Sem.run_bind, Sem.run_pure, Result.andThen_ok, List.map_toArray, List.map_cons, List.map_nil, hs, hx, hrun]
  exact h v' w' h2 h3 h4

theorem wpList_append_any {ops : Array Oper} {rest : List Oper} {o : Oper} {a : Act} {Q : Exit → Act → World → Prop} (hgd : o.guard = none) (s x : Operand) (t : TypeId)
    (ho : o.op = .call { callee := .builtin .append, args := #[s, x], argTypes := #[t, t] })
    (base : Nat) (e : TypeId) (i : TypeInfo) (z : Value) (size bytes : Nat) (ht : P.underlying t = some (.slice e)) (hi : P.info? e = some i) (hz : i.zero = some z)
    (hsize : i.size = size) (hby : i.bytes = bytes) (hzs : z.cells.size = size) (hsz : 0 < size)
    (v : Value) (n : Nat) (xs : List Value) (hs : a.eval s = v) (hown : w.ownsRow base e size v n xs)
    (B : Nat) (A : Option Addr) (m c : Nat) (news : List Value) (hx : a.eval x = .slice A m c) (hr : Reads w B size A m news) (h1 : ∀ u ∈ news, u.oneCell' = true)
    (h63 : n + m ≤ maxLen) (hbytes : (n + m) * bytes ≤ 140737488355328) (hbase : base ≤ w.heap.size)
    (h : ∀ v' w', w'.ownsRow base e size v' (n + m) (xs ++ news) → w.grownBy w' v.ownBlock → (v'.ownBlock = v.ownBlock ∨ v'.ownBlock = some w.heap.size) → wpList P ops Q rest (a.put o.dst v') w') : wpList P ops Q (o :: rest) a w :=
  wpList_plain hgd fun _ hK => wp_append_any w s x t ho base e i z size bytes ht hi hz hsize hby hzs hsz v n xs hs hown B A m c news hx hr h1 h63 hbytes hbase fun v' w' h2 h3 h4 => hK _ _ (h v' w' h2 h3 h4)
end

theorem Reads.nil (w : World) (B : Nat) (A : Option Addr) : Reads w B 11 A 0 [] := ⟨rfl, fun h => absurd h (by omega)⟩
theorem Reads.ev {w : World} {A : Option Addr} {x : Ev} (h : Evs w A [x]) : Reads w w.heap.size 11 A 1 x.cells.toList := by
  refine ⟨rfl, fun _ => ?_⟩
  obtain ⟨ad, hA, hb, hc⟩ := h 0 x rfl
  refine ⟨ad, hA, hb, fun j u hu => ?_⟩
  have hj : j < x.cells.size := by
    have := (List.getElem?_eq_some_iff.1 hu).1
    rwa [Array.length_toList] at this
  have := hc j hj
  rw [Nat.zero_mul, Nat.zero_add] at this
  rw [this, ← hu, Array.getElem?_toList, Array.getElem?_eq_getElem hj]
theorem ES.stay {W : World} {base : Nat} {acc : List Ev} {v : Value} {wr w' : World} (h : ES W base acc v wr) (hbs : W.heap.size ≤ base) {v' : Value}
    (hown : w'.ownsRow base 27 11 v' (acc.length + 0) (evCells acc ++ [])) (hg : wr.grownBy w' v.ownBlock) : ES W base acc v' w' := by
  rw [Nat.add_zero, List.append_nil] at hown
  exact ⟨hown, h.below.grown hg h.below.size (fun k e => Nat.le_trans hbs (h.own.lt k e).1)⟩

set_option maxRecDepth 100000 in
set_option maxHeartbeats 20000000 in
/-- A long text: nothing is asked. -/
theorem lines_long (s : ByteArray) (z : Int) (W : World) (hW : Sp W) (hs : s.size ≤ 9223372036854775807) (hb : 20000 < s.size) :
    Calls Tryz.prog 6 #[.string s, .int .i64 z] W fun e w' => e = .returned (.bool true) ∧ Below W.heap.size W w' := by
  have HSN : Hid (Calls Tryz.prog 7 #[] W fun e w' => e = .returned (.bool true) ∧ Below W.heap.size W w') := Lib.hid (shown_any W hW)
  clear hW
  go_enter Tryz.func6, Tryz.ntmps6
  go_wp2_with (first | (go_at_call 7; refine HSN.out.mono ?_; rintro e w1 ⟨rfl, hb1⟩; have HB1 := Lib.hid hb1; clear hb1 HSN))
  go_ret
  exact ⟨rfl, HB1.out⟩

set_option maxRecDepth 100000 in
set_option maxHeartbeats 20000000 in
theorem lines_short (s : ByteArray) (z : Int) (hz0 : -9223372036854775808 ≤ z) (hz1 : z ≤ 9223372036854775807) (W : World) (hW : Sp W) (hb : s.size ≤ 20000) :
    Calls Tryz.prog 6 #[.string s, .int .i64 z] W fun e w' => e = .returned (.bool true) ∧ Below W.heap.size W w' := by
  obtain ⟨i0, hi, hy0, hy1, hy2⟩ := info_parts (show (Tryz.prog.info? 27).map (fun i => (i.zero, i.size, i.bytes)) = some (some Ev.zero.v, 11, 112) by kernel_rfl)
  have hll : s.data.toList.length = s.size := (ba_size s).symm
  have HSN : Hid (Calls Tryz.prog 7 #[] W fun e w' => e = .returned (.bool true) ∧ Below W.heap.size W w') := Lib.hid (shown_any W hW)
  have HP : Hid (∀ (t : ByteArray) (R : List Ev × Nat × Int) (a : Int), t.size ≤ 9223372036854775807 → parseB t.data.toList = R → (R.2.1 : Int) = a → ∀ w, Below W.heap.size W w → Calls Tryz.prog 15 #[.string t] w fun e w' => ∃ M c, e = .returned (.tuple #[.slice M R.1.length c, .int .i64 a, .int .i64 R.2.2]) ∧ Evs w' M R.1 ∧ Below w.heap.size w w' ∧ Below W.heap.size W w') := Lib.hid fun t R a ht hR ha w hb => (parse_any t w (hW.later hb) ht R hR).mono fun e w' h => by
    obtain ⟨M, c, he, hev, hb2⟩ := h
    rw [ha] at he
    exact ⟨M, c, he, hev, hb2, hb.trans (hb2.mono hb.size)⟩
  have HSME : Hid (∀ (B C : Option Addr) (cb cc : Nat) (b c : List Ev) (w : World), Below W.heap.size W w → Evs w B b → Evs w C c → b = c → b.length ≤ 9223372036854775807 → Calls Tryz.prog 11 #[.slice B b.length cb, .slice C c.length cc] w fun e w' => e = .returned (.bool true) ∧ Below w.heap.size w w' ∧ Below W.heap.size W w') := Lib.hid fun B C cb cc b c w hb h1 h2 hbc hn => by
    refine (same_any B C cb cc b c w h1 h2 hn (by rw [← hbc]; exact hn)).mono ?_
    rintro e w' ⟨rfl, hb2⟩
    exact ⟨by rw [decide_eq_true hbc], hb2, hb.trans (hb2.mono hb.size)⟩
  obtain ⟨L, hL⟩ : ∃ L, L = linesL s.data.toList := ⟨_, rfl⟩
  have hLn : L.length ≤ 20001 := by rw [hL]; have := linesL_len s.data.toList; omega
  have hL0 : 0 < L.length := by rw [hL]; exact List.length_pos_iff.2 (linesL_ne _)
  have HSM : Hid (∀ t ∈ L, t.length ≤ 20000) := Lib.hid fun t ht => by rw [hL] at ht; have := linesL_small _ t ht; omega
  have HNO : Hid (∀ t ∈ L, (10 : UInt8) ∉ t) := Lib.hid fun t ht => by rw [hL] at ht; exact linesL_no10 _ t ht
  have HML : Hid (∀ K k, k ≤ 20003 → (mk2 L K k).length ≤ 420000000) := Lib.hid fun K k hk => by have := mk2_len L K HSM.out k; omega
  obtain ⟨⟨r, a, c⟩, hR⟩ : ∃ R, parseB s.data.toList = R := ⟨_, rfl⟩
  obtain ⟨ai, hai⟩ : ∃ ai : Int, ((a : Nat) : Int) = ai := ⟨_, rfl⟩
  have HPT := Lib.hid (HP.out s _ ai (by omega) hR hai)
  simp only at HPT
  have HAI := Lib.hid hai
  have HP0 : Hid ((r, a, c) = parseL L 0 []) := Lib.hid (by rw [← hR]; unfold parseB; rw [if_neg (by omega), hL])
  have HMO : Hid (parseL L 0 [] = (r, 0, 0) → ∀ K, K ≤ L.length → parseB (mk2 L K (L.length + 1)) = (r, 0, 0)) := Lib.hid fun h K hK => by subst hL; exact parse_more (by omega) h K hK
  have HLN : Hid (∀ w, Below W.heap.size W w → Calls Tryz.prog 16 #[.string s] w fun e w' => ∃ g cc, e = .returned (.slice (some ⟨g, 0, none⟩) L.length cc) ∧ (∀ w2, Below w'.heap.size w' w2 → ∀ k t, L[k]? = some t → w2.cell? ⟨g, k, none⟩ = some (.string ⟨t.toArray⟩)) ∧ Below w.heap.size w w' ∧ Below W.heap.size W w') := Lib.hid fun w hbw => by
    refine (lines_any s hb w).mono ?_
    rintro e w' ⟨v, rfl, hls⟩
    rw [← hL] at hls
    obtain ⟨g, cap, rfl, hg, _, hcell⟩ := hls.join hL0
    refine ⟨g, cap, rfl, fun w2 hb2 k t hk => ?_, hls.below, hbw.trans (hls.below.mono hbw.size)⟩
    have := hcell k ⟨t.toArray⟩ (by rw [List.getElem?_map, hk]; rfl)
    rw [Nat.zero_add] at this
    exact (World.cell?_of_block (a := ⟨g, k, none⟩) (hb2.block g hg)).trans this
  clear hR hai hL hll hW hL0
  go_enter Tryz.func6, Tryz.ntmps6
  go_wp2_with (first | (go_at_call 7; refine HSN.out.mono ?_; rintro e w1 ⟨rfl, hb1⟩; have HB1 := Lib.hid hb1; clear hb1 HSN) | (go_at_call 15; refine (HPT.out _ HB1.out).mono ?_; rintro e w2 ⟨M2, c2, rfl, hev2, hbx2, hb2⟩; have HE2 := Lib.hid hev2; have HB2 := Lib.hid hb2; clear hb2 hbx2 hev2 HPT) | (go_at_call 16; refine (HLN.out _ HB2.out).mono ?_; rintro e w3 ⟨g, cg, rfl, hlc, hbx3, hb3⟩; have HLC := Lib.hid hlc; have HB3 := Lib.hid hb3; have HB23 := Lib.hid hbx3; clear hlc hb3 hbx3 HLN))
  have HES := Lib.hid (ES.start w3.heap.size (Below.refl w3.heap.size w3))
  go_loopw [10, 11] (fun v i wr => ∃ (k : Nat) (acc : List Ev), k ≤ L.length ∧ i = .int .i64 k ∧ acc.length ≤ 4096 ∧ Hid ((r, a, c) = parseL (L.drop k) k acc) ∧ Hid (ES w3 w3.heap.size acc v wr)) (fun _ i _ => L.length - (intOf i).toNat)
  case atStart => exact ⟨0, [], Nat.zero_le _, rfl, by simp, HP0, HES⟩
  case round =>
    clear HES
    obtain ⟨k, acc, hk, rfl, hacc, HPK, HES⟩ := hrel
    by_cases hkl : k < L.length
    · obtain ⟨t, ht⟩ : ∃ t, L[k]? = some t := ⟨_, List.getElem?_eq_getElem hkl⟩
      have hp := HPK.out
      rw [List.drop_eq_getElem_cons hkl, show L[k] = t from Option.some.inj ((List.getElem?_eq_getElem hkl).symm.trans ht), parseL] at hp
      have HP2 := Lib.hid hp
      have hct := HLC.out wr HES.out.below k t ht
      have htm := List.mem_of_getElem? ht
      have hone := parseB_one t (HNO.out t htm) (by have := HSM.out t htm; omega)
      have htz := HSM.out t htm
      obtain ⟨TT, hTT⟩ : ∃ TT : ByteArray, TT = ⟨t.toArray⟩ := ⟨_, rfl⟩
      have hTD : TT.data.toList = t := by rw [hTT]
      have hTZ : TT.size ≤ 20000 := by rw [hTT]; exact htz
      rw [← hTT] at hct
      rw [← hTD] at hone
      obtain ⟨Av, cv, rfl⟩ := HES.out.v
      have HBR := Lib.hid (HB3.out.trans (HES.out.below.mono HB3.out.size))
      clear hp HPK ht htm hTT htz
      cases hle : lineEv t with
      | none =>
        rw [hTD, hle] at hone
        have h2 := HP2.out
        rw [hle] at h2
        simp only [Prod.mk.injEq] at h2
        obtain ⟨hr0, ha0, hc0⟩ := h2
        have HPN := Lib.hid (HP.out TT ([], 1, 201) 1 (by omega) (by rw [hTD]; exact hone) rfl)
        simp only at HPN
        have hab : (ai == (k : Int) + 1) = true := by rw [beq_iff_eq, ← HAI.out, ha0]; rfl
        have hcb : (c == 201) = true := by rw [beq_iff_eq]; exact hc0
        subst hr0
        clear hone ha0 hc0 hle hTD
        go_wp2_with (first | (go_at_call 15; refine (HPN.out _ HBR.out).mono ?_; rintro e w4 ⟨M4, c4, rfl, hev4, hbx4, hb4⟩; have HB4 := Lib.hid hb4; clear hb4 hbx4 hev4 HPN))
        go_ret
        exact ⟨rfl, HB4.out⟩
      | some o =>
        cases o with
        | none =>
          rw [hTD, hle] at hone
          have h2 := HP2.out
          rw [hle] at h2
          simp only at h2
          have HP3 := Lib.hid h2
          have HPN := Lib.hid (HP.out TT ([], 0, 0) 0 (by omega) (by rw [hTD]; exact hone) rfl)
          simp only at HPN
          have hI : ¬ (4096 : Int) < (acc.length : Int) := by omega
          clear hone h2 hle hTD HP2
          go_wp2_with (first | (go_at_call 15; refine (HPN.out _ HBR.out).mono ?_; rintro e w4 ⟨M4, c4, rfl, hev4, hbx4, hb4⟩; have HES4 := Lib.hid (HES.out.later hbx4); have hown := HES4.out.own; have hsz4 := HES4.out.below.size; have HB4 := Lib.hid hb4; clear hb4 hbx4 hev4 HPN) | (at_builtin; refine wpList_append_any _ rfl _ _ 22 rfl w3.heap.size 27 i0 Ev.zero.v 11 112 Tryz.underlying22 hi hy0 hy1 hy2 rfl (by decide) _ _ _ rfl hown 0 _ 0 _ [] rfl (Reads.nil _ _ _) (by simp) (by unfold maxLen; omega) (by omega) hsz4 ?_; intro v' w' hown' hg3 hiff))
          exact ⟨⟨k + 1, acc, by omega, by go_num, hacc, HP3, Lib.hid (HES4.out.stay (Nat.le_refl _) hown' hg3)⟩, by simp [intOf]; omega⟩
        | some x =>
          rw [hTD, hle] at hone
          have h2 := HP2.out
          rw [hle] at h2
          simp only at h2
          have HPN := Lib.hid (HP.out TT ([x], 0, 0) 0 (by omega) (by rw [hTD]; exact hone) rfl)
          simp only at HPN
          by_cases h4 : acc.length = 4096
          · rw [if_pos h4] at h2
            simp only [Prod.mk.injEq] at h2
            obtain ⟨hr0, ha0, hc0⟩ := h2
            have hab : (ai == (k : Int) + 1) = true := by rw [beq_iff_eq, ← HAI.out, ha0]; rfl
            have hcb : (c == 201) = true := by rw [beq_iff_eq]; exact hc0
            have hI : (4096 : Int) < (acc.length : Int) + 1 := by omega
            subst hr0
            clear hone ha0 hc0 hle hTD h4 HP2
            go_wp2_with (first | (go_at_call 15; refine (HPN.out _ HBR.out).mono ?_; rintro e w4 ⟨M4, c4, rfl, hev4, hbx4, hb4⟩; have HB4 := Lib.hid hb4; clear hb4 hbx4 hev4 HPN))
            go_ret
            exact ⟨rfl, HB4.out⟩
          · rw [if_neg h4] at h2
            have HP3 := Lib.hid h2
            have hI : ¬ (4096 : Int) < (acc.length : Int) + 1 := by omega
            clear hone h2 hle hTD HP2
            go_wp2_with (first | (go_at_call 15; refine (HPN.out _ HBR.out).mono ?_; rintro e w4 ⟨M4, c4, rfl, hev4, hbx4, hb4⟩; have HES4 := Lib.hid (HES.out.later hbx4); have hown := HES4.out.own; have hsz4 := HES4.out.below.size; have HB4 := Lib.hid hb4; have HRD := Lib.hid (Reads.ev hev4); clear hb4 hbx4 hev4 HPN) | (at_builtin; refine wpList_append_any _ rfl _ _ 22 rfl w3.heap.size 27 i0 Ev.zero.v 11 112 Tryz.underlying22 hi hy0 hy1 hy2 rfl (by decide) _ _ _ rfl hown _ _ 1 _ x.cells.toList rfl HRD.out (by simp [Ev.cells, Value.oneCell']) (by unfold maxLen; omega) (by omega) hsz4 ?_; intro v' w' hown' hg3 hiff))
            exact ⟨⟨k + 1, acc ++ [x], by omega, by go_num, by rw [List.length_append]; simp; omega, HP3, Lib.hid (HES4.out.append (Nat.le_refl _) x rfl rfl hown' hg3)⟩, by simp [intOf]; omega⟩
    · have hkr : k = L.length := by omega
      have hp := HPK.out
      rw [hkr, List.drop_length, parseL] at hp
      simp only [Prod.mk.injEq] at hp
      obtain ⟨rfl, ha0, rfl⟩ := hp
      have HMO2 := Lib.hid (HMO.out (by rw [← HP0.out, ha0]))
      obtain ⟨Aw, cw, rfl, _, hwr, _⟩ := HES.out.row
      have HWR := Lib.hid hwr
      have hrl : r.length ≤ 4096 := hacc
      have HMO := HMO2
      clear hkr ha0 hwr HPK HMO2 hacc
      by_cases hzn : z < 0
      · obtain ⟨A, hA⟩ := Int.eq_ofNat_of_zero_le (show 0 ≤ -(z + 1) by omega)
        obtain ⟨K, hK⟩ : ∃ K, K = A % (L.length + 1) := ⟨_, rfl⟩
        have HKL : Hid (K ≤ L.length) := Lib.hid (by rw [hK]; have := Nat.mod_lt A (show 0 < L.length + 1 by omega); omega)
        have HML : Hid (∀ k2, k2 ≤ 20003 → (mk2 L K k2).length ≤ 420000000) := Lib.hid (HML.out K)
        have hrem : (-(z + 1)).tmod ((L.length : Int) + 1) = (K : Int) := by rw [hA, hK]; rfl
        have hrz : ((L.length : Int) + 1 == 0) = false := by rw [beq_eq_false_iff_ne]; omega
        · skip
          clear hA hK
          go_wp2_with fail
          go_loopw [16, 17] (fun v i wx => ∃ (T : ByteArray) (k2 : Nat), k2 ≤ L.length + 1 ∧ i = .int .i64 k2 ∧ v = .string T ∧ Hid (T.data.toList = mk2 L K k2) ∧ wx = wr) (fun _ i _ => L.length + 1 - (intOf i).toNat)
          case atStart => exact ⟨⟨#[]⟩, 0, Nat.zero_le _, rfl, rfl, Lib.hid rfl, rfl⟩
          case round =>
            obtain ⟨S, k2, hk2, rfl, rfl, HT, rfl⟩ := hrel
            have hsz : S.size ≤ 420000000 := by
              rw [ba_size, HT.out]
              have := HML.out k2
              omega
            have HST : Hid (mk2 L K (k2 + 1) = (mk2 L K k2 ++ if k2 = K then [32, 59, 32, 110, 111, 116, 104, 105, 110, 103, 10] else []) ++ match L[k2]? with
              | some t => t ++ [10]
              | none => []) := Lib.hid rfl
            by_cases hkl : k2 ≤ L.length
            · by_cases hkn : k2 < L.length
              · obtain ⟨t, ht⟩ : ∃ t, L[k2]? = some t := ⟨_, List.getElem?_eq_getElem hkn⟩
                have hst := HST.out
                rw [ht] at hst
                simp only at hst
                have HST2 := Lib.hid hst
                have hct := HLC.out wr HES.out.below k2 t ht
                obtain ⟨TT, hTT⟩ : ∃ TT : ByteArray, TT = ⟨t.toArray⟩ := ⟨_, rfl⟩
                rw [← hTT] at hct
                have htz : TT.size ≤ 20000 := by rw [hTT]; exact HSM.out t (List.mem_of_getElem? ht)
                have HTD : Hid (TT.data.toList = t) := Lib.hid (by rw [hTT])
                clear hst ht HST hTT
                by_cases hkk : k2 = K
                · have hkb : ((k2 : Int) == (K : Int)) = true := by rw [beq_iff_eq]; omega
                  have HKK := Lib.hid hkk
                  clear hkk
                  go_wp2_with fail
                  exact ⟨⟨_, k2 + 1, by omega, by go_num, rfl, Lib.hid (by rw [HST2.out, if_pos HKK.out, ← HT.out, ← HTD.out]; simp [ByteArray.data_append]), (by first | trivial | rfl)⟩, by simp [intOf]; omega⟩
                · have hkb : ((k2 : Int) == (K : Int)) = false := by rw [beq_eq_false_iff_ne]; omega
                  have HKK := Lib.hid hkk
                  clear hkk
                  go_wp2_with fail
                  exact ⟨⟨_, k2 + 1, by omega, by go_num, rfl, Lib.hid (by rw [HST2.out, if_neg HKK.out, ← HT.out, ← HTD.out]; simp [ByteArray.data_append]), (by first | trivial | rfl)⟩, by simp [intOf]; omega⟩
              · have hst := HST.out
                rw [List.getElem?_eq_none (by omega)] at hst
                simp only at hst
                have HST2 := Lib.hid hst
                clear hst HST
                by_cases hkk : k2 = K
                · have hkb : ((k2 : Int) == (K : Int)) = true := by rw [beq_iff_eq]; omega
                  have HKK := Lib.hid hkk
                  clear hkk
                  go_wp2_with fail
                  exact ⟨⟨_, k2 + 1, by omega, by go_num, rfl, Lib.hid (by rw [HST2.out, if_pos HKK.out, ← HT.out]; simp [ByteArray.data_append]), (by first | trivial | rfl)⟩, by simp [intOf]; omega⟩
                · have hkb : ((k2 : Int) == (K : Int)) = false := by rw [beq_eq_false_iff_ne]; omega
                  have HKK := Lib.hid hkk
                  clear hkk
                  go_wp2_with fail
                  exact ⟨⟨_, k2 + 1, by omega, by go_num, rfl, Lib.hid (by rw [HST2.out, if_neg HKK.out, ← HT.out]; simp [ByteArray.data_append]), (by first | trivial | rfl)⟩, by simp [intOf]; omega⟩
            · have HK2 : Hid (k2 = L.length + 1) := Lib.hid (by omega)
              have HPN := Lib.hid (HP.out S (r, 0, 0) 0 (by omega) (by rw [HT.out, HK2.out]; exact HMO.out K HKL.out) rfl)
              simp only at HPN
              go_wp2_with (first | (go_at_call 15; refine (HPN.out _ (HB3.out.trans (HES.out.below.mono HB3.out.size))).mono ?_; rintro e w5 ⟨M5, c5, rfl, hev5, hbx5, hb5⟩; have HE5 := Lib.hid hev5; have HX5 := Lib.hid hbx5; have HB5 := Lib.hid hb5; clear hb5 hbx5 hev5 HPN) | (go_at_call 11; (with_reducible refine (HSME.out M2 Aw _ _ r r w5 HB5.out (HE2.out.later (HB23.out.trans ((HES.out.below.trans (HX5.out.mono HES.out.below.size)).mono HB23.out.size)) (Nat.le_refl _)) (HWR.out.later HX5.out (Nat.le_refl _)) rfl (by omega)).mono ?_); rintro e w6 ⟨rfl, hbx6, hb6⟩; have HB6 := Lib.hid hb6; have HX6 := Lib.hid hbx6; clear hb6 hbx6) | (go_at_call 11; (with_reducible refine (HSME.out M5 Aw _ _ r r w6 HB6.out (HE5.out.later HX6.out (Nat.le_refl _)) (HWR.out.later (HX5.out.trans (HX6.out.mono HX5.out.size)) (Nat.le_refl _)) rfl (by omega)).mono ?_); rintro e w7 ⟨rfl, hbx7, hb7⟩; have HB7 := Lib.hid hb7; clear hb7 hbx7))
              go_ret
              exact ⟨rfl, HB7.out⟩
      · obtain ⟨A, hA⟩ := Int.eq_ofNat_of_zero_le (show 0 ≤ z by omega)
        obtain ⟨K, hK⟩ : ∃ K, K = A % (L.length + 1) := ⟨_, rfl⟩
        have HKL : Hid (K ≤ L.length) := Lib.hid (by rw [hK]; have := Nat.mod_lt A (show 0 < L.length + 1 by omega); omega)
        have HML : Hid (∀ k2, k2 ≤ 20003 → (mk2 L K k2).length ≤ 420000000) := Lib.hid (HML.out K)
        have hrem : z.tmod ((L.length : Int) + 1) = (K : Int) := by rw [hA, hK]; rfl
        have hrz : ((L.length : Int) + 1 == 0) = false := by rw [beq_eq_false_iff_ne]; omega
        · skip
          clear hA hK
          go_wp2_with fail
          go_loopw [16, 17] (fun v i wx => ∃ (T : ByteArray) (k2 : Nat), k2 ≤ L.length + 1 ∧ i = .int .i64 k2 ∧ v = .string T ∧ Hid (T.data.toList = mk2 L K k2) ∧ wx = wr) (fun _ i _ => L.length + 1 - (intOf i).toNat)
          case atStart => exact ⟨⟨#[]⟩, 0, Nat.zero_le _, rfl, rfl, Lib.hid rfl, rfl⟩
          case round =>
            obtain ⟨S, k2, hk2, rfl, rfl, HT, rfl⟩ := hrel
            have hsz : S.size ≤ 420000000 := by
              rw [ba_size, HT.out]
              have := HML.out k2
              omega
            have HST : Hid (mk2 L K (k2 + 1) = (mk2 L K k2 ++ if k2 = K then [32, 59, 32, 110, 111, 116, 104, 105, 110, 103, 10] else []) ++ match L[k2]? with
              | some t => t ++ [10]
              | none => []) := Lib.hid rfl
            by_cases hkl : k2 ≤ L.length
            · by_cases hkn : k2 < L.length
              · obtain ⟨t, ht⟩ : ∃ t, L[k2]? = some t := ⟨_, List.getElem?_eq_getElem hkn⟩
                have hst := HST.out
                rw [ht] at hst
                simp only at hst
                have HST2 := Lib.hid hst
                have hct := HLC.out wr HES.out.below k2 t ht
                obtain ⟨TT, hTT⟩ : ∃ TT : ByteArray, TT = ⟨t.toArray⟩ := ⟨_, rfl⟩
                rw [← hTT] at hct
                have htz : TT.size ≤ 20000 := by rw [hTT]; exact HSM.out t (List.mem_of_getElem? ht)
                have HTD : Hid (TT.data.toList = t) := Lib.hid (by rw [hTT])
                clear hst ht HST hTT
                by_cases hkk : k2 = K
                · have hkb : ((k2 : Int) == (K : Int)) = true := by rw [beq_iff_eq]; omega
                  have HKK := Lib.hid hkk
                  clear hkk
                  go_wp2_with fail
                  exact ⟨⟨_, k2 + 1, by omega, by go_num, rfl, Lib.hid (by rw [HST2.out, if_pos HKK.out, ← HT.out, ← HTD.out]; simp [ByteArray.data_append]), (by first | trivial | rfl)⟩, by simp [intOf]; omega⟩
                · have hkb : ((k2 : Int) == (K : Int)) = false := by rw [beq_eq_false_iff_ne]; omega
                  have HKK := Lib.hid hkk
                  clear hkk
                  go_wp2_with fail
                  exact ⟨⟨_, k2 + 1, by omega, by go_num, rfl, Lib.hid (by rw [HST2.out, if_neg HKK.out, ← HT.out, ← HTD.out]; simp [ByteArray.data_append]), (by first | trivial | rfl)⟩, by simp [intOf]; omega⟩
              · have hst := HST.out
                rw [List.getElem?_eq_none (by omega)] at hst
                simp only at hst
                have HST2 := Lib.hid hst
                clear hst HST
                by_cases hkk : k2 = K
                · have hkb : ((k2 : Int) == (K : Int)) = true := by rw [beq_iff_eq]; omega
                  have HKK := Lib.hid hkk
                  clear hkk
                  go_wp2_with fail
                  exact ⟨⟨_, k2 + 1, by omega, by go_num, rfl, Lib.hid (by rw [HST2.out, if_pos HKK.out, ← HT.out]; simp [ByteArray.data_append]), (by first | trivial | rfl)⟩, by simp [intOf]; omega⟩
                · have hkb : ((k2 : Int) == (K : Int)) = false := by rw [beq_eq_false_iff_ne]; omega
                  have HKK := Lib.hid hkk
                  clear hkk
                  go_wp2_with fail
                  exact ⟨⟨_, k2 + 1, by omega, by go_num, rfl, Lib.hid (by rw [HST2.out, if_neg HKK.out, ← HT.out]; simp [ByteArray.data_append]), (by first | trivial | rfl)⟩, by simp [intOf]; omega⟩
            · have HK2 : Hid (k2 = L.length + 1) := Lib.hid (by omega)
              have HPN := Lib.hid (HP.out S (r, 0, 0) 0 (by omega) (by rw [HT.out, HK2.out]; exact HMO.out K HKL.out) rfl)
              simp only at HPN
              go_wp2_with (first | (go_at_call 15; refine (HPN.out _ (HB3.out.trans (HES.out.below.mono HB3.out.size))).mono ?_; rintro e w5 ⟨M5, c5, rfl, hev5, hbx5, hb5⟩; have HE5 := Lib.hid hev5; have HX5 := Lib.hid hbx5; have HB5 := Lib.hid hb5; clear hb5 hbx5 hev5 HPN) | (go_at_call 11; (with_reducible refine (HSME.out M2 Aw _ _ r r w5 HB5.out (HE2.out.later (HB23.out.trans ((HES.out.below.trans (HX5.out.mono HES.out.below.size)).mono HB23.out.size)) (Nat.le_refl _)) (HWR.out.later HX5.out (Nat.le_refl _)) rfl (by omega)).mono ?_); rintro e w6 ⟨rfl, hbx6, hb6⟩; have HB6 := Lib.hid hb6; have HX6 := Lib.hid hbx6; clear hb6 hbx6) | (go_at_call 11; (with_reducible refine (HSME.out M5 Aw _ _ r r w6 HB6.out (HE5.out.later HX6.out (Nat.le_refl _)) (HWR.out.later (HX5.out.trans (HX6.out.mono HX5.out.size)) (Nat.le_refl _)) rfl (by omega)).mono ?_); rintro e w7 ⟨rfl, hbx7, hb7⟩; have HB7 := Lib.hid hb7; clear hb7 hbx7))
              go_ret
              exact ⟨rfl, HB7.out⟩
theorem lines_law (s : ByteArray) (z : Int) {W : World} (w0 : s.size ≤ maxLen) (z0 : (Lit.int .i64 z).wf = true) (st : Sp W) :
    Calls Tryz.prog 6 #[.string s, .int .i64 z] W fun e w' => e = .returned (.bool true) ∧ Below W.heap.size W w' := by
  unfold maxLen at w0
  have hz : -9223372036854775808 ≤ z ∧ z ≤ 9223372036854775807 := by
    simp [Lit.wf, IntKind.min, IntKind.max, IntKind.signed, IntKind.bits] at z0
    exact ⟨by omega, by omega⟩
  by_cases h : 20000 < s.size
  · exact lines_long s z W st (by omega) h
  · exact lines_short s z hz.1 hz.2 W st (by omega)
end Go.Proofs.YtkpofjfndokaeaaGreatDoor
