/- script.Parse: the walk. -/
import Derived.Test.YtkpofjfndokaeaaGreatDoorH1
namespace Go.Proofs.YtkpofjfndokaeaaGreatDoor
open Go.RowKit
set_option linter.unusedVariables false
set_option linter.unusedSimpArgs false

theorem ES.v {W : World} {base : Nat} {acc : List Ev} {v : Value} {wr : World} (h : ES W base acc v wr) : ∃ A cap, v = .slice A acc.length cap := by
  rcases h.own.2 with ⟨h1, h2⟩ | ⟨g, cap, cur, hv, _⟩
  · exact ⟨none, 0, by rw [h1, h2]⟩
  · exact ⟨_, _, hv⟩
theorem parseR_err {W w : World} {base k : Nat} {R : List Ev × Nat × Int} (h : R = ([], k + 1, 201)) : ParseR W base R (.returned (.tuple #[.slice none 0 0, .int .i64 ((k : Int) + 1), .int .i64 201])) w := by
  subst h
  exact ⟨_, rfl, EvRow.nil W w base⟩
theorem parseR_ok {W w : World} {base : Nat} {R : List Ev × Nat × Int} {l : List Ev} {v : Value} (h : R = (l, 0, 0)) (hr : EvRow W w base l v) : ParseR W base R (.returned (.tuple #[v, .int .i64 0, .int .i64 0])) w := by
  subst h
  exact ⟨_, rfl, hr⟩
theorem EvRow.mono {W w : World} {base base' : Nat} {l : List Ev} {v : Value} (h : EvRow W w base l v) (hb : base' ≤ base) : EvRow W w base' l v := by
  obtain ⟨A, c, h1, h2, h3, h4⟩ := h
  exact ⟨A, c, h1, h2, h3, fun ad e => Nat.le_trans hb (h4 ad e)⟩
/-- The lines of a text, as Split lays them. -/
theorem split_cells {W : World} {s : ByteArray} {L : List (List UInt8)} (hL : L = linesL s.data.toList) (w1 : World) (hw : w1 = W.alloc (.cells ((Lib.splitB ⟨#[10]⟩ 0 (Lib.countB s ⟨#[10]⟩) s).map Value.string).toArray 9)) :
    ∀ w', Below (W.heap.size + 1) w1 w' → ∀ k t, L[k]? = some t → w'.cell? ⟨W.heap.size, k, none⟩ = some (.string ⟨t.toArray⟩) := by
  intro w' hb k t hk
  have e : w'.heap[W.heap.size]? = some (.cells ((Lib.splitB ⟨#[10]⟩ 0 (Lib.countB s ⟨#[10]⟩) s).map Value.string).toArray 9 (0, 0)) := by
    rw [hb.block _ (Nat.lt_succ_self _), hw]
    exact heap_alloc_at _ _ rfl
  rw [hL, ← splitB_lines, List.getElem?_map] at hk
  cases hq : (Lib.splitB ⟨#[10]⟩ 0 (Lib.countB s ⟨#[10]⟩) s)[k]? with
  | none => rw [hq] at hk; cases hk
  | some b =>
    rw [hq] at hk
    injection hk with hk
    rw [cell_of_row w' _ k _ 9 (0, 0) e, List.getElem?_toArray, List.getElem?_map, hq, Option.map_some, ba_ext hk]

theorem lineEv_nil {l : List UInt8} (h : wordsB l = []) : lineEv l = some none := by unfold lineEv; rw [h]
theorem lineEv_note {l t : List UInt8} {r : List (List UInt8)} (h : wordsB l = t :: r) (h0 : t.head? = some 59) : lineEv l = some none := by unfold lineEv; rw [h]; simp only [h0, if_true]
theorem lineEv_bad {l t : List UInt8} {r : List (List UInt8)} (h : wordsB l = t :: r) (h0 : t.head? ≠ some 59) (hr : readB (t :: r) = none) : lineEv l = none := by unfold lineEv; rw [h]; simp only [if_neg h0, hr]
theorem lineEv_some {l t : List UInt8} {r : List (List UInt8)} {x : Ev} (h : wordsB l = t :: r) (h0 : t.head? ≠ some 59) (hr : readB (t :: r) = some x) : lineEv l = if revent x then some (some x) else none := by unfold lineEv; rw [h]; simp only [if_neg h0, hr]

set_option maxRecDepth 100000 in
set_option maxHeartbeats 4000000 in
theorem parse_long (s : ByteArray) (W : World) (hs : s.size ≤ 9223372036854775807) (hb : 65536 < s.size) :
    Calls Tryz.prog 15 #[.string s] W fun e w' => ParseR W W.heap.size (parseB s.data.toList) e w' ∧ Below W.heap.size W w' := by
  have hp : parseB s.data.toList = ([], 0, 200) := by unfold parseB; rw [if_pos (by rw [← ba_size]; exact hb)]
  rw [hp]
  clear hp
  go_enter Tryz.func15, Tryz.ntmps15
  go_wp2_with fail
  go_ret3
  exact ⟨⟨_, rfl, EvRow.nil W W _⟩, Below.refl _ _⟩

set_option maxRecDepth 100000 in
set_option maxHeartbeats 20000000 in
theorem parse_short (s : ByteArray) (W : World) (hW : Sp W) (hb : s.size ≤ 65536) :
    Calls Tryz.prog 15 #[.string s] W fun e w' => ParseR W W.heap.size (parseB s.data.toList) e w' ∧ Below W.heap.size W w' := by
  obtain ⟨i0, hi, hz0, hz1, hz2⟩ := info_parts (show (Tryz.prog.info? 27).map (fun i => (i.zero, i.size, i.bytes)) = some (some Ev.zero.v, 11, 112) by kernel_rfl)
  have hll : s.data.toList.length = s.size := (ba_size s).symm
  obtain ⟨L, hL⟩ : ∃ L, L = linesL s.data.toList := ⟨_, rfl⟩
  have hLn : L.length ≤ 65537 := by rw [hL]; have := linesL_len s.data.toList; omega
  have HSM : Hid (∀ t ∈ L, t.length ≤ 65536) := Lib.hid fun t ht => by rw [hL] at ht; have := linesL_small _ t ht; omega
  have hN : Lib.countB s ⟨#[10]⟩ + 1 = L.length := by
    rw [hL, ← splitB_lines, List.length_map, Lib.splitB_all ⟨#[10]⟩ (by decide) 0 _ s rfl]
  obtain ⟨m, hm⟩ := hW.mx
  have HSPLIT : Hid (Calls Tryz.prog 30 #[.string s, .string ⟨#[10]⟩] W fun e w' => e = .returned (.slice (some ⟨W.heap.size, 0, none⟩) L.length L.length) ∧ Below W.heap.size W w' ∧ w'.heap.size = W.heap.size + 1 ∧ ∀ w2, Below (W.heap.size + 1) w' w2 → ∀ k t, L[k]? = some t → w2.cell? ⟨W.heap.size, k, none⟩ = some (.string ⟨t.toArray⟩)) := Lib.hid <| by
    refine (Tryz.strings_Split s ⟨#[10]⟩ m W (by omega) hm (by decide)).mono ?_
    rintro e w' ⟨rfl, hw⟩
    rw [hN]
    refine ⟨rfl, by rw [hw]; exact (Below.refl _ W).alloc (Nat.le_refl _) _, by rw [hw, World.size_alloc], split_cells hL w' hw⟩
  have HP0 : Hid (parseB s.data.toList = parseL L 0 []) := Lib.hid (by unfold parseB; rw [if_neg (by omega), hL])
  have HSW : Hid (∀ w, Below W.heap.size W w → Sp w) := Lib.hid fun w hb => hW.later hb
  have HWO : Hid (∀ t ∈ L, ∀ w, Calls Tryz.prog 31 #[.string ⟨t.toArray⟩] w fun e w' => ∃ A c, e = .returned (.slice A (wordsB t).length c) ∧ Ws w' (.slice A (wordsB t).length c) (wordsB t) ∧ Below w.heap.size w w') := Lib.hid fun t ht w => by
    have hsz : (⟨t.toArray⟩ : ByteArray).size ≤ 4294967295 := by show t.length ≤ _; have := HSM.out t ht; omega
    refine (words_any ⟨t.toArray⟩ hsz w).mono ?_
    rintro e w' ⟨v, rfl, hown, hbw⟩
    have hd : (⟨t.toArray⟩ : ByteArray).data.toList = t := rfl
    rw [hd] at hown
    obtain ⟨A, c, rfl, hws⟩ := ws_of_own hown
    exact ⟨A, c, rfl, hws, hbw⟩
  have HR : Hid (∀ x w, Calls Tryz.prog 22 #[Ev.v x] w fun e w' => e = .returned (.bool (revent x)) ∧ Below w.heap.size w w') := Lib.hid fun x w => revent_any x w
  generalize parseB s.data.toList = R at *
  clear hN hm hL hll hW
  unfold Ev.v Ev.cells at HR
  go_enter Tryz.func15, Tryz.ntmps15
  go_wp2_with (first | (go_at_call 30; refine HSPLIT.out.mono ?_; rintro e w1 ⟨rfl, hb1, hz1, hc1⟩; have HZ1 := Lib.hid hz1; have hl1 : W.heap.size < w1.heap.size := (by omega); clear hz1; have HB1 := Lib.hid hb1; have HC1 := Lib.hid hc1; clear hb1 hc1))
  have HES := Lib.hid (ES.start (W.heap.size + 1) HB1.out)
  have HBW := Lib.hid (Below.refl w1.heap.size w1)
  clear HSPLIT
  go_loopw [5, 17] (fun v i wr => ∃ (k : Nat) (acc : List Ev), k ≤ L.length ∧ i = .int .i64 k ∧ acc.length ≤ 4096 ∧ Hid (R = parseL (L.drop k) k acc) ∧ Hid (ES W (W.heap.size + 1) acc v wr) ∧ Hid (Below w1.heap.size w1 wr)) (fun _ i _ => L.length - (intOf i).toNat)
  case atStart => exact ⟨0, [], Nat.zero_le _, rfl, by simp, HP0, HES, HBW⟩
  case round =>
    clear HES HBW HP0
    obtain ⟨k, acc, hk, rfl, hacc, HP, HES, HBW⟩ := hrel
    by_cases hkl : k < L.length
    · obtain ⟨t, ht⟩ : ∃ t, L[k]? = some t := ⟨_, List.getElem?_eq_getElem hkl⟩
      have hp := HP.out
      rw [List.drop_eq_getElem_cons hkl, show L[k] = t from Option.some.inj ((List.getElem?_eq_getElem hkl).symm.trans ht)] at hp
      have HP2 := Lib.hid hp
      have hct := HC1.out wr (HBW.out.mono (by omega)) k t ht
      have htm := List.mem_of_getElem? ht
      have HWT := Lib.hid (HWO.out t htm wr)
      have htl := HSM.out t htm
      have hwl := wordsB_len t
      have HWK := Lib.hid (fun u hu => wordsB_ok t u hu)
      clear hp HP ht htm
      cases hts : wordsB t with
      | nil =>
        have hle := lineEv_nil hts
        have hp3 : R = parseL (L.drop (k + 1)) (k + 1) acc := by rw [HP2.out, parseL, hle]
        have HP3 := Lib.hid hp3
        rw [hts] at HWT
        clear hle hp3 hts hwl
        go_wp2_with (first | (go_at_call 31; refine HWT.out.mono ?_; rintro e w2 ⟨A, c, rfl, _, hb2⟩; have HES2 := Lib.hid (HES.out.later hb2); have HBW2 := Lib.hid (HBW.out.trans (hb2.mono HBW.out.size)); clear hb2))
        exact ⟨⟨k + 1, acc, by omega, by go_num, hacc, HP3, HES2, HBW2⟩, by simp [intOf]; omega⟩
      | cons t0 r0 =>
        rw [hts] at HWT hwl
        obtain ⟨ht0, htl0⟩ := HWK.out t0 (by rw [hts]; simp)
        have HWK2 : Hid (∀ u ∈ t0 :: r0, u.length ≤ 4294967295) := Lib.hid fun u hu => by have := (HWK.out u (by rw [hts]; exact hu)).2; omega
        obtain ⟨c0, t1, rfl⟩ : ∃ c0 t1, t0 = c0 :: t1 := by cases t0 with | nil => exact absurd rfl ht0 | cons a b => exact ⟨a, b, rfl⟩
        obtain ⟨T0, hT0⟩ : ∃ T : ByteArray, T = ⟨(c0 :: t1).toArray⟩ := ⟨_, rfl⟩
        have hT1 : 0 < T0.size := by rw [hT0]; exact Nat.succ_pos _
        have hg0 : ∀ h : 0 < T0.size, (T0[0]'h).toNat = c0.toNat := fun h => by rw [ba_get T0 0 h c0 (by rw [hT0]; rfl)]
        have HWT2 : Hid (Calls Tryz.prog 31 #[.string ⟨t.toArray⟩] wr fun e w' => ∃ b o c, e = .returned (.slice (some ⟨b, o, none⟩) (r0.length + 1) c) ∧ Ws w' (.slice (some ⟨b, o, none⟩) (r0.length + 1) c) ((c0 :: t1) :: r0) ∧ w'.cell? ⟨b, o, none⟩ = some (.string T0) ∧ Below wr.heap.size wr w') := Lib.hid <| HWT.out.mono fun e w' h => by
          obtain ⟨A, c, he, hws, hbw⟩ := h
          obtain ⟨b, o, c', hv, hlc, hbl, hcell⟩ := read_start hws
          injection hv with h1 h2 h3
          subst h1; subst h3
          exact ⟨b, o, _, he, hws, by rw [hT0]; exact hcell w' (Below.refl _ _), hbw⟩
        obtain ⟨kc, hkc⟩ : ∃ kc, kc = c0.toNat := ⟨_, rfl⟩
        rw [← hkc] at hg0
        have hwl2 : r0.length ≤ 65536 := by simp at hwl; omega
        have HRD : Hid (∀ v w, Sp w → Ws w v ((c0 :: t1) :: r0) → Calls Tryz.prog 32 #[v] w fun e w' => ReadR ((c0 :: t1) :: r0) e ∧ Below w.heap.size w w') := Lib.hid fun v w hw hws => read_any _ (by simp) v w hw hws HWK2.out (by simp; omega)
        have HTS := Lib.hid hts
        clear ht0 hT0 htl0 HWK HWK2 HWT hts hwl
        by_cases h59 : kc = 59
        · subst h59
          have hle := lineEv_note HTS.out (by rw [List.head?_cons]; exact congrArg some (UInt8.toNat_inj.1 hkc.symm))
          have hp3 : R = parseL (L.drop (k + 1)) (k + 1) acc := by rw [HP2.out, parseL, hle]
          have HP3 := Lib.hid hp3
          clear hle hp3 hkc
          go_wp2_with (first | (go_at_call 31; refine HWT2.out.mono ?_; rintro e w2 ⟨b, o, c, rfl, _, hcw, hb2⟩; have HES2 := Lib.hid (HES.out.later hb2); have HBW2 := Lib.hid (HBW.out.trans (hb2.mono HBW.out.size)); clear hb2))
          exact ⟨⟨k + 1, acc, by omega, by go_num, hacc, HP3, HES2, HBW2⟩, by simp [intOf]; omega⟩
        · have hne59 : (c0 :: t1).head? ≠ some 59 := fun e => by
            rw [List.head?_cons] at e
            injection e with e
            rw [hkc, e] at h59
            exact h59 rfl
          have h59b : ((kc : Int) == 59) = false := by rw [beq_eq_false_iff_ne]; omega
          cases hrd : readB ((c0 :: t1) :: r0) with
          | none =>
            have hle := lineEv_bad HTS.out hne59 hrd
            have hp3 : R = ([], k + 1, 201) := by rw [HP2.out, parseL, hle]
            have HP3 := Lib.hid hp3
            have HRD2 : Hid (∀ v w, Sp w → Ws w v ((c0 :: t1) :: r0) → Calls Tryz.prog 32 #[v] w fun e w' => ∃ x : Ev, e = .returned (.tuple #[x.v, .bool false]) ∧ Below w.heap.size w w') := Lib.hid fun v w h1 h2 => (HRD.out v w h1 h2).mono fun e w' h => by
              obtain ⟨⟨x, he, _⟩, hb⟩ := h
              rw [hrd] at he
              exact ⟨x, he, hb⟩
            unfold Ev.v Ev.cells at HRD2
            clear hle hp3 hkc hrd hne59 HRD h59
            go_wp2_with (first | (go_at_call 31; refine HWT2.out.mono ?_; rintro e w2 ⟨b, o, c, rfl, hws, hcw, hb2⟩; have HES2 := Lib.hid (HES.out.later hb2); have HWS2 := Lib.hid hws; clear hb2 hws) | (go_at_call 32; refine (HRD2.out _ w2 (HSW.out _ HES2.out.below) HWS2.out).mono ?_; rintro e w3 ⟨x, rfl, hb3⟩; have HES3 := Lib.hid (HES2.out.later hb3); clear hb3))
            go_ret3
            exact ⟨parseR_err HP3.out, (HES3.out.alloc _).below⟩
          | some x =>
            have HRD2 : Hid (∀ v w, Sp w → Ws w v ((c0 :: t1) :: r0) → Calls Tryz.prog 32 #[v] w fun e w' => e = .returned (.tuple #[x.v, .bool true]) ∧ Below w.heap.size w w') := Lib.hid fun v w h1 h2 => (HRD.out v w h1 h2).mono fun e w' h => by
              obtain ⟨⟨x', he, hx⟩, hb⟩ := h
              rw [hrd] at he
              rw [hx x hrd] at he
              exact ⟨he, hb⟩
            have hle := lineEv_some HTS.out hne59 hrd
            have HLE := Lib.hid hle
            have HRX := Lib.hid (HR.out x)
            unfold Ev.v Ev.cells at HRD2
            clear hle hkc hrd hne59 HRD h59 HTS
            cases hrx : revent x with
            | false =>
              rw [hrx] at HRX HLE
              have hp3 : R = ([], k + 1, 201) := by rw [HP2.out, parseL, HLE.out]; rfl
              have HP3 := Lib.hid hp3
              clear hp3 hrx
              go_wp2_with (first | (go_at_call 31; refine HWT2.out.mono ?_; rintro e w2 ⟨b, o, c, rfl, hws, hcw, hb2⟩; have HES2 := Lib.hid (HES.out.later hb2); have HWS2 := Lib.hid hws; clear hb2 hws) | (go_at_call 32; refine (HRD2.out _ w2 (HSW.out _ HES2.out.below) HWS2.out).mono ?_; rintro e w3 ⟨rfl, hb3⟩; have HES3 := Lib.hid (HES2.out.later hb3); clear hb3) | (go_at_call 22; refine (HRX.out _).mono ?_; rintro e w4 ⟨rfl, hb4⟩; have HES4 := Lib.hid ((HES3.out.alloc _).later hb4); clear hb4))
              go_ret3
              exact ⟨parseR_err HP3.out, HES4.out.below⟩
            | true =>
              rw [hrx] at HRX HLE
              clear hrx
              obtain ⟨Av, cv, rfl⟩ := HES.out.v
              by_cases h4 : acc.length = 4096
              · have hp3 : R = ([], k + 1, 201) := by rw [HP2.out, parseL, HLE.out]; simp only [if_true]; rw [if_pos h4]
                have HP3 := Lib.hid hp3
                have h4b : ((acc.length : Int) == 4096) = true := by rw [beq_iff_eq]; omega
                have HH4 := Lib.hid h4
                clear hp3 h4
                go_wp2_with (first | (go_at_call 31; refine HWT2.out.mono ?_; rintro e w2 ⟨b, o, c, rfl, hws, hcw, hb2⟩; have HES2 := Lib.hid (HES.out.later hb2); have HWS2 := Lib.hid hws; clear hb2 hws) | (go_at_call 32; refine (HRD2.out _ w2 (HSW.out _ HES2.out.below) HWS2.out).mono ?_; rintro e w3 ⟨rfl, hb3⟩; have HES3 := Lib.hid (HES2.out.later hb3); clear hb3) | (go_at_call 22; refine (HRX.out _).mono ?_; rintro e w4 ⟨rfl, hb4⟩; have HES4 := Lib.hid ((HES3.out.alloc _).later hb4); clear hb4))
                go_ret3
                exact ⟨parseR_err HP3.out, HES4.out.below⟩
              · have hp3 : R = parseL (L.drop (k + 1)) (k + 1) (acc ++ [x]) := by rw [HP2.out, parseL, HLE.out]; simp only [if_true]; rw [if_neg h4]
                have HP3 := Lib.hid hp3
                have h4b : ((acc.length : Int) == 4096) = false := by rw [beq_eq_false_iff_ne]; omega
                have hal : acc.length < 4096 := by omega
                clear hp3 h4
                go_wp2_with (first | (go_at_call 31; refine HWT2.out.mono ?_; rintro e w2 ⟨b, o, c, rfl, hws, hcw, hb2⟩; have HES2 := Lib.hid (HES.out.later hb2); have HBW2 := Lib.hid (HBW.out.trans (hb2.mono HBW.out.size)); have HWS2 := Lib.hid hws; clear hb2 hws) | (go_at_call 32; refine (HRD2.out _ w2 (HSW.out _ HES2.out.below) HWS2.out).mono ?_; rintro e w3 ⟨rfl, hb3⟩; have HES3 := Lib.hid (HES2.out.later hb3); have HBW3 := Lib.hid (HBW2.out.trans (hb3.mono HBW2.out.size)); clear hb3) | (go_at_call 22; refine (HRX.out _).mono ?_; rintro e w4 ⟨rfl, hb4⟩; have HES4 := Lib.hid ((HES3.out.alloc _).later hb4); have HB4 := Lib.hid hb4; have hx4 := (show w4.heap[w3.heap.size]? = some (.cells x.cells 27 (0, 0)) from (hb4.block _ (by rw [World.size_alloc]; exact Nat.lt_succ_self _)).trans (heap_alloc_at _ _ rfl)); obtain ⟨e0, e1, e2, e3, e4, e5, e6, e7, e8, e9, e10⟩ := EvAt.facts hx4; have hsz4 := HES4.out.below.size; have hl4 : W.heap.size + 1 ≤ w4.heap.size := Nat.le_trans (Nat.succ_le_of_lt hl1) (Nat.le_trans HBW3.out.size (Nat.le_trans (by rw [World.size_alloc]; exact Nat.le_succ _) HB4.out.size)); have hown := HES4.out.own; clear hx4 hb4) | (at_builtin; refine wpList_append_own _ rfl _ _ 22 rfl (W.heap.size + 1) 27 i0 Ev.zero.v 11 112 Tryz.underlying22 hi hz0 hz1 hz2 rfl (by decide) _ _ _ rfl (hown.alloc _) ⟨w4.heap.size, 0, none⟩ 1 1 x.cells.toList rfl rfl (World.news_of_block (cs := x.cells) (heap_alloc_at _ _ rfl)) (by simp [Ev.cells, Value.oneCell']) (by unfold maxLen; omega) (by omega) (by rw [World.size_alloc]; omega) ?_; intro v' w' hown' hg3 hiff))
                refine ⟨⟨k + 1, acc ++ [x], by omega, by go_num, by rw [List.length_append]; simp; omega, HP3, Lib.hid ((HES4.out.alloc _).append (Nat.le_succ _) x rfl rfl hown' hg3), Lib.hid ?_⟩, by simp [intOf]; omega⟩
                have hbA := (HBW3.out.trans (((Below.refl w3.heap.size w3).alloc (Nat.le_refl _) _).mono HBW3.out.size)).trans (HB4.out.mono (by rw [World.size_alloc]; have := HBW3.out.size; omega))
                exact Below.grown (hbA.alloc hbA.size _) hg3 (hbA.alloc hbA.size _).size (fun k e => by have := (hown.lt k e).1; have := HZ1.out; omega)
    · have hkr : k = L.length := by omega
      have hp := HP.out
      rw [hkr, List.drop_length, parseL] at hp
      have HP2 := Lib.hid hp
      clear hp hkr
      go_wp2_with fail
      go_ret3
      exact ⟨parseR_ok HP2.out (HES.out.row.mono (Nat.le_succ _)), HES.out.below⟩
end Go.Proofs.YtkpofjfndokaeaaGreatDoor
