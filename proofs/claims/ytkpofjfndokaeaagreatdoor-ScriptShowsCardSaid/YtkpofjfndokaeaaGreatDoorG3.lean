/- script.read: facts for the numbers behind a word. -/
import Derived.Test.YtkpofjfndokaeaaGreatDoorG0
import Derived.IntWalk
import Derived.Test.YtkpofjfndokaeaaGreatDoorG1
import Derived.Test.YtkpofjfndokaeaaGreatDoorN0
namespace Go.Proofs.YtkpofjfndokaeaaGreatDoor
open Go.RowKit
set_option linter.unusedVariables false
set_option linter.unusedSimpArgs false

theorem slice_tail (b o n c : Nat) (hn : n + 1 ≤ c) : ∃ o', (n = 0 ∨ o' = o + 1) ∧ ∀ w, (Instr.slice 43 (.slice (some ⟨b, o, none⟩) (n + 1) c) (some (.int .i64 1)) none none).run Tryz.prog w = .ok (.slice (some ⟨b, o', none⟩) n (c - 1)) w := by
  by_cases hc : c = 1
  · subst hc
    obtain rfl : n = 0 := by omega
    exact ⟨o, .inl rfl, fun w => by kernel_rfl⟩
  · have h1 : ¬ ((n : Int) + 1 < 1) := by omega
    exact ⟨o + 1, .inr rfl, fun w => by go_simp⟩

theorem numsB_eq : ∀ (r : List (List UInt8)) (ns : List Int), numsB r = some ns ↔ r.map numB = ns.map some
  | [], ns => by cases ns <;> simp [numsB]
  | t :: r, ns => by
    rw [numsB]
    cases h : numB t with
    | none => cases ns <;> simp [h]
    | some z =>
      cases ns with
      | nil => simp [h]
      | cons a l =>
        simp only [Option.bind_some, Option.map_eq_some_iff, List.cons.injEq, List.map_cons, h, Option.some.injEq]
        constructor
        · rintro ⟨l', h1, h2, h3⟩
          subst h3
          exact ⟨h2, (numsB_eq r l').1 h1⟩
        · rintro ⟨h1, h2⟩
          exact ⟨l, (numsB_eq r l).2 h2, h1, rfl⟩
theorem numsB_none {r : List (List UInt8)} {n : Nat} {s : List UInt8} (hs : r[n]? = some s) (h : numB s = none) : numsB r = none := by
  cases hq : numsB r with
  | none => rfl
  | some ns =>
    have h1 := (numsB_eq r ns).1 hq
    have h2 : (r.map numB)[n]? = some none := by rw [List.getElem?_map, hs, Option.map_some, h]
    rw [h1, List.getElem?_map] at h2
    cases h3 : ns[n]? with
    | none => rw [h3] at h2; cases h2
    | some z => rw [h3] at h2; cases h2

/-- The numbers so far; the block of the result, empty. -/
structure IS (W : World) (acc : List Int) (v : Value) (wr : World) : Prop where
  own : wr.ownsRow (W.heap.size + 1) 3 1 v acc.length (acc.map (Value.int .i64))
  below : Below W.heap.size W wr
  ev : EvAt wr W.heap.size Ev.zero
theorem IS.alloc {W : World} {acc : List Int} {v : Value} {wr : World} (h : IS W acc v wr) (o : Obj) : IS W acc v (wr.alloc o) :=
  ⟨h.own.alloc o, h.below.alloc h.below.size o, h.ev.go ((Below.refl wr.heap.size wr).alloc (Nat.le_refl _) o) h.ev.lt⟩
theorem IS.later {W : World} {acc : List Int} {v : Value} {wr w' : World} (h : IS W acc v wr) (hb : Below wr.heap.size wr w') : IS W acc v w' :=
  ⟨h.own.kept (row := none) ⟨hb.os, hb.tape, hb.output, hb.size, fun k hk _ => hb.block k hk⟩ (by cases h' : v.ownBlock; exact .inl rfl; exact .inr (by simp)), h.below.trans (hb.mono h.below.size), h.ev.go hb h.ev.lt⟩
theorem IS.append {W : World} {acc : List Int} {v : Value} {wr w' : World} (h : IS W acc v wr) (t : Int) {v' : Value} {n : Nat} (hn : n = acc.length + 1) {cs : List Value} (hc : cs = acc.map (Value.int .i64) ++ [.int .i64 t])
    (hown : w'.ownsRow (W.heap.size + 1) 3 1 v' n cs) (hg : wr.grownBy w' v.ownBlock) : IS W (acc ++ [t]) v' w' := by
  subst hn; subst hc
  refine ⟨?_, h.below.grown hg h.below.size (fun k e => by have := (h.own.lt k e).1; omega), ?_⟩
  · simpa using hown
  · show w'.heap[W.heap.size]? = _
    rw [hg.block _ h.ev.lt (fun e => by have := (h.own.lt _ e.symm).1; omega)]
    exact h.ev
theorem IS.start {W w : World} (hb : Below W.heap.size W w) (he : EvAt w W.heap.size Ev.zero) : IS W [] (.slice none 0 0) w :=
  ⟨⟨rfl, .inl ⟨rfl, rfl⟩⟩, hb, he⟩
/-- A number so far, as it lies. -/
theorem IS.at {W : World} {acc : List Int} {v : Value} {wr : World} (h : IS W acc v wr) (hn : acc ≠ []) : ∃ g cap, v = .slice (some ⟨g, 0, none⟩) acc.length cap ∧ g < wr.heap.size ∧ W.heap.size < g ∧ ∀ j z, acc[j]? = some z → wr.cell? ⟨g, j, none⟩ = some (.int .i64 z) := by
  rcases h.own.2 with ⟨_, h2⟩ | ⟨g, cap, cur, hv, hg, hk, _⟩
  · exact absurd (List.length_eq_zero_iff.1 h2) hn
  · have hown := h.own
    subst hv
    refine ⟨g, cap, rfl, (Array.getElem?_eq_some_iff.1 hk).1, by omega, fun j z hj => ?_⟩
    have hlt := (List.getElem?_eq_some_iff.1 hj).1
    rw [hown.cellAt j (by omega), List.getElem?_map, hj]
    rfl
theorem IS.v {W : World} {acc : List Int} {v : Value} {wr : World} (h : IS W acc v wr) : ∃ A cap, v = .slice A acc.length cap := by
  rcases h.own.2 with ⟨h1, h2⟩ | ⟨g, cap, cur, hv, _⟩
  · exact ⟨none, 0, by rw [h1, h2]⟩
  · exact ⟨_, _, hv⟩

theorem itoa_split {a b : List UInt8} {m n : Int} (h : a ++ 32 :: Lib.itoa m = b ++ 32 :: Lib.itoa n) (hm : ∀ c ∈ Lib.itoa m, c ≠ 32) (hn : ∀ c ∈ Lib.itoa n, c ≠ 32) : a = b ∧ Lib.itoa m = Lib.itoa n := by
  have key : ∀ (x y d e : List UInt8), (∀ c ∈ d, c ≠ 32) → (∀ c ∈ e, c ≠ 32) → x ++ 32 :: d = y ++ 32 :: e → x = y ∧ d = e := by
    intro x
    induction x with
    | nil =>
      intro y d e hd he h
      cases y with
      | nil => simp only [List.nil_append, List.cons.injEq, true_and] at h; exact ⟨rfl, h⟩
      | cons c y =>
        simp only [List.nil_append, List.cons_append, List.cons.injEq] at h
        exact absurd rfl (hd 32 (by rw [h.2]; simp))
    | cons c x ih =>
      intro y d e hd he h
      cases y with
      | nil =>
        simp only [List.nil_append, List.cons_append, List.cons.injEq] at h
        exact absurd rfl (he 32 (by rw [← h.2]; simp))
      | cons c' y =>
        simp only [List.cons_append, List.cons.injEq] at h
        obtain ⟨h1, h2⟩ := ih y d e hd he h.2
        exact ⟨by rw [h.1, h1], h2⟩
  exact key a b _ _ hm hn h
end Go.Proofs.YtkpofjfndokaeaaGreatDoor

/- script.read: a line that begins with no number. -/
namespace Go.Proofs.YtkpofjfndokaeaaGreatDoor
open Go.RowKit
set_option linter.unusedVariables false
set_option linter.unusedSimpArgs false

theorem word_is {Y K : ByteArray} {t u : List UInt8} {k m : Nat} (hY : Y.data.toList = t ++ 32 :: Lib.itoa (k : Int)) (hk : k ≤ 4294967295) (hm : m ≤ 4294967295) (hK : K.data.toList = u ++ 32 :: Lib.itoa (m : Int)) : Y = K ↔ t = u ∧ k = m := by
  constructor
  · rintro rfl
    obtain ⟨h1, h2⟩ := itoa_split (hY.symm.trans hK) (itoa_nospace _) (itoa_nospace _)
    have := itoa_inj (by omega) (by omega) (by omega) (by omega) h2
    exact ⟨h1, by omega⟩
  · rintro ⟨rfl, rfl⟩
    rw [ba_ext hY, ba_ext hK]
theorem word_no {Y : ByteArray} {L t u : List UInt8} {k m : Nat} (hY : Y.data.toList = t ++ 32 :: Lib.itoa (k : Int)) (hk : k ≤ 4294967295) (hm : m ≤ 4294967295) (hL : L = u ++ 32 :: Lib.itoa (m : Int)) (h : ¬ (t = u ∧ k = m)) : (Y.toList == L) = false := by
  rw [beq_eq_false_iff_ne]
  intro e
  rw [ba_toList] at e
  exact h ((word_is (K := Y) hY hk hm (e.trans hL)).1 rfl)
theorem itoa_1 : Lib.itoa ((1 : Nat) : Int) = [49] := by unfold Lib.itoa; rw [if_neg (by decide), Lib.decDigits, dif_pos (by decide)]; rfl
theorem itoa_2 : Lib.itoa ((2 : Nat) : Int) = [50] := by unfold Lib.itoa; rw [if_neg (by decide), Lib.decDigits, dif_pos (by decide)]; rfl
theorem eventB_none {t : List UInt8} {ns : List Int} (h1 : ¬ (t = [115, 116, 101, 112] ∧ ns.length = 2)) (h2 : ¬ (t = [114, 117, 110] ∧ ns.length = 1)) (h3 : ¬ (t = [99, 114, 97, 115, 104] ∧ ns.length = 2)) (h4 : ¬ (t = [99, 117, 116] ∧ ns.length = 1)) : eventB t ns = none := by
  unfold eventB
  split
  · rename_i h
    split
    · exact absurd ⟨h, rfl⟩ h1
    · rfl
  · split
    · rename_i h
      split
      · exact absurd ⟨h, rfl⟩ h2
      · rfl
    · split
      · rename_i h
        split
        · exact absurd ⟨h, rfl⟩ h3
        · rfl
      · split
        · rename_i h
          split
          · exact absurd ⟨h, rfl⟩ h4
          · rfl
        · rfl
theorem two_of {l : List Int} (h : l.length = 2) : ∃ a b, l = [a, b] := by
  match l, h with
  | [a, b], _ => exact ⟨a, b, rfl⟩
theorem one_of {l : List Int} (h : l.length = 1) : ∃ a, l = [a] := by
  match l, h with
  | [a], _ => exact ⟨a, rfl⟩
theorem cat_list (S : ByteArray) (l : List UInt8) : ((S ++ ⟨#[32]⟩) ++ ⟨l.toArray⟩ : ByteArray).data.toList = S.data.toList ++ 32 :: l := by
  simp [ByteArray.data_append]

set_option maxRecDepth 100000 in
set_option maxHeartbeats 20000000 in
theorem read_nums (t : List UInt8) (r : List (List UInt8)) (v : Value) (W : World) (hW : Sp W) (hws : Ws W v (t :: r)) (ht : t.length ≤ 4294967295) (hsm : ∀ s ∈ r, s.length ≤ 4294967295) (hrl : r.length ≤ 4294967295) (hz : numB t = none) :
    Calls Tryz.prog 32 #[v] W fun e w' => ReadR (t :: r) e ∧ Below W.heap.size W w' := by
  obtain ⟨i0, hi, hz0, hz1, hz2⟩ := info_parts (show (Tryz.prog.info? 3).map (fun i => (i.zero, i.size, i.bytes)) = some (some (.int .i64 0), 1, 8) by kernel_rfl)
  obtain ⟨X, hX⟩ : ∃ X, X = W.alloc (.cells Ev.zero.cells 27) := ⟨_, rfl⟩
  have hXs : X.heap.size = W.heap.size + 1 := by rw [hX, World.size_alloc]
  have hb0 : Below W.heap.size W X := by rw [hX]; exact (Below.refl W.heap.size W).alloc (Nat.le_refl _) _
  have hca : EvAt X W.heap.size Ev.zero := by rw [hX]; exact EvAt.fresh W _
  obtain ⟨S, hS⟩ : ∃ S : ByteArray, S = ⟨t.toArray⟩ := ⟨_, rfl⟩
  have hSz : S.size ≤ 4294967295 := by rw [hS]; exact ht
  have HN : Hid (∀ w, Sp w → Calls Tryz.prog 46 #[.string S] w fun e w' => ∃ z, e = .returned (.tuple #[.int .i64 z, .bool false]) ∧ Below w.heap.size w w') := Lib.hid fun w hw => by
    refine (num_got S hSz t (by rw [hS]) w hw).mono ?_
    rintro e w' ⟨z', rfl, hz', hb⟩
    rw [hz]
    exact ⟨z', rfl, hb⟩
  have HM : Hid (∀ s ∈ r, ∀ w, Sp w → Calls Tryz.prog 46 #[.string ⟨s.toArray⟩] w fun e w' => ∃ z, e = .returned (.tuple #[.int .i64 z, .bool (numB s).isSome]) ∧ (∀ v, numB s = some v → z = v) ∧ Below w.heap.size w w') := Lib.hid fun s hs w hw => num_got ⟨s.toArray⟩ (hsm s hs) s rfl w hw
  have HI : Hid (∀ (n : Nat), n ≤ 4294967295 → ∀ w, Sp w → Calls Tryz.prog 24 #[.int .i64 (n : Int)] w fun e w' => e = .returned (.string ⟨(Lib.itoa (n : Int)).toArray⟩) ∧ Below w.heap.size w w') := Lib.hid fun n hn w hw => itoa_any (n : Int) (by omega) (by omega) w hw.st
  have hrb : readB (t :: r) = (numsB r).bind (eventB t) := by simp only [readB, hz]
  have HRB := Lib.hid hrb
  obtain ⟨b, o, c, rfl, hlc, hbl, hcell⟩ := read_start hws
  obtain ⟨o', ho', hsl⟩ := slice_tail b o r.length c hlc
  have HW : Hid (∀ w, Below W.heap.size W w → ∀ k s, r[k]? = some s → w.cell? ⟨b, o' + k, none⟩ = some (.string ⟨s.toArray⟩)) := Lib.hid fun w hb k s hk => by
    have hk2 := (List.getElem?_eq_some_iff.1 hk).1
    rcases ho' with h0 | rfl
    · omega
    · obtain ⟨A, c', hv, _, hr⟩ := (hws.later hb (Nat.le_refl _)).tail
      obtain ⟨b2, o2, hA, _, hc⟩ := hr k s hk
      injection hv with h1 _ _
      rw [← h1] at hA
      injection hA with hA
      injection hA with h5 h6 _
      subst h5; subst h6
      exact hc
  have HD : Hid (∀ w, Below W.heap.size W w → w.cell? ⟨b, o, none⟩ = some (.string S)) := Lib.hid fun w hb => by rw [hS]; exact hcell w hb
  have hd := HD.out X hb0
  have hSl : S.data.toList = t := by rw [hS]
  have HSL := Lib.hid hSl
  have HSP := Lib.hid (hW.later hb0)
  have HSW : Hid (∀ w, Below W.heap.size W w → Sp w) := Lib.hid fun w hb => hW.later hb
  have HB := Lib.hid hb0
  have HCA := Lib.hid hca
  clear hz hS hcell hws hb0 hca hW ht hsm hrb hSl ho'
  unfold Ev.cells Ev.zero Cl.zero at hX
  go_enter Tryz.func32, Tryz.ntmps32
  go_upto_region 1 with fail
  rw [← hX]
  clear hX
  go_wp2_with (first | (go_at_call 46; refine (HN.out _ HSP.out).mono ?_; rintro e w2 ⟨z, rfl, hb2⟩; have his := IS.start (HB.out.trans (hb2.mono HB.out.size)) (HCA.out.go hb2 (by omega)); have HIS := Lib.hid his; clear hb2 his))
  clear HN HB HCA HSP hd
  go_loopw [8, 38] (fun nv i wr => ∃ (k : Nat) (acc : List Int), k ≤ r.length ∧ i = .int .i64 k ∧ acc.length = k ∧ Hid ((r.take k).map numB = acc.map some) ∧ Hid (IS W acc nv wr)) (fun _ i _ => r.length - (intOf i).toNat)
  case atStart => exact ⟨0, [], Nat.zero_le _, rfl, rfl, Lib.hid rfl, HIS⟩
  case round =>
    clear HIS
    obtain ⟨k, acc, hk, rfl, hak, HAC, HIS⟩ := hrel
    by_cases hkl : k < r.length
    · obtain ⟨s, hs⟩ : ∃ s, r[k]? = some s := ⟨_, List.getElem?_eq_getElem hkl⟩
      have hcs := HW.out wr HIS.out.below k s hs
      have HMS := Lib.hid (HM.out s (List.mem_of_getElem? hs) wr (HSW.out wr HIS.out.below))
      have hsz := HIS.out.below.size
      have HAK := Lib.hid hak
      have hka : acc.length ≤ 4294967294 := by omega
      have htk : r.take (k + 1) = r.take k ++ [s] := by rw [List.take_succ_eq_append_getElem hkl, show r[k] = s from Option.some.inj ((List.getElem?_eq_getElem hkl).symm.trans hs)]
      have HTK := Lib.hid htk
      have HNO : Hid (numB s = none → readB (t :: r) = none) := Lib.hid fun h => by rw [HRB.out, numsB_none hs h]; rfl
      clear hs hak htk
      cases hn : numB s with
      | none =>
        rw [hn] at HMS
        have hno := HNO.out hn
        have HE := Lib.hid (readR_none hno Ev.zero)
        clear hno hn HNO
        go_wp2_with (first | (go_at_call 46; refine HMS.out.mono ?_; rintro e w3 ⟨z, rfl, _, hb3⟩; have HB3 := Lib.hid hb3; have his := HIS.out.later hb3; have HV := Lib.hid his.ev; have HB2 := Lib.hid his.below; obtain ⟨d0, d1, d2, d3, d4, d5, d6, d7, d8, d9, d10⟩ := HV.out.facts; have g0 := HV.out.frozen 0; have g1 := HV.out.frozen 1; have g2 := HV.out.frozen 2; have g3 := HV.out.frozen 3; have g4 := HV.out.frozen 4; have g5 := HV.out.frozen 5; have g6 := HV.out.frozen 6; have g7 := HV.out.frozen 7; have g8 := HV.out.frozen 8; have g9 := HV.out.frozen 9; have g10 := HV.out.frozen 10; have hvl := HV.out.lt; unfold Ev.zero Cl.zero at d0 d1 d2 d3 d4 d5 d6 d7 d8 d9 d10; clear hb3 his))
        change bodyPost _ _ _ _ _ (evStore w3 W.heap.size Ev.zero)
        have hz2 := evStore_at HV.out (Ev.zero)
        have hb2 := evStore_below HB2.out (Nat.le_refl _) (Ev.zero)
        generalize evStore w3 W.heap.size (Ev.zero) = wF at *
        clear d0 d1 d2 d3 d4 d5 d6 d7 d8 d9 d10 g0 g1 g2 g3 g4 g5 g6 g7 g8 g9 g10
        obtain ⟨d0, d1, d2, d3, d4, d5, d6, d7, d8, d9, d10⟩ := hz2.facts
        unfold Ev.zero Cl.zero at d0 d1 d2 d3 d4 d5 d6 d7 d8 d9 d10
        exact bodyPost_ret_by (v := .tuple #[Ev.v (Ev.zero), .bool false]) (by rw [results_cell_tmp (fn := Tryz.f32) rfl]; go_simp; rfl) rfl ⟨HE.out, hb2⟩
      | some z0 =>
        rw [hn] at HMS
        have HNS := Lib.hid hn
        clear hn HNO
        go_wp2_with (first | (go_at_call 46; refine HMS.out.mono ?_; rintro e w3 ⟨z, rfl, hzz, hb3⟩; obtain rfl := hzz _ rfl; have HIS3 := Lib.hid (HIS.out.later hb3); have hown := HIS3.out.own; have hsz3 := hb3.size; clear hb3 hzz) | (at_builtin; refine wpList_append_own _ rfl _ _ 90 rfl (W.heap.size + 1) 3 i0 (.int .i64 0) 1 8 Tryz.underlying90 hi hz0 hz1 hz2 rfl (by decide) _ _ _ rfl (hown.alloc _) ⟨w3.heap.size, 0, none⟩ 1 1 [.int .i64 z] rfl rfl (cell_one_new _ _ _) (by simp [Value.oneCell']) (by unfold maxLen; omega) (by omega) (by have := HIS3.out.ev.lt; simp; omega) ?_; intro v' w' hown' hg3 hiff))
        refine ⟨⟨k + 1, acc ++ [z], by omega, by go_num, by rw [List.length_append, HAK.out]; rfl, Lib.hid ?_, Lib.hid ((HIS3.out.alloc _).append z rfl rfl hown' hg3)⟩, by simp [intOf]; omega⟩
        rw [HTK.out, List.map_append, List.map_append, HAC.out, List.map_cons, List.map_nil, HNS.out]
        rfl
    · have hkr : k = r.length := by omega
      have hns : numsB r = some acc := (numsB_eq r acc).2 (by have := HAC.out; rwa [hkr, List.take_length] at this)
      have hre : readB (t :: r) = eventB t acc := by rw [HRB.out, hns]; rfl
      have HRE := Lib.hid hre
      have hal : acc.length ≤ 4294967295 := by omega
      obtain ⟨A, cap, rfl⟩ := HIS.out.v
      have hd0 := HD.out wr HIS.out.below
      have hd1 := HD.out wr.drew HIS.out.below.drew
      obtain ⟨L, hL⟩ : ∃ L, L = Lib.itoa (acc.length : Int) := ⟨_, rfl⟩
      have hLl : L.length ≤ 21 := by rw [hL]; exact Lib.itoa_length_le _ (by omega) (by omega)
      have HIA := Lib.hid (HI.out acc.length hal)
      rw [← hL] at HIA
      have HLE := Lib.hid hL
      have HKL := Lib.hid hkl
      have HAK2 := Lib.hid hak
      clear hkr hns hre hL hak hkl
      go_upto_region 16 with fail
      go_cut [62] (fun s62 wx => ∃ Y : ByteArray, s62 = .string Y ∧ Hid (Y.data.toList = t ++ 32 :: Lib.itoa (acc.length : Int)) ∧ Hid (Below wr.heap.size wr wx))
      case first =>
        have hY := cat_list S L
        rw [HSL.out, HLE.out] at hY
        rw [← HLE.out] at hY
        have HY := Lib.hid hY
        clear hY
        have hLz : (⟨L.toArray⟩ : ByteArray).size ≤ 21 := hLl
        go_region_with (first | (go_at_call 24; refine (HIA.out _ (HSW.out _ HIS.out.below.drew)).mono ?_; rintro e w6 ⟨rfl, hb6⟩; have hb7 := (Below.refl wr.heap.size wr).drew.trans hb6; have hd6 := HD.out w6 (HIS.out.below.trans (hb7.mono HIS.out.below.size)); have HB7 := Lib.hid hb7; clear hb6 hb7))
        all_goals go_wp2_with fail
        all_goals go_meet
        all_goals exact ⟨_, rfl, Lib.hid (by rw [HY.out, HLE.out]), HB7⟩
      case rest =>
        obtain ⟨Y, rfl, HY, HBX⟩ := hcut
        have his := HIS.out.later HBX.out
        have HIX := Lib.hid his
        have HV := Lib.hid his.ev
        have HB2 := Lib.hid his.below
        obtain ⟨d0, d1, d2, d3, d4, d5, d6, d7, d8, d9, d10⟩ := HV.out.facts
        have g0 := HV.out.frozen 0
        have g1 := HV.out.frozen 1
        have g2 := HV.out.frozen 2
        have g3 := HV.out.frozen 3
        have g4 := HV.out.frozen 4
        have g5 := HV.out.frozen 5
        have g6 := HV.out.frozen 6
        have g7 := HV.out.frozen 7
        have g8 := HV.out.frozen 8
        have g9 := HV.out.frozen 9
        have g10 := HV.out.frozen 10
        have hvl := HV.out.lt
        unfold Ev.zero Cl.zero at d0 d1 d2 d3 d4 d5 d6 d7 d8 d9 d10
        clear his hd0 hd1
        by_cases c1 : t = [115, 116, 101, 112] ∧ acc.length = 2
        · obtain ⟨rfl, hl2⟩ := c1
          obtain ⟨a, b', rfl⟩ := two_of hl2
          have hre : readB ([115, 116, 101, 112] :: r) = some (Ev.bare 2 a b' 0) := by rw [HRE.out]; rfl
          have HE := Lib.hid (readR_some hre)
          obtain ⟨g, cap', hg, hgl, hgW, hcl⟩ := HIX.out.at (by simp)
          injection hg with hg1 _ hg3
          subst hg1; subst hg3
          have hYe : Y = ⟨#[115, 116, 101, 112, 32, 50]⟩ := (word_is HY.out hal (m := 2) (by decide) (by rw [itoa_2]; rfl)).2 ⟨rfl, hl2⟩
          subst hYe
          have q0 := hcl 0 a rfl
          have q1 := hcl 1 b' rfl
          have q2 := (show wc.drew.cell? ⟨g, 0, none⟩ = some (.int .i64 a) from q0)
          have q3 := (show wc.drew.cell? ⟨g, 1, none⟩ = some (.int .i64 b') from q1)
          clear hre hcl hal hl2 HAK2 HLE
          unfold Ev.bare Cl.zero at HE
          simp only [List.length_cons, List.length_nil, Nat.zero_add, Nat.reduceAdd]
          go_upto_region 18 with fail
          go_region_with fail
          all_goals go_wp2_with fail
          all_goals change bodyPost _ _ _ _ _ (evStore wc W.heap.size ⟨2, a, ⟨0, 0, ⟨#[]⟩, ⟨#[]⟩, ⟨#[]⟩, 0, 0⟩, b', 0⟩).drew
          all_goals have hz2 := evStore_at HV.out (⟨2, a, ⟨0, 0, ⟨#[]⟩, ⟨#[]⟩, ⟨#[]⟩, 0, 0⟩, b', 0⟩)
          all_goals have hb2 := evStore_below HB2.out (Nat.le_refl _) (⟨2, a, ⟨0, 0, ⟨#[]⟩, ⟨#[]⟩, ⟨#[]⟩, 0, 0⟩, b', 0⟩)
          all_goals generalize evStore wc W.heap.size (⟨2, a, ⟨0, 0, ⟨#[]⟩, ⟨#[]⟩, ⟨#[]⟩, 0, 0⟩, b', 0⟩) = wF at *
          all_goals clear d0 d1 d2 d3 d4 d5 d6 d7 d8 d9 d10 g0 g1 g2 g3 g4 g5 g6 g7 g8 g9 g10
          all_goals obtain ⟨d0, d1, d2, d3, d4, d5, d6, d7, d8, d9, d10⟩ := hz2.facts
          all_goals exact bodyPost_ret_by (v := .tuple #[Ev.v (⟨2, a, ⟨0, 0, ⟨#[]⟩, ⟨#[]⟩, ⟨#[]⟩, 0, 0⟩, b', 0⟩), .bool true]) (by rw [results_cell_tmp (fn := Tryz.f32) rfl]; go_simp; rfl) rfl ⟨HE.out, hb2.drew⟩
        by_cases c2 : t = [114, 117, 110] ∧ acc.length = 1
        · obtain ⟨rfl, hl2⟩ := c2
          obtain ⟨a, rfl⟩ := one_of hl2
          have hre : readB ([114, 117, 110] :: r) = some (Ev.bare 3 a 0 0) := by rw [HRE.out]; rfl
          have HE := Lib.hid (readR_some hre)
          obtain ⟨g, cap', hg, hgl, hgW, hcl⟩ := HIX.out.at (by simp)
          injection hg with hg1 _ hg3
          subst hg1; subst hg3
          have hYe : Y = ⟨#[114, 117, 110, 32, 49]⟩ := (word_is HY.out hal (m := 1) (by decide) (by rw [itoa_1]; rfl)).2 ⟨rfl, hl2⟩
          subst hYe
          have q0 := hcl 0 a rfl
          have q1 : True := trivial
          have q2 := (show wc.drew.cell? ⟨g, 0, none⟩ = some (.int .i64 a) from q0)
          have q3 : True := trivial
          clear hre hcl hal hl2 HAK2 HLE
          unfold Ev.bare Cl.zero at HE
          simp only [List.length_cons, List.length_nil, Nat.zero_add, Nat.reduceAdd]
          go_wp2_with fail
          change bodyPost _ _ _ _ _ (evStore wc W.heap.size ⟨3, a, ⟨0, 0, ⟨#[]⟩, ⟨#[]⟩, ⟨#[]⟩, 0, 0⟩, 0, 0⟩)
          have hz2 := evStore_at HV.out (⟨3, a, ⟨0, 0, ⟨#[]⟩, ⟨#[]⟩, ⟨#[]⟩, 0, 0⟩, 0, 0⟩)
          have hb2 := evStore_below HB2.out (Nat.le_refl _) (⟨3, a, ⟨0, 0, ⟨#[]⟩, ⟨#[]⟩, ⟨#[]⟩, 0, 0⟩, 0, 0⟩)
          generalize evStore wc W.heap.size (⟨3, a, ⟨0, 0, ⟨#[]⟩, ⟨#[]⟩, ⟨#[]⟩, 0, 0⟩, 0, 0⟩) = wF at *
          clear d0 d1 d2 d3 d4 d5 d6 d7 d8 d9 d10 g0 g1 g2 g3 g4 g5 g6 g7 g8 g9 g10
          obtain ⟨d0, d1, d2, d3, d4, d5, d6, d7, d8, d9, d10⟩ := hz2.facts
          exact bodyPost_ret_by (v := .tuple #[Ev.v (⟨3, a, ⟨0, 0, ⟨#[]⟩, ⟨#[]⟩, ⟨#[]⟩, 0, 0⟩, 0, 0⟩), .bool true]) (by rw [results_cell_tmp (fn := Tryz.f32) rfl]; go_simp; rfl) rfl ⟨HE.out, hb2⟩
        by_cases c3 : t = [99, 114, 97, 115, 104] ∧ acc.length = 2
        · obtain ⟨rfl, hl2⟩ := c3
          obtain ⟨a, b', rfl⟩ := two_of hl2
          have hre : readB ([99, 114, 97, 115, 104] :: r) = some (Ev.bare 4 0 a b') := by rw [HRE.out]; rfl
          have HE := Lib.hid (readR_some hre)
          obtain ⟨g, cap', hg, hgl, hgW, hcl⟩ := HIX.out.at (by simp)
          injection hg with hg1 _ hg3
          subst hg1; subst hg3
          have hYe : Y = ⟨#[99, 114, 97, 115, 104, 32, 50]⟩ := (word_is HY.out hal (m := 2) (by decide) (by rw [itoa_2]; rfl)).2 ⟨rfl, hl2⟩
          subst hYe
          have q0 := hcl 0 a rfl
          have q1 := hcl 1 b' rfl
          have q2 := (show wc.drew.cell? ⟨g, 0, none⟩ = some (.int .i64 a) from q0)
          have q3 := (show wc.drew.cell? ⟨g, 1, none⟩ = some (.int .i64 b') from q1)
          clear hre hcl hal hl2 HAK2 HLE
          unfold Ev.bare Cl.zero at HE
          simp only [List.length_cons, List.length_nil, Nat.zero_add, Nat.reduceAdd]
          go_upto_region 22 with fail
          go_region_with fail
          all_goals go_wp2_with fail
          all_goals change bodyPost _ _ _ _ _ (evStore wc W.heap.size ⟨4, 0, ⟨0, 0, ⟨#[]⟩, ⟨#[]⟩, ⟨#[]⟩, 0, 0⟩, a, b'⟩).drew
          all_goals have hz2 := evStore_at HV.out (⟨4, 0, ⟨0, 0, ⟨#[]⟩, ⟨#[]⟩, ⟨#[]⟩, 0, 0⟩, a, b'⟩)
          all_goals have hb2 := evStore_below HB2.out (Nat.le_refl _) (⟨4, 0, ⟨0, 0, ⟨#[]⟩, ⟨#[]⟩, ⟨#[]⟩, 0, 0⟩, a, b'⟩)
          all_goals generalize evStore wc W.heap.size (⟨4, 0, ⟨0, 0, ⟨#[]⟩, ⟨#[]⟩, ⟨#[]⟩, 0, 0⟩, a, b'⟩) = wF at *
          all_goals clear d0 d1 d2 d3 d4 d5 d6 d7 d8 d9 d10 g0 g1 g2 g3 g4 g5 g6 g7 g8 g9 g10
          all_goals obtain ⟨d0, d1, d2, d3, d4, d5, d6, d7, d8, d9, d10⟩ := hz2.facts
          all_goals exact bodyPost_ret_by (v := .tuple #[Ev.v (⟨4, 0, ⟨0, 0, ⟨#[]⟩, ⟨#[]⟩, ⟨#[]⟩, 0, 0⟩, a, b'⟩), .bool true]) (by rw [results_cell_tmp (fn := Tryz.f32) rfl]; go_simp; rfl) rfl ⟨HE.out, hb2.drew⟩
        by_cases c4 : t = [99, 117, 116] ∧ acc.length = 1
        · obtain ⟨rfl, hl2⟩ := c4
          obtain ⟨a, rfl⟩ := one_of hl2
          have hre : readB ([99, 117, 116] :: r) = some (Ev.bare 5 0 a 0) := by rw [HRE.out]; rfl
          have HE := Lib.hid (readR_some hre)
          obtain ⟨g, cap', hg, hgl, hgW, hcl⟩ := HIX.out.at (by simp)
          injection hg with hg1 _ hg3
          subst hg1; subst hg3
          have hYe : Y = ⟨#[99, 117, 116, 32, 49]⟩ := (word_is HY.out hal (m := 1) (by decide) (by rw [itoa_1]; rfl)).2 ⟨rfl, hl2⟩
          subst hYe
          have q0 := hcl 0 a rfl
          have q1 : True := trivial
          have q2 := (show wc.drew.cell? ⟨g, 0, none⟩ = some (.int .i64 a) from q0)
          have q3 : True := trivial
          clear hre hcl hal hl2 HAK2 HLE
          unfold Ev.bare Cl.zero at HE
          simp only [List.length_cons, List.length_nil, Nat.zero_add, Nat.reduceAdd]
          go_wp2_with fail
          change bodyPost _ _ _ _ _ (evStore wc W.heap.size ⟨5, 0, ⟨0, 0, ⟨#[]⟩, ⟨#[]⟩, ⟨#[]⟩, 0, 0⟩, a, 0⟩)
          have hz2 := evStore_at HV.out (⟨5, 0, ⟨0, 0, ⟨#[]⟩, ⟨#[]⟩, ⟨#[]⟩, 0, 0⟩, a, 0⟩)
          have hb2 := evStore_below HB2.out (Nat.le_refl _) (⟨5, 0, ⟨0, 0, ⟨#[]⟩, ⟨#[]⟩, ⟨#[]⟩, 0, 0⟩, a, 0⟩)
          generalize evStore wc W.heap.size (⟨5, 0, ⟨0, 0, ⟨#[]⟩, ⟨#[]⟩, ⟨#[]⟩, 0, 0⟩, a, 0⟩) = wF at *
          clear d0 d1 d2 d3 d4 d5 d6 d7 d8 d9 d10 g0 g1 g2 g3 g4 g5 g6 g7 g8 g9 g10
          obtain ⟨d0, d1, d2, d3, d4, d5, d6, d7, d8, d9, d10⟩ := hz2.facts
          exact bodyPost_ret_by (v := .tuple #[Ev.v (⟨5, 0, ⟨0, 0, ⟨#[]⟩, ⟨#[]⟩, ⟨#[]⟩, 0, 0⟩, a, 0⟩), .bool true]) (by rw [results_cell_tmp (fn := Tryz.f32) rfl]; go_simp; rfl) rfl ⟨HE.out, hb2⟩
        · have hno : readB (t :: r) = none := by rw [HRE.out]; exact eventB_none c1 c2 c3 c4
          have HE := Lib.hid (readR_none hno Ev.zero)
          have n1 := word_no (L := [115, 116, 101, 112, 32, 50]) HY.out hal (m := 2) (by decide) (by rw [itoa_2]; rfl) c1
          have n2 := word_no (L := [114, 117, 110, 32, 49]) HY.out hal (m := 1) (by decide) (by rw [itoa_1]; rfl) c2
          have n3 := word_no (L := [99, 114, 97, 115, 104, 32, 50]) HY.out hal (m := 2) (by decide) (by rw [itoa_2]; rfl) c3
          have n4 := word_no (L := [99, 117, 116, 32, 49]) HY.out hal (m := 1) (by decide) (by rw [itoa_1]; rfl) c4
          clear hno c1 c2 c3 c4
          go_wp2_with fail
          change bodyPost _ _ _ _ _ (evStore wc W.heap.size Ev.zero)
          have hz2 := evStore_at HV.out (Ev.zero)
          have hb2 := evStore_below HB2.out (Nat.le_refl _) (Ev.zero)
          generalize evStore wc W.heap.size (Ev.zero) = wF at *
          clear d0 d1 d2 d3 d4 d5 d6 d7 d8 d9 d10 g0 g1 g2 g3 g4 g5 g6 g7 g8 g9 g10
          obtain ⟨d0, d1, d2, d3, d4, d5, d6, d7, d8, d9, d10⟩ := hz2.facts
          unfold Ev.zero Cl.zero at d0 d1 d2 d3 d4 d5 d6 d7 d8 d9 d10
          exact bodyPost_ret_by (v := .tuple #[Ev.v (Ev.zero), .bool false]) (by rw [results_cell_tmp (fn := Tryz.f32) rfl]; go_simp; rfl) rfl ⟨HE.out, hb2⟩
end Go.Proofs.YtkpofjfndokaeaaGreatDoor
