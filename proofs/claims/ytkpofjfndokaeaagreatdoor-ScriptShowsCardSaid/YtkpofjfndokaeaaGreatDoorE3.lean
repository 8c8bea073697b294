/- script.text: the walk of its loop. -/
import Derived.Test.YtkpofjfndokaeaaGreatDoorE2
namespace Go.Proofs.YtkpofjfndokaeaaGreatDoor
open Go.RowKit
set_option linter.unusedVariables false
set_option linter.unusedSimpArgs false

set_option maxRecDepth 100000 in
set_option maxHeartbeats 1000000 in
theorem text_in (s : ByteArray) (hs : s.size ≤ 4294967295) (m : List UInt8) (hm : s.data.toList = 34 :: (m ++ [34])) (W : World) : Calls Tryz.prog 63 #[.string s] W fun e w' => e = .returned (textR (unq m)) ∧ Below W.heap.size W w' := by
  obtain ⟨i0, hi, hz0, hz1, hz2⟩ := info_parts (show (Tryz.prog.info? 5).map (fun i => (i.zero, i.size, i.bytes)) = some (some (.int .u8 0), 1, 1) by kernel_rfl)
  have hsz : s.size = m.length + 2 := by rw [ba_size, hm]; simp
  have hg0 : ∀ h : 0 < s.size, (s[0]'h).toNat = 34 := fun h => by rw [ba_get s 0 h 34 (by rw [hm]; rfl)]; rfl
  have hgl : ∀ h : s.size - 1 < s.size, (s[s.size - 1]'h).toNat = 34 := fun h => by rw [ba_get s (s.size - 1) h 34 (by rw [hm, hsz]; simp)]; rfl
  obtain ⟨M, hM⟩ : ∃ M, M = s.extract 1 (s.size - 1) := ⟨_, rfl⟩
  have hMl : M.data.toList = m := by
    rw [hM, ba_extract, hm, hsz]
    simp
  have hsl := slice_at2 s 1 (s.size - 1) 1 ((s.size : Int) - 1) rfl (by omega) (by omega) (by omega) hM
  have hMz : M.size ≤ s.size := by rw [ba_size, hMl, hsz]; omega
  have h2 : 2 ≤ s.size := by omega
  have HP : Hid (∀ c : Nat, c < 256 → ∀ w, Calls Tryz.prog 41 #[.int .u8 (c : Int)] w fun e w' => e = .returned (.bool (plainB c)) ∧ w' = w) := Lib.hid fun c hc w => plain_any c hc w
  have HS := Lib.hid (TS.start W)
  have HM := Lib.hid hMl
  clear hM hm hMl hsz
  go_enter Tryz.func63, Tryz.ntmps63
  go_wp2_with fail
  go_loopw [0, 4] (fun x v wr => ∃ (S : ByteArray) (acc : List UInt8), x = .string S ∧ acc.length + S.size ≤ s.size ∧ Hid (TS W acc v wr) ∧ Hid ((unq S.data.toList).map (acc ++ ·) = unq m)) (fun x _ _ => match x with | .string S => S.size | _ => 0)
  case atStart => exact ⟨M, [], rfl, by simpa using hMz, HS, Lib.hid (by rw [HM.out]; cases unq m <;> rfl)⟩
  case round =>
    clear HS HM
    obtain ⟨S, acc, rfl, hlen, HS, HU⟩ := hrel
    clear hg0 hgl hsl hMz
    rcases hSl : S.data.toList with _ | ⟨c, r⟩
    · have hS0 : S.size = 0 := by rw [ba_size, hSl]; rfl
      have hcv := HS.out.string
      have HSL := Lib.hid hSl
      clear hSl
      go_wp2_with fail
      go_ret2
      refine ⟨?_, HS.out.below⟩
      rw [← HU.out, HSL.out]
      simp [unq, textR]
    · have hSz : S.size = r.length + 1 := by rw [ba_size, hSl]; rfl
      have hg0 : ∀ h : 0 < S.size, (S[0]'h).toNat = c.toNat := fun h => by rw [ba_get S 0 h c (by rw [hSl]; rfl)]
      have hown := HS.out.own
      have hWz := HS.out.below.size
      cases hp : plainB c.toNat with
      | true =>
        obtain ⟨R, hR⟩ : ∃ R, R = S.extract 1 S.size := ⟨_, rfl⟩
        have hRl : R.data.toList = r := by rw [hR, ba_extract, hSl, hSz]; simp
        have hsl := slice_from2 S 1 1 rfl (by omega) hR
        have hRz : R.size = r.length := by rw [ba_size, hRl]
        have hu := HU.out
        rw [hSl, unq_plain hp, ← hRl] at hu
        have HU2 := Lib.hid hu
        have HPL := Lib.hid (HP.out c.toNat (UInt8.toNat_lt c))
        rw [hp] at HPL
        have HB := Lib.hid (show Value.int .u8 ((c.toNat : Nat) : Int) = b8v c from rfl)
        clear hu hR hRl hSl HU hp
        obtain ⟨k, hk⟩ : ∃ k, c.toNat = k := ⟨_, rfl⟩
        rw [hk] at hg0 HPL HB
        have hS1 : 0 < S.size := by omega
        clear hk
        go_wp2_with (first | (go_at_call 41; refine (HPL.out _).mono ?_; rintro e w2 ⟨rfl, hw2⟩; subst hw2) | (at_builtin; refine wpList_append_own _ rfl _ _ 47 rfl W.heap.size 5 i0 (.int .u8 0) 1 1 Tryz.underlying47 hi hz0 hz1 hz2 rfl (by decide) _ _ _ rfl (hown.alloc _) ⟨w2.heap.size, 0, none⟩ 1 1 [.int .u8 (k : Int)] rfl rfl (cell_one_new _ _ _) (by simp [Value.oneCell']) (by unfold maxLen; omega) (by omega) (by simp; omega) ?_; intro v' w' hown' hg3 hiff))
        refine ⟨⟨R, acc ++ [c], rfl, by simp; omega, Lib.hid ((HS.out.alloc _).append c rfl (by rw [HB.out]) hown' hg3), Lib.hid ?_⟩, by show R.size < S.size; omega⟩
        rw [← HU2.out, Option.map_map]
        congr 1
        funext y
        simp
      | false =>
        have HPL := Lib.hid (HP.out c.toNat (UInt8.toNat_lt c))
        rw [hp] at HPL
        have hS1 : 0 < S.size := by omega
        by_cases h4 : S.size < 4
        · have hu := HU.out
          rw [hSl, unq_short hp (by omega)] at hu
          have HN := Lib.hid (show unq m = none from hu.symm)
          have hb4 : (S.size : Int) < 4 := by omega
          clear hu hSl HU hp
          obtain ⟨k, hk⟩ : ∃ k, c.toNat = k := ⟨_, rfl⟩
          rw [hk] at hg0 HPL
          clear hk
          go_wp2_with (go_at_call 41; refine (HPL.out _).mono ?_; rintro e w2 ⟨rfl, hw2⟩; subst hw2)
          go_ret2
          exact ⟨by rw [HN.out]; rfl, HS.out.below⟩
        · match r, hSl, hSz with
          | [], _, hSz => exact absurd hSz (by simp; omega)
          | [_], _, hSz => exact absurd hSz (by simp; omega)
          | [_, _], _, hSz => exact absurd hSz (by simp; omega)
          | x :: a :: b :: r', hSl, hSz0 =>
            have hSz : S.size = r'.length + 4 := hSz0
            clear hSz0
            obtain ⟨X2, hX2⟩ : ∃ X, X = S.extract 0 2 := ⟨_, rfl⟩
            obtain ⟨H4, hH4⟩ : ∃ X, X = S.extract 2 4 := ⟨_, rfl⟩
            obtain ⟨R, hR⟩ : ∃ X, X = S.extract 4 S.size := ⟨_, rfl⟩
            have hX2l : X2.toList = [c, x] := by rw [ba_toList, hX2, ba_extract, hSl]; rfl
            have hH4l : H4.data.toList = [a, b] := by rw [hH4, ba_extract, hSl]; rfl
            have hRl : R.data.toList = r' := by rw [hR, ba_extract, hSl, hSz]; simp
            have hRz : R.size = r'.length := by rw [ba_size, hRl]
            have hsl0 := slice_to2 S 2 2 rfl (by omega) hX2
            have hsl1 := slice_at2 S 2 4 2 4 rfl rfl (by omega) (by omega) hH4
            have hsl2 := slice_from2 S 4 4 rfl (by omega) hR
            have hH4z : H4.size = 2 := by rw [ba_size, hH4l]; rfl
            have hu := HU.out
            rw [hSl, unq_hex hp] at hu
            have HU2 := Lib.hid hu
            have HT := Lib.hid (Tryz.strings_Trim_laid H4 ⟨#[48, 49, 50, 51, 52, 53, 54, 55, 56, 57, 97, 98, 99, 100, 101, 102]⟩)
            have hgt := trim_two a b
            obtain ⟨T, hT⟩ : ∃ T : ByteArray, T = ⟨(Lib.trimS H4.data.toList hexs).toArray⟩ := ⟨_, rfl⟩
            have hTl : T.toList = [] ↔ hexB a.toNat = true ∧ hexB b.toNat = true := by
              rw [ba_toList, hT, ← hgt, hH4l]
            have HT2 : Hid (∀ w, Calls Tryz.prog 83 #[.string H4, .string ⟨#[48, 49, 50, 51, 52, 53, 54, 55, 56, 57, 97, 98, 99, 100, 101, 102]⟩] w fun e w' => e = .returned (.string T) ∧ Below w.heap.size w w') := Lib.hid fun w => by
              rw [hT]
              exact HT.out w (by omega) (by decide) (Go.Proofs.ascii_of_all (by decide))
            have HRL := Lib.hid hRl
            have HH4 := Lib.hid hH4l
            have hb4 : ¬ (S.size : Int) < 4 := by omega
            have hS4 : 4 ≤ S.size := by omega
            clear hu HU HT hT hgt hSl hRl hH4l hX2 hH4 hR hp h4
            obtain ⟨k, hk⟩ : ∃ k, c.toNat = k := ⟨_, rfl⟩
            rw [hk] at hg0 HPL
            have HK := Lib.hid hk
            clear hk
            by_cases hcx : c = 92 ∧ x = 120
            · obtain ⟨rfl, rfl⟩ := hcx
              by_cases hh : hexB a.toNat = true ∧ hexB b.toNat = true
              · have hT0 := hTl.2 hh
                have hT1 : T.toList.isEmpty = true := by rw [hT0]; rfl
                have HPU := Lib.hid (puint_any H4 a b HH4.out hh.1 hh.2)
                have hv1 := hexV_lt hh.1
                have hv2 := hexV_lt hh.2
                have hu := HU2.out
                rw [if_pos ⟨rfl, rfl, hh⟩] at hu
                have HU3 := Lib.hid hu
                have hn256 : 16 * hexV a.toNat + hexV b.toNat < 256 := by omega
                generalize 16 * hexV a.toNat + hexV b.toNat = n at *
                have HB := Lib.hid (show Value.int .u8 ((n : Nat) : Int) = b8v (UInt8.ofNat n) by unfold b8v u8v; rw [UInt8.toNat_ofNat', Nat.mod_eq_of_lt hn256])
                clear hu HU2 hTl hh hv1 hv2
                go_wp2_with (first | (go_at_call 41; refine (HPL.out _).mono ?_; rintro e w2 ⟨rfl, hw2⟩; subst hw2) | (go_at_call 83; refine (HT2.out _).mono ?_; rintro e w3 ⟨rfl, hb3⟩; have HS3 := Lib.hid (HS.out.later hb3); clear hb3) | (go_at_call 84; refine (HPU.out _).mono ?_; rintro e w4 ⟨rfl, hb4⟩; have HS4 := Lib.hid (HS3.out.later hb4); have hown := HS4.out.own; have hWz := HS4.out.below.size; clear hb4) | (at_builtin; refine wpList_append_own _ rfl _ _ 47 rfl W.heap.size 5 i0 (.int .u8 0) 1 1 Tryz.underlying47 hi hz0 hz1 hz2 rfl (by decide) _ _ _ rfl (hown.alloc _) ⟨w4.heap.size, 0, none⟩ 1 1 [.int .u8 (n : Int)] rfl rfl (cell_one_new _ _ _) (by simp [Value.oneCell']) (by unfold maxLen; omega) (by omega) (by simp; omega) ?_; intro v' w' hown' hg3 hiff))
                refine ⟨⟨R, acc ++ [UInt8.ofNat n], rfl, by simp; omega, Lib.hid ((HS4.out.alloc _).append _ rfl (by rw [HB.out]) hown' hg3), Lib.hid ?_⟩, by show R.size < S.size; omega⟩
                rw [← HU3.out, HRL.out, Option.map_map]
                congr 1
                funext y
                simp
              · have hT0 : ¬ T.toList = [] := fun h => hh (hTl.1 h)
                have hT1 : T.toList.isEmpty = false := by
                  cases h' : T.toList with
                  | nil => exact absurd h' hT0
                  | cons _ _ => rfl
                have hu := HU2.out
                rw [if_neg (fun h => hh h.2.2)] at hu
                have HN := Lib.hid (show unq m = none from hu.symm)
                clear hu HU2 hTl hh
                go_wp2_with (first | (go_at_call 41; refine (HPL.out _).mono ?_; rintro e w2 ⟨rfl, hw2⟩; subst hw2) | (go_at_call 83; refine (HT2.out _).mono ?_; rintro e w3 ⟨rfl, hb3⟩; have HS3 := Lib.hid (HS.out.later hb3); clear hb3))
                go_ret2
                exact ⟨by rw [HN.out]; rfl, HS3.out.below⟩
            · have hX3 : ¬ X2.toList = [92, 120] := by
                rw [hX2l]
                intro h
                injection h with h1 h2
                injection h2 with h2 h3
                exact hcx ⟨h1, h2⟩
              have hu := HU2.out
              rw [if_neg (fun h => hcx ⟨h.1, h.2.1⟩)] at hu
              have HN := Lib.hid (show unq m = none from hu.symm)
              clear hu HU2 hTl hX2l
              go_wp2_with (first | (go_at_call 41; refine (HPL.out _).mono ?_; rintro e w2 ⟨rfl, hw2⟩; subst hw2) | (go_at_call 83; refine (HT2.out _).mono ?_; rintro e w3 ⟨rfl, hb3⟩; have HS3 := Lib.hid (HS.out.later hb3); clear hb3))
              go_ret2
              exact ⟨by rw [HN.out]; rfl, HS.out.below⟩
end Go.Proofs.YtkpofjfndokaeaaGreatDoor
