/- num.Crc: the walk. -/
import Derived.Test.YteohlibpfgmcaaaGreatDoorW0
namespace Go.Proofs.YteohlibpfgmcaaaGreatDoor
open Go.RowKit
set_option linter.unusedVariables false
set_option linter.unusedSimpArgs false

theorem bits_xor32 (a b : Nat) (ha : a < 4294967296) (hb : b < 4294967296) : bits .xor .u32 (a : Int) (b : Int) = ((a ^^^ b : Nat) : Int) := by
  have hx : a ^^^ b < 2 ^ 32 := Nat.xor_lt_two_pow (by omega) (by omega)
  have h1 : (BitVec.ofInt 32 (a : Int)).toNat = a := by rw [BitVec.toNat_ofInt]; omega
  have h2 : (BitVec.ofInt 32 (b : Int)).toNat = b := by rw [BitVec.toNat_ofInt]; omega
  show IntKind.u32.wrap ((BitVec.ofInt 32 (a : Int) ^^^ BitVec.ofInt 32 (b : Int)).toNat : Int) = _
  rw [BitVec.toNat_xor, h1, h2]
  unfold IntKind.wrap
  simp [IntKind.signed, IntKind.bits]
  omega
theorem bits_and32 (a b : Nat) (ha : a < 4294967296) (hb : b < 4294967296) : bits .and .u32 (a : Int) (b : Int) = ((a &&& b : Nat) : Int) := by
  have hx : a &&& b < 2 ^ 32 := Nat.and_lt_two_pow _ (by omega)
  have h1 : (BitVec.ofInt 32 (a : Int)).toNat = a := by rw [BitVec.toNat_ofInt]; omega
  have h2 : (BitVec.ofInt 32 (b : Int)).toNat = b := by rw [BitVec.toNat_ofInt]; omega
  show IntKind.u32.wrap ((BitVec.ofInt 32 (a : Int) &&& BitVec.ofInt 32 (b : Int)).toNat : Int) = _
  rw [BitVec.toNat_and, h1, h2]
  unfold IntKind.wrap
  simp [IntKind.signed, IntKind.bits]
  omega
theorem wrap_neg (a : Nat) (ha : a < 2) : -(a : Int) % 4294967296 = ((if a = 1 then 4294967295 else 0 : Nat) : Int) := by
  have : a = 0 ∨ a = 1 := by omega
  rcases this with rfl | rfl <;> rfl
theorem and_ones (a : Nat) (ha : a < 4294967296) : a &&& 4294967295 = a := by
  have := Nat.and_two_pow_sub_one_eq_mod a 32
  rw [show (2 : Nat) ^ 32 - 1 = 4294967295 from rfl] at this
  rw [this]; exact Nat.mod_eq_of_lt ha
/-- One bit of the sum. -/
theorem bit_eq (c : Nat) (hc : c < 4294967296) : bits .xor .u32 ((c : Int) / 2) (bits .and .u32 3988292384 (-(bits .and .u32 (c : Int) 1) % 4294967296)) = (crcBit c : Int) := by
  have h1 : bits .and .u32 (c : Int) 1 = ((c % 2 : Nat) : Int) := by
    have := bits_and32 c 1 hc (by omega)
    rw [Nat.and_one_is_mod] at this
    exact this
  rw [h1, wrap_neg _ (by omega)]
  have h2 := bits_and32 3988292384 (if c % 2 = 1 then 4294967295 else 0) (by omega) (by split <;> omega)
  have h3 : (3988292384 &&& (if c % 2 = 1 then 4294967295 else 0) : Nat) = if c % 2 = 1 then 3988292384 else 0 := by
    split
    · exact and_ones _ (by omega)
    · rfl
  rw [h3] at h2
  have h4 : bits .and .u32 3988292384 ((if c % 2 = 1 then 4294967295 else 0 : Nat) : Int) = ((if c % 2 = 1 then 3988292384 else 0 : Nat) : Int) := h2
  rw [h4]
  have h5 := bits_xor32 (c / 2) (if c % 2 = 1 then 3988292384 else 0) (by omega) (by split <;> omega)
  exact h5
theorem flatten_snoc {α : Type} (ls : List (List α)) (k : Nat) (l : List α) (h : ls[k]? = some l) : (ls.take (k + 1)).flatten = (ls.take k).flatten ++ l := by
  obtain ⟨h1, h2⟩ := List.getElem?_eq_some_iff.1 h
  rw [List.take_succ_eq_append_getElem h1, h2]
  simp
theorem fold_snoc (c : Nat) (l : List UInt8) (k : Nat) (u : UInt8) (h : l[k]? = some u) : crcFold c (l.take (k + 1)) = crcByte (crcFold c (l.take k)) u := by
  obtain ⟨h1, h2⟩ := List.getElem?_eq_some_iff.1 h
  rw [List.take_succ_eq_append_getElem h1, h2, crcFold_append]
  rfl

set_option maxRecDepth 100000 in
set_option maxHeartbeats 4000000 in
theorem crc_bsw (v : Value) (ls : List (List UInt8)) (W : World) (h : Bsw W v ls) : Calls Tryz.prog 113 #[v] W fun e w' => e = .returned (.int .u32 (crcN ls.flatten : Int)) ∧ w' = W := by
  obtain ⟨A, cp, rfl, hm, hr⟩ := h
  unfold maxLen at hm
  have HR := Lib.hid hr
  have hN := crcFold_lt ls.flatten (show 4294967295 < 4294967296 by omega)
  have HN : Hid (bits .xor .u32 IntKind.u32.max (crcFold 4294967295 ls.flatten : Int) = (crcN ls.flatten : Int)) := Lib.hid (by rw [show IntKind.u32.max = ((4294967295 : Nat) : Int) from rfl, bits_xor32 4294967295 _ (by decide) hN, Nat.xor_comm]; rfl)
  clear hr hN
  go_enter Tryz.func113, Tryz.ntmps113
  go_wp2_with fail
  go_loop [3, 10] (fun s i => ∃ k : Nat, k ≤ ls.length ∧ i = .int .i64 k ∧ s = .int .u32 (crcFold 4294967295 (ls.take k).flatten : Int)) (fun _ i => ls.length - (intOf i).toNat)
  case atStart => exact ⟨0, Nat.zero_le _, rfl, rfl⟩
  case round =>
    obtain ⟨k, hk, rfl, rfl⟩ := hrel
    have hcl := crcFold_lt (ls.take k).flatten (show 4294967295 < 4294967296 by omega)
    by_cases hlt : k < ls.length
    · obtain ⟨l, hl⟩ : ∃ l, ls[k]? = some l := ⟨_, List.getElem?_eq_getElem hlt⟩
      have HF := Lib.hid (flatten_snoc ls k l hl)
      obtain ⟨b, o, rfl, hcs⟩ := HR.out (by omega)
      obtain ⟨x, hx, hbs⟩ := hcs k l hl
      obtain ⟨A2, c2, rfl, hm2, hr2⟩ := hbs
      unfold maxLen at hm2
      have HR2 := Lib.hid hr2
      have HFS := Lib.hid (fold_snoc (crcFold 4294967295 (ls.take k).flatten) l)
      have HFA : Hid (crcFold (crcFold 4294967295 (ls.take k).flatten) l = crcFold 4294967295 (ls.take (k + 1)).flatten) := Lib.hid (by rw [HF.out, crcFold_append])
      generalize crcFold 4294967295 (ls.take k).flatten = c0 at *
      have HC0 := Lib.hid hcl
      clear hr2 hl hcs
      go_wp2_with fail
      go_loop [3, 16] (fun s i => ∃ j : Nat, j ≤ l.length ∧ i = .int .i64 j ∧ s = .int .u32 (crcFold c0 (l.take j) : Int)) (fun _ i => l.length - (intOf i).toNat)
      case atStart => exact ⟨0, Nat.zero_le _, rfl, rfl⟩
      case round =>
        obtain ⟨j, hj, rfl, rfl⟩ := hrel
        have hcl := crcFold_lt (l.take j) HC0.out
        by_cases hlj : j < l.length
        · obtain ⟨u, hu⟩ : ∃ u, l[j]? = some u := ⟨_, List.getElem?_eq_getElem hlj⟩
          have HFJ := Lib.hid (HFS.out j u hu)
          obtain ⟨b2, o2, rfl, hcell⟩ := HR2.out (by omega)
          have hcu := hcell j u hu
          unfold b8v at hcu
          have hu8 := u.toNat_lt
          generalize crcFold c0 (l.take j) = c1 at *
          have HX := Lib.hid (bits_xor32 c1 u.toNat hcl (by omega))
          have HXL := Lib.hid (xorB_lt u hcl)
          have HCB : Hid (crcBits 8 (c1 ^^^ u.toNat) = crcFold c0 (l.take (j + 1))) := Lib.hid HFJ.out.symm
          clear hcell hu
          go_wp2_with fail
          go_loop [3, 24] (fun s i => ∃ q : Nat, q ≤ 8 ∧ i = .int .i64 q ∧ s = .int .u32 (crcBits q (c1 ^^^ u.toNat) : Int)) (fun _ i => 8 - (intOf i).toNat)
          case atStart => exact ⟨0, Nat.zero_le _, rfl, by rw [HX.out]; rfl⟩
          case round =>
            obtain ⟨q, hq, rfl, rfl⟩ := hrel
            have hcq := crcBits_lt q HXL.out
            have HBE : Hid (bits .xor .u32 ((crcBits q (c1 ^^^ u.toNat) : Int) / 2) (bits .and .u32 3988292384 (-(bits .and .u32 (crcBits q (c1 ^^^ u.toNat) : Int) 1) % 4294967296)) = (crcBits (q + 1) (c1 ^^^ u.toNat) : Int)) := Lib.hid (bit_eq _ hcq)
            by_cases hq8 : q < 8
            · generalize crcBits q (c1 ^^^ u.toNat) = cq at *
              go_wp2_with fail
              go_round
              case rel => exact ⟨q + 1, by omega, by go_num, by rw [HBE.out]⟩
              case measure => simp [intOf]; omega
            · have hqe : q = 8 := by omega
              subst hqe
              rw [HCB.out]
              go_wp2_with fail
              go_round
              case rel => exact ⟨j + 1, by omega, by go_num, rfl⟩
              case measure => simp [intOf]; omega
        · have hje : j = l.length := by omega
          rw [hje, List.take_length, HFA.out]
          go_wp2_with fail
          go_round
          case rel => exact ⟨k + 1, by omega, by go_num, rfl⟩
          case measure => simp [intOf]; omega
    · have hke : k = ls.length := by omega
      rw [hke, List.take_length]
      go_wp2_with fail
      go_ret
      exact ⟨by rw [HN.out]; rfl, rfl⟩

theorem crc_any (v : Value) (ls : List (List UInt8)) (W : World) (h : Bss W v ls) : Calls Tryz.prog 113 #[v] W fun e w' => e = .returned (.int .u32 (crcN ls.flatten : Int)) ∧ w' = W := crc_bsw v ls W h.bsw
end Go.Proofs.YteohlibpfgmcaaaGreatDoor
