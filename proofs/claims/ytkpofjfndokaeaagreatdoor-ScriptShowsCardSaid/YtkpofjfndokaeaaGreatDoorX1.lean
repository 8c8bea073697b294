/- The document's Quoted: the walk. -/
import Derived.Test.YtkpofjfndokaeaaGreatDoorX0
namespace Go.Proofs.YtkpofjfndokaeaaGreatDoor
open Go.RowKit
attribute [local go_sem] hex_get
set_option linter.unusedVariables false
set_option linter.unusedSimpArgs false

/-- A text that is being written. -/
structure QR (W : World) (v : Value) (xs : List Nat) (wr : World) : Prop where
  own : wr.ownsRow W.heap.size 5 1 v xs.length (xs.map u8v)
  below : Below W.heap.size W wr
theorem QR.drew {W : World} {v : Value} {xs : List Nat} {wr : World} (h : QR W v xs wr) : QR W v xs wr.drew := ⟨h.own, h.below.drew⟩
theorem QR.alloc {W : World} {v : Value} {xs : List Nat} {wr : World} (h : QR W v xs wr) (o : Obj) : QR W v xs (wr.alloc o) := ⟨h.own.alloc o, h.below.alloc h.below.size o⟩
theorem QR.append {W : World} {v : Value} {xs : List Nat} {wr w' : World} (h : QR W v xs wr) (ys : List Nat) {g cap n : Nat} (hn : n = (xs ++ ys).length) {cs : List Value} (hc : cs = (xs ++ ys).map u8v)
    (hown : w'.ownsRow W.heap.size 5 1 (.slice (some ⟨g, 0, none⟩) n cap) n cs) (hg : wr.grownBy w' v.ownBlock) : QR W (.slice (some ⟨g, 0, none⟩) n cap) (xs ++ ys) w' := by
  subst hn; subst hc
  exact ⟨hown, h.below.grown hg h.below.size (fun k e => (h.own.lt k e).1)⟩
theorem QR.start (W : World) : QR W (.slice (some ⟨W.heap.size, 0, none⟩) 1 1) [34] (W.alloc (.cells #[.int .u8 34] 5)) :=
  ⟨⟨rfl, .inr ⟨W.heap.size, 1, #[.int .u8 34], rfl, Nat.le_refl _, heap_alloc_at _ _ rfl, Nat.le_refl _, by unfold maxLen; omega, rfl, rfl⟩⟩, (Below.refl _ _).alloc (Nat.le_refl _) _⟩

theorem u8_small (d : Nat) (h : d < 16) : IntKind.u8.wrap (d : Int) = (d : Int) := by
  have : ∀ d : Fin 16, IntKind.u8.wrap ((d.val : Nat) : Int) = ((d.val : Nat) : Int) := by decide +kernel
  exact this ⟨d, h⟩

set_option maxRecDepth 100000 in
set_option maxHeartbeats 4000000 in
theorem dquoted_any (s : ByteArray) (hs : s.size ≤ 17592186044416) (W : World) : Calls Tryz.prog 29 #[.string s] W fun e w' => e = .returned (.string ⟨(quoB s).toArray⟩) ∧ Below W.heap.size W w' := by
  obtain ⟨i0, hi, hz0, hz1, hz2⟩ := info_parts (show (Tryz.prog.info? 5).map (fun i => (i.zero, i.size, i.bytes)) = some (some (.int .u8 0), 1, 1) by kernel_rfl)
  have HQ := Lib.hid (QR.start W)
  have HP : Hid (∀ c : Nat, c < 256 → ∀ w, Calls Tryz.prog 44 #[.int .u8 (c : Int)] w fun e w' => e = .returned (.bool (plainB c)) ∧ w' = w) := Lib.hid fun c hc w => dplain_any c hc w
  have HSQ := Lib.hid (strOf_quo s)
  go_enter Tryz.func29, Tryz.ntmps29
  go_wp2_with fail
  have hml : s.size ≤ 9223372036854775807 := by omega
  go_loopw [4, 5] (fun v i wr => ∃ n, n ≤ s.size ∧ i = .int .i64 n ∧ Hid (QR W v (quoPre (s.data.toList.take n)) wr)) (fun _ i _ => s.size - (intOf i).toNat)
  case atStart => exact ⟨0, Nat.zero_le _, rfl, HQ⟩
  case round =>
    clear HQ
    obtain ⟨n, hn, rfl, HQ⟩ := hrel
    have hll : s.data.toList.length = s.size := by rw [Array.length_toList]; rfl
    by_cases hlt : n < s.size
    · have hsn := quoPre_snoc s.data.toList n (by omega)
      obtain ⟨b, hb⟩ : ∃ b, s.data.toList[n]? = some b := ⟨_, List.getElem?_eq_getElem (by omega)⟩
      have hbe : s.data.toList[n]'(by omega) = b := Option.some.inj ((List.getElem?_eq_getElem (by omega)).symm.trans hb)
      obtain ⟨c, hce⟩ : ∃ c, b.toNat = c := ⟨_, rfl⟩
      have hc256 : c < 256 := by rw [← hce]; exact UInt8.toNat_lt _
      have hgn : ∀ h : n < s.size, (s[n]'h).toNat = c := fun h => by rw [ba_get s n h b hb, hce]
      rw [hbe, hce] at hsn
      have HSN := Lib.hid hsn
      have hlen : (quoPre (s.data.toList.take n)).length ≤ 1 + 4 * s.size := by
        have := quoPre_length (s.data.toList.take n)
        rw [List.length_take] at this
        omega
      generalize quoPre (s.data.toList.take n) = xs at *
      have hW := HQ.out.below.size
      have hown := HQ.out.own
      have hqq : quo1 c = if plainB c then [c] else [92, 120, hexd (c / 16), hexd (c % 16)] := rfl
      have HQQ := Lib.hid hqq
      have hci : (c : Int) < 256 := by omega
      clear hsn hbe hce hqq hll hb
      cases hp : plainB c with
      | true =>
        rw [hp] at HQQ
        have HPL := HP.out c hc256
        rw [hp] at HPL
        go_wp2_with (first | (go_at_call 44; refine (HPL _).mono ?_; rintro e w2 ⟨rfl, hw2⟩; subst hw2) | (at_builtin; refine wpList_append_lies _ rfl _ _ 47 rfl W.heap.size 5 i0 (.int .u8 0) 1 1 Tryz.underlying47 hi hz0 hz1 hz2 rfl (by decide) _ _ _ rfl (hown.alloc _) ⟨_, 0, none⟩ 1 1 [.int .u8 (c : Int)] rfl rfl (cell_one_new _ _ _) (by simp [Value.oneCell']) (by decide) (by unfold maxLen; omega) (by omega) (by simp; omega) _ rfl ?_; intro g cap w' hown' hg3 hl3 hlt3))
        refine ⟨⟨n + 1, by omega, by go_num, Lib.hid ?_⟩, by simp [intOf]; omega⟩
        rw [HSN.out, HQQ.out]
        exact (HQ.out.alloc (.cells #[.int .u8 (c : Int)] 5)).append [c] (by simp) (by simp [u8v]) hown' hg3
      | false =>
        rw [hp] at HQQ
        have HPL := HP.out c hc256
        rw [hp] at HPL
        go_wp2_with (first | (go_at_call 44; refine (HPL _).mono ?_; rintro e w2 ⟨rfl, hw2⟩; subst hw2))
        obtain ⟨d, hd⟩ : ∃ d, c / 16 = d := ⟨_, rfl⟩
        obtain ⟨f, hf⟩ : ∃ f, c % 16 = f := ⟨_, rfl⟩
        have hd16 : d < 16 := by omega
        have hf16 : f < 16 := by omega
        have hsh : (c : Int) / 16 = (d : Int) := by omega
        have hsm0 : (c : Int) % 16 = (f : Int) := by omega
        have hsm : (c : Int).tmod 16 = (f : Int) := (Int.tmod_eq_emod_of_nonneg (Int.natCast_nonneg c)).trans hsm0
        clear hsm0
        rw [hd, hf] at HQQ
        have hdi : (d : Int) < 16 := by omega
        have hfi : (f : Int) < 16 := by omega
        have hwd : IntKind.u8.wrap (d : Int) = (d : Int) := u8_small d hd16
        have hwf : IntKind.u8.wrap (f : Int) = (f : Int) := u8_small f hf16
        clear hd hf
        go_region_law (first | (refine step_append_lies _ rfl _ _ 47 rfl W.heap.size 5 i0 (.int .u8 0) 1 1 Tryz.underlying47 hi hz0 hz1 hz2 rfl (by decide) _ _ _ rfl ((hown.alloc _).drew) ⟨w2.heap.size, 0, none⟩ 4 4 [.int .u8 92, .int .u8 120, .int .u8 ((hexd d : Nat) : Int), .int .u8 ((hexd f : Nat) : Int)] rfl rfl (fun j u hu => World.news_of_block (t := 5) (fr := (0, 0)) (cs := #[.int .u8 92, .int .u8 120, .int .u8 ((hexd d : Nat) : Int), .int .u8 ((hexd f : Nat) : Int)]) (by show (w2.heap.push _)[w2.heap.size]? = _; simp) j u hu) (by simp [Value.oneCell']) (by decide) (by unfold maxLen; omega) (by omega) (by simp; omega) _ rfl ?_; intro g cap w' hown' hg3 hl3 hlt3))
        all_goals go_simp
        all_goals go_wp2
        all_goals refine ⟨⟨n + 1, by omega, by go_num, Lib.hid ?_⟩, by simp [intOf]; omega⟩
        all_goals rw [HSN.out, HQQ.out]
        all_goals exact (HQ.out.alloc (.cells #[.int .u8 92, .int .u8 120, .int .u8 ((hexd d : Nat) : Int), .int .u8 ((hexd f : Nat) : Int)] 5)).drew.append [92, 120, hexd d, hexd f] (by simp) (by simp [u8v]) hown' hg3
    · have hnl : n = s.size := by omega
      have htk : s.data.toList.take n = s.data.toList := by rw [hnl, ← hll, List.take_length]
      have hlen := quoPre_length s.data.toList
      have hown := HQ.out.own
      rw [htk] at HQ hown
      have hqn : quoN s = quoPre s.data.toList ++ [34] := rfl
      have hW := HQ.out.below.size
      generalize quoPre s.data.toList = xs at *
      rw [hll] at hlen
      have HQN := Lib.hid hqn
      clear htk hll hqn
      go_wp2_with (first | (at_builtin; refine wpList_append_lies _ rfl _ _ 47 rfl W.heap.size 5 i0 (.int .u8 0) 1 1 Tryz.underlying47 hi hz0 hz1 hz2 rfl (by decide) _ _ _ rfl (hown.alloc _) ⟨wr.heap.size, 0, none⟩ 1 1 [.int .u8 34] rfl rfl (cell_one_new _ _ _) (by simp [Value.oneCell']) (by decide) (by unfold maxLen; omega) (by omega) (by simp; omega) _ rfl ?_; intro g cap w' hown' hg3 hl3 hlt3; have hcv := row_string hown' (xs := xs ++ [34]) (by simp) (by simp [u8v])))
      go_ret
      refine ⟨?_, ((HQ.out.alloc (.cells #[.int .u8 34] 5)).append [34] (by simp) (by simp [u8v]) hown' hg3).below⟩
      have h2 := HSQ.out
      rw [HQN.out, List.map_append] at h2
      exact congrArg (fun s => Ending.returned (Value.string s)) h2
end Go.Proofs.YtkpofjfndokaeaaGreatDoor
