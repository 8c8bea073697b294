/- script.plain; which bytes stand as themselves; a text as it is written. -/
import Derived.Test.YtkpofjfndokaeaaGreatDoorProg
import Derived.WalkKit
import Derived.Below
import Derived.Lib.Hide
import Derived.Laws.NewBlocks
import Derived.Laws.OwnMore
import Derived.Deep.AppendLies
import Derived.Deep.RegionLaw
import Derived.Deep.LoopGhost
import Derived.RegionTactic
import Derived.OwnWalk
import Derived.Lib.ConvBytes
import Derived.Laws.BytesArg
namespace Go.Proofs.YtkpofjfndokaeaaGreatDoor
open Go.RowKit
set_option linter.unusedVariables false
set_option linter.unusedSimpArgs false

/-- May a byte stand as itself? -/
def plainB (c : Nat) : Bool := decide (32 ≤ c) && decide (c ≤ 126) && !(c == 34) && !(c == 92)
theorem plain_any (c : Nat) (hc : c < 256) (w : World) : Calls Tryz.prog 41 #[.int .u8 (c : Int)] w fun e w' => e = .returned (.bool (plainB c)) ∧ w' = w := by
  have hw : wrap32 (c : Int) = (c : Int) := by unfold wrap32; omega
  by_cases h1 : 32 ≤ c
  · by_cases h2 : c ≤ 126
    · by_cases h3 : c = 34
      · subst h3
        go_enter Tryz.func41, Tryz.ntmps41
        go_wp2
        go_ret
        exact ⟨rfl, rfl⟩
      · by_cases h4 : c = 92
        · subst h4
          go_enter Tryz.func41, Tryz.ntmps41
          go_wp2
          go_ret
          exact ⟨rfl, rfl⟩
        · have t3 : ((c : Int) != 34) = true := by rw [bne_iff_ne]; omega
          have t4 : ((c : Int) != 92) = true := by rw [bne_iff_ne]; omega
          have hp : plainB c = true := by simp [plainB, h1, h2, h3, h4]
          rw [hp]
          go_enter Tryz.func41, Tryz.ntmps41
          go_wp2
          all_goals go_ret
          all_goals exact ⟨rfl, rfl⟩
    · have hp : plainB c = false := by simp [plainB, h2]
      rw [hp]
      go_enter Tryz.func41, Tryz.ntmps41
      go_wp2
      all_goals go_ret
      all_goals exact ⟨rfl, rfl⟩
  · have hp : plainB c = false := by simp [plainB, h1]
    rw [hp]
    go_enter Tryz.func41, Tryz.ntmps41
    go_wp2
    all_goals go_ret
    all_goals exact ⟨rfl, rfl⟩

/-- A hex digit. -/
def hexd (n : Nat) : Nat := if n < 10 then 48 + n else 87 + n
/-- How a byte is written. -/
def quo1 (c : Nat) : List Nat := if plainB c then [c] else [92, 120, hexd (c / 16), hexd (c % 16)]
def quoPre (l : List UInt8) : List Nat := 34 :: l.flatMap fun b => quo1 b.toNat
def quoN (s : ByteArray) : List Nat := quoPre s.data.toList ++ [34]
def u8v (n : Nat) : Value := .int .u8 (n : Int)
theorem quo1_length (c : Nat) : (quo1 c).length ≤ 4 := by unfold quo1; split <;> simp
theorem quoPre_length (l : List UInt8) : (quoPre l).length ≤ 1 + 4 * l.length := by
  unfold quoPre
  induction l with
  | nil => simp
  | cons x l ih =>
    have := quo1_length x.toNat
    simp only [List.length_cons, List.flatMap_cons, List.length_append] at ih ⊢
    omega
theorem quoPre_snoc (l : List UInt8) (i : Nat) (hi : i < l.length) : quoPre (l.take (i + 1)) = quoPre (l.take i) ++ quo1 (l[i]).toNat := by
  unfold quoPre
  rw [List.take_succ_eq_append_getElem hi, List.flatMap_append]
  simp

/-- A text that is being written, over the bytes of s in block Bs. -/
structure QS (W : World) (s : ByteArray) (Bs : Nat) (v : Value) (xs : List Nat) (wr : World) : Prop where
  own : wr.ownsRow W.heap.size 5 1 v xs.length (xs.map u8v)
  ne : v.ownBlock ≠ some Bs
  bytes : ∀ j, j < s.size → wr.cell? ⟨Bs, j, none⟩ = some (u8v (s.data.toList.getD j 0).toNat)
  below : Below W.heap.size W wr
  lt : Bs < wr.heap.size

theorem QS.drew {W : World} {s : ByteArray} {Bs : Nat} {v : Value} {xs : List Nat} {wr : World} (h : QS W s Bs v xs wr) : QS W s Bs v xs wr.drew := ⟨h.own, h.ne, h.bytes, h.below.drew, h.lt⟩
theorem QS.alloc {W : World} {s : ByteArray} {Bs : Nat} {v : Value} {xs : List Nat} {wr : World} (h : QS W s Bs v xs wr) (o : Obj) : QS W s Bs v xs (wr.alloc o) :=
  ⟨h.own.alloc o, h.ne, fun j hj => by rw [World.cell?_alloc_lt _ _ _ h.lt]; exact h.bytes j hj, h.below.alloc h.below.size o, by rw [World.size_alloc]; have := h.lt; omega⟩
theorem QS.append {W : World} {s : ByteArray} {Bs : Nat} {v : Value} {xs : List Nat} {wr w' : World} (h : QS W s Bs v xs wr) (ys : List Nat) {g cap n : Nat} (hn : n = (xs ++ ys).length) {cs : List Value} (hc : cs = (xs ++ ys).map u8v)
    (hown : w'.ownsRow W.heap.size 5 1 (.slice (some ⟨g, 0, none⟩) n cap) n cs) (hg : wr.grownBy w' v.ownBlock) (hl : v.ownBlock = some g ∨ g = wr.heap.size) : QS W s Bs (.slice (some ⟨g, 0, none⟩) n cap) (xs ++ ys) w' := by
  subst hn; subst hc
  have hgb : g ≠ Bs := by
    rcases hl with hl | hl
    · intro e; exact h.ne (by rw [hl, e])
    · have := h.lt; omega
  refine ⟨hown, ?_, fun j hj => ?_, h.below.grown hg h.below.size (fun k e => (h.own.lt k e).1), Nat.lt_of_lt_of_le h.lt hg.size⟩
  · simp only [Value.ownBlock]
    intro e; injection e with e; exact hgb e
  · rw [World.cell?_of_block (a := ⟨Bs, j, none⟩) (hg.block Bs h.lt (Ne.symm h.ne))]
    exact h.bytes j hj

theorem QS.start (s : ByteArray) (W : World) : QS W s (W.heap.size + 1) (.slice (some ⟨W.heap.size, 0, none⟩) 1 1) [34] (Lib.bytesWorld (W.alloc (.cells #[.int .u8 34] 5)) 5 s) := by
  have hsz := World.size_alloc W (.cells #[.int .u8 34] 5)
  refine ⟨⟨rfl, .inr ⟨W.heap.size, 1, #[.int .u8 34], rfl, Nat.le_refl _, ?_, Nat.le_refl _, by unfold maxLen; omega, rfl, rfl⟩⟩, ?_, fun j hj => ?_, ?_, ?_⟩
  · rw [Lib.bytesWorld_at_old _ _ _ _ (by omega)]
    show (W.heap.push _)[W.heap.size]? = _
    simp
  · simp [Value.ownBlock]
  · have := Lib.bytesWorld_cell (W.alloc (.cells #[.int .u8 34] 5)) 5 s j hj
    rw [hsz] at this
    exact this
  · have hb := (Below.refl W.heap.size W).alloc (Nat.le_refl _) (.cells #[.int .u8 34] 5)
    refine hb.trans ⟨rfl, rfl, rfl, by rw [Lib.bytesWorld_size]; omega, fun k hk => Lib.bytesWorld_at_old _ _ _ _ (by omega)⟩
  · rw [Lib.bytesWorld_size]; omega

theorem hex_get (d : Nat) (hd : d < 16) (h : d < (⟨#[48, 49, 50, 51, 52, 53, 54, 55, 56, 57, 97, 98, 99, 100, 101, 102]⟩ : ByteArray).size) : ((⟨#[48, 49, 50, 51, 52, 53, 54, 55, 56, 57, 97, 98, 99, 100, 101, 102]⟩ : ByteArray)[d]'h).toNat = hexd d := by
  obtain rfl | rfl | rfl | rfl | rfl | rfl | rfl | rfl | rfl | rfl | rfl | rfl | rfl | rfl | rfl | rfl : d = 0 ∨ d = 1 ∨ d = 2 ∨ d = 3 ∨ d = 4 ∨ d = 5 ∨ d = 6 ∨ d = 7 ∨ d = 8 ∨ d = 9 ∨ d = 10 ∨ d = 11 ∨ d = 12 ∨ d = 13 ∨ d = 14 ∨ d = 15 := by omega
  all_goals rfl
theorem and15 (c : Nat) (hc : c < 256) : Go.bits .and .u8 (c : Int) 15 = ((c % 16 : Nat) : Int) := by
  have h : ∀ c : Fin 256, Go.bits .and .u8 ((c.val : Nat) : Int) 15 = ((c.val % 16 : Nat) : Int) := by decide +kernel
  exact h ⟨c, hc⟩
end Go.Proofs.YtkpofjfndokaeaaGreatDoor

/- script.quoted: the walk. -/
namespace Go.Proofs.YtkpofjfndokaeaaGreatDoor
open Go.RowKit
attribute [local go_sem] hex_get
set_option linter.unusedVariables false
set_option linter.unusedSimpArgs false

/-- A row of bytes as a string. -/
theorem row_string {w : World} {base g cap n : Nat} {cs : List Value} (h : w.ownsRow base 5 1 (.slice (some ⟨g, 0, none⟩) n cap) n cs) {xs : List Nat} (hn : n = xs.length) (hc : cs = xs.map u8v) :
    Sem.run Tryz.prog (convert 47 9 (.slice (some ⟨g, 0, none⟩) n cap)) w = .ok (.string (strOfNums (xs.map Int.ofNat))) w := by
  subst hn; subst hc
  refine run_convert_bytes_arg (P := Tryz.prog) w 47 5 Tryz.underlying47 Tryz.underlying5 g 0 xs.length cap (xs.map Int.ofNat) (by simp) (fun i hi => ?_) 9 Tryz.underlying9
  rw [Nat.zero_add, h.cellAt i (by omega)]
  simp [u8v, List.getD_eq_getElem?_getD, hi]

set_option maxRecDepth 100000 in
set_option maxHeartbeats 1000000 in
theorem quoted_any (s : ByteArray) (hs : s.size ≤ 17592186044416) (W : World) : Calls Tryz.prog 25 #[.string s] W fun e w' => e = .returned (.string (strOfNums ((quoN s).map Int.ofNat))) ∧ Below W.heap.size W w' := by
  obtain ⟨i0, hi, hz0, hz1, hz2⟩ := info_parts (show (Tryz.prog.info? 5).map (fun i => (i.zero, i.size, i.bytes)) = some (some (.int .u8 0), 1, 1) by kernel_rfl)
  have hcv := fun w => Lib.run_convert_string_bytes (P := Tryz.prog) w 9 47 5 s Tryz.underlying9 Tryz.underlying47 Tryz.underlying5
  have HQ := Lib.hid (QS.start s W)
  have HP : Hid (∀ c : Nat, c < 256 → ∀ w, Calls Tryz.prog 41 #[.int .u8 (c : Int)] w fun e w' => e = .returned (.bool (plainB c)) ∧ w' = w) := Lib.hid fun c hc w => plain_any c hc w
  go_enter Tryz.func25, Tryz.ntmps25
  go_wp2_with fail
  generalize grownCap _ s.size 0 5 = gc
  obtain ⟨Bs, hBs⟩ : ∃ Bs, Bs = W.heap.size + 1 := ⟨_, rfl⟩
  rw [← hBs] at HQ
  rw [← hBs]
  have HBS := Lib.hid hBs
  clear hcv hBs
  have hml : s.size ≤ 9223372036854775807 := by omega
  go_loopw [3, 10] (fun v i wr => ∃ n, n ≤ s.size ∧ i = .int .i64 n ∧ Hid (QS W s Bs v (quoPre (s.data.toList.take n)) wr)) (fun _ i _ => s.size - (intOf i).toNat)
  case atStart => exact ⟨0, Nat.zero_le _, rfl, HQ⟩
  case round =>
    clear HQ
    obtain ⟨n, hn, rfl, HQ⟩ := hrel
    have hll : s.data.toList.length = s.size := by rw [Array.length_toList]; rfl
    by_cases hlt : n < s.size
    · have hc := HQ.out.bytes n hlt
      have hsn := quoPre_snoc s.data.toList n (by omega)
      have hgd : s.data.toList.getD n 0 = s.data.toList[n]'(by omega) := by rw [List.getD_eq_getElem?_getD, List.getElem?_eq_getElem (by omega)]; rfl
      rw [hgd] at hc
      obtain ⟨c, hce⟩ : ∃ c, (s.data.toList[n]'(by omega)).toNat = c := ⟨_, rfl⟩
      have hc256 : c < 256 := by rw [← hce]; exact UInt8.toNat_lt _
      rw [hce] at hc hsn
      have HSN := Lib.hid hsn
      have hlen : (quoPre (s.data.toList.take n)).length ≤ 1 + 4 * s.size := by
        have := quoPre_length (s.data.toList.take n)
        rw [List.length_take] at this
        omega
      generalize quoPre (s.data.toList.take n) = xs at *
      unfold u8v at hc
      have hW := HQ.out.below.size
      have hown := HQ.out.own
      have hqq : quo1 c = if plainB c then [c] else [92, 120, hexd (c / 16), hexd (c % 16)] := rfl
      have HQQ := Lib.hid hqq
      clear hsn hgd hce hqq hll
      cases hp : plainB c with
      | true =>
        rw [hp] at HQQ
        have HPL := HP.out c hc256
        rw [hp] at HPL
        go_wp2_with (first | (go_at_call 41; refine (HPL _).mono ?_; rintro e w2 ⟨rfl, rfl⟩) | (at_builtin; refine wpList_append_lies _ rfl _ _ 47 rfl W.heap.size 5 i0 (.int .u8 0) 1 1 Tryz.underlying47 hi hz0 hz1 hz2 rfl (by decide) _ _ _ rfl (hown.alloc _) ⟨w2.heap.size, 0, none⟩ 1 1 [.int .u8 (c : Int)] rfl rfl (cell_one_new _ _ _) (by simp [Value.oneCell']) (by decide) (by unfold maxLen; omega) (by omega) (by simp; omega) _ rfl ?_; intro g cap w' hown' hg3 hl3 hlt3))
        refine ⟨⟨n + 1, by omega, by go_num, Lib.hid ?_⟩, by simp [intOf]; omega⟩
        rw [HSN.out, HQQ.out]
        exact (HQ.out.alloc (.cells #[.int .u8 (c : Int)] 5)).append [c] (by simp) (by simp [u8v]) hown' hg3 hl3
      | false =>
        rw [hp] at HQQ
        have HPL := HP.out c hc256
        rw [hp] at HPL
        go_wp2_with (first | (go_at_call 41; refine (HPL _).mono ?_; rintro e w2 ⟨rfl, rfl⟩))
        obtain ⟨d, hd⟩ : ∃ d, c / 16 = d := ⟨_, rfl⟩
        obtain ⟨f, hf⟩ : ∃ f, c % 16 = f := ⟨_, rfl⟩
        have hd16 : d < 16 := by omega
        have hf16 : f < 16 := by omega
        have hsh : (c : Int) / 16 = (d : Int) := by omega
        have hba := and15 c hc256
        rw [hf] at hba
        rw [hd, hf] at HQQ
        have hdi : (d : Int) < 16 := by omega
        have hfi : (f : Int) < 16 := by omega
        have HD := Lib.hid hd
        have HF := Lib.hid hf
        clear hd hf
        go_region_law (first | (refine step_append_lies _ rfl _ _ 47 rfl W.heap.size 5 i0 (.int .u8 0) 1 1 Tryz.underlying47 hi hz0 hz1 hz2 rfl (by decide) _ _ _ rfl ((hown.alloc _).drew) ⟨w2.heap.size, 0, none⟩ 4 4 [.int .u8 92, .int .u8 120, .int .u8 ((hexd d : Nat) : Int), .int .u8 ((hexd f : Nat) : Int)] rfl rfl (fun j u hu => World.news_of_block (t := 5) (fr := (0, 0)) (cs := #[.int .u8 92, .int .u8 120, .int .u8 ((hexd d : Nat) : Int), .int .u8 ((hexd f : Nat) : Int)]) (by show (w2.heap.push _)[w2.heap.size]? = _; simp) j u hu) (by simp [Value.oneCell']) (by decide) (by unfold maxLen; omega) (by omega) (by simp; omega) _ rfl ?_; intro g cap w' hown' hg3 hl3 hlt3))
        all_goals go_simp
        all_goals go_wp2
        all_goals refine ⟨⟨n + 1, by omega, by go_num, Lib.hid ?_⟩, by simp [intOf]; omega⟩
        all_goals rw [HSN.out, HQQ.out]
        all_goals exact (HQ.out.alloc (.cells #[.int .u8 92, .int .u8 120, .int .u8 ((hexd d : Nat) : Int), .int .u8 ((hexd f : Nat) : Int)] 5)).drew.append [92, 120, hexd d, hexd f] (by simp) (by simp [u8v]) hown' hg3 hl3
    · have hnl : n = s.size := by omega
      have htk : s.data.toList.take n = s.data.toList := by rw [hnl, ← hll, List.take_length]
      have hlen := quoPre_length s.data.toList
      have hown := HQ.out.own
      rw [htk] at HQ hown
      have hqn : quoN s = quoPre s.data.toList ++ [34] := rfl
      have hW := HQ.out.below.size
      generalize quoPre s.data.toList = xs at *
      rw [hll] at hlen
      have HQN := Lib.hid hqn
      clear htk hll hqn
      go_wp2_with (first | (at_builtin; refine wpList_append_lies _ rfl _ _ 47 rfl W.heap.size 5 i0 (.int .u8 0) 1 1 Tryz.underlying47 hi hz0 hz1 hz2 rfl (by decide) _ _ _ rfl (hown.alloc _) ⟨wr.heap.size, 0, none⟩ 1 1 [.int .u8 34] rfl rfl (cell_one_new _ _ _) (by simp [Value.oneCell']) (by decide) (by unfold maxLen; omega) (by omega) (by simp; omega) _ rfl ?_; intro g cap w' hown' hg3 hl3 hlt3; have hcv := row_string hown' (xs := xs ++ [34]) (by simp) (by simp [u8v])))
      go_ret
      exact ⟨by rw [HQN.out, List.map_append]; rfl, ((HQ.out.alloc (.cells #[.int .u8 34] 5)).append [34] (by simp) (by simp [u8v]) hown' hg3 hl3).below⟩
end Go.Proofs.YtkpofjfndokaeaaGreatDoor
