/- ints (are two rows the same?), and LockReaders: the walks. -/
import Derived.Test.YtmfjncbccaifiaaDoorC0
import Derived.Test.YtmfjncbccaifiaaDoorB4
import Derived.Laws.OwnMore
import Derived.Deep.AppendLies
import Derived.Deep.Draws
import Derived.Deep.QuietTactic
import Derived.BigQuiet
namespace Go.Proofs.YtmfjncbccaifiaaDoor
open Go.RowKit
set_option linter.unusedVariables false
set_option linter.unusedSimpArgs false

theorem own_ints {n₀ : Nat} {w : World} {A : Option Addr} {c : Nat} {L : List Nat} (h : w.ownsRow n₀ 3 1 (.slice A L.length c) L.length (L.map encN)) : Ints w A (L.map Int.ofNat) := fun j hj => by
  rw [List.length_map] at hj
  obtain ⟨g, cap, hv, _, hlt⟩ := h.form (by omega)
  have hA : A = some ⟨g, 0, none⟩ := by injection hv
  subst hA
  have hx : (L.map encN)[j]? = some (encN L[j]) := by simp [hj]
  refine ⟨_, rfl, ?_, hlt⟩
  rw [h.cells (g := g) rfl j _ hx]
  simp [encN, List.getD_eq_getElem?_getD, hj]

theorem later_drewN (w : World) (n : Nat) : Later w (w.drewN n) := by
  induction n with
  | zero => exact Below.refl _ _
  | succ n ih => rw [← World.drew_drewN]; exact ih.drew

set_option maxHeartbeats 2000000 in
theorem ints_any (A0 : Option Addr) (c0 : Nat) (l0 : List Int) (A1 : Option Addr) (c1 : Nat) (l1 : List Int) (w : World) (h0 : Ints w A0 l0) (h1 : Ints w A1 l1) (hl0 : l0.length ≤ 9223372036854775807) (hl1 : l1.length ≤ 9223372036854775807) :
    Calls Tryd.prog 19 #[.slice A0 l0.length c0, .slice A1 l1.length c1] w fun e w' => e = .returned (.bool (decide (l0 = l1))) ∧ ∃ n, w' = w.drewN n := by
  have H0 := Lib.hid h0
  have H1 := Lib.hid h1
  have HW : Hid (Later w w) := Lib.hid (Below.refl _ _)
  clear h0 h1
  by_cases hlen : l0.length = l1.length
  · have t1 : (l0.length != l1.length) = false := by simpa using hlen
    have t2 : ((l0.length : Int) != (l1.length : Int)) = false := by simp; omega
    have HL := Lib.hid hlen
    clear hlen
    go_enter Tryd.func19, Tryd.ntmps19
    go_wp2
    go_loopw [5] (fun i wr => ∃ k n : Nat, k ≤ l0.length ∧ i = .int .i64 k ∧ wr = w.drewN n ∧ Hid (∀ j, j < k → l0.getD j 0 = l1.getD j 0)) (fun i _ => l0.length - (intOf i).toNat)
    case atStart => exact ⟨0, 0, Nat.zero_le _, rfl, rfl, Lib.hid (fun j hj => absurd hj (Nat.not_lt_zero j))⟩
    case round =>
      obtain ⟨k, n, hk, rfl, rfl, hj⟩ := hrel
      by_cases hlt : k < l0.length
      · have hlt1 : k < l1.length := by have := HL.out; omega
        obtain ⟨ad0, rfl, hc0⟩ := H0.out.at_ HW.out hlt
        obtain ⟨ad1, rfl, hc1⟩ := H1.out.at_ HW.out hlt1
        by_cases he : l0.getD k 0 = l1.getD k 0
        · have HE := Lib.hid he
          rw [he] at hc0
          generalize l1.getD k 0 = x at hc0 hc1
          clear he
          go_wp2
          repeat (go_quiet (fail); try go_wp2)
          go_roundw
          case rel => exact ⟨k + 1, _, by omega, by go_num, rfl, Lib.hid (fun j hjk => by
            rcases Nat.lt_or_ge j k with h | h
            · exact hj.out j h
            · obtain rfl : j = k := by omega
              exact HE.out)⟩
          case measure => simp [intOf]; omega
        · have hne : l0 ≠ l1 := fun e => he (by rw [e])
          have hd : decide (l0 = l1) = false := by simpa using hne
          have HD := Lib.hid hd
          obtain ⟨x, hx⟩ : ∃ x, l0.getD k 0 = x := ⟨_, rfl⟩
          obtain ⟨y, hy⟩ : ∃ y, l1.getD k 0 = y := ⟨_, rfl⟩
          rw [hx] at hc0 he
          rw [hy] at hc1 he
          have t3 : (x != y) = true := by simpa using he
          have t4 : (x == y) = false := by simpa using he
          clear he hne hd hx hy
          go_wp2
          repeat (go_quiet (fail); try go_wp2)
          go_ret
          exact ⟨by rw [HD.out]; rfl, _, World.drewN_drewN ..⟩
      · have hk2 : k = l0.length := by omega
        have hd : decide (l0 = l1) = true := by
          rw [decide_eq_true_iff]
          apply List.ext_getElem HL.out
          intro j h1 h2
          have := hj.out j (by omega)
          rw [List.getD_eq_getElem?_getD, List.getD_eq_getElem?_getD, List.getElem?_eq_getElem h1, List.getElem?_eq_getElem h2] at this
          simpa using this
        have HD := Lib.hid hd
        clear hd hj
        go_wp2
        go_ret
        exact ⟨by rw [HD.out]; rfl, _, rfl⟩
  · have t1 : (l0.length != l1.length) = true := by simpa using hlen
    have t2 : ((l0.length : Int) != (l1.length : Int)) = true := by simp; omega
    have hd : decide (l0 = l1) = false := by
      have : l0 ≠ l1 := fun e => hlen (by rw [e])
      simpa using this
    have HD := Lib.hid hd
    clear hd hlen
    go_enter Tryd.func19, Tryd.ntmps19
    go_wp2
    go_ret
    exact ⟨by rw [HD.out]; rfl, 0, rfl⟩

/-- What the second loop of LockReaders has left. -/
structure LeftAt (r : List Nat) (i : Nat) (x : Nat) : Prop where
  lt : x < 65536
  is : mem x = r.drop i

theorem LeftAt.step {r : List Nat} {i x : Nat} (h : LeftAt r i x) (hi : i < r.length) : ∃ j : Nat, r[i]? = some j ∧ j < 16 ∧ LeftAt r (i + 1) (lv1 x j) ∧ lv1 x j < x := by
  have hd := List.drop_eq_getElem_cons hi
  have hm := h.is
  rw [hd] at hm
  obtain ⟨h1, h2, h3, h4⟩ := mem_lv1_head (Nat.lt_trans h.lt (by decide)) hm
  refine ⟨r[i], List.getElem?_eq_getElem hi, ?_, ⟨Nat.lt_trans h2 h.lt, h1⟩, h2⟩
  rcases Nat.lt_or_ge r[i] 16 with h5 | h5
  · exact h5
  · rw [lowBit (n := 16) h.lt h5] at h4; cases h4
end Go.Proofs.YtmfjncbccaifiaaDoor
