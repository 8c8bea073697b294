/- LockWords: what the document's functions come to, as printed, in the words of the lock layer: plain facts. -/
import Derived.Test.YtmfjncbccaifiaaDoorC1
import Derived.Test.YtmfjncbccaifiaaDoorPLockWordsx2
namespace Go.Proofs.YtmfjncbccaifiaaDoor
open Go.RowKit Go.Proofs.YtmfjncbccaifiaaDoor.PLockWords Go.Proofs.YtmfjncbccaifiaaDoorW.PrintWords Go.Proofs.YtmfjncbccaifiaaDoorW.PrintLast Go.Proofs.YtmfjncbccaifiaaDoorW.PrintMore
set_option linter.unusedVariables false
set_option linter.unusedSimpArgs false

theorem rRight (m : Nat) : varveref13_Right.f (m : Int) = some (rgt m) := by
  unfold varveref13_Right.f
  have e : Int.tmod (m : Int) 4294967296 = ((m % 4294967296 : Nat) : Int) := by
    rw [Int.tmod_eq_emod_of_nonneg (by omega)]; omega
  rw [e]
  unfold rgt
  by_cases h : m % 4294967296 < 65536
  · rw [if_pos (by omega)]
    have : decide ((m : Int) / 4294967296 ≤ 16) = decide (m / 4294967296 ≤ 16) := by rw [Bool.eq_iff_iff]; simp; omega
    rw [this]; simp [h]
  · rw [if_neg (by omega)]; simp [h]

theorem rWorker (a : Int) : varveref13_worker.f a = some (isW a) := by
  unfold varveref13_worker.f isW
  by_cases h : 0 ≤ a
  · rw [if_pos h]; simp [h]
  · rw [if_neg h]; simp [h]

/-- Who writes, as a number. -/
def wtr (m : Nat) : Int × Bool := if wrM m = 0 then (0, false) else ((Lib.ctz 64 (wrM m) : Nat), true)

theorem wrM_pos {m : Nat} (hr : rgt m = true) (h : 0 < m / 4294967296) : wrM m = 2 ^ (m / 4294967296 - 1) ∧ m / 4294967296 - 1 < 16 := by
  refine ⟨by unfold wrM; rw [if_pos ⟨hr, h⟩], ?_⟩
  unfold rgt at hr; simp at hr; omega

theorem wtr_eq (m : Nat) : wtr m = if rgt m = true ∧ 0 < m / 4294967296 then (((m / 4294967296 - 1 : Nat) : Int), true) else (0, false) := by
  by_cases h : rgt m = true ∧ 0 < m / 4294967296
  · obtain ⟨e, hl⟩ := wrM_pos h.1 h.2
    have hp : wrM m ≠ 0 := by rw [e]; have := Nat.two_pow_pos (m / 4294967296 - 1); omega
    unfold wtr
    rw [if_neg hp, if_pos h, e, ctz_pow _ hl]
  · have e : wrM m = 0 := by unfold wrM; rw [if_neg h]
    unfold wtr
    rw [if_pos e, if_neg h]

theorem wrap64_small {n : Int} (h0 : 0 ≤ n) (h1 : n < 4294967296) : wrap64 n = n := by unfold wrap64; omega

theorem rWriter (m : Nat) (hm : m < 18446744073709551616) : varveref13_Writer.f (m : Int) = some (wtr m) := by
  unfold varveref13_Writer.f
  rw [rRight, wtr_eq]
  simp only [Option.bind_some]
  cases hr : rgt m
  · simp
  · by_cases h : 0 < m / 4294967296
    · rw [if_pos rfl, if_neg (by omega), if_pos ⟨rfl, h⟩]
      have e1 : wrap64 ((m : Int) / 4294967296) = (m : Int) / 4294967296 := wrap64_small (by omega) (by omega)
      have e2 : wrap64 ((m : Int) / 4294967296 - 1) = (((m / 4294967296 - 1 : Nat)) : Int) := by rw [wrap64_small (by omega) (by omega)]; omega
      rw [e1, e2]
    · rw [if_pos rfl, if_pos (by omega), if_neg (fun h2 => h h2.2)]

theorem rReads (m k : Nat) (hk : k < 64) : varveref13_reads.f (m : Int) (k : Int) = some (m.testBit k) := by
  unfold varveref13_reads.f shr
  rw [if_pos (by omega), Int.toNat_natCast]
  have e : min k IntKind.u64.bits = k := Nat.min_eq_left (show k ≤ 64 by omega)
  rw [e]
  have e2 : (m : Int) / 2 ^ k = ((m / 2 ^ k : Nat) : Int) := by
    rw [Int.natCast_ediv]; simp
  rw [e2, Int.tmod_eq_emod_of_nonneg (Int.natCast_nonneg _), Nat.testBit_eq_decide_div_mod_eq]
  generalize m / 2 ^ k = y
  congr 1
  rw [Bool.eq_iff_iff]
  simp
  omega

theorem rWrong (m : Nat) (a : Int) : varveref13_wrong.f (m : Int) a = some (wrg m a) := by
  unfold varveref13_wrong.f wrg
  rw [rWorker, rRight]
  simp only [Option.bind_some]
  cases isW a <;> cases rgt m <;> simp

/-- The numbers from i on, d of them, at which p says yes. -/
def pick (p : Nat → Bool) (i d : Nat) : List Int := ((List.range' i d).filter p).map Int.ofNat
theorem pick_succ (p : Nat → Bool) (i d : Nat) : pick p i (d + 1) = (if p i = true then [(i : Int)] else []) ++ pick p (i + 1) d := by
  unfold pick
  rw [List.range'_succ, List.filter_cons]
  split <;> simp
theorem pick_congr {p q : Nat → Bool} {i d : Nat} (h : ∀ j, i ≤ j → j < i + d → p j = q j) : pick p i d = pick q i d := by
  unfold pick
  congr 1
  apply List.filter_congr
  intro j hj
  rw [List.mem_range'_1] at hj
  exact h j hj.1 hj.2

theorem mem_pick {x : Nat} (hx : x < 65536) : (mem x).map Int.ofNat = pick (fun i => x.testBit i) 0 16 := by
  unfold mem pick
  have e : List.range 64 = List.range' 0 16 ++ List.range' 16 48 := by decide
  rw [e, List.filter_append]
  have e2 : (List.range' 16 48).filter (fun i => x.testBit i) = [] := by
    rw [List.filter_eq_nil_iff]
    intro i hi
    rw [List.mem_range'_1] at hi
    rw [lowBit (n := 16) hx hi.1]; simp
  rw [e2, List.append_nil]

theorem rReaders_loop (m : Nat) (d : Nat) : ∀ (k i : Nat) (acc : List Int), i + d = 16 → 2 * d + 2 ≤ k → acc.length ≤ i →
    varveref13_Readers.l0 k (m : Int) acc true (i : Int) = some (acc ++ pick (fun j => m.testBit j) i d) := by
  induction d with
  | zero =>
    intro k i acc hi hk ha
    obtain ⟨k, rfl⟩ : ∃ q, k = q + 1 + 1 := ⟨k - 2, by omega⟩
    simp only [varveref13_Readers.l0]
    rw [if_neg (by omega)]
    simp only [varveref13_Readers.j1]
    simp [pick]
  | succ d ih =>
    intro k i acc hi hk ha
    obtain ⟨k, rfl⟩ : ∃ q, k = q + 1 + 1 := ⟨k - 2, by omega⟩
    simp only [varveref13_Readers.l0]
    rw [if_pos (by omega)]
    simp only [varveref13_Readers.j1]
    simp only [if_true]
    rw [rReads m i (by omega), wrap64_small (by omega) (by omega), show (i : Int) + 1 = ((i + 1 : Nat) : Int) by omega, pick_succ]
    simp only [Option.bind_some]
    cases hb : m.testBit i
    · rw [if_neg (by simp), ih k (i + 1) acc (by omega) (by omega) (by omega)]
      simp
    · rw [if_pos rfl, if_pos (by omega), ih k (i + 1) _ (by omega) (by omega) (by simp; omega)]
      simp

theorem rReaders (m : Nat) : varveref13_Readers.f 40 (m : Int) = some ((mem (rdM m)).map Int.ofNat) := by
  unfold varveref13_Readers.f
  rw [rRight]
  simp only [Option.bind_some]
  cases hr : rgt m
  · have e : rdM m = 0 := by unfold rdM; rw [if_neg (by simp [hr])]
    rw [e, mem_zero]
    rfl
  · have e : rdM m = m % 65536 := by unfold rdM; rw [if_pos hr]
    rw [mem_pick (rdM_lt m), e]
    have := rReaders_loop m 16 40 0 [] (by omega) (by omega) (by simp)
    rw [show ((0 : Nat) : Int) = (0 : Int) from rfl] at this
    rw [this, List.nil_append]
    congr 1
    apply pick_congr
    intro j _ hj
    rw [show (65536 : Nat) = 2 ^ 16 from rfl, Nat.testBit_mod_two_pow]
    simp; omega

/-- Is worker i in a's way? -/
def cnd (m : Nat) (a : Int) (b : Bool) (i : Nat) : Bool := !decide ((i : Int) = a) && (((wtr m).2 && decide ((wtr m).1 = (i : Int))) || (b && m.testBit i))

theorem rAgainst_loop (m : Nat) (a : Int) (b : Bool) (d : Nat) : ∀ (k i : Nat) (acc : List Int), i + d = 16 → d + 1 ≤ k → acc.length ≤ i →
    varveref13_Against.l0 k (m : Int) a b acc (wtr m).1 (wtr m).2 (i : Int) = some (acc ++ pick (cnd m a b) i d) := by
  induction d with
  | zero =>
    intro k i acc hi hk ha
    obtain ⟨k, rfl⟩ : ∃ q, k = q + 1 := ⟨k - 1, by omega⟩
    simp only [varveref13_Against.l0]
    rw [if_neg (by omega)]
    simp [pick]
  | succ d ih =>
    intro k i acc hi hk ha
    obtain ⟨k, rfl⟩ : ∃ q, k = q + 1 := ⟨k - 1, by omega⟩
    have no := ih k (i + 1) acc (by omega) (by omega) (by omega)
    have yes := ih k (i + 1) (acc ++ [(i : Int)]) (by omega) (by omega) (by simp; omega)
    have hw : wrap64 ((i : Int) + 1) = ((i + 1 : Nat) : Int) := by rw [wrap64_small (by omega) (by omega)]; omega
    have hlen : acc.length < 17592186044416 := by omega
    simp only [varveref13_Against.l0]
    rw [if_pos (by omega), rReads m i (by omega), hw, pick_succ, no, yes]
    simp only [Option.bind_some, if_pos hlen]
    unfold cnd
    by_cases h1 : (i : Int) = a
    · rw [if_pos h1]; simp [h1]
    · rw [if_neg h1]
      simp only [h1, decide_false, Bool.not_false, Bool.true_and]
      cases h2 : (wtr m).2 <;> by_cases h3 : (wtr m).1 = (i : Int) <;> cases b <;> cases h4 : m.testBit i <;> simp [h3]

theorem rAgainst (m : Nat) (a : Int) (b : Bool) (hm : m < 18446744073709551616) : varveref13_Against.f 40 (m : Int) a b = some ((agn m a b).map Int.ofNat) := by
  unfold varveref13_Against.f
  rw [rRight, rWorker]
  simp only [Option.bind_some]
  cases hr : rgt m
  · have e : agn m a b = [] := agn_wrong (m := m) (a := a) (fun h => by rw [(wrg_zero.1 h).2] at hr; cases hr) b
    rw [e]
    simp only [Bool.false_eq_true, if_false]
    rfl
  · simp only [if_true]
    cases hw : isW a
    · have e : agn m a b = [] := by unfold agn; rw [hw]; simp
      rw [e]
      rfl
    · obtain ⟨h1, h2⟩ := isW_true.1 hw
      obtain ⟨k, rfl⟩ := Int.eq_ofNat_of_zero_le h1
      have e : agn m (k : Int) b = mem (inWay m k b) := by unfold agn; rw [if_pos hw]; simp
      rw [e, mem_pick (inWay_lt m k b)]
      show varveref13_Against.j0 (39 + 1) (m : Int) (k : Int) b [] (!true) = _
      simp only [varveref13_Against.j0]
      rw [rWriter m hm]
      simp only [Option.bind_some, Bool.not_true, Bool.false_eq_true, if_false]
      have := rAgainst_loop m (k : Int) b 16 39 0 [] (by omega) (by omega) (by simp)
      rw [show ((0 : Nat) : Int) = (0 : Int) from rfl] at this
      rw [this, List.nil_append]
      congr 1
      apply pick_congr
      intro j _ hj
      have hrd : (rdM m).testBit j = m.testBit j := by
        unfold rdM
        rw [if_pos hr, show (65536 : Nat) = 2 ^ 16 from rfl, Nat.testBit_mod_two_pow]
        simp; omega
      have hwr : (wrM m).testBit j = ((wtr m).2 && decide ((wtr m).1 = (j : Int))) := by
        rw [wtr_eq]
        by_cases h : 0 < m / 4294967296
        · rw [(wrM_pos hr h).1, Nat.testBit_two_pow, if_pos ⟨hr, h⟩]
          rw [Bool.eq_iff_iff]; simp; omega
        · have e0 : wrM m = 0 := by unfold wrM; rw [if_neg (fun h2 => h h2.2)]
          rw [e0, if_neg (fun h2 => h h2.2)]; simp
      unfold cnd inWay
      rw [Nat.testBit_and, notBit k j (by omega)]
      have hj64 : decide (j < 64) = true := by simp; omega
      rw [hj64, Bool.true_and]
      have hne : decide ((j : Int) = (k : Int)) = decide (j = k) := by rw [Bool.eq_iff_iff]; simp; omega
      rw [hne, ← hwr]
      cases b
      · simp [Bool.and_comm]
      · simp only [if_true, Nat.testBit_or, hrd, Bool.true_and]
        exact Bool.and_comm _ _
end Go.Proofs.YtmfjncbccaifiaaDoor
