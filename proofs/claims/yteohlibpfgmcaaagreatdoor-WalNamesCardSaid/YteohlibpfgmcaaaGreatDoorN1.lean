/- The sum over bytes, bytes of a number, frames: plain facts. -/
import Derived.Lib.Hide
namespace Go.Proofs.YteohlibpfgmcaaaGreatDoor
set_option linter.unusedVariables false
set_option linter.unusedSimpArgs false

/-- The sum over bytes: a bit, a byte, bytes. -/
def crcBit (c : Nat) : Nat := (c / 2) ^^^ (if c % 2 = 1 then 3988292384 else 0)
def crcBits : Nat → Nat → Nat
  | 0, c => c
  | k + 1, c => crcBit (crcBits k c)
def crcByte (c : Nat) (x : UInt8) : Nat := crcBits 8 (c ^^^ x.toNat)
def crcFold (c : Nat) (l : List UInt8) : Nat := l.foldl crcByte c
def crcN (l : List UInt8) : Nat := crcFold 4294967295 l ^^^ 4294967295

theorem crcBit_lt {c : Nat} (hc : c < 4294967296) : crcBit c < 4294967296 := by
  unfold crcBit
  have h1 : c / 2 < 2 ^ 32 := by omega
  have h2 : (if c % 2 = 1 then 3988292384 else 0) < 2 ^ 32 := by split <;> omega
  exact Nat.xor_lt_two_pow h1 h2
theorem xor_cancel {a b p : Nat} (h : a ^^^ p = b ^^^ p) : a = b := by
  have := congrArg (· ^^^ p) h
  simpa [Nat.xor_assoc] using this
theorem crcBit_inj {c d : Nat} (hc : c < 4294967296) (hd : d < 4294967296) (h : crcBit c = crcBit d) : c = d := by
  unfold crcBit at h
  have tc : (c / 2).testBit 31 = false := Nat.testBit_lt_two_pow (by omega)
  have td : (d / 2).testBit 31 = false := Nat.testBit_lt_two_pow (by omega)
  have hp : Nat.testBit 3988292384 31 = true := by decide
  have hb := congrArg (Nat.testBit · 31) h
  simp only [Nat.testBit_xor, tc, td, Bool.false_xor] at hb
  by_cases h1 : c % 2 = 1
  · rw [if_pos h1, hp] at hb
    have h2 : d % 2 = 1 := by
      rcases Nat.lt_or_ge (d % 2) 1 with h3 | h3
      · rw [if_neg (by omega)] at hb; simp at hb
      · omega
    rw [if_pos h1, if_pos h2] at h
    have := xor_cancel h
    omega
  · rw [if_neg h1] at hb
    have h2 : ¬ d % 2 = 1 := by
      intro h3
      rw [if_pos h3, hp] at hb
      simp at hb
    rw [if_neg h1, if_neg h2] at h
    simp at h
    omega
theorem crcBits_lt : ∀ (k : Nat) {c : Nat}, c < 4294967296 → crcBits k c < 4294967296
  | 0, _, h => h
  | k + 1, _, h => crcBit_lt (crcBits_lt k h)
theorem crcBits_inj : ∀ (k : Nat) {c d : Nat}, c < 4294967296 → d < 4294967296 → crcBits k c = crcBits k d → c = d
  | 0, _, _, _, _, h => h
  | k + 1, _, _, hc, hd, h => crcBits_inj k hc hd (crcBit_inj (crcBits_lt k hc) (crcBits_lt k hd) h)
theorem xorB_lt {c : Nat} (x : UInt8) (hc : c < 4294967296) : c ^^^ x.toNat < 4294967296 :=
  Nat.xor_lt_two_pow (n := 32) hc (by have := x.toNat_lt; omega)
theorem crcByte_lt {c : Nat} (x : UInt8) (hc : c < 4294967296) : crcByte c x < 4294967296 := crcBits_lt 8 (xorB_lt x hc)
theorem crcByte_inj {c d : Nat} {x : UInt8} (hc : c < 4294967296) (hd : d < 4294967296) (h : crcByte c x = crcByte d x) : c = d :=
  xor_cancel (crcBits_inj 8 (xorB_lt x hc) (xorB_lt x hd) h)
theorem crcByte_inj2 {c : Nat} {x y : UInt8} (hc : c < 4294967296) (h : crcByte c x = crcByte c y) : x = y := by
  have := crcBits_inj 8 (xorB_lt x hc) (xorB_lt y hc) h
  rw [Nat.xor_comm c, Nat.xor_comm c] at this
  exact UInt8.toNat_inj.1 (xor_cancel this)
theorem crcFold_lt : ∀ (l : List UInt8) {c : Nat}, c < 4294967296 → crcFold c l < 4294967296
  | [], _, h => h
  | x :: l, c, h => crcFold_lt l (crcByte_lt x h)
theorem crcFold_append (c : Nat) (a b : List UInt8) : crcFold c (a ++ b) = crcFold (crcFold c a) b := by
  unfold crcFold; rw [List.foldl_append]
theorem crcFold_inj : ∀ (l : List UInt8) {c d : Nat}, c < 4294967296 → d < 4294967296 → crcFold c l = crcFold d l → c = d
  | [], _, _, _, _, h => h
  | x :: l, c, d, hc, hd, h => crcByte_inj hc hd (crcFold_inj l (crcByte_lt x hc) (crcByte_lt x hd) h)
theorem crcN_lt (l : List UInt8) : crcN l < 4294967296 := Nat.xor_lt_two_pow (n := 32) (crcFold_lt l (by omega)) (by omega)
/-- One byte that is another one is told. -/
theorem crcN_one {a b : List UInt8} {x y : UInt8} (h : crcN (a ++ x :: b) = crcN (a ++ y :: b)) : x = y := by
  unfold crcN at h
  have h1 := xor_cancel h
  rw [crcFold_append, crcFold_append] at h1
  have ha := crcFold_lt a (show (4294967295 : Nat) < 4294967296 by omega)
  exact crcByte_inj2 ha (crcFold_inj b (crcByte_lt x ha) (crcByte_lt y ha) h1)
/-- Bytes of a number, the lowest first. -/
def leB : Nat → Nat → List UInt8
  | _, 0 => []
  | n, k + 1 => UInt8.ofNat (n % 256) :: leB (n / 256) k
def toldN : List UInt8 → Nat
  | [] => 0
  | c :: r => c.toNat + 256 * toldN r
theorem leB_length : ∀ (k n : Nat), (leB n k).length = k
  | 0, _ => rfl
  | k + 1, n => by simp [leB, leB_length k]
theorem toldN_leB : ∀ (k n : Nat), n < 256 ^ k → toldN (leB n k) = n
  | 0, n, h => by simp at h; subst h; rfl
  | k + 1, n, h => by
    have := toldN_leB k (n / 256) (by rw [Nat.pow_succ] at h; omega)
    rw [leB, toldN, this, UInt8.toNat_ofNat']
    omega
theorem leB_toldN : ∀ (l : List UInt8), leB (toldN l) l.length = l
  | [] => rfl
  | c :: r => by
    have hc : c.toNat < 256 := c.toNat_lt
    rw [toldN, List.length_cons, leB, show (c.toNat + 256 * toldN r) % 256 = c.toNat by omega, show (c.toNat + 256 * toldN r) / 256 = toldN r by omega, leB_toldN r, UInt8.ofNat_toNat]
theorem toldN_lt : ∀ (l : List UInt8), toldN l < 256 ^ l.length
  | [] => by simp [toldN]
  | c :: r => by
    have hc : c.toNat < 256 := c.toNat_lt
    have := toldN_lt r
    rw [toldN, List.length_cons, Nat.pow_succ]
    omega
theorem toldN_inj {a b : List UInt8} (hl : a.length = b.length) (h : toldN a = toldN b) : a = b := by
  rw [← leB_toldN a, ← leB_toldN b, h, hl]
theorem take_left_of {α : Type} {a b : List α} {n : Nat} (h : a.length = n) : (a ++ b).take n = a := by rw [← h, List.take_left]
theorem drop_left_of {α : Type} {a b : List α} {n : Nat} (h : a.length = n) : (a ++ b).drop n = b := by rw [← h, List.drop_left]
/-- The stream of a frame: what it says of itself, its body, its sum. -/
def headB (seq n : Nat) : List UInt8 := leB seq 8 ++ leB n 4
def hdB (seq n : Nat) : List UInt8 := headB seq n ++ leB (crcN (headB seq n)) 4
def streamB (seq : Nat) (body : List UInt8) : List UInt8 := hdB seq body.length ++ body ++ leB (crcN (hdB seq body.length ++ body)) 4
/-- How many blocks a body of so many bytes takes. -/
def blocksN (n : Nat) : Nat := (n + 50) / 31
def padB (n : Nat) (s : List UInt8) : List UInt8 := s ++ List.replicate (31 * n - s.length) 0
/-- Blocks of a stream. -/
def blkB (first : Bool) : Nat → List UInt8 → List UInt8
  | 0, _ => []
  | k + 1, s => (if first then 161 else 178) :: s.take 31 ++ blkB false k (s.drop 31)
def frameB (seq : Nat) (body : List UInt8) : List UInt8 := blkB true (blocksN body.length) (padB (blocksN body.length) (streamB seq body))
/-- The stream that blocks bear. -/
def stripG (first : Bool) : Nat → List UInt8 → Option (List UInt8)
  | 0, _ => some []
  | k + 1, l => if first = false ∧ l[0]? ≠ some 178 then none else (stripG false k (l.drop 32)).map fun s => (l.drop 1).take 31 ++ s
/-- The frame that stands at a place. -/
def takeF (b : List UInt8) (k : Nat) : Option (Nat × List UInt8 × Nat) :=
  if k % 32 ≠ 0 ∨ b.length < k + 32 then none
  else
    let l := b.drop k
    let h := (l.drop 1).take 16
    let n := toldN ((h.drop 8).take 4)
    if l[0]? ≠ some 161 ∨ toldN (h.drop 12) ≠ crcN (h.take 12) ∨ 65536 < n ∨ l.length < blocksN n * 32 then none
    else match stripG true (blocksN n) l with
      | none => none
      | some s => if toldN ((s.drop (16 + n)).take 4) ≠ crcN (s.take (16 + n)) ∨ (s.drop (20 + n)).any (fun c => c != 0) = true then none
        else some (toldN (h.take 8), (s.drop 16).take n, k + blocksN n * 32)

theorem headB_length (seq n : Nat) : (headB seq n).length = 12 := by unfold headB; rw [List.length_append, leB_length, leB_length]
theorem hdB_length (seq n : Nat) : (hdB seq n).length = 16 := by unfold hdB; rw [List.length_append, headB_length, leB_length]
theorem streamB_length (seq : Nat) (body : List UInt8) : (streamB seq body).length = body.length + 20 := by
  unfold streamB; rw [List.length_append, List.length_append, hdB_length, leB_length]; omega
theorem blocksN_le (n : Nat) : n + 20 ≤ 31 * blocksN n := by unfold blocksN; omega
theorem padB_length {n : Nat} {s : List UInt8} (h : s.length ≤ 31 * n) : (padB n s).length = 31 * n := by
  unfold padB; rw [List.length_append, List.length_replicate]; omega
theorem blkB_length : ∀ (k : Nat) (f : Bool) (s : List UInt8), s.length = 31 * k → (blkB f k s).length = 32 * k
  | 0, _, _, _ => rfl
  | k + 1, f, s, h => by
    have := blkB_length k false (s.drop 31) (by rw [List.length_drop]; omega)
    rw [blkB, List.length_append, List.length_cons, List.length_take, this]
    omega
theorem frameB_length (seq : Nat) (body : List UInt8) : (frameB seq body).length = 32 * blocksN body.length := by
  unfold frameB
  exact blkB_length _ _ _ (padB_length (by rw [streamB_length]; exact blocksN_le _))
theorem blkB_head (k : Nat) (s : List UInt8) (hk : 0 < k) (post : List UInt8) : (blkB true k s ++ post)[0]? = some 161 := by
  obtain ⟨j, rfl⟩ : ∃ j, k = j + 1 := ⟨k - 1, by omega⟩
  rfl
theorem stripG_blkB : ∀ (k : Nat) (f : Bool) (s post : List UInt8), s.length = 31 * k → stripG f k (blkB f k s ++ post) = some s
  | 0, f, s, post, h => by
    have : s = [] := List.eq_nil_of_length_eq_zero (by omega)
    subst this; rfl
  | k + 1, f, s, post, h => by
    have ht : (s.take 31).length = 31 := by rw [List.length_take]; omega
    have ih := stripG_blkB k false (s.drop 31) post (by rw [List.length_drop]; omega)
    rw [blkB, stripG, if_neg]
    · have e1 : ((if f = true then 161 else 178 : UInt8) :: s.take 31 ++ blkB false k (s.drop 31) ++ post).drop 32 = blkB false k (s.drop 31) ++ post := by
        rw [List.append_assoc, List.cons_append, List.drop_succ_cons, drop_left_of ht]
      have e2 : (((if f = true then 161 else 178 : UInt8) :: s.take 31 ++ blkB false k (s.drop 31) ++ post).drop 1).take 31 = s.take 31 := by
        rw [List.append_assoc, List.cons_append, List.drop_succ_cons, List.drop_zero, take_left_of ht]
      rw [e1, e2, ih]
      simp
    · rintro ⟨rfl, h2⟩
      exact h2 rfl
theorem stripG_some : ∀ (k : Nat) (f : Bool) (l s : List UInt8), 32 * k ≤ l.length → (f = true → 0 < k → l[0]? = some 161) → stripG f k l = some s → l = blkB f k s ++ l.drop (32 * k) ∧ s.length = 31 * k
  | 0, f, l, s, _, _, h => by
    simp only [stripG, Option.some.injEq] at h
    subst h
    simp [blkB]
  | k + 1, f, l, s, hl, hf, h => by
    rw [stripG] at h
    split at h
    · cases h
    · rename_i hn
      obtain ⟨s', h1, rfl⟩ := Option.map_eq_some_iff.1 h
      obtain ⟨h2, h3⟩ := stripG_some k false (l.drop 32) s' (by rw [List.length_drop]; omega) (fun h => by cases h) h1
      have ht : ((l.drop 1).take 31).length = 31 := by rw [List.length_take, List.length_drop]; omega
      refine ⟨?_, by rw [List.length_append, ht, h3]; omega⟩
      have h0 : l[0]? = some (if f = true then 161 else 178) := by
        cases f with
        | true => exact hf rfl (by omega)
        | false =>
          apply Classical.byContradiction
          intro h4
          exact hn ⟨rfl, h4⟩
      rw [blkB]
      have e1 : ((l.drop 1).take 31 ++ s').take 31 = (l.drop 1).take 31 := take_left_of ht
      have e2 : ((l.drop 1).take 31 ++ s').drop 31 = s' := drop_left_of ht
      rw [e1, e2, List.append_assoc]
      have e3 : blkB false k s' ++ l.drop (32 * (k + 1)) = l.drop 32 := by
        conv => rhs; rw [h2]
        rw [List.drop_drop]
        rw [show 32 + 32 * k = 32 * (k + 1) by omega]
      rw [e3]
      have e4 : (l.drop 1).take 31 ++ l.drop 32 = l.drop 1 := by
        have := List.take_append_drop 31 (l.drop 1)
        rw [List.drop_drop] at this
        exact this
      rw [List.cons_append, e4]
      cases l with
      | nil => simp at hl
      | cons c r =>
        simp only [List.getElem?_cons_zero, Option.some.injEq] at h0
        rw [h0]
        rfl
/-- The first seventeen bytes of a frame. -/
theorem blkB_first (k : Nat) (s post : List UInt8) (hk : 0 < k) (hs : s.length = 31 * k) : ((blkB true k s ++ post).drop 1).take 16 = s.take 16 := by
  obtain ⟨j, rfl⟩ : ∃ j, k = j + 1 := ⟨k - 1, by omega⟩
  rw [blkB, List.append_assoc, List.cons_append, List.drop_succ_cons, List.drop_zero, List.take_append_of_le_length (by rw [List.length_take]; omega), List.take_take]
  rfl
theorem takeF_frameB {b pre post : List UInt8} {seq : Nat} {body : List UInt8} (hk : pre.length % 32 = 0) (hs : seq < 18446744073709551616) (hn : body.length ≤ 65536) (hb : b = pre ++ frameB seq body ++ post) :
    takeF b pre.length = some (seq, body, pre.length + (frameB seq body).length) := by
  have hfl := frameB_length seq body
  have hB : 0 < blocksN body.length := by unfold blocksN; omega
  have hsl := streamB_length seq body
  have hpl : (padB (blocksN body.length) (streamB seq body)).length = 31 * blocksN body.length := padB_length (by rw [hsl]; exact blocksN_le _)
  have hd : b.drop pre.length = frameB seq body ++ post := by rw [hb, List.append_assoc, List.drop_left]
  have hbl : b.length = pre.length + (frameB seq body).length + post.length := by rw [hb, List.length_append, List.length_append]
  have hh : ((b.drop pre.length).drop 1).take 16 = hdB seq body.length := by
    rw [hd]
    unfold frameB
    rw [blkB_first _ _ _ hB hpl]
    unfold padB streamB
    rw [List.append_assoc, List.append_assoc, take_left_of (hdB_length _ _)]
  have e8 : (hdB seq body.length).take 8 = leB seq 8 := by
    unfold hdB headB
    rw [List.append_assoc, take_left_of (leB_length _ _)]
  have e12 : (hdB seq body.length).take 12 = headB seq body.length := by
    unfold hdB
    rw [take_left_of (headB_length _ _)]
  have ed12 : (hdB seq body.length).drop 12 = leB (crcN (headB seq body.length)) 4 := by
    unfold hdB
    rw [drop_left_of (headB_length _ _)]
  have e84 : ((hdB seq body.length).drop 8).take 4 = leB body.length 4 := by
    unfold hdB headB
    rw [List.append_assoc, drop_left_of (leB_length _ _), take_left_of (leB_length _ _)]
  have t8 : toldN (leB seq 8) = seq := toldN_leB 8 seq (by simpa using hs)
  have tn : toldN (leB body.length 4) = body.length := toldN_leB 4 _ (by simp; omega)
  have tc : toldN (leB (crcN (headB seq body.length)) 4) = crcN (headB seq body.length) := toldN_leB 4 _ (by have := crcN_lt (headB seq body.length); simpa using this)
  have tc2 : toldN (leB (crcN (hdB seq body.length ++ body)) 4) = crcN (hdB seq body.length ++ body) := toldN_leB 4 _ (by have := crcN_lt (hdB seq body.length ++ body); simpa using this)
  have h0 : (b.drop pre.length)[0]? = some 161 := by rw [hd]; exact blkB_head _ _ hB _
  have hst : stripG true (blocksN body.length) (b.drop pre.length) = some (padB (blocksN body.length) (streamB seq body)) := by
    rw [hd]
    exact stripG_blkB _ _ _ _ hpl
  have p1 : ((padB (blocksN body.length) (streamB seq body)).drop (16 + body.length)).take 4 = leB (crcN (hdB seq body.length ++ body)) 4 := by
    unfold padB streamB
    rw [List.append_assoc, drop_left_of (by rw [List.length_append, hdB_length]), take_left_of (leB_length _ _)]
  have p2 : (padB (blocksN body.length) (streamB seq body)).take (16 + body.length) = hdB seq body.length ++ body := by
    unfold padB streamB
    rw [List.append_assoc, take_left_of (by rw [List.length_append, hdB_length])]
  have p3 : (padB (blocksN body.length) (streamB seq body)).drop (20 + body.length) = List.replicate (31 * blocksN body.length - (streamB seq body).length) 0 := by
    unfold padB
    rw [drop_left_of (by rw [hsl]; omega)]
  have p4 : ((padB (blocksN body.length) (streamB seq body)).drop 16).take body.length = body := by
    unfold padB streamB
    rw [List.append_assoc, List.append_assoc, drop_left_of (hdB_length _ _), take_left_of rfl]
  unfold takeF
  rw [if_neg (by rw [hbl]; omega)]
  simp only [hh, e84, tn, e12, ed12, tc, e8, t8]
  rw [if_neg (by
    rintro (h | h | h | h)
    · exact h h0
    · exact h rfl
    · omega
    · rw [List.length_drop, hbl] at h; omega)]
  rw [hst]
  simp only [p1, tc2, p2, p3, p4]
  rw [if_neg (by
    rintro (h | h)
    · exact h rfl
    · obtain ⟨x, hx, hx2⟩ := List.any_eq_true.1 h
      obtain ⟨_, rfl⟩ := List.mem_replicate.1 hx
      simp at hx2)]
  rw [hfl, Nat.mul_comm]
theorem takeF_some {b : List UInt8} {k seq next : Nat} {body : List UInt8} (h : takeF b k = some (seq, body, next)) : k % 32 = 0 ∧ seq < 18446744073709551616 ∧ body.length ≤ 65536 ∧ next = k + (frameB seq body).length ∧ next ≤ b.length ∧ b.drop k = frameB seq body ++ b.drop next := by
  unfold takeF at h
  split at h
  · cases h
  · rename_i h1
    simp only at h
    split at h
    · cases h
    · rename_i h2
      split at h
      · cases h
      · rename_i s hs
        split at h
        · cases h
        · rename_i h3
          simp only [Option.some.injEq, Prod.mk.injEq] at h
          obtain ⟨rfl, rfl, rfl⟩ := h
          obtain ⟨L, hL⟩ : ∃ L, L = b.drop k := ⟨_, rfl⟩
          rw [← hL] at h2 hs h3 ⊢
          obtain ⟨H, hH⟩ : ∃ H, H = (L.drop 1).take 16 := ⟨_, rfl⟩
          rw [← hH] at h2 hs h3 ⊢
          obtain ⟨n, hn⟩ : ∃ n, n = toldN ((H.drop 8).take 4) := ⟨_, rfl⟩
          rw [← hn] at h2 hs h3 ⊢
          have hLl : L.length = b.length - k := by rw [hL, List.length_drop]
          have hHl : H.length = 16 := by rw [hH, List.length_take, List.length_drop]; omega
          have hB : 0 < blocksN n := by unfold blocksN; omega
          have hbk : blocksN n * 32 ≤ L.length := Nat.le_of_not_lt fun hh => h2 (.inr (.inr (.inr hh)))
          have hn6 : n ≤ 65536 := Nat.le_of_not_lt fun hh => h2 (.inr (.inr (.inl hh)))
          have h0 : L[0]? = some 161 := Classical.byContradiction fun hh => h2 (.inl hh)
          have hc : toldN (H.drop 12) = crcN (H.take 12) := Classical.byContradiction fun hh => h2 (.inr (.inl hh))
          have hc2 : toldN ((s.drop (16 + n)).take 4) = crcN (s.take (16 + n)) := Classical.byContradiction fun hh => h3 (.inl hh)
          have hz : ¬ (s.drop (20 + n)).any (fun c => c != 0) = true := fun hh => h3 (.inr hh)
          obtain ⟨hd, hsl⟩ := stripG_some (blocksN n) true L s (by omega) (fun _ _ => h0) hs
          have hbn := blocksN_le n
          have hs16 : s.take 16 = H := by
            have := blkB_first (blocksN n) s (L.drop (32 * blocksN n)) hB hsl
            rw [← hd, ← hH] at this
            exact this.symm
          have hbody : ((s.drop 16).take n).length = n := by rw [List.length_take, List.length_drop]; omega
          have hH8 : leB (toldN (H.take 8)) 8 = H.take 8 := by
            have := leB_toldN (H.take 8)
            rwa [show (H.take 8).length = 8 by rw [List.length_take]; omega] at this
          have hH4 : leB n 4 = (H.drop 8).take 4 := by
            have := leB_toldN ((H.drop 8).take 4)
            rw [show ((H.drop 8).take 4).length = 4 by rw [List.length_take, List.length_drop]; omega, ← hn] at this
            exact this
          have hH12 : headB (toldN (H.take 8)) n = H.take 12 := by
            unfold headB
            rw [hH8, hH4, ← List.take_add]
          have hHd : leB (crcN (H.take 12)) 4 = H.drop 12 := by
            have := leB_toldN (H.drop 12)
            rw [show (H.drop 12).length = 4 by rw [List.length_drop]; omega, hc] at this
            exact this
          have hHH : hdB (toldN (H.take 8)) n = H := by
            unfold hdB
            rw [hH12, hHd, List.take_append_drop]
          have hst : H ++ (s.drop 16).take n = s.take (16 + n) := by
            rw [List.take_add, hs16]
          have hsum : leB (crcN (s.take (16 + n))) 4 = (s.drop (16 + n)).take 4 := by
            have := leB_toldN ((s.drop (16 + n)).take 4)
            rw [show ((s.drop (16 + n)).take 4).length = 4 by rw [List.length_take, List.length_drop]; omega, hc2] at this
            exact this
          have hstream : streamB (toldN (H.take 8)) ((s.drop 16).take n) = s.take (20 + n) := by
            unfold streamB
            rw [hbody, hHH, hst, hsum, show 20 + n = (16 + n) + 4 by omega, ← List.take_add]
          have hpad : padB (blocksN n) (s.take (20 + n)) = s := by
            unfold padB
            have e : List.replicate (31 * blocksN n - (s.take (20 + n)).length) (0 : UInt8) = s.drop (20 + n) := by
              apply List.ext_getElem?
              intro j
              by_cases hj : j < (s.drop (20 + n)).length
              · rw [List.length_drop] at hj
                rw [List.getElem?_replicate, if_pos (by rw [List.length_take]; omega), List.getElem?_eq_getElem (by rw [List.length_drop]; exact hj)]
                congr 1
                apply Classical.byContradiction
                intro hne
                apply hz
                rw [List.any_eq_true]
                exact ⟨_, List.getElem_mem (by rw [List.length_drop]; exact hj), by rw [bne_iff_ne]; exact fun h => hne h.symm⟩
              · rw [List.length_drop] at hj
                rw [List.getElem?_eq_none (by rw [List.length_replicate, List.length_take]; omega), List.getElem?_eq_none (by rw [List.length_drop]; omega)]
            rw [e, List.take_append_drop]
          have hfr : frameB (toldN (H.take 8)) ((s.drop 16).take n) = blkB true (blocksN n) s := by
            unfold frameB
            rw [hbody, hstream, hpad]
          have hfl : (frameB (toldN (H.take 8)) ((s.drop 16).take n)).length = 32 * blocksN n := by rw [hfr, blkB_length _ _ _ hsl]
          refine ⟨by omega, ?_, by rw [hbody]; exact hn6, by rw [hfl]; omega, by omega, ?_⟩
          · have := toldN_lt (H.take 8)
            rw [show (H.take 8).length = 8 by rw [List.length_take]; omega] at this
            simpa using this
          · rw [hfr]
            conv => lhs; rw [hd]
            rw [hL, List.drop_drop, show 32 * blocksN n = blocksN n * 32 by omega]
end Go.Proofs.YteohlibpfgmcaaaGreatDoor
