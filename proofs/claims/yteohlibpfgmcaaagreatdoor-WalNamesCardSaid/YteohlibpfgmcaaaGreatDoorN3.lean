/- Texts, commits as bytes: plain facts. -/
import Derived.Test.YteohlibpfgmcaaaGreatDoorN0
import Derived.Test.YteohlibpfgmcaaaGreatDoorN1
namespace Go.Proofs.YteohlibpfgmcaaaGreatDoor
set_option linter.unusedVariables false
set_option linter.unusedSimpArgs false

/-- A text that stands at a place. -/
def textB (s : ByteArray) : List UInt8 := varB s.size ++ s.data.toList
def takeT (b : List UInt8) (k most : Nat) : Option (ByteArray × Nat) :=
  match takeN b k with
  | none => none
  | some (n, q) => if most < n ∨ b.length - q < n then none else some (⟨((b.drop q).take n).toArray⟩, q + n)
/-- A write, a commit. -/
structure Wr where
  key : ByteArray
  val : ByteArray
  gone : Bool
  deriving DecidableEq
structure Cm where
  time : Int
  writes : List Wr
  deriving DecidableEq
def keyOk (s : ByteArray) : Bool := decide (0 < s.size) && decide (s.size ≤ 16)
def valOk (s : ByteArray) : Bool := decide (s.size ≤ 64)
/-- Is one text ahead of another one? -/
def ltT (a b : ByteArray) : Bool := decide (a.data.toList < b.data.toList)
def wrOk (w : Wr) : Bool := keyOk w.key && valOk w.val && !(w.gone && decide (w.val ≠ ⟨#[]⟩))
/-- Are all right, the keys rising (prev: the key ahead)? -/
def wrsOk : Option ByteArray → List Wr → Bool
  | _, [] => true
  | p, w :: r => wrOk w && (match p with | none => true | some k => ltT k w.key) && wrsOk (some w.key) r
def timeOk (t : Int) : Bool := decide (0 ≤ t) && decide (t < 1099511627776)
def cmOk (c : Cm) : Bool := timeOk c.time && decide (c.writes.length ≤ 64) && wrsOk none c.writes
def writeB (w : Wr) : List UInt8 := if w.gone then 1 :: textB w.key else 0 :: (textB w.key ++ textB w.val)
def commitB (c : Cm) : List UInt8 := 67 :: (varB c.time.toNat ++ varB c.writes.length ++ c.writes.flatMap writeB)
/-- Reading: a number of at most so much, a flag, a write, writes, a commit. -/
def numAt (b : List UInt8) (k most : Nat) : Option (Nat × Nat) :=
  match takeN b k with
  | none => none
  | some (n, q) => if most < n then none else some (n, q)
def flagAt (b : List UInt8) (k : Nat) : Option (Bool × Nat) :=
  match b[k]? with
  | none => none
  | some c => if 1 < c.toNat then none else some (c.toNat == 1, k + 1)
def readW (b : List UInt8) (k : Nat) : Option (Wr × Nat) :=
  (flagAt b k).bind fun p => (takeT b p.2 16).bind fun q => if p.1 = true then some (⟨q.1, ⟨#[]⟩, true⟩, q.2) else (takeT b q.2 64).map fun v => (⟨q.1, v.1, false⟩, v.2)
def readWs (b : List UInt8) : Nat → Nat → Option (List Wr × Nat)
  | 0, k => some ([], k)
  | n + 1, k => (readW b k).bind fun w => (readWs b n w.2).map fun p => (w.1 :: p.1, p.2)
def readC (b : List UInt8) : Option Cm :=
  if b[0]? ≠ some 67 then none
  else (numAt b 1 1099511627775).bind fun t => (numAt b t.2 64).bind fun n => (readWs b n.1 n.2).bind fun p =>
    if p.2 < b.length ∨ cmOk ⟨(t.1 : Int), p.1⟩ = false then none else some ⟨(t.1 : Int), p.1⟩

theorem ba_eta (s : ByteArray) : (⟨s.data.toList.toArray⟩ : ByteArray) = s := rfl
theorem ba_len (s : ByteArray) : s.data.toList.length = s.size := Array.length_toList
theorem takeT_textB (pre : List UInt8) (s : ByteArray) (post : List UInt8) (most : Nat) (hm : s.size ≤ most) (h64 : s.size < 18446744073709551616) : takeT (pre ++ textB s ++ post) pre.length most = some (s, pre.length + (textB s).length) := by
  have e : pre ++ textB s ++ post = pre ++ varB s.size ++ (s.data.toList ++ post) := by unfold textB; simp
  unfold takeT
  rw [e, takeN_varB pre s.size (by simpa using h64)]
  have hl := ba_len s
  have hd : (pre ++ varB s.size ++ (s.data.toList ++ post)).drop (pre.length + (varB s.size).length) = s.data.toList ++ post := by
    rw [← List.length_append, List.drop_left]
  simp only [hd]
  rw [if_neg]
  · rw [take_left_of hl]
    unfold textB
    rw [List.length_append, hl]
    simp; omega
  · rintro (h | h)
    · omega
    · simp only [List.length_append] at h
      omega
theorem readW_writeB (pre : List UInt8) (w : Wr) (post : List UInt8) (h : wrOk w = true) : readW (pre ++ writeB w ++ post) pre.length = some (w, pre.length + (writeB w).length) := by
  obtain ⟨key, val, gone⟩ := w
  unfold wrOk keyOk valOk at h
  simp only [Bool.and_eq_true, decide_eq_true_eq, Bool.not_eq_true'] at h
  obtain ⟨⟨⟨h1, h2⟩, h3⟩, h4⟩ := h
  have hf : ∀ (c : UInt8) (r : List UInt8), c.toNat ≤ 1 → flagAt (pre ++ (c :: r)) pre.length = some (c.toNat == 1, pre.length + 1) := by
    intro c r hc
    unfold flagAt
    rw [List.getElem?_append_right (Nat.le_refl _), Nat.sub_self]
    simp only [List.getElem?_cons_zero]
    rw [if_neg (by omega)]
  unfold readW writeB
  cases gone with
  | true =>
    have hv : val = ⟨#[]⟩ := by simpa using h4
    simp only [if_true]
    have e1 : pre ++ 1 :: textB key ++ post = pre ++ (1 :: (textB key ++ post)) := by simp
    have e2 : pre ++ 1 :: textB key ++ post = (pre ++ [1]) ++ textB key ++ post := by simp
    have hfl := hf 1 (textB key ++ post) (by decide)
    rw [← e1] at hfl
    rw [hfl]
    simp only [Option.bind_some]
    have ht := takeT_textB (pre ++ [1]) key post 16 h2 (by omega)
    rw [← e2, List.length_append] at ht
    rw [show pre.length + [(1 : UInt8)].length = pre.length + 1 from rfl] at ht
    rw [ht]
    simp only [Option.bind_some]
    rw [if_pos (by decide), hv]
    simp; omega
  | false =>
    simp only [Bool.false_eq_true, if_false]
    have e1 : pre ++ 0 :: (textB key ++ textB val) ++ post = pre ++ (0 :: (textB key ++ textB val ++ post)) := by simp
    have e2 : pre ++ 0 :: (textB key ++ textB val) ++ post = (pre ++ [0]) ++ textB key ++ (textB val ++ post) := by simp
    have e3 : pre ++ 0 :: (textB key ++ textB val) ++ post = (pre ++ [0] ++ textB key) ++ textB val ++ post := by simp
    have hfl := hf 0 (textB key ++ textB val ++ post) (by decide)
    rw [← e1] at hfl
    rw [hfl]
    simp only [Option.bind_some]
    have ht := takeT_textB (pre ++ [0]) key (textB val ++ post) 16 h2 (by omega)
    rw [← e2, List.length_append] at ht
    rw [show pre.length + [(0 : UInt8)].length = pre.length + 1 from rfl] at ht
    rw [ht]
    simp only [Option.bind_some]
    rw [if_neg (by decide)]
    have ht2 := takeT_textB (pre ++ [0] ++ textB key) val post 64 h3 (by omega)
    rw [← e3, List.length_append, List.length_append] at ht2
    rw [show pre.length + [(0 : UInt8)].length = pre.length + 1 from rfl] at ht2
    rw [ht2]
    simp; omega
theorem readWs_writes : ∀ (ws : List Wr) (pre post : List UInt8), (∀ w ∈ ws, wrOk w = true) → readWs (pre ++ ws.flatMap writeB ++ post) ws.length pre.length = some (ws, pre.length + (ws.flatMap writeB).length)
  | [], pre, post, _ => by simp [readWs]
  | w :: ws, pre, post, h => by
    have e1 : pre ++ (w :: ws).flatMap writeB ++ post = pre ++ writeB w ++ (ws.flatMap writeB ++ post) := by simp
    have e2 : pre ++ (w :: ws).flatMap writeB ++ post = (pre ++ writeB w) ++ ws.flatMap writeB ++ post := by simp
    have h1 := readW_writeB pre w (ws.flatMap writeB ++ post) (h w (by simp))
    have h2 := readWs_writes ws (pre ++ writeB w) post (fun x hx => h x (by simp [hx]))
    rw [← e1] at h1
    rw [← e2, List.length_append] at h2
    rw [List.length_cons, readWs, h1]
    simp only [Option.bind_some]
    rw [h2]
    simp; omega
theorem wrsOk_all : ∀ (ws : List Wr) (p : Option ByteArray), wrsOk p ws = true → ∀ w ∈ ws, wrOk w = true
  | [], _, _, w, hw => by simp at hw
  | x :: ws, p, h, w, hw => by
    simp only [wrsOk, Bool.and_eq_true] at h
    rcases List.mem_cons.1 hw with rfl | hw
    · exact h.1.1
    · exact wrsOk_all ws _ h.2 w hw
theorem readC_commitB {c : Cm} (h : cmOk c = true) : readC (commitB c) = some c := by
  obtain ⟨t, ws⟩ := c
  have h0 := h
  unfold cmOk timeOk at h
  simp only [Bool.and_eq_true, decide_eq_true_eq] at h
  obtain ⟨⟨⟨h1, h2⟩, h3⟩, h4⟩ := h
  obtain ⟨n, rfl⟩ := Int.eq_ofNat_of_zero_le h1
  unfold readC
  have e0 : (commitB ⟨(n : Int), ws⟩)[0]? = some 67 := rfl
  rw [if_neg (by rw [e0]; simp)]
  have e1 : commitB ⟨(n : Int), ws⟩ = [67] ++ varB n ++ (varB ws.length ++ ws.flatMap writeB) := by unfold commitB; simp
  have e2 : commitB ⟨(n : Int), ws⟩ = ([67] ++ varB n) ++ varB ws.length ++ ws.flatMap writeB := by unfold commitB; simp
  have e3 : commitB ⟨(n : Int), ws⟩ = ([67] ++ varB n ++ varB ws.length) ++ ws.flatMap writeB ++ [] := by unfold commitB; simp
  have t1 := takeN_varB [67] n (by omega) (varB ws.length ++ ws.flatMap writeB)
  rw [← e1] at t1
  have t2 := takeN_varB ([67] ++ varB n) ws.length (by omega) (ws.flatMap writeB)
  rw [← e2] at t2
  have t3 := readWs_writes ws ([67] ++ varB n ++ varB ws.length) [] (wrsOk_all _ _ h4)
  rw [← e3] at t3
  have n1 : numAt (commitB ⟨(n : Int), ws⟩) 1 1099511627775 = some (n, 1 + (varB n).length) := by
    unfold numAt
    rw [show (1 : Nat) = [(67 : UInt8)].length from rfl, t1]
    simp only
    rw [if_neg (by omega)]
  have n2 : numAt (commitB ⟨(n : Int), ws⟩) (1 + (varB n).length) 64 = some (ws.length, 1 + (varB n).length + (varB ws.length).length) := by
    unfold numAt
    rw [show 1 + (varB n).length = ([67] ++ varB n).length by simp; omega, t2]
    simp only
    rw [if_neg (by omega)]
  have n3 : readWs (commitB ⟨(n : Int), ws⟩) ws.length (1 + (varB n).length + (varB ws.length).length) = some (ws, (commitB ⟨(n : Int), ws⟩).length) := by
    have e4 : (commitB ⟨(n : Int), ws⟩).length = ([67] ++ varB n ++ varB ws.length).length + (ws.flatMap writeB).length := by rw [e3, List.append_nil, List.length_append]
    rw [show 1 + (varB n).length + (varB ws.length).length = ([67] ++ varB n ++ varB ws.length).length by simp; omega, t3, e4]
  rw [n1]
  simp only [Option.bind_some]
  rw [n2]
  simp only [Option.bind_some]
  rw [n3]
  simp only [Option.bind_some]
  rw [if_neg]
  rintro (h | h)
  · omega
  · rw [h0] at h; cases h
end Go.Proofs.YteohlibpfgmcaaaGreatDoor
