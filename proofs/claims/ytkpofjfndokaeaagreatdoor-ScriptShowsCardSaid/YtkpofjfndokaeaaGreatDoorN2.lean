/- Plain law: what a script is written as is read as it is. -/
import Derived.Test.YtkpofjfndokaeaaGreatDoorN1
import Derived.Test.YtkpofjfndokaeaaGreatDoorN0
import Derived.Test.YtkpofjfndokaeaaGreatDoorH2
import Derived.Test.YtkpofjfndokaeaaGreatDoorC7
namespace Go.Proofs.YtkpofjfndokaeaaGreatDoor
set_option linter.unusedVariables false
set_option linter.unusedSimpArgs false

/-- A byte as it is written, as bytes. -/
def q1 (c : UInt8) : List UInt8 := (quo1 c.toNat).map UInt8.ofNat
theorem quoB_eq (s : ByteArray) : quoB s = 34 :: ((s.data.toList.flatMap q1) ++ [34]) := by
  unfold quoB quoN quoPre q1
  rw [List.cons_append, List.map_cons, List.map_append, List.map_flatMap]
  rfl
theorem q1_fin : ∀ c : Fin 256, (q1 (UInt8.ofNat c.val) = if plainB c.val then [UInt8.ofNat c.val] else [92, 120, UInt8.ofNat (hexd (c.val / 16)), UInt8.ofNat (hexd (c.val % 16))]) ∧
    (∀ d ∈ q1 (UInt8.ofNat c.val), d ≠ 34 ∧ d ≠ 10) ∧ (plainB c.val = false → plainB 92 = false ∧ hexB (UInt8.ofNat (hexd (c.val / 16))).toNat = true ∧ hexB (UInt8.ofNat (hexd (c.val % 16))).toNat = true ∧
      UInt8.ofNat (16 * hexV (UInt8.ofNat (hexd (c.val / 16))).toNat + hexV (UInt8.ofNat (hexd (c.val % 16))).toNat) = UInt8.ofNat c.val) := by decide +kernel
theorem q1_all (c : UInt8) : (q1 c = if plainB c.toNat then [c] else [92, 120, UInt8.ofNat (hexd (c.toNat / 16)), UInt8.ofNat (hexd (c.toNat % 16))]) ∧
    (∀ d ∈ q1 c, d ≠ 34 ∧ d ≠ 10) ∧ (plainB c.toNat = false → plainB 92 = false ∧ hexB (UInt8.ofNat (hexd (c.toNat / 16))).toNat = true ∧ hexB (UInt8.ofNat (hexd (c.toNat % 16))).toNat = true ∧
      UInt8.ofNat (16 * hexV (UInt8.ofNat (hexd (c.toNat / 16))).toNat + hexV (UInt8.ofNat (hexd (c.toNat % 16))).toNat) = c) := by
  have := q1_fin ⟨c.toNat, UInt8.toNat_lt c⟩
  simpa using this
theorem unq_q1 : ∀ (l : List UInt8), unq (l.flatMap q1) = some l
  | [] => by rw [List.flatMap_nil]; rw [unq.eq_def]
  | c :: l => by
    have ih := unq_q1 l
    obtain ⟨h1, _, h3⟩ := q1_all c
    rw [List.flatMap_cons, h1]
    cases hp : plainB c.toNat with
    | true => rw [if_pos rfl, List.singleton_append, unq_plain hp, ih]; rfl
    | false =>
      obtain ⟨h4, h5, h6, h7⟩ := h3 hp
      rw [if_neg (by simp)]
      show unq (92 :: 120 :: _ :: _ :: l.flatMap q1) = _
      rw [unq_hex (c := 92) (show plainB (92 : UInt8).toNat = false from h4), if_pos ⟨rfl, rfl, h5, h6⟩, ih, Option.map_some, h7]
theorem textB_quo (s : ByteArray) : textB (quoB s) = some s.data.toList := by
  rw [quoB_eq]
  unfold textB
  rw [if_pos ⟨by simp only [List.length_cons, List.length_append, List.length_nil]; omega, rfl, by show ((34 :: s.data.toList.flatMap q1) ++ [34]).getLast? = _; exact List.getLast?_concat⟩]
  have e : ((34 :: (s.data.toList.flatMap q1 ++ [34])).drop 1).dropLast = s.data.toList.flatMap q1 := by simp
  rw [e, unq_q1]
theorem quo_body (s : ByteArray) : ∀ c ∈ s.data.toList.flatMap q1, c ≠ 34 ∧ c ≠ 10 := by
  intro c hc
  obtain ⟨d, _, hd⟩ := List.mem_flatMap.1 hc
  exact (q1_all d).2.1 c hd
theorem word_quo (s : ByteArray) : Word (quoB s) := by rw [quoB_eq]; exact word_text fun c hc => (quo_body s c hc).1
theorem quo_nl (s : ByteArray) : ∀ c ∈ quoB s, c ≠ 10 := by
  intro c hc
  rw [quoB_eq] at hc
  simp only [List.mem_cons, List.mem_append, List.mem_singleton] at hc
  rcases hc with rfl | hc | hc
  · decide
  · exact (quo_body s c hc).2
  · rcases hc with rfl | h
    · decide
    · cases h
theorem itoa_head (n : Int) : (Lib.itoa n).head? ≠ some 34 ∧ (Lib.itoa n).head? ≠ some 59 := by
  have hd := itoa_dig n
  cases h : Lib.itoa n with
  | nil => simp
  | cons c r =>
    have := hd c (by rw [h]; simp)
    have h34 : (34 : UInt8).toNat = 34 := rfl
    have h59 : (59 : UInt8).toNat = 59 := rfl
    simp only [List.head?_cons, ne_eq, Option.some.injEq]
    refine ⟨?_, ?_⟩ <;> (rintro rfl; omega)
theorem word_itoa (n : Int) : Word (Lib.itoa n) := word_plain (itoa_ne n) (itoa_nospace n) (itoa_head n).1
theorem itoa_nl (n : Int) : ∀ c ∈ Lib.itoa n, c ≠ 10 := fun c hc e => by
  subst e
  have := itoa_dig n 10 hc
  have h : (10 : UInt8).toNat = 10 := rfl
  omega
theorem fd_word (c : Cl) (f : Fd) : Word (f.text c) := by
  cases f
  · exact word_itoa _
  · exact word_quo _
  · exact word_quo _
  · exact word_quo _
  · exact word_itoa _
  · exact word_itoa _
theorem fd_nl (c : Cl) (f : Fd) : ∀ d ∈ f.text c, d ≠ 10 := by
  cases f
  · exact itoa_nl _
  · exact quo_nl _
  · exact quo_nl _
  · exact quo_nl _
  · exact itoa_nl _
  · exact itoa_nl _
theorem name_ok (i : Nat) (hi : i < 11) : Word (nameOf (i + 1)).data.toList ∧ (∀ d ∈ (nameOf (i + 1)).data.toList, d ≠ 10) ∧ formIx (nameOf (i + 1)).data.toList = some i := by
  have key : ∀ i : Fin 11, (nameOf (i.val + 1)).data.toList ≠ [] ∧ (∀ c ∈ (nameOf (i.val + 1)).data.toList, c ≠ 32) ∧ (nameOf (i.val + 1)).data.toList.head? ≠ some 34 ∧ (∀ d ∈ (nameOf (i.val + 1)).data.toList, d ≠ 10) ∧ formIx (nameOf (i.val + 1)).data.toList = some i.val := by decide +kernel
  obtain ⟨h1, h2, h3, h4, h5⟩ := key ⟨i, hi⟩
  exact ⟨word_plain h1 h2 h3, h4, h5⟩

theorem small_of {n : Int} (h : int32B n = true) : -2147483648 ≤ n ∧ n ≤ 2147483647 := by unfold int32B at h; simpa using h
/-- A field is taken from another call. -/
def Fd.set (c c0 : Cl) : Fd → Cl
  | .mode => { c0 with mode := c.mode } | .key => { c0 with key := c.key } | .high => { c0 with high := c.high } | .val => { c0 with val := c.val } | .draw => { c0 with draw := c.draw } | .n => { c0 with n := c.n }
theorem put_text (c0 c : Cl) (f : Fd) (h : f.ok c = true) : f.put c0 (f.text c) = some (f.set c c0) := by
  have ba : ∀ s : ByteArray, (⟨s.data.toList.toArray⟩ : ByteArray) = s := fun s => rfl
  cases f
  · obtain ⟨h0, h1⟩ := small_of h
    simp only [Fd.put, Fd.text, numB_itoa _ h0 h1, Option.map_some, Fd.set]
  · simp only [Fd.put, Fd.text, textB_quo, Option.map_some, ba, Fd.set]
  · simp only [Fd.put, Fd.text, textB_quo, Option.map_some, ba, Fd.set]
  · simp only [Fd.put, Fd.text, textB_quo, Option.map_some, ba, Fd.set]
  · obtain ⟨h0, h1⟩ := small_of h
    simp only [Fd.put, Fd.text, numB_itoa _ h0 h1, Option.map_some, Fd.set]
  · obtain ⟨h0, h1⟩ := small_of h
    simp only [Fd.put, Fd.text, numB_itoa _ h0 h1, Option.map_some, Fd.set]
theorem fill_all (c : Cl) : ∀ (fs : List Fd) (c0 : Cl), (∀ f ∈ fs, f.ok c = true) → fillB c0 fs (fs.map (Fd.text c)) = some (fs.foldl (fun c0 f => f.set c c0) c0)
  | [], c0, _ => rfl
  | f :: fs, c0, h => by
    rw [List.map_cons, fillB, put_text c0 c f (h f (by simp)), Option.bind_some, fill_all c fs _ (fun g hg => h g (by simp [hg]))]
    rfl
theorem set_back (k : Nat) (c : Cl) (hk : c.kind = (k : Int)) (hz : (flds k).foldl Cl.clear c = Cl.zero k) : (flds k).foldl (fun c0 f => f.set c c0) (Cl.zero k) = c := by
  obtain ⟨kind, mode, key, high, val, draw, n⟩ := c
  simp only at hk
  subst hk
  unfold flds at hz ⊢
  split at hz <;> (simp only [List.foldl_cons, List.foldl_nil, Cl.clear, Cl.zero, Cl.mk.injEq, true_and, and_true] at hz; simp [Fd.set, Cl.zero]) <;> simp_all
theorem fill_text (c : Cl) (h : rcall c = true) : fillB (Cl.zero c.kind) (flds c.kind.toNat) ((flds c.kind.toNat).map (Fd.text c)) = some c := by
  obtain ⟨⟨i, hi, hk⟩, hok⟩ := rcall_kind h
  have hz : (flds c.kind.toNat).foldl Cl.clear c = Cl.zero c.kind := by
    unfold rcall at h
    simp only [Bool.and_eq_true, decide_eq_true_eq] at h
    exact h.2
  have hk2 : c.kind = ((c.kind.toNat : Nat) : Int) := by omega
  rw [fill_all c _ _ hok]
  congr 1
  generalize hn : c.kind.toNat = k at *
  rw [hk2] at hz ⊢
  exact set_back k c hk2 hz
theorem call_text (c : Cl) (h : rcall c = true) : callB ((nameOf c.kind.toNat).data.toList :: (flds c.kind.toNat).map (Fd.text c)) = some c := by
  obtain ⟨⟨i, hi, hk⟩, _⟩ := rcall_kind h
  have hf := fill_text c h
  have hk2 : c.kind.toNat = i + 1 := by omega
  rw [hk2] at hf ⊢
  unfold callB
  simp only [(name_ok i hi).2.2, List.length_map, if_true]
  rw [← hk]
  exact hf
end Go.Proofs.YtkpofjfndokaeaaGreatDoor
