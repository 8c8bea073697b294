/- Graph.Cycle of the lock layer: the one statement that draws its order. -/
import Derived.Test.YtmfjncbccaifiaaDoorE6
namespace Go.Proofs.YtmfjncbccaifiaaDoor
open Go.RowKit Go.Shelf
set_option linter.unusedVariables false
set_option linter.unusedSimpArgs false
attribute [local go_sem] Oper.semAt_some

def ops22 : Array Oper := #[{ dst := some 77, op := Op.load 40 (Operand.tmp 2), type := 40, pos := "lock.go:168", after := #[], guard := none }, { dst := some 78, op := Op.load 27 (Operand.tmp 13), type := 27, pos := "lock.go:168", after := #[], guard := none }, { dst := some 79, op := Op.load 27 (Operand.tmp 13), type := 27, pos := "lock.go:168", after := #[], guard := none }, { dst := some 80, op := Op.call { callee := Callee.builtin Builtin.len, args := #[Operand.tmp 79], argTypes := #[27] }, type := 3, pos := "lock.go:168", after := #[{ on := 2, ground := Ground.data }], guard := none }, { dst := some 81, op := Op.binOp BinOp.sub 3 (Operand.tmp 80) (Operand.const (Value.int IntKind.i64 1)) 3, type := 3, pos := "lock.go:168", after := #[{ on := 3, ground := Ground.data }], guard := none }, { dst := some 82, op := Op.indexAddr 27 (Operand.tmp 78) (Operand.tmp 81), type := 0, pos := "lock.go:168", after := #[{ on := 1, ground := Ground.data }, { on := 4, ground := Ground.data }], guard := none }, { dst := some 83, op := Op.load 3 (Operand.tmp 82), type := 3, pos := "lock.go:168", after := #[{ on := 5, ground := Ground.data }], guard := none }, { dst := some 84, op := Op.nilCheck (Operand.tmp 77), type := 0, pos := "lock.go:168", after := #[{ on := 0, ground := Ground.data }], guard := none }, { dst := some 85, op := Op.fieldAddr 71 (Operand.tmp 84) 0, type := 0, pos := "lock.go:168", after := #[{ on := 7, ground := Ground.data }], guard := none }, { dst := some 86, op := Op.indexAddr 69 (Operand.tmp 85) (Operand.tmp 83), type := 0, pos := "lock.go:168", after := #[{ on := 8, ground := Ground.data }, { on := 6, ground := Ground.data }], guard := none }, { dst := some 87, op := Op.load 22 (Operand.tmp 86), type := 22, pos := "lock.go:168", after := #[{ on := 9, ground := Ground.data }], guard := none }, { dst := some 88, op := Op.move (Operand.tmp 15), type := 22, pos := "lock.go:168", after := #[], guard := none }, { dst := some 89, op := Op.binOp BinOp.and 22 (Operand.tmp 87) (Operand.tmp 88) 22, type := 22, pos := "lock.go:168", after := #[{ on := 10, ground := Ground.data }, { on := 11, ground := Ground.data }], guard := none }, { dst := some 90, op := Op.call { callee := Callee.value (Operand.func 36), args := #[Operand.tmp 89], argTypes := #[22] }, type := 64, pos := "lock.go:168", after := #[{ on := 12, ground := Ground.data }], guard := none }]
def region22 : Code := Code.region 22 ops22 true

theorem mem_ready {md : Region.Mode} {ops : Array Oper} {listed : Array Bool} {i : Nat} : i ∈ Region.ready md ops listed ↔ i < ops.size ∧ (!listed.getD i true && ((ops[i]?).map (·.after.all fun e => !Region.binds md e || listed.getD e.on false)).getD false) = true := by
  unfold Region.ready
  rw [List.mem_filter, List.mem_range]
theorem ready22_0 (b0 b1 b2 b3 b4 b5 b6 b7 b8 b9 b10 b11 b12 : Bool) : 0 ∈ Region.ready .any ops22 #[b0, b1, b2, b3, b4, b5, b6, b7, b8, b9, b10, b11, b12, false] ↔ (!b0) = true := by
  rw [mem_ready]
  simp [ops22, Region.binds, and_assoc]
theorem ready22_1 (b0 b1 b2 b3 b4 b5 b6 b7 b8 b9 b10 b11 b12 : Bool) : 1 ∈ Region.ready .any ops22 #[b0, b1, b2, b3, b4, b5, b6, b7, b8, b9, b10, b11, b12, false] ↔ (!b1) = true := by
  rw [mem_ready]
  simp [ops22, Region.binds, and_assoc]
theorem ready22_2 (b0 b1 b2 b3 b4 b5 b6 b7 b8 b9 b10 b11 b12 : Bool) : 2 ∈ Region.ready .any ops22 #[b0, b1, b2, b3, b4, b5, b6, b7, b8, b9, b10, b11, b12, false] ↔ (!b2) = true := by
  rw [mem_ready]
  simp [ops22, Region.binds, and_assoc]
theorem ready22_3 (b0 b1 b2 b3 b4 b5 b6 b7 b8 b9 b10 b11 b12 : Bool) : 3 ∈ Region.ready .any ops22 #[b0, b1, b2, b3, b4, b5, b6, b7, b8, b9, b10, b11, b12, false] ↔ (!b3 && b2) = true := by
  rw [mem_ready]
  simp [ops22, Region.binds, and_assoc]
theorem ready22_4 (b0 b1 b2 b3 b4 b5 b6 b7 b8 b9 b10 b11 b12 : Bool) : 4 ∈ Region.ready .any ops22 #[b0, b1, b2, b3, b4, b5, b6, b7, b8, b9, b10, b11, b12, false] ↔ (!b4 && b3) = true := by
  rw [mem_ready]
  simp [ops22, Region.binds, and_assoc]
theorem ready22_5 (b0 b1 b2 b3 b4 b5 b6 b7 b8 b9 b10 b11 b12 : Bool) : 5 ∈ Region.ready .any ops22 #[b0, b1, b2, b3, b4, b5, b6, b7, b8, b9, b10, b11, b12, false] ↔ (!b5 && b1 && b4) = true := by
  rw [mem_ready]
  simp [ops22, Region.binds, and_assoc]
theorem ready22_6 (b0 b1 b2 b3 b4 b5 b6 b7 b8 b9 b10 b11 b12 : Bool) : 6 ∈ Region.ready .any ops22 #[b0, b1, b2, b3, b4, b5, b6, b7, b8, b9, b10, b11, b12, false] ↔ (!b6 && b5) = true := by
  rw [mem_ready]
  simp [ops22, Region.binds, and_assoc]
theorem ready22_7 (b0 b1 b2 b3 b4 b5 b6 b7 b8 b9 b10 b11 b12 : Bool) : 7 ∈ Region.ready .any ops22 #[b0, b1, b2, b3, b4, b5, b6, b7, b8, b9, b10, b11, b12, false] ↔ (!b7 && b0) = true := by
  rw [mem_ready]
  simp [ops22, Region.binds, and_assoc]
theorem ready22_8 (b0 b1 b2 b3 b4 b5 b6 b7 b8 b9 b10 b11 b12 : Bool) : 8 ∈ Region.ready .any ops22 #[b0, b1, b2, b3, b4, b5, b6, b7, b8, b9, b10, b11, b12, false] ↔ (!b8 && b7) = true := by
  rw [mem_ready]
  simp [ops22, Region.binds, and_assoc]
theorem ready22_9 (b0 b1 b2 b3 b4 b5 b6 b7 b8 b9 b10 b11 b12 : Bool) : 9 ∈ Region.ready .any ops22 #[b0, b1, b2, b3, b4, b5, b6, b7, b8, b9, b10, b11, b12, false] ↔ (!b9 && b8 && b6) = true := by
  rw [mem_ready]
  simp [ops22, Region.binds, and_assoc]
theorem ready22_10 (b0 b1 b2 b3 b4 b5 b6 b7 b8 b9 b10 b11 b12 : Bool) : 10 ∈ Region.ready .any ops22 #[b0, b1, b2, b3, b4, b5, b6, b7, b8, b9, b10, b11, b12, false] ↔ (!b10 && b9) = true := by
  rw [mem_ready]
  simp [ops22, Region.binds, and_assoc]
theorem ready22_11 (b0 b1 b2 b3 b4 b5 b6 b7 b8 b9 b10 b11 b12 : Bool) : 11 ∈ Region.ready .any ops22 #[b0, b1, b2, b3, b4, b5, b6, b7, b8, b9, b10, b11, b12, false] ↔ (!b11) = true := by
  rw [mem_ready]
  simp [ops22, Region.binds, and_assoc]
theorem ready22_12 (b0 b1 b2 b3 b4 b5 b6 b7 b8 b9 b10 b11 b12 : Bool) : 12 ∈ Region.ready .any ops22 #[b0, b1, b2, b3, b4, b5, b6, b7, b8, b9, b10, b11, b12, false] ↔ (!b12 && b10 && b11) = true := by
  rw [mem_ready]
  simp [ops22, Region.binds, and_assoc]
theorem ready22_13 (b0 b1 b2 b3 b4 b5 b6 b7 b8 b9 b10 b11 b12 : Bool) : 13 ∈ Region.ready .any ops22 #[b0, b1, b2, b3, b4, b5, b6, b7, b8, b9, b10, b11, b12, false] ↔ (b12) = true := by
  rw [mem_ready]
  simp [ops22, Region.binds, and_assoc]
theorem ready22_lt {listed : Array Bool} {i : Nat} (h : i ∈ Region.ready .any ops22 listed) : i < 14 := (mem_ready.1 h).1

set_option maxHeartbeats 16000000 in
set_option maxRecDepth 100000 in
theorem walk22 (F : Fence) (n l : Nat) (h36 : F.fn 36) (hro : F.round = none) (h1 : 1 ≤ n)
    (bx C gc cc gb kk a wa ri x : Nat) (W : World) (Q : Exit → Act → World → Prop) (v0 v1 v3 v4 v5 v6 v7 v8 v9 v10 v11 v12 v14 v16 v17 v18 v19 v20 v21 v22 v23 v24 v25 v26 v27 v28 v29 v30 v31 v32 v33 v34 v35 v36 v37 v38 v39 v40 v41 v42 v43 v44 v45 v46 v47 v48 v49 v50 v51 v52 v53 v54 v55 v56 v57 v58 v59 v60 v61 v62 v63 v64 v65 v66 v67 v68 v69 v70 v71 v72 v73 v74 v75 v76 v77 v78 v79 v80 v81 v82 v83 v84 v85 v86 v87 v88 v89 v90 v91 v92 v93 v94 v95 v96 : Value)
    (hc2 : W.cell? ⟨bx, 0, none⟩ = some (.pointer (some ⟨gb, 0, none⟩))) (hcC : W.cell? ⟨C, 0, none⟩ = some (.slice (some ⟨gc, 0, none⟩) (kk + 1) cc)) (hlast : W.cell? ⟨gc, kk, none⟩ = some (.int .i64 (a : Int))) (ca : W.cell? ⟨gb, a, none⟩ = some (.int .u64 (wa : Int)))
    (ha16 : a < 16) (hkk16 : kk < 16) (hand : bits .and .u64 (wa : Int) (ri : Int) = (x : Int))
    (hQ : Q .normal { tmps := #[v0, v1, .pointer (some ⟨bx, 0, none⟩), v3, v4, v5, v6, v7, v8, v9, v10, v11, v12, .pointer (some ⟨C, 0, none⟩), v14, .int .u64 (ri : Int), v16, v17, v18, v19, v20, v21, v22, v23, v24, v25, v26, v27, v28, v29, v30, v31, v32, v33, v34, v35, v36, v37, v38, v39, v40, v41, v42, v43, v44, v45, v46, v47, v48, v49, v50, v51, v52, v53, v54, v55, v56, v57, v58, v59, v60, v61, v62, v63, v64, v65, v66, v67, v68, v69, v70, v71, v72, v73, v74, v75, v76, .pointer (some ⟨gb, 0, none⟩), .slice (some ⟨gc, 0, none⟩) (kk + 1) cc, .slice (some ⟨gc, 0, none⟩) (kk + 1) cc, .int .i64 ((kk : Int) + 1), .int .i64 (kk : Int), .pointer (some ⟨gc, kk, none⟩), .int .i64 (a : Int), .pointer (some ⟨gb, 0, none⟩), .pointer (some ⟨gb, 0, none⟩), .pointer (some ⟨gb, a, none⟩), .int .u64 (wa : Int), .int .u64 (ri : Int), .int .u64 (x : Int), .func (.func 47) #[] #[.pointer (some ⟨W.heap.size, 0, none⟩)], v91, v92, v93, v94, v95, v96], defers := [] } (W.alloc (.cells #[.int .u64 (x : Int)] 22)))
    : ∀ (f : Nat) (b0 b1 b2 b3 b4 b5 b6 b7 b8 b9 b10 b11 b12 : Bool) (s0 s1 s2 s3 s4 s5 s6 s7 s8 s9 s10 s11 s12 : Value) (h0 : b0 = true → s0 = .pointer (some ⟨gb, 0, none⟩)) (h1 : b1 = true → s1 = .slice (some ⟨gc, 0, none⟩) (kk + 1) cc) (h2 : b2 = true → s2 = .slice (some ⟨gc, 0, none⟩) (kk + 1) cc) (h3 : b3 = true → s3 = .int .i64 ((kk : Int) + 1)) (h4 : b4 = true → s4 = .int .i64 (kk : Int)) (h5 : b5 = true → s5 = .pointer (some ⟨gc, kk, none⟩)) (h6 : b6 = true → s6 = .int .i64 (a : Int)) (h7 : b7 = true → s7 = .pointer (some ⟨gb, 0, none⟩)) (h8 : b8 = true → s8 = .pointer (some ⟨gb, 0, none⟩)) (h9 : b9 = true → s9 = .pointer (some ⟨gb, a, none⟩)) (h10 : b10 = true → s10 = .int .u64 (wa : Int)) (h11 : b11 = true → s11 = .int .u64 (ri : Int)) (h12 : b12 = true → s12 = .int .u64 (x : Int)) (c3_2 : b3 = true → b2 = true) (c4_3 : b4 = true → b3 = true) (c5_1 : b5 = true → b1 = true) (c5_4 : b5 = true → b4 = true) (c6_5 : b6 = true → b5 = true) (c7_0 : b7 = true → b0 = true) (c8_7 : b8 = true → b7 = true) (c9_8 : b9 = true → b8 = true) (c9_6 : b9 = true → b6 = true) (c10_9 : b10 = true → b9 = true) (c12_10 : b12 = true → b10 = true) (c12_11 : b12 = true → b11 = true) (hf : f + (b0.toNat + b1.toNat + b2.toNat + b3.toNat + b4.toNat + b5.toNat + b6.toNat + b7.toNat + b8.toNat + b9.toNat + b10.toNat + b11.toNat + b12.toNat) = 13),
      wpAnyIn (F.inRound l) n Tryd.prog .any ops22 Q (f + 1) #[b0, b1, b2, b3, b4, b5, b6, b7, b8, b9, b10, b11, b12, false] { tmps := #[v0, v1, .pointer (some ⟨bx, 0, none⟩), v3, v4, v5, v6, v7, v8, v9, v10, v11, v12, .pointer (some ⟨C, 0, none⟩), v14, .int .u64 (ri : Int), v16, v17, v18, v19, v20, v21, v22, v23, v24, v25, v26, v27, v28, v29, v30, v31, v32, v33, v34, v35, v36, v37, v38, v39, v40, v41, v42, v43, v44, v45, v46, v47, v48, v49, v50, v51, v52, v53, v54, v55, v56, v57, v58, v59, v60, v61, v62, v63, v64, v65, v66, v67, v68, v69, v70, v71, v72, v73, v74, v75, v76, s0, s1, s2, s3, s4, s5, s6, s7, s8, s9, s10, s11, s12, v90, v91, v92, v93, v94, v95, v96], defers := [] } W := by
  have hw1 : IntKind.i64.wrap (kk : Int) = (kk : Int) := by rw [IntKind.wrap_i64]; omega
  have q1 : (kk : Int) < (kk : Int) + 1 := by omega
  have q2 : (a : Int) < 16 := by omega
  intro f
  induction f with
  | zero =>
    intro b0 b1 b2 b3 b4 b5 b6 b7 b8 b9 b10 b11 b12 s0 s1 s2 s3 s4 s5 s6 s7 s8 s9 s10 s11 s12 h0 h1 h2 h3 h4 h5 h6 h7 h8 h9 h10 h11 h12 c3_2 c4_3 c5_1 c5_4 c6_5 c7_0 c8_7 c9_8 c9_6 c10_9 c12_10 c12_11 hf
    refine ⟨fun h0 => ?_, ?_⟩
    · have hn : ∀ i, i ∉ Region.ready .any ops22 #[b0, b1, b2, b3, b4, b5, b6, b7, b8, b9, b10, b11, b12, false] := by rw [h0]; intro i hi; cases hi
      have t0 : b0 = true := by
        cases hb : b0
        · exact absurd ((ready22_0 b0 b1 b2 b3 b4 b5 b6 b7 b8 b9 b10 b11 b12).2 (by simp [hb])) (hn 0)
        · rfl
      have t1 : b1 = true := by
        cases hb : b1
        · exact absurd ((ready22_1 b0 b1 b2 b3 b4 b5 b6 b7 b8 b9 b10 b11 b12).2 (by simp [hb])) (hn 1)
        · rfl
      have t2 : b2 = true := by
        cases hb : b2
        · exact absurd ((ready22_2 b0 b1 b2 b3 b4 b5 b6 b7 b8 b9 b10 b11 b12).2 (by simp [hb])) (hn 2)
        · rfl
      have t11 : b11 = true := by
        cases hb : b11
        · exact absurd ((ready22_11 b0 b1 b2 b3 b4 b5 b6 b7 b8 b9 b10 b11 b12).2 (by simp [hb])) (hn 11)
        · rfl
      have t3 : b3 = true := by
        cases hb : b3
        · exact absurd ((ready22_3 b0 b1 b2 b3 b4 b5 b6 b7 b8 b9 b10 b11 b12).2 (by simp [hb, t2])) (hn 3)
        · rfl
      have t4 : b4 = true := by
        cases hb : b4
        · exact absurd ((ready22_4 b0 b1 b2 b3 b4 b5 b6 b7 b8 b9 b10 b11 b12).2 (by simp [hb, t3])) (hn 4)
        · rfl
      have t5 : b5 = true := by
        cases hb : b5
        · exact absurd ((ready22_5 b0 b1 b2 b3 b4 b5 b6 b7 b8 b9 b10 b11 b12).2 (by simp [hb, t1, t4])) (hn 5)
        · rfl
      have t6 : b6 = true := by
        cases hb : b6
        · exact absurd ((ready22_6 b0 b1 b2 b3 b4 b5 b6 b7 b8 b9 b10 b11 b12).2 (by simp [hb, t5])) (hn 6)
        · rfl
      have t7 : b7 = true := by
        cases hb : b7
        · exact absurd ((ready22_7 b0 b1 b2 b3 b4 b5 b6 b7 b8 b9 b10 b11 b12).2 (by simp [hb, t0])) (hn 7)
        · rfl
      have t8 : b8 = true := by
        cases hb : b8
        · exact absurd ((ready22_8 b0 b1 b2 b3 b4 b5 b6 b7 b8 b9 b10 b11 b12).2 (by simp [hb, t7])) (hn 8)
        · rfl
      have t9 : b9 = true := by
        cases hb : b9
        · exact absurd ((ready22_9 b0 b1 b2 b3 b4 b5 b6 b7 b8 b9 b10 b11 b12).2 (by simp [hb, t8, t6])) (hn 9)
        · rfl
      have t10 : b10 = true := by
        cases hb : b10
        · exact absurd ((ready22_10 b0 b1 b2 b3 b4 b5 b6 b7 b8 b9 b10 b11 b12).2 (by simp [hb, t9])) (hn 10)
        · rfl
      have t12 : b12 = true := by
        cases hb : b12
        · exact absurd ((ready22_12 b0 b1 b2 b3 b4 b5 b6 b7 b8 b9 b10 b11 b12).2 (by simp [hb, t10, t11])) (hn 12)
        · rfl
      exact absurd ((ready22_13 b0 b1 b2 b3 b4 b5 b6 b7 b8 b9 b10 b11 b12).2 (by simp [t12])) (hn 13)
    · intro i hi
      have hlt := ready22_lt hi
      obtain rfl | rfl | rfl | rfl | rfl | rfl | rfl | rfl | rfl | rfl | rfl | rfl | rfl | rfl : i = 0 ∨ i = 1 ∨ i = 2 ∨ i = 3 ∨ i = 4 ∨ i = 5 ∨ i = 6 ∨ i = 7 ∨ i = 8 ∨ i = 9 ∨ i = 10 ∨ i = 11 ∨ i = 12 ∨ i = 13 := by omega
      · have hm := (ready22_0 b0 b1 b2 b3 b4 b5 b6 b7 b8 b9 b10 b11 b12).1 hi
        clear hi hlt
        simp only [Bool.and_eq_true, Bool.not_eq_true'] at hm
        subst hm
        exfalso
        have z1 := Bool.toNat_le b1
        have z2 := Bool.toNat_le b2
        have z3 := Bool.toNat_le b3
        have z4 := Bool.toNat_le b4
        have z5 := Bool.toNat_le b5
        have z6 := Bool.toNat_le b6
        have z7 := Bool.toNat_le b7
        have z8 := Bool.toNat_le b8
        have z9 := Bool.toNat_le b9
        have z10 := Bool.toNat_le b10
        have z11 := Bool.toNat_le b11
        have z12 := Bool.toNat_le b12
        simp only [Bool.toNat_true, Bool.toNat_false] at hf
        omega
      · have hm := (ready22_1 b0 b1 b2 b3 b4 b5 b6 b7 b8 b9 b10 b11 b12).1 hi
        clear hi hlt
        simp only [Bool.and_eq_true, Bool.not_eq_true'] at hm
        subst hm
        exfalso
        have z0 := Bool.toNat_le b0
        have z2 := Bool.toNat_le b2
        have z3 := Bool.toNat_le b3
        have z4 := Bool.toNat_le b4
        have z5 := Bool.toNat_le b5
        have z6 := Bool.toNat_le b6
        have z7 := Bool.toNat_le b7
        have z8 := Bool.toNat_le b8
        have z9 := Bool.toNat_le b9
        have z10 := Bool.toNat_le b10
        have z11 := Bool.toNat_le b11
        have z12 := Bool.toNat_le b12
        simp only [Bool.toNat_true, Bool.toNat_false] at hf
        omega
      · have hm := (ready22_2 b0 b1 b2 b3 b4 b5 b6 b7 b8 b9 b10 b11 b12).1 hi
        clear hi hlt
        simp only [Bool.and_eq_true, Bool.not_eq_true'] at hm
        subst hm
        exfalso
        have z0 := Bool.toNat_le b0
        have z1 := Bool.toNat_le b1
        have z3 := Bool.toNat_le b3
        have z4 := Bool.toNat_le b4
        have z5 := Bool.toNat_le b5
        have z6 := Bool.toNat_le b6
        have z7 := Bool.toNat_le b7
        have z8 := Bool.toNat_le b8
        have z9 := Bool.toNat_le b9
        have z10 := Bool.toNat_le b10
        have z11 := Bool.toNat_le b11
        have z12 := Bool.toNat_le b12
        simp only [Bool.toNat_true, Bool.toNat_false] at hf
        omega
      · have hm := (ready22_3 b0 b1 b2 b3 b4 b5 b6 b7 b8 b9 b10 b11 b12).1 hi
        clear hi hlt
        simp only [Bool.and_eq_true, Bool.not_eq_true'] at hm
        obtain ⟨rfl, rfl⟩ := hm
        exfalso
        have z0 := Bool.toNat_le b0
        have z1 := Bool.toNat_le b1
        have z4 := Bool.toNat_le b4
        have z5 := Bool.toNat_le b5
        have z6 := Bool.toNat_le b6
        have z7 := Bool.toNat_le b7
        have z8 := Bool.toNat_le b8
        have z9 := Bool.toNat_le b9
        have z10 := Bool.toNat_le b10
        have z11 := Bool.toNat_le b11
        have z12 := Bool.toNat_le b12
        simp only [Bool.toNat_true, Bool.toNat_false] at hf
        omega
      · have hm := (ready22_4 b0 b1 b2 b3 b4 b5 b6 b7 b8 b9 b10 b11 b12).1 hi
        clear hi hlt
        simp only [Bool.and_eq_true, Bool.not_eq_true'] at hm
        obtain ⟨rfl, rfl⟩ := hm
        exfalso
        have z0 := Bool.toNat_le b0
        have z1 := Bool.toNat_le b1
        have z2 := Bool.toNat_le b2
        have z5 := Bool.toNat_le b5
        have z6 := Bool.toNat_le b6
        have z7 := Bool.toNat_le b7
        have z8 := Bool.toNat_le b8
        have z9 := Bool.toNat_le b9
        have z10 := Bool.toNat_le b10
        have z11 := Bool.toNat_le b11
        have z12 := Bool.toNat_le b12
        simp only [Bool.toNat_true, Bool.toNat_false] at hf
        omega
      · have hm := (ready22_5 b0 b1 b2 b3 b4 b5 b6 b7 b8 b9 b10 b11 b12).1 hi
        clear hi hlt
        simp only [Bool.and_eq_true, Bool.not_eq_true'] at hm
        obtain ⟨⟨rfl, rfl⟩, rfl⟩ := hm
        exfalso
        have z0 := Bool.toNat_le b0
        have z2 := Bool.toNat_le b2
        have z3 := Bool.toNat_le b3
        have z6 := Bool.toNat_le b6
        have z7 := Bool.toNat_le b7
        have z8 := Bool.toNat_le b8
        have z9 := Bool.toNat_le b9
        have z10 := Bool.toNat_le b10
        have z11 := Bool.toNat_le b11
        have z12 := Bool.toNat_le b12
        simp only [Bool.toNat_true, Bool.toNat_false] at hf
        omega
      · have hm := (ready22_6 b0 b1 b2 b3 b4 b5 b6 b7 b8 b9 b10 b11 b12).1 hi
        clear hi hlt
        simp only [Bool.and_eq_true, Bool.not_eq_true'] at hm
        obtain ⟨rfl, rfl⟩ := hm
        exfalso
        have z0 := Bool.toNat_le b0
        have z1 := Bool.toNat_le b1
        have z2 := Bool.toNat_le b2
        have z3 := Bool.toNat_le b3
        have z4 := Bool.toNat_le b4
        have z7 := Bool.toNat_le b7
        have z8 := Bool.toNat_le b8
        have z9 := Bool.toNat_le b9
        have z10 := Bool.toNat_le b10
        have z11 := Bool.toNat_le b11
        have z12 := Bool.toNat_le b12
        simp only [Bool.toNat_true, Bool.toNat_false] at hf
        omega
      · have hm := (ready22_7 b0 b1 b2 b3 b4 b5 b6 b7 b8 b9 b10 b11 b12).1 hi
        clear hi hlt
        simp only [Bool.and_eq_true, Bool.not_eq_true'] at hm
        obtain ⟨rfl, rfl⟩ := hm
        exfalso
        have z1 := Bool.toNat_le b1
        have z2 := Bool.toNat_le b2
        have z3 := Bool.toNat_le b3
        have z4 := Bool.toNat_le b4
        have z5 := Bool.toNat_le b5
        have z6 := Bool.toNat_le b6
        have z8 := Bool.toNat_le b8
        have z9 := Bool.toNat_le b9
        have z10 := Bool.toNat_le b10
        have z11 := Bool.toNat_le b11
        have z12 := Bool.toNat_le b12
        simp only [Bool.toNat_true, Bool.toNat_false] at hf
        omega
      · have hm := (ready22_8 b0 b1 b2 b3 b4 b5 b6 b7 b8 b9 b10 b11 b12).1 hi
        clear hi hlt
        simp only [Bool.and_eq_true, Bool.not_eq_true'] at hm
        obtain ⟨rfl, rfl⟩ := hm
        exfalso
        have z0 := Bool.toNat_le b0
        have z1 := Bool.toNat_le b1
        have z2 := Bool.toNat_le b2
        have z3 := Bool.toNat_le b3
        have z4 := Bool.toNat_le b4
        have z5 := Bool.toNat_le b5
        have z6 := Bool.toNat_le b6
        have z9 := Bool.toNat_le b9
        have z10 := Bool.toNat_le b10
        have z11 := Bool.toNat_le b11
        have z12 := Bool.toNat_le b12
        simp only [Bool.toNat_true, Bool.toNat_false] at hf
        omega
      · have hm := (ready22_9 b0 b1 b2 b3 b4 b5 b6 b7 b8 b9 b10 b11 b12).1 hi
        clear hi hlt
        simp only [Bool.and_eq_true, Bool.not_eq_true'] at hm
        obtain ⟨⟨rfl, rfl⟩, rfl⟩ := hm
        exfalso
        have z0 := Bool.toNat_le b0
        have z1 := Bool.toNat_le b1
        have z2 := Bool.toNat_le b2
        have z3 := Bool.toNat_le b3
        have z4 := Bool.toNat_le b4
        have z5 := Bool.toNat_le b5
        have z7 := Bool.toNat_le b7
        have z10 := Bool.toNat_le b10
        have z11 := Bool.toNat_le b11
        have z12 := Bool.toNat_le b12
        simp only [Bool.toNat_true, Bool.toNat_false] at hf
        omega
      · have hm := (ready22_10 b0 b1 b2 b3 b4 b5 b6 b7 b8 b9 b10 b11 b12).1 hi
        clear hi hlt
        simp only [Bool.and_eq_true, Bool.not_eq_true'] at hm
        obtain ⟨rfl, rfl⟩ := hm
        exfalso
        have z0 := Bool.toNat_le b0
        have z1 := Bool.toNat_le b1
        have z2 := Bool.toNat_le b2
        have z3 := Bool.toNat_le b3
        have z4 := Bool.toNat_le b4
        have z5 := Bool.toNat_le b5
        have z6 := Bool.toNat_le b6
        have z7 := Bool.toNat_le b7
        have z8 := Bool.toNat_le b8
        have z11 := Bool.toNat_le b11
        have z12 := Bool.toNat_le b12
        simp only [Bool.toNat_true, Bool.toNat_false] at hf
        omega
      · have hm := (ready22_11 b0 b1 b2 b3 b4 b5 b6 b7 b8 b9 b10 b11 b12).1 hi
        clear hi hlt
        simp only [Bool.and_eq_true, Bool.not_eq_true'] at hm
        subst hm
        exfalso
        have z0 := Bool.toNat_le b0
        have z1 := Bool.toNat_le b1
        have z2 := Bool.toNat_le b2
        have z3 := Bool.toNat_le b3
        have z4 := Bool.toNat_le b4
        have z5 := Bool.toNat_le b5
        have z6 := Bool.toNat_le b6
        have z7 := Bool.toNat_le b7
        have z8 := Bool.toNat_le b8
        have z9 := Bool.toNat_le b9
        have z10 := Bool.toNat_le b10
        have z12 := Bool.toNat_le b12
        simp only [Bool.toNat_true, Bool.toNat_false] at hf
        omega
      · have hm := (ready22_12 b0 b1 b2 b3 b4 b5 b6 b7 b8 b9 b10 b11 b12).1 hi
        clear hi hlt
        simp only [Bool.and_eq_true, Bool.not_eq_true'] at hm
        obtain ⟨⟨rfl, rfl⟩, rfl⟩ := hm
        exfalso
        have z0 := Bool.toNat_le b0
        have z1 := Bool.toNat_le b1
        have z2 := Bool.toNat_le b2
        have z3 := Bool.toNat_le b3
        have z4 := Bool.toNat_le b4
        have z5 := Bool.toNat_le b5
        have z6 := Bool.toNat_le b6
        have z7 := Bool.toNat_le b7
        have z8 := Bool.toNat_le b8
        have z9 := Bool.toNat_le b9
        simp only [Bool.toNat_true, Bool.toNat_false] at hf
        omega
      · have hm := (ready22_13 b0 b1 b2 b3 b4 b5 b6 b7 b8 b9 b10 b11 b12).1 hi
        clear hi hlt hf
        subst hm
        obtain rfl : b10 = true := c12_10 rfl
        obtain rfl : b11 = true := c12_11 rfl
        obtain rfl : b9 = true := c10_9 rfl
        obtain rfl : b8 = true := c9_8 rfl
        obtain rfl : b6 = true := c9_6 rfl
        obtain rfl : b7 = true := c8_7 rfl
        obtain rfl : b0 = true := c7_0 rfl
        obtain rfl : b5 = true := c6_5 rfl
        obtain rfl : b1 = true := c5_1 rfl
        obtain rfl : b4 = true := c5_4 rfl
        obtain rfl : b3 = true := c4_3 rfl
        obtain rfl : b2 = true := c3_2 rfl
        obtain rfl := h0 rfl
        obtain rfl := h1 rfl
        obtain rfl := h2 rfl
        obtain rfl := h3 rfl
        obtain rfl := h4 rfl
        obtain rfl := h5 rfl
        obtain rfl := h6 rfl
        obtain rfl := h7 rfl
        obtain rfl := h8 rfl
        obtain rfl := h9 rfl
        obtain rfl := h10 rfl
        obtain rfl := h11 rfl
        obtain rfl := h12 rfl
        clear c3_2 c4_3 c5_1 c5_4 c6_5 c7_0 c8_7 c9_8 c9_6 c10_9 c12_10 c12_11
        have hr : Region.ready .any ops22 #[true, true, true, true, true, true, true, true, true, true, true, true, true, true] = [] := by kernel_rfl
        refine wpOpIn_step (o := { dst := some 90, op := Op.call { callee := Callee.value (Operand.func 36), args := #[Operand.tmp 89], argTypes := #[22] }, type := 64, pos := "lock.go:168", after := #[{ on := 12, ground := Ground.data }], guard := none }) rfl (fun K hK => ?_)
        go_simp
        gi_wp2_with (gi_at_call 36; refine (CallsIn.inRound l (members_in F (n - 1) h36 hro _ _)).mono ?_; rintro e w' ⟨rfl, rfl⟩)
        first | exact hK _ _ (wpAnyIn_done hr hQ _) | exact wpAnyIn_done hr hQ _
  | succ f ih =>
    intro b0 b1 b2 b3 b4 b5 b6 b7 b8 b9 b10 b11 b12 s0 s1 s2 s3 s4 s5 s6 s7 s8 s9 s10 s11 s12 h0 h1 h2 h3 h4 h5 h6 h7 h8 h9 h10 h11 h12 c3_2 c4_3 c5_1 c5_4 c6_5 c7_0 c8_7 c9_8 c9_6 c10_9 c12_10 c12_11 hf
    refine ⟨fun h0 => ?_, ?_⟩
    · have hn : ∀ i, i ∉ Region.ready .any ops22 #[b0, b1, b2, b3, b4, b5, b6, b7, b8, b9, b10, b11, b12, false] := by rw [h0]; intro i hi; cases hi
      have t0 : b0 = true := by
        cases hb : b0
        · exact absurd ((ready22_0 b0 b1 b2 b3 b4 b5 b6 b7 b8 b9 b10 b11 b12).2 (by simp [hb])) (hn 0)
        · rfl
      have t1 : b1 = true := by
        cases hb : b1
        · exact absurd ((ready22_1 b0 b1 b2 b3 b4 b5 b6 b7 b8 b9 b10 b11 b12).2 (by simp [hb])) (hn 1)
        · rfl
      have t2 : b2 = true := by
        cases hb : b2
        · exact absurd ((ready22_2 b0 b1 b2 b3 b4 b5 b6 b7 b8 b9 b10 b11 b12).2 (by simp [hb])) (hn 2)
        · rfl
      have t11 : b11 = true := by
        cases hb : b11
        · exact absurd ((ready22_11 b0 b1 b2 b3 b4 b5 b6 b7 b8 b9 b10 b11 b12).2 (by simp [hb])) (hn 11)
        · rfl
      have t3 : b3 = true := by
        cases hb : b3
        · exact absurd ((ready22_3 b0 b1 b2 b3 b4 b5 b6 b7 b8 b9 b10 b11 b12).2 (by simp [hb, t2])) (hn 3)
        · rfl
      have t4 : b4 = true := by
        cases hb : b4
        · exact absurd ((ready22_4 b0 b1 b2 b3 b4 b5 b6 b7 b8 b9 b10 b11 b12).2 (by simp [hb, t3])) (hn 4)
        · rfl
      have t5 : b5 = true := by
        cases hb : b5
        · exact absurd ((ready22_5 b0 b1 b2 b3 b4 b5 b6 b7 b8 b9 b10 b11 b12).2 (by simp [hb, t1, t4])) (hn 5)
        · rfl
      have t6 : b6 = true := by
        cases hb : b6
        · exact absurd ((ready22_6 b0 b1 b2 b3 b4 b5 b6 b7 b8 b9 b10 b11 b12).2 (by simp [hb, t5])) (hn 6)
        · rfl
      have t7 : b7 = true := by
        cases hb : b7
        · exact absurd ((ready22_7 b0 b1 b2 b3 b4 b5 b6 b7 b8 b9 b10 b11 b12).2 (by simp [hb, t0])) (hn 7)
        · rfl
      have t8 : b8 = true := by
        cases hb : b8
        · exact absurd ((ready22_8 b0 b1 b2 b3 b4 b5 b6 b7 b8 b9 b10 b11 b12).2 (by simp [hb, t7])) (hn 8)
        · rfl
      have t9 : b9 = true := by
        cases hb : b9
        · exact absurd ((ready22_9 b0 b1 b2 b3 b4 b5 b6 b7 b8 b9 b10 b11 b12).2 (by simp [hb, t8, t6])) (hn 9)
        · rfl
      have t10 : b10 = true := by
        cases hb : b10
        · exact absurd ((ready22_10 b0 b1 b2 b3 b4 b5 b6 b7 b8 b9 b10 b11 b12).2 (by simp [hb, t9])) (hn 10)
        · rfl
      have t12 : b12 = true := by
        cases hb : b12
        · exact absurd ((ready22_12 b0 b1 b2 b3 b4 b5 b6 b7 b8 b9 b10 b11 b12).2 (by simp [hb, t10, t11])) (hn 12)
        · rfl
      exact absurd ((ready22_13 b0 b1 b2 b3 b4 b5 b6 b7 b8 b9 b10 b11 b12).2 (by simp [t12])) (hn 13)
    · intro i hi
      have hlt := ready22_lt hi
      obtain rfl | rfl | rfl | rfl | rfl | rfl | rfl | rfl | rfl | rfl | rfl | rfl | rfl | rfl : i = 0 ∨ i = 1 ∨ i = 2 ∨ i = 3 ∨ i = 4 ∨ i = 5 ∨ i = 6 ∨ i = 7 ∨ i = 8 ∨ i = 9 ∨ i = 10 ∨ i = 11 ∨ i = 12 ∨ i = 13 := by omega
      · have hm := (ready22_0 b0 b1 b2 b3 b4 b5 b6 b7 b8 b9 b10 b11 b12).1 hi
        clear hi hlt
        simp only [Bool.and_eq_true, Bool.not_eq_true'] at hm
        subst hm
        refine wpOpIn_step (o := { dst := some 77, op := Op.load 40 (Operand.tmp 2), type := 40, pos := "lock.go:168", after := #[], guard := none }) rfl (fun K hK => ?_)
        go_simp
        refine hK _ _ ?_
        exact ih true b1 b2 b3 b4 b5 b6 b7 b8 b9 b10 b11 b12 (.pointer (some ⟨gb, 0, none⟩)) s1 s2 s3 s4 s5 s6 s7 s8 s9 s10 s11 s12 (by first | exact fun _ => rfl | exact h0 | exact fun _ => h0 trivial) (by first | exact fun _ => rfl | exact h1 | exact fun _ => h1 trivial) (by first | exact fun _ => rfl | exact h2 | exact fun _ => h2 trivial) (by first | exact fun _ => rfl | exact h3 | exact fun _ => h3 trivial) (by first | exact fun _ => rfl | exact h4 | exact fun _ => h4 trivial) (by first | exact fun _ => rfl | exact h5 | exact fun _ => h5 trivial) (by first | exact fun _ => rfl | exact h6 | exact fun _ => h6 trivial) (by first | exact fun _ => rfl | exact h7 | exact fun _ => h7 trivial) (by first | exact fun _ => rfl | exact h8 | exact fun _ => h8 trivial) (by first | exact fun _ => rfl | exact h9 | exact fun _ => h9 trivial) (by first | exact fun _ => rfl | exact h10 | exact fun _ => h10 trivial) (by first | exact fun _ => rfl | exact h11 | exact fun _ => h11 trivial) (by first | exact fun _ => rfl | exact h12 | exact fun _ => h12 trivial) (by first | exact fun _ => rfl | exact c3_2 | exact fun _ => c3_2 trivial) (by first | exact fun _ => rfl | exact c4_3 | exact fun _ => c4_3 trivial) (by first | exact fun _ => rfl | exact c5_1 | exact fun _ => c5_1 trivial) (by first | exact fun _ => rfl | exact c5_4 | exact fun _ => c5_4 trivial) (by first | exact fun _ => rfl | exact c6_5 | exact fun _ => c6_5 trivial) (by first | exact fun _ => rfl | exact c7_0 | exact fun _ => c7_0 trivial) (by first | exact fun _ => rfl | exact c8_7 | exact fun _ => c8_7 trivial) (by first | exact fun _ => rfl | exact c9_8 | exact fun _ => c9_8 trivial) (by first | exact fun _ => rfl | exact c9_6 | exact fun _ => c9_6 trivial) (by first | exact fun _ => rfl | exact c10_9 | exact fun _ => c10_9 trivial) (by first | exact fun _ => rfl | exact c12_10 | exact fun _ => c12_10 trivial) (by first | exact fun _ => rfl | exact c12_11 | exact fun _ => c12_11 trivial) (by simp only [Bool.toNat_true, Bool.toNat_false] at hf ⊢; omega)
      · have hm := (ready22_1 b0 b1 b2 b3 b4 b5 b6 b7 b8 b9 b10 b11 b12).1 hi
        clear hi hlt
        simp only [Bool.and_eq_true, Bool.not_eq_true'] at hm
        subst hm
        refine wpOpIn_step (o := { dst := some 78, op := Op.load 27 (Operand.tmp 13), type := 27, pos := "lock.go:168", after := #[], guard := none }) rfl (fun K hK => ?_)
        go_simp
        refine hK _ _ ?_
        exact ih b0 true b2 b3 b4 b5 b6 b7 b8 b9 b10 b11 b12 s0 (.slice (some ⟨gc, 0, none⟩) (kk + 1) cc) s2 s3 s4 s5 s6 s7 s8 s9 s10 s11 s12 (by first | exact fun _ => rfl | exact h0 | exact fun _ => h0 trivial) (by first | exact fun _ => rfl | exact h1 | exact fun _ => h1 trivial) (by first | exact fun _ => rfl | exact h2 | exact fun _ => h2 trivial) (by first | exact fun _ => rfl | exact h3 | exact fun _ => h3 trivial) (by first | exact fun _ => rfl | exact h4 | exact fun _ => h4 trivial) (by first | exact fun _ => rfl | exact h5 | exact fun _ => h5 trivial) (by first | exact fun _ => rfl | exact h6 | exact fun _ => h6 trivial) (by first | exact fun _ => rfl | exact h7 | exact fun _ => h7 trivial) (by first | exact fun _ => rfl | exact h8 | exact fun _ => h8 trivial) (by first | exact fun _ => rfl | exact h9 | exact fun _ => h9 trivial) (by first | exact fun _ => rfl | exact h10 | exact fun _ => h10 trivial) (by first | exact fun _ => rfl | exact h11 | exact fun _ => h11 trivial) (by first | exact fun _ => rfl | exact h12 | exact fun _ => h12 trivial) (by first | exact fun _ => rfl | exact c3_2 | exact fun _ => c3_2 trivial) (by first | exact fun _ => rfl | exact c4_3 | exact fun _ => c4_3 trivial) (by first | exact fun _ => rfl | exact c5_1 | exact fun _ => c5_1 trivial) (by first | exact fun _ => rfl | exact c5_4 | exact fun _ => c5_4 trivial) (by first | exact fun _ => rfl | exact c6_5 | exact fun _ => c6_5 trivial) (by first | exact fun _ => rfl | exact c7_0 | exact fun _ => c7_0 trivial) (by first | exact fun _ => rfl | exact c8_7 | exact fun _ => c8_7 trivial) (by first | exact fun _ => rfl | exact c9_8 | exact fun _ => c9_8 trivial) (by first | exact fun _ => rfl | exact c9_6 | exact fun _ => c9_6 trivial) (by first | exact fun _ => rfl | exact c10_9 | exact fun _ => c10_9 trivial) (by first | exact fun _ => rfl | exact c12_10 | exact fun _ => c12_10 trivial) (by first | exact fun _ => rfl | exact c12_11 | exact fun _ => c12_11 trivial) (by simp only [Bool.toNat_true, Bool.toNat_false] at hf ⊢; omega)
      · have hm := (ready22_2 b0 b1 b2 b3 b4 b5 b6 b7 b8 b9 b10 b11 b12).1 hi
        clear hi hlt
        simp only [Bool.and_eq_true, Bool.not_eq_true'] at hm
        subst hm
        refine wpOpIn_step (o := { dst := some 79, op := Op.load 27 (Operand.tmp 13), type := 27, pos := "lock.go:168", after := #[], guard := none }) rfl (fun K hK => ?_)
        go_simp
        refine hK _ _ ?_
        exact ih b0 b1 true b3 b4 b5 b6 b7 b8 b9 b10 b11 b12 s0 s1 (.slice (some ⟨gc, 0, none⟩) (kk + 1) cc) s3 s4 s5 s6 s7 s8 s9 s10 s11 s12 (by first | exact fun _ => rfl | exact h0 | exact fun _ => h0 trivial) (by first | exact fun _ => rfl | exact h1 | exact fun _ => h1 trivial) (by first | exact fun _ => rfl | exact h2 | exact fun _ => h2 trivial) (by first | exact fun _ => rfl | exact h3 | exact fun _ => h3 trivial) (by first | exact fun _ => rfl | exact h4 | exact fun _ => h4 trivial) (by first | exact fun _ => rfl | exact h5 | exact fun _ => h5 trivial) (by first | exact fun _ => rfl | exact h6 | exact fun _ => h6 trivial) (by first | exact fun _ => rfl | exact h7 | exact fun _ => h7 trivial) (by first | exact fun _ => rfl | exact h8 | exact fun _ => h8 trivial) (by first | exact fun _ => rfl | exact h9 | exact fun _ => h9 trivial) (by first | exact fun _ => rfl | exact h10 | exact fun _ => h10 trivial) (by first | exact fun _ => rfl | exact h11 | exact fun _ => h11 trivial) (by first | exact fun _ => rfl | exact h12 | exact fun _ => h12 trivial) (by first | exact fun _ => rfl | exact c3_2 | exact fun _ => c3_2 trivial) (by first | exact fun _ => rfl | exact c4_3 | exact fun _ => c4_3 trivial) (by first | exact fun _ => rfl | exact c5_1 | exact fun _ => c5_1 trivial) (by first | exact fun _ => rfl | exact c5_4 | exact fun _ => c5_4 trivial) (by first | exact fun _ => rfl | exact c6_5 | exact fun _ => c6_5 trivial) (by first | exact fun _ => rfl | exact c7_0 | exact fun _ => c7_0 trivial) (by first | exact fun _ => rfl | exact c8_7 | exact fun _ => c8_7 trivial) (by first | exact fun _ => rfl | exact c9_8 | exact fun _ => c9_8 trivial) (by first | exact fun _ => rfl | exact c9_6 | exact fun _ => c9_6 trivial) (by first | exact fun _ => rfl | exact c10_9 | exact fun _ => c10_9 trivial) (by first | exact fun _ => rfl | exact c12_10 | exact fun _ => c12_10 trivial) (by first | exact fun _ => rfl | exact c12_11 | exact fun _ => c12_11 trivial) (by simp only [Bool.toNat_true, Bool.toNat_false] at hf ⊢; omega)
      · have hm := (ready22_3 b0 b1 b2 b3 b4 b5 b6 b7 b8 b9 b10 b11 b12).1 hi
        clear hi hlt
        simp only [Bool.and_eq_true, Bool.not_eq_true'] at hm
        obtain ⟨rfl, rfl⟩ := hm
        obtain rfl := h2 rfl
        refine wpOpIn_step (o := { dst := some 80, op := Op.call { callee := Callee.builtin Builtin.len, args := #[Operand.tmp 79], argTypes := #[27] }, type := 3, pos := "lock.go:168", after := #[{ on := 2, ground := Ground.data }], guard := none }) rfl (fun K hK => ?_)
        go_simp
        refine hK _ _ ?_
        exact ih b0 b1 true true b4 b5 b6 b7 b8 b9 b10 b11 b12 s0 s1 (.slice (some ⟨gc, 0, none⟩) (kk + 1) cc) (.int .i64 ((kk : Int) + 1)) s4 s5 s6 s7 s8 s9 s10 s11 s12 (by first | exact fun _ => rfl | exact h0 | exact fun _ => h0 trivial) (by first | exact fun _ => rfl | exact h1 | exact fun _ => h1 trivial) (by first | exact fun _ => rfl | exact h2 | exact fun _ => h2 trivial) (by first | exact fun _ => rfl | exact h3 | exact fun _ => h3 trivial) (by first | exact fun _ => rfl | exact h4 | exact fun _ => h4 trivial) (by first | exact fun _ => rfl | exact h5 | exact fun _ => h5 trivial) (by first | exact fun _ => rfl | exact h6 | exact fun _ => h6 trivial) (by first | exact fun _ => rfl | exact h7 | exact fun _ => h7 trivial) (by first | exact fun _ => rfl | exact h8 | exact fun _ => h8 trivial) (by first | exact fun _ => rfl | exact h9 | exact fun _ => h9 trivial) (by first | exact fun _ => rfl | exact h10 | exact fun _ => h10 trivial) (by first | exact fun _ => rfl | exact h11 | exact fun _ => h11 trivial) (by first | exact fun _ => rfl | exact h12 | exact fun _ => h12 trivial) (by first | exact fun _ => rfl | exact c3_2 | exact fun _ => c3_2 trivial) (by first | exact fun _ => rfl | exact c4_3 | exact fun _ => c4_3 trivial) (by first | exact fun _ => rfl | exact c5_1 | exact fun _ => c5_1 trivial) (by first | exact fun _ => rfl | exact c5_4 | exact fun _ => c5_4 trivial) (by first | exact fun _ => rfl | exact c6_5 | exact fun _ => c6_5 trivial) (by first | exact fun _ => rfl | exact c7_0 | exact fun _ => c7_0 trivial) (by first | exact fun _ => rfl | exact c8_7 | exact fun _ => c8_7 trivial) (by first | exact fun _ => rfl | exact c9_8 | exact fun _ => c9_8 trivial) (by first | exact fun _ => rfl | exact c9_6 | exact fun _ => c9_6 trivial) (by first | exact fun _ => rfl | exact c10_9 | exact fun _ => c10_9 trivial) (by first | exact fun _ => rfl | exact c12_10 | exact fun _ => c12_10 trivial) (by first | exact fun _ => rfl | exact c12_11 | exact fun _ => c12_11 trivial) (by simp only [Bool.toNat_true, Bool.toNat_false] at hf ⊢; omega)
      · have hm := (ready22_4 b0 b1 b2 b3 b4 b5 b6 b7 b8 b9 b10 b11 b12).1 hi
        clear hi hlt
        simp only [Bool.and_eq_true, Bool.not_eq_true'] at hm
        obtain ⟨rfl, rfl⟩ := hm
        obtain rfl : b2 = true := c3_2 rfl
        obtain rfl := h3 rfl
        obtain rfl := h2 rfl
        refine wpOpIn_step (o := { dst := some 81, op := Op.binOp BinOp.sub 3 (Operand.tmp 80) (Operand.const (Value.int IntKind.i64 1)) 3, type := 3, pos := "lock.go:168", after := #[{ on := 3, ground := Ground.data }], guard := none }) rfl (fun K hK => ?_)
        go_simp
        refine hK _ _ ?_
        exact ih b0 b1 true true true b5 b6 b7 b8 b9 b10 b11 b12 s0 s1 (.slice (some ⟨gc, 0, none⟩) (kk + 1) cc) (.int .i64 ((kk : Int) + 1)) (.int .i64 (kk : Int)) s5 s6 s7 s8 s9 s10 s11 s12 (by first | exact fun _ => rfl | exact h0 | exact fun _ => h0 trivial) (by first | exact fun _ => rfl | exact h1 | exact fun _ => h1 trivial) (by first | exact fun _ => rfl | exact h2 | exact fun _ => h2 trivial) (by first | exact fun _ => rfl | exact h3 | exact fun _ => h3 trivial) (by first | exact fun _ => rfl | exact h4 | exact fun _ => h4 trivial) (by first | exact fun _ => rfl | exact h5 | exact fun _ => h5 trivial) (by first | exact fun _ => rfl | exact h6 | exact fun _ => h6 trivial) (by first | exact fun _ => rfl | exact h7 | exact fun _ => h7 trivial) (by first | exact fun _ => rfl | exact h8 | exact fun _ => h8 trivial) (by first | exact fun _ => rfl | exact h9 | exact fun _ => h9 trivial) (by first | exact fun _ => rfl | exact h10 | exact fun _ => h10 trivial) (by first | exact fun _ => rfl | exact h11 | exact fun _ => h11 trivial) (by first | exact fun _ => rfl | exact h12 | exact fun _ => h12 trivial) (by first | exact fun _ => rfl | exact c3_2 | exact fun _ => c3_2 trivial) (by first | exact fun _ => rfl | exact c4_3 | exact fun _ => c4_3 trivial) (by first | exact fun _ => rfl | exact c5_1 | exact fun _ => c5_1 trivial) (by first | exact fun _ => rfl | exact c5_4 | exact fun _ => c5_4 trivial) (by first | exact fun _ => rfl | exact c6_5 | exact fun _ => c6_5 trivial) (by first | exact fun _ => rfl | exact c7_0 | exact fun _ => c7_0 trivial) (by first | exact fun _ => rfl | exact c8_7 | exact fun _ => c8_7 trivial) (by first | exact fun _ => rfl | exact c9_8 | exact fun _ => c9_8 trivial) (by first | exact fun _ => rfl | exact c9_6 | exact fun _ => c9_6 trivial) (by first | exact fun _ => rfl | exact c10_9 | exact fun _ => c10_9 trivial) (by first | exact fun _ => rfl | exact c12_10 | exact fun _ => c12_10 trivial) (by first | exact fun _ => rfl | exact c12_11 | exact fun _ => c12_11 trivial) (by simp only [Bool.toNat_true, Bool.toNat_false] at hf ⊢; omega)
      · have hm := (ready22_5 b0 b1 b2 b3 b4 b5 b6 b7 b8 b9 b10 b11 b12).1 hi
        clear hi hlt
        simp only [Bool.and_eq_true, Bool.not_eq_true'] at hm
        obtain ⟨⟨rfl, rfl⟩, rfl⟩ := hm
        obtain rfl : b3 = true := c4_3 rfl
        obtain rfl : b2 = true := c3_2 rfl
        obtain rfl := h1 rfl
        obtain rfl := h4 rfl
        obtain rfl := h3 rfl
        obtain rfl := h2 rfl
        refine wpOpIn_step (o := { dst := some 82, op := Op.indexAddr 27 (Operand.tmp 78) (Operand.tmp 81), type := 0, pos := "lock.go:168", after := #[{ on := 1, ground := Ground.data }, { on := 4, ground := Ground.data }], guard := none }) rfl (fun K hK => ?_)
        gi_wp2
        exact ih b0 true true true true true b6 b7 b8 b9 b10 b11 b12 s0 (.slice (some ⟨gc, 0, none⟩) (kk + 1) cc) (.slice (some ⟨gc, 0, none⟩) (kk + 1) cc) (.int .i64 ((kk : Int) + 1)) (.int .i64 (kk : Int)) (.pointer (some ⟨gc, kk, none⟩)) s6 s7 s8 s9 s10 s11 s12 (by first | exact fun _ => rfl | exact h0 | exact fun _ => h0 trivial) (by first | exact fun _ => rfl | exact h1 | exact fun _ => h1 trivial) (by first | exact fun _ => rfl | exact h2 | exact fun _ => h2 trivial) (by first | exact fun _ => rfl | exact h3 | exact fun _ => h3 trivial) (by first | exact fun _ => rfl | exact h4 | exact fun _ => h4 trivial) (by first | exact fun _ => rfl | exact h5 | exact fun _ => h5 trivial) (by first | exact fun _ => rfl | exact h6 | exact fun _ => h6 trivial) (by first | exact fun _ => rfl | exact h7 | exact fun _ => h7 trivial) (by first | exact fun _ => rfl | exact h8 | exact fun _ => h8 trivial) (by first | exact fun _ => rfl | exact h9 | exact fun _ => h9 trivial) (by first | exact fun _ => rfl | exact h10 | exact fun _ => h10 trivial) (by first | exact fun _ => rfl | exact h11 | exact fun _ => h11 trivial) (by first | exact fun _ => rfl | exact h12 | exact fun _ => h12 trivial) (by first | exact fun _ => rfl | exact c3_2 | exact fun _ => c3_2 trivial) (by first | exact fun _ => rfl | exact c4_3 | exact fun _ => c4_3 trivial) (by first | exact fun _ => rfl | exact c5_1 | exact fun _ => c5_1 trivial) (by first | exact fun _ => rfl | exact c5_4 | exact fun _ => c5_4 trivial) (by first | exact fun _ => rfl | exact c6_5 | exact fun _ => c6_5 trivial) (by first | exact fun _ => rfl | exact c7_0 | exact fun _ => c7_0 trivial) (by first | exact fun _ => rfl | exact c8_7 | exact fun _ => c8_7 trivial) (by first | exact fun _ => rfl | exact c9_8 | exact fun _ => c9_8 trivial) (by first | exact fun _ => rfl | exact c9_6 | exact fun _ => c9_6 trivial) (by first | exact fun _ => rfl | exact c10_9 | exact fun _ => c10_9 trivial) (by first | exact fun _ => rfl | exact c12_10 | exact fun _ => c12_10 trivial) (by first | exact fun _ => rfl | exact c12_11 | exact fun _ => c12_11 trivial) (by simp only [Bool.toNat_true, Bool.toNat_false] at hf ⊢; omega)
      · have hm := (ready22_6 b0 b1 b2 b3 b4 b5 b6 b7 b8 b9 b10 b11 b12).1 hi
        clear hi hlt
        simp only [Bool.and_eq_true, Bool.not_eq_true'] at hm
        obtain ⟨rfl, rfl⟩ := hm
        obtain rfl : b1 = true := c5_1 rfl
        obtain rfl : b4 = true := c5_4 rfl
        obtain rfl : b3 = true := c4_3 rfl
        obtain rfl : b2 = true := c3_2 rfl
        obtain rfl := h5 rfl
        obtain rfl := h1 rfl
        obtain rfl := h4 rfl
        obtain rfl := h3 rfl
        obtain rfl := h2 rfl
        refine wpOpIn_step (o := { dst := some 83, op := Op.load 3 (Operand.tmp 82), type := 3, pos := "lock.go:168", after := #[{ on := 5, ground := Ground.data }], guard := none }) rfl (fun K hK => ?_)
        go_simp
        refine hK _ _ ?_
        exact ih b0 true true true true true true b7 b8 b9 b10 b11 b12 s0 (.slice (some ⟨gc, 0, none⟩) (kk + 1) cc) (.slice (some ⟨gc, 0, none⟩) (kk + 1) cc) (.int .i64 ((kk : Int) + 1)) (.int .i64 (kk : Int)) (.pointer (some ⟨gc, kk, none⟩)) (.int .i64 (a : Int)) s7 s8 s9 s10 s11 s12 (by first | exact fun _ => rfl | exact h0 | exact fun _ => h0 trivial) (by first | exact fun _ => rfl | exact h1 | exact fun _ => h1 trivial) (by first | exact fun _ => rfl | exact h2 | exact fun _ => h2 trivial) (by first | exact fun _ => rfl | exact h3 | exact fun _ => h3 trivial) (by first | exact fun _ => rfl | exact h4 | exact fun _ => h4 trivial) (by first | exact fun _ => rfl | exact h5 | exact fun _ => h5 trivial) (by first | exact fun _ => rfl | exact h6 | exact fun _ => h6 trivial) (by first | exact fun _ => rfl | exact h7 | exact fun _ => h7 trivial) (by first | exact fun _ => rfl | exact h8 | exact fun _ => h8 trivial) (by first | exact fun _ => rfl | exact h9 | exact fun _ => h9 trivial) (by first | exact fun _ => rfl | exact h10 | exact fun _ => h10 trivial) (by first | exact fun _ => rfl | exact h11 | exact fun _ => h11 trivial) (by first | exact fun _ => rfl | exact h12 | exact fun _ => h12 trivial) (by first | exact fun _ => rfl | exact c3_2 | exact fun _ => c3_2 trivial) (by first | exact fun _ => rfl | exact c4_3 | exact fun _ => c4_3 trivial) (by first | exact fun _ => rfl | exact c5_1 | exact fun _ => c5_1 trivial) (by first | exact fun _ => rfl | exact c5_4 | exact fun _ => c5_4 trivial) (by first | exact fun _ => rfl | exact c6_5 | exact fun _ => c6_5 trivial) (by first | exact fun _ => rfl | exact c7_0 | exact fun _ => c7_0 trivial) (by first | exact fun _ => rfl | exact c8_7 | exact fun _ => c8_7 trivial) (by first | exact fun _ => rfl | exact c9_8 | exact fun _ => c9_8 trivial) (by first | exact fun _ => rfl | exact c9_6 | exact fun _ => c9_6 trivial) (by first | exact fun _ => rfl | exact c10_9 | exact fun _ => c10_9 trivial) (by first | exact fun _ => rfl | exact c12_10 | exact fun _ => c12_10 trivial) (by first | exact fun _ => rfl | exact c12_11 | exact fun _ => c12_11 trivial) (by simp only [Bool.toNat_true, Bool.toNat_false] at hf ⊢; omega)
      · have hm := (ready22_7 b0 b1 b2 b3 b4 b5 b6 b7 b8 b9 b10 b11 b12).1 hi
        clear hi hlt
        simp only [Bool.and_eq_true, Bool.not_eq_true'] at hm
        obtain ⟨rfl, rfl⟩ := hm
        obtain rfl := h0 rfl
        refine wpOpIn_step (o := { dst := some 84, op := Op.nilCheck (Operand.tmp 77), type := 0, pos := "lock.go:168", after := #[{ on := 0, ground := Ground.data }], guard := none }) rfl (fun K hK => ?_)
        go_simp
        refine hK _ _ ?_
        exact ih true b1 b2 b3 b4 b5 b6 true b8 b9 b10 b11 b12 (.pointer (some ⟨gb, 0, none⟩)) s1 s2 s3 s4 s5 s6 (.pointer (some ⟨gb, 0, none⟩)) s8 s9 s10 s11 s12 (by first | exact fun _ => rfl | exact h0 | exact fun _ => h0 trivial) (by first | exact fun _ => rfl | exact h1 | exact fun _ => h1 trivial) (by first | exact fun _ => rfl | exact h2 | exact fun _ => h2 trivial) (by first | exact fun _ => rfl | exact h3 | exact fun _ => h3 trivial) (by first | exact fun _ => rfl | exact h4 | exact fun _ => h4 trivial) (by first | exact fun _ => rfl | exact h5 | exact fun _ => h5 trivial) (by first | exact fun _ => rfl | exact h6 | exact fun _ => h6 trivial) (by first | exact fun _ => rfl | exact h7 | exact fun _ => h7 trivial) (by first | exact fun _ => rfl | exact h8 | exact fun _ => h8 trivial) (by first | exact fun _ => rfl | exact h9 | exact fun _ => h9 trivial) (by first | exact fun _ => rfl | exact h10 | exact fun _ => h10 trivial) (by first | exact fun _ => rfl | exact h11 | exact fun _ => h11 trivial) (by first | exact fun _ => rfl | exact h12 | exact fun _ => h12 trivial) (by first | exact fun _ => rfl | exact c3_2 | exact fun _ => c3_2 trivial) (by first | exact fun _ => rfl | exact c4_3 | exact fun _ => c4_3 trivial) (by first | exact fun _ => rfl | exact c5_1 | exact fun _ => c5_1 trivial) (by first | exact fun _ => rfl | exact c5_4 | exact fun _ => c5_4 trivial) (by first | exact fun _ => rfl | exact c6_5 | exact fun _ => c6_5 trivial) (by first | exact fun _ => rfl | exact c7_0 | exact fun _ => c7_0 trivial) (by first | exact fun _ => rfl | exact c8_7 | exact fun _ => c8_7 trivial) (by first | exact fun _ => rfl | exact c9_8 | exact fun _ => c9_8 trivial) (by first | exact fun _ => rfl | exact c9_6 | exact fun _ => c9_6 trivial) (by first | exact fun _ => rfl | exact c10_9 | exact fun _ => c10_9 trivial) (by first | exact fun _ => rfl | exact c12_10 | exact fun _ => c12_10 trivial) (by first | exact fun _ => rfl | exact c12_11 | exact fun _ => c12_11 trivial) (by simp only [Bool.toNat_true, Bool.toNat_false] at hf ⊢; omega)
      · have hm := (ready22_8 b0 b1 b2 b3 b4 b5 b6 b7 b8 b9 b10 b11 b12).1 hi
        clear hi hlt
        simp only [Bool.and_eq_true, Bool.not_eq_true'] at hm
        obtain ⟨rfl, rfl⟩ := hm
        obtain rfl : b0 = true := c7_0 rfl
        obtain rfl := h7 rfl
        obtain rfl := h0 rfl
        refine wpOpIn_step (o := { dst := some 85, op := Op.fieldAddr 71 (Operand.tmp 84) 0, type := 0, pos := "lock.go:168", after := #[{ on := 7, ground := Ground.data }], guard := none }) rfl (fun K hK => ?_)
        go_simp
        refine hK _ _ ?_
        exact ih true b1 b2 b3 b4 b5 b6 true true b9 b10 b11 b12 (.pointer (some ⟨gb, 0, none⟩)) s1 s2 s3 s4 s5 s6 (.pointer (some ⟨gb, 0, none⟩)) (.pointer (some ⟨gb, 0, none⟩)) s9 s10 s11 s12 (by first | exact fun _ => rfl | exact h0 | exact fun _ => h0 trivial) (by first | exact fun _ => rfl | exact h1 | exact fun _ => h1 trivial) (by first | exact fun _ => rfl | exact h2 | exact fun _ => h2 trivial) (by first | exact fun _ => rfl | exact h3 | exact fun _ => h3 trivial) (by first | exact fun _ => rfl | exact h4 | exact fun _ => h4 trivial) (by first | exact fun _ => rfl | exact h5 | exact fun _ => h5 trivial) (by first | exact fun _ => rfl | exact h6 | exact fun _ => h6 trivial) (by first | exact fun _ => rfl | exact h7 | exact fun _ => h7 trivial) (by first | exact fun _ => rfl | exact h8 | exact fun _ => h8 trivial) (by first | exact fun _ => rfl | exact h9 | exact fun _ => h9 trivial) (by first | exact fun _ => rfl | exact h10 | exact fun _ => h10 trivial) (by first | exact fun _ => rfl | exact h11 | exact fun _ => h11 trivial) (by first | exact fun _ => rfl | exact h12 | exact fun _ => h12 trivial) (by first | exact fun _ => rfl | exact c3_2 | exact fun _ => c3_2 trivial) (by first | exact fun _ => rfl | exact c4_3 | exact fun _ => c4_3 trivial) (by first | exact fun _ => rfl | exact c5_1 | exact fun _ => c5_1 trivial) (by first | exact fun _ => rfl | exact c5_4 | exact fun _ => c5_4 trivial) (by first | exact fun _ => rfl | exact c6_5 | exact fun _ => c6_5 trivial) (by first | exact fun _ => rfl | exact c7_0 | exact fun _ => c7_0 trivial) (by first | exact fun _ => rfl | exact c8_7 | exact fun _ => c8_7 trivial) (by first | exact fun _ => rfl | exact c9_8 | exact fun _ => c9_8 trivial) (by first | exact fun _ => rfl | exact c9_6 | exact fun _ => c9_6 trivial) (by first | exact fun _ => rfl | exact c10_9 | exact fun _ => c10_9 trivial) (by first | exact fun _ => rfl | exact c12_10 | exact fun _ => c12_10 trivial) (by first | exact fun _ => rfl | exact c12_11 | exact fun _ => c12_11 trivial) (by simp only [Bool.toNat_true, Bool.toNat_false] at hf ⊢; omega)
      · have hm := (ready22_9 b0 b1 b2 b3 b4 b5 b6 b7 b8 b9 b10 b11 b12).1 hi
        clear hi hlt
        simp only [Bool.and_eq_true, Bool.not_eq_true'] at hm
        obtain ⟨⟨rfl, rfl⟩, rfl⟩ := hm
        obtain rfl : b7 = true := c8_7 rfl
        obtain rfl : b5 = true := c6_5 rfl
        obtain rfl : b0 = true := c7_0 rfl
        obtain rfl : b1 = true := c5_1 rfl
        obtain rfl : b4 = true := c5_4 rfl
        obtain rfl : b3 = true := c4_3 rfl
        obtain rfl : b2 = true := c3_2 rfl
        obtain rfl := h8 rfl
        obtain rfl := h6 rfl
        obtain rfl := h7 rfl
        obtain rfl := h5 rfl
        obtain rfl := h0 rfl
        obtain rfl := h1 rfl
        obtain rfl := h4 rfl
        obtain rfl := h3 rfl
        obtain rfl := h2 rfl
        refine wpOpIn_step (o := { dst := some 86, op := Op.indexAddr 69 (Operand.tmp 85) (Operand.tmp 83), type := 0, pos := "lock.go:168", after := #[{ on := 8, ground := Ground.data }, { on := 6, ground := Ground.data }], guard := none }) rfl (fun K hK => ?_)
        gi_wp2
        exact ih true true true true true true true true true true b10 b11 b12 (.pointer (some ⟨gb, 0, none⟩)) (.slice (some ⟨gc, 0, none⟩) (kk + 1) cc) (.slice (some ⟨gc, 0, none⟩) (kk + 1) cc) (.int .i64 ((kk : Int) + 1)) (.int .i64 (kk : Int)) (.pointer (some ⟨gc, kk, none⟩)) (.int .i64 (a : Int)) (.pointer (some ⟨gb, 0, none⟩)) (.pointer (some ⟨gb, 0, none⟩)) (.pointer (some ⟨gb, a, none⟩)) s10 s11 s12 (by first | exact fun _ => rfl | exact h0 | exact fun _ => h0 trivial) (by first | exact fun _ => rfl | exact h1 | exact fun _ => h1 trivial) (by first | exact fun _ => rfl | exact h2 | exact fun _ => h2 trivial) (by first | exact fun _ => rfl | exact h3 | exact fun _ => h3 trivial) (by first | exact fun _ => rfl | exact h4 | exact fun _ => h4 trivial) (by first | exact fun _ => rfl | exact h5 | exact fun _ => h5 trivial) (by first | exact fun _ => rfl | exact h6 | exact fun _ => h6 trivial) (by first | exact fun _ => rfl | exact h7 | exact fun _ => h7 trivial) (by first | exact fun _ => rfl | exact h8 | exact fun _ => h8 trivial) (by first | exact fun _ => rfl | exact h9 | exact fun _ => h9 trivial) (by first | exact fun _ => rfl | exact h10 | exact fun _ => h10 trivial) (by first | exact fun _ => rfl | exact h11 | exact fun _ => h11 trivial) (by first | exact fun _ => rfl | exact h12 | exact fun _ => h12 trivial) (by first | exact fun _ => rfl | exact c3_2 | exact fun _ => c3_2 trivial) (by first | exact fun _ => rfl | exact c4_3 | exact fun _ => c4_3 trivial) (by first | exact fun _ => rfl | exact c5_1 | exact fun _ => c5_1 trivial) (by first | exact fun _ => rfl | exact c5_4 | exact fun _ => c5_4 trivial) (by first | exact fun _ => rfl | exact c6_5 | exact fun _ => c6_5 trivial) (by first | exact fun _ => rfl | exact c7_0 | exact fun _ => c7_0 trivial) (by first | exact fun _ => rfl | exact c8_7 | exact fun _ => c8_7 trivial) (by first | exact fun _ => rfl | exact c9_8 | exact fun _ => c9_8 trivial) (by first | exact fun _ => rfl | exact c9_6 | exact fun _ => c9_6 trivial) (by first | exact fun _ => rfl | exact c10_9 | exact fun _ => c10_9 trivial) (by first | exact fun _ => rfl | exact c12_10 | exact fun _ => c12_10 trivial) (by first | exact fun _ => rfl | exact c12_11 | exact fun _ => c12_11 trivial) (by simp only [Bool.toNat_true, Bool.toNat_false] at hf ⊢; omega)
      · have hm := (ready22_10 b0 b1 b2 b3 b4 b5 b6 b7 b8 b9 b10 b11 b12).1 hi
        clear hi hlt
        simp only [Bool.and_eq_true, Bool.not_eq_true'] at hm
        obtain ⟨rfl, rfl⟩ := hm
        obtain rfl : b8 = true := c9_8 rfl
        obtain rfl : b6 = true := c9_6 rfl
        obtain rfl : b7 = true := c8_7 rfl
        obtain rfl : b5 = true := c6_5 rfl
        obtain rfl : b0 = true := c7_0 rfl
        obtain rfl : b1 = true := c5_1 rfl
        obtain rfl : b4 = true := c5_4 rfl
        obtain rfl : b3 = true := c4_3 rfl
        obtain rfl : b2 = true := c3_2 rfl
        obtain rfl := h9 rfl
        obtain rfl := h8 rfl
        obtain rfl := h6 rfl
        obtain rfl := h7 rfl
        obtain rfl := h5 rfl
        obtain rfl := h0 rfl
        obtain rfl := h1 rfl
        obtain rfl := h4 rfl
        obtain rfl := h3 rfl
        obtain rfl := h2 rfl
        refine wpOpIn_step (o := { dst := some 87, op := Op.load 22 (Operand.tmp 86), type := 22, pos := "lock.go:168", after := #[{ on := 9, ground := Ground.data }], guard := none }) rfl (fun K hK => ?_)
        go_simp
        refine hK _ _ ?_
        exact ih true true true true true true true true true true true b11 b12 (.pointer (some ⟨gb, 0, none⟩)) (.slice (some ⟨gc, 0, none⟩) (kk + 1) cc) (.slice (some ⟨gc, 0, none⟩) (kk + 1) cc) (.int .i64 ((kk : Int) + 1)) (.int .i64 (kk : Int)) (.pointer (some ⟨gc, kk, none⟩)) (.int .i64 (a : Int)) (.pointer (some ⟨gb, 0, none⟩)) (.pointer (some ⟨gb, 0, none⟩)) (.pointer (some ⟨gb, a, none⟩)) (.int .u64 (wa : Int)) s11 s12 (by first | exact fun _ => rfl | exact h0 | exact fun _ => h0 trivial) (by first | exact fun _ => rfl | exact h1 | exact fun _ => h1 trivial) (by first | exact fun _ => rfl | exact h2 | exact fun _ => h2 trivial) (by first | exact fun _ => rfl | exact h3 | exact fun _ => h3 trivial) (by first | exact fun _ => rfl | exact h4 | exact fun _ => h4 trivial) (by first | exact fun _ => rfl | exact h5 | exact fun _ => h5 trivial) (by first | exact fun _ => rfl | exact h6 | exact fun _ => h6 trivial) (by first | exact fun _ => rfl | exact h7 | exact fun _ => h7 trivial) (by first | exact fun _ => rfl | exact h8 | exact fun _ => h8 trivial) (by first | exact fun _ => rfl | exact h9 | exact fun _ => h9 trivial) (by first | exact fun _ => rfl | exact h10 | exact fun _ => h10 trivial) (by first | exact fun _ => rfl | exact h11 | exact fun _ => h11 trivial) (by first | exact fun _ => rfl | exact h12 | exact fun _ => h12 trivial) (by first | exact fun _ => rfl | exact c3_2 | exact fun _ => c3_2 trivial) (by first | exact fun _ => rfl | exact c4_3 | exact fun _ => c4_3 trivial) (by first | exact fun _ => rfl | exact c5_1 | exact fun _ => c5_1 trivial) (by first | exact fun _ => rfl | exact c5_4 | exact fun _ => c5_4 trivial) (by first | exact fun _ => rfl | exact c6_5 | exact fun _ => c6_5 trivial) (by first | exact fun _ => rfl | exact c7_0 | exact fun _ => c7_0 trivial) (by first | exact fun _ => rfl | exact c8_7 | exact fun _ => c8_7 trivial) (by first | exact fun _ => rfl | exact c9_8 | exact fun _ => c9_8 trivial) (by first | exact fun _ => rfl | exact c9_6 | exact fun _ => c9_6 trivial) (by first | exact fun _ => rfl | exact c10_9 | exact fun _ => c10_9 trivial) (by first | exact fun _ => rfl | exact c12_10 | exact fun _ => c12_10 trivial) (by first | exact fun _ => rfl | exact c12_11 | exact fun _ => c12_11 trivial) (by simp only [Bool.toNat_true, Bool.toNat_false] at hf ⊢; omega)
      · have hm := (ready22_11 b0 b1 b2 b3 b4 b5 b6 b7 b8 b9 b10 b11 b12).1 hi
        clear hi hlt
        simp only [Bool.and_eq_true, Bool.not_eq_true'] at hm
        subst hm
        refine wpOpIn_step (o := { dst := some 88, op := Op.move (Operand.tmp 15), type := 22, pos := "lock.go:168", after := #[], guard := none }) rfl (fun K hK => ?_)
        go_simp
        refine hK _ _ ?_
        exact ih b0 b1 b2 b3 b4 b5 b6 b7 b8 b9 b10 true b12 s0 s1 s2 s3 s4 s5 s6 s7 s8 s9 s10 (.int .u64 (ri : Int)) s12 (by first | exact fun _ => rfl | exact h0 | exact fun _ => h0 trivial) (by first | exact fun _ => rfl | exact h1 | exact fun _ => h1 trivial) (by first | exact fun _ => rfl | exact h2 | exact fun _ => h2 trivial) (by first | exact fun _ => rfl | exact h3 | exact fun _ => h3 trivial) (by first | exact fun _ => rfl | exact h4 | exact fun _ => h4 trivial) (by first | exact fun _ => rfl | exact h5 | exact fun _ => h5 trivial) (by first | exact fun _ => rfl | exact h6 | exact fun _ => h6 trivial) (by first | exact fun _ => rfl | exact h7 | exact fun _ => h7 trivial) (by first | exact fun _ => rfl | exact h8 | exact fun _ => h8 trivial) (by first | exact fun _ => rfl | exact h9 | exact fun _ => h9 trivial) (by first | exact fun _ => rfl | exact h10 | exact fun _ => h10 trivial) (by first | exact fun _ => rfl | exact h11 | exact fun _ => h11 trivial) (by first | exact fun _ => rfl | exact h12 | exact fun _ => h12 trivial) (by first | exact fun _ => rfl | exact c3_2 | exact fun _ => c3_2 trivial) (by first | exact fun _ => rfl | exact c4_3 | exact fun _ => c4_3 trivial) (by first | exact fun _ => rfl | exact c5_1 | exact fun _ => c5_1 trivial) (by first | exact fun _ => rfl | exact c5_4 | exact fun _ => c5_4 trivial) (by first | exact fun _ => rfl | exact c6_5 | exact fun _ => c6_5 trivial) (by first | exact fun _ => rfl | exact c7_0 | exact fun _ => c7_0 trivial) (by first | exact fun _ => rfl | exact c8_7 | exact fun _ => c8_7 trivial) (by first | exact fun _ => rfl | exact c9_8 | exact fun _ => c9_8 trivial) (by first | exact fun _ => rfl | exact c9_6 | exact fun _ => c9_6 trivial) (by first | exact fun _ => rfl | exact c10_9 | exact fun _ => c10_9 trivial) (by first | exact fun _ => rfl | exact c12_10 | exact fun _ => c12_10 trivial) (by first | exact fun _ => rfl | exact c12_11 | exact fun _ => c12_11 trivial) (by simp only [Bool.toNat_true, Bool.toNat_false] at hf ⊢; omega)
      · have hm := (ready22_12 b0 b1 b2 b3 b4 b5 b6 b7 b8 b9 b10 b11 b12).1 hi
        clear hi hlt
        simp only [Bool.and_eq_true, Bool.not_eq_true'] at hm
        obtain ⟨⟨rfl, rfl⟩, rfl⟩ := hm
        obtain rfl : b9 = true := c10_9 rfl
        obtain rfl : b8 = true := c9_8 rfl
        obtain rfl : b6 = true := c9_6 rfl
        obtain rfl : b7 = true := c8_7 rfl
        obtain rfl : b5 = true := c6_5 rfl
        obtain rfl : b0 = true := c7_0 rfl
        obtain rfl : b1 = true := c5_1 rfl
        obtain rfl : b4 = true := c5_4 rfl
        obtain rfl : b3 = true := c4_3 rfl
        obtain rfl : b2 = true := c3_2 rfl
        obtain rfl := h10 rfl
        obtain rfl := h11 rfl
        obtain rfl := h9 rfl
        obtain rfl := h8 rfl
        obtain rfl := h6 rfl
        obtain rfl := h7 rfl
        obtain rfl := h5 rfl
        obtain rfl := h0 rfl
        obtain rfl := h1 rfl
        obtain rfl := h4 rfl
        obtain rfl := h3 rfl
        obtain rfl := h2 rfl
        refine wpOpIn_step (o := { dst := some 89, op := Op.binOp BinOp.and 22 (Operand.tmp 87) (Operand.tmp 88) 22, type := 22, pos := "lock.go:168", after := #[{ on := 10, ground := Ground.data }, { on := 11, ground := Ground.data }], guard := none }) rfl (fun K hK => ?_)
        go_simp
        refine hK _ _ ?_
        exact ih true true true true true true true true true true true true true (.pointer (some ⟨gb, 0, none⟩)) (.slice (some ⟨gc, 0, none⟩) (kk + 1) cc) (.slice (some ⟨gc, 0, none⟩) (kk + 1) cc) (.int .i64 ((kk : Int) + 1)) (.int .i64 (kk : Int)) (.pointer (some ⟨gc, kk, none⟩)) (.int .i64 (a : Int)) (.pointer (some ⟨gb, 0, none⟩)) (.pointer (some ⟨gb, 0, none⟩)) (.pointer (some ⟨gb, a, none⟩)) (.int .u64 (wa : Int)) (.int .u64 (ri : Int)) (.int .u64 (x : Int)) (by first | exact fun _ => rfl | exact h0 | exact fun _ => h0 trivial) (by first | exact fun _ => rfl | exact h1 | exact fun _ => h1 trivial) (by first | exact fun _ => rfl | exact h2 | exact fun _ => h2 trivial) (by first | exact fun _ => rfl | exact h3 | exact fun _ => h3 trivial) (by first | exact fun _ => rfl | exact h4 | exact fun _ => h4 trivial) (by first | exact fun _ => rfl | exact h5 | exact fun _ => h5 trivial) (by first | exact fun _ => rfl | exact h6 | exact fun _ => h6 trivial) (by first | exact fun _ => rfl | exact h7 | exact fun _ => h7 trivial) (by first | exact fun _ => rfl | exact h8 | exact fun _ => h8 trivial) (by first | exact fun _ => rfl | exact h9 | exact fun _ => h9 trivial) (by first | exact fun _ => rfl | exact h10 | exact fun _ => h10 trivial) (by first | exact fun _ => rfl | exact h11 | exact fun _ => h11 trivial) (by first | exact fun _ => rfl | exact h12 | exact fun _ => h12 trivial) (by first | exact fun _ => rfl | exact c3_2 | exact fun _ => c3_2 trivial) (by first | exact fun _ => rfl | exact c4_3 | exact fun _ => c4_3 trivial) (by first | exact fun _ => rfl | exact c5_1 | exact fun _ => c5_1 trivial) (by first | exact fun _ => rfl | exact c5_4 | exact fun _ => c5_4 trivial) (by first | exact fun _ => rfl | exact c6_5 | exact fun _ => c6_5 trivial) (by first | exact fun _ => rfl | exact c7_0 | exact fun _ => c7_0 trivial) (by first | exact fun _ => rfl | exact c8_7 | exact fun _ => c8_7 trivial) (by first | exact fun _ => rfl | exact c9_8 | exact fun _ => c9_8 trivial) (by first | exact fun _ => rfl | exact c9_6 | exact fun _ => c9_6 trivial) (by first | exact fun _ => rfl | exact c10_9 | exact fun _ => c10_9 trivial) (by first | exact fun _ => rfl | exact c12_10 | exact fun _ => c12_10 trivial) (by first | exact fun _ => rfl | exact c12_11 | exact fun _ => c12_11 trivial) (by simp only [Bool.toNat_true, Bool.toNat_false] at hf ⊢; omega)
      · have hm := (ready22_13 b0 b1 b2 b3 b4 b5 b6 b7 b8 b9 b10 b11 b12).1 hi
        clear hi hlt hf
        subst hm
        obtain rfl : b10 = true := c12_10 rfl
        obtain rfl : b11 = true := c12_11 rfl
        obtain rfl : b9 = true := c10_9 rfl
        obtain rfl : b8 = true := c9_8 rfl
        obtain rfl : b6 = true := c9_6 rfl
        obtain rfl : b7 = true := c8_7 rfl
        obtain rfl : b0 = true := c7_0 rfl
        obtain rfl : b5 = true := c6_5 rfl
        obtain rfl : b1 = true := c5_1 rfl
        obtain rfl : b4 = true := c5_4 rfl
        obtain rfl : b3 = true := c4_3 rfl
        obtain rfl : b2 = true := c3_2 rfl
        obtain rfl := h0 rfl
        obtain rfl := h1 rfl
        obtain rfl := h2 rfl
        obtain rfl := h3 rfl
        obtain rfl := h4 rfl
        obtain rfl := h5 rfl
        obtain rfl := h6 rfl
        obtain rfl := h7 rfl
        obtain rfl := h8 rfl
        obtain rfl := h9 rfl
        obtain rfl := h10 rfl
        obtain rfl := h11 rfl
        obtain rfl := h12 rfl
        clear c3_2 c4_3 c5_1 c5_4 c6_5 c7_0 c8_7 c9_8 c9_6 c10_9 c12_10 c12_11
        have hr : Region.ready .any ops22 #[true, true, true, true, true, true, true, true, true, true, true, true, true, true] = [] := by kernel_rfl
        refine wpOpIn_step (o := { dst := some 90, op := Op.call { callee := Callee.value (Operand.func 36), args := #[Operand.tmp 89], argTypes := #[22] }, type := 64, pos := "lock.go:168", after := #[{ on := 12, ground := Ground.data }], guard := none }) rfl (fun K hK => ?_)
        go_simp
        gi_wp2_with (gi_at_call 36; refine (CallsIn.inRound l (members_in F (n - 1) h36 hro _ _)).mono ?_; rintro e w' ⟨rfl, rfl⟩)
        first | exact hK _ _ (wpAnyIn_done hr hQ _) | exact wpAnyIn_done hr hQ _

theorem region22_in (F : Fence) (n l : Nat) (h36 : F.fn 36) (hro : F.round = none) (h1 : 1 ≤ n)
    (bx C gc cc gb kk a wa ri x : Nat) (W : World) (Q : Exit → Act → World → Prop) (v0 v1 v3 v4 v5 v6 v7 v8 v9 v10 v11 v12 v14 v16 v17 v18 v19 v20 v21 v22 v23 v24 v25 v26 v27 v28 v29 v30 v31 v32 v33 v34 v35 v36 v37 v38 v39 v40 v41 v42 v43 v44 v45 v46 v47 v48 v49 v50 v51 v52 v53 v54 v55 v56 v57 v58 v59 v60 v61 v62 v63 v64 v65 v66 v67 v68 v69 v70 v71 v72 v73 v74 v75 v76 v77 v78 v79 v80 v81 v82 v83 v84 v85 v86 v87 v88 v89 v90 v91 v92 v93 v94 v95 v96 : Value)
    (hc2 : W.cell? ⟨bx, 0, none⟩ = some (.pointer (some ⟨gb, 0, none⟩))) (hcC : W.cell? ⟨C, 0, none⟩ = some (.slice (some ⟨gc, 0, none⟩) (kk + 1) cc)) (hlast : W.cell? ⟨gc, kk, none⟩ = some (.int .i64 (a : Int))) (ca : W.cell? ⟨gb, a, none⟩ = some (.int .u64 (wa : Int)))
    (ha16 : a < 16) (hkk16 : kk < 16) (hand : bits .and .u64 (wa : Int) (ri : Int) = (x : Int))
    (hQ : Q .normal { tmps := #[v0, v1, .pointer (some ⟨bx, 0, none⟩), v3, v4, v5, v6, v7, v8, v9, v10, v11, v12, .pointer (some ⟨C, 0, none⟩), v14, .int .u64 (ri : Int), v16, v17, v18, v19, v20, v21, v22, v23, v24, v25, v26, v27, v28, v29, v30, v31, v32, v33, v34, v35, v36, v37, v38, v39, v40, v41, v42, v43, v44, v45, v46, v47, v48, v49, v50, v51, v52, v53, v54, v55, v56, v57, v58, v59, v60, v61, v62, v63, v64, v65, v66, v67, v68, v69, v70, v71, v72, v73, v74, v75, v76, .pointer (some ⟨gb, 0, none⟩), .slice (some ⟨gc, 0, none⟩) (kk + 1) cc, .slice (some ⟨gc, 0, none⟩) (kk + 1) cc, .int .i64 ((kk : Int) + 1), .int .i64 (kk : Int), .pointer (some ⟨gc, kk, none⟩), .int .i64 (a : Int), .pointer (some ⟨gb, 0, none⟩), .pointer (some ⟨gb, 0, none⟩), .pointer (some ⟨gb, a, none⟩), .int .u64 (wa : Int), .int .u64 (ri : Int), .int .u64 (x : Int), .func (.func 47) #[] #[.pointer (some ⟨W.heap.size, 0, none⟩)], v91, v92, v93, v94, v95, v96], defers := [] } (W.drew.alloc (.cells #[.int .u64 (x : Int)] 22)))
    : region22.wpIn (F.inRound l) n Tryd.prog Q { tmps := #[v0, v1, .pointer (some ⟨bx, 0, none⟩), v3, v4, v5, v6, v7, v8, v9, v10, v11, v12, .pointer (some ⟨C, 0, none⟩), v14, .int .u64 (ri : Int), v16, v17, v18, v19, v20, v21, v22, v23, v24, v25, v26, v27, v28, v29, v30, v31, v32, v33, v34, v35, v36, v37, v38, v39, v40, v41, v42, v43, v44, v45, v46, v47, v48, v49, v50, v51, v52, v53, v54, v55, v56, v57, v58, v59, v60, v61, v62, v63, v64, v65, v66, v67, v68, v69, v70, v71, v72, v73, v74, v75, v76, v77, v78, v79, v80, v81, v82, v83, v84, v85, v86, v87, v88, v89, v90, v91, v92, v93, v94, v95, v96], defers := [] } W := by
  unfold region22
  refine wpIn_region_any (by kernel_rfl) ?_
  exact walk22 F n l h36 hro h1 bx C gc cc gb kk a wa ri x W.drew Q v0 v1 v3 v4 v5 v6 v7 v8 v9 v10 v11 v12 v14 v16 v17 v18 v19 v20 v21 v22 v23 v24 v25 v26 v27 v28 v29 v30 v31 v32 v33 v34 v35 v36 v37 v38 v39 v40 v41 v42 v43 v44 v45 v46 v47 v48 v49 v50 v51 v52 v53 v54 v55 v56 v57 v58 v59 v60 v61 v62 v63 v64 v65 v66 v67 v68 v69 v70 v71 v72 v73 v74 v75 v76 v77 v78 v79 v80 v81 v82 v83 v84 v85 v86 v87 v88 v89 v90 v91 v92 v93 v94 v95 v96 hc2 hcC hlast ca ha16 hkk16 hand hQ 13 false false false false false false false false false false false false false _ _ _ _ _ _ _ _ _ _ _ _ _ (by intro h; cases h) (by intro h; cases h) (by intro h; cases h) (by intro h; cases h) (by intro h; cases h) (by intro h; cases h) (by intro h; cases h) (by intro h; cases h) (by intro h; cases h) (by intro h; cases h) (by intro h; cases h) (by intro h; cases h) (by intro h; cases h) (by intro h; cases h) (by intro h; cases h) (by intro h; cases h) (by intro h; cases h) (by intro h; cases h) (by intro h; cases h) (by intro h; cases h) (by intro h; cases h) (by intro h; cases h) (by intro h; cases h) (by intro h; cases h) (by intro h; cases h) rfl
end Go.Proofs.YtmfjncbccaifiaaDoor
