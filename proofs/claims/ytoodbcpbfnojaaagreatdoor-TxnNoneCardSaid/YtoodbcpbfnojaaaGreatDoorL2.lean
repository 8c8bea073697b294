/- TxnNone: what each method of a nil memory and of a nil snap answers. -/
import Derived.Test.YtoodbcpbfnojaaaGreatDoorL1
import Derived.WalkKit
import Derived.OwnWalkIn
import Derived.TacticsInMore
import Derived.Lib.Hide
import Derived.Laws.ResultCell
namespace Go.Proofs.YtoodbcpbfnojaaaGreatDoor
open Go Go.RowKit
set_option linter.unusedVariables false
set_option linter.unusedSimpArgs false
set_option maxHeartbeats 4000000

theorem worker_nil (a : Int) (w : World) : Calls Tryz.prog 20 #[.pointer none, .int .i64 a] w fun e w' => e = .returned (.pointer none) ∧ w = w' := by
  go_enter Tryz.func20, Tryz.ntmps20
  go_wp2_with go_in
  go_ret
  exact ⟨rfl, rfl⟩

theorem start_nil (a : Int) (w : World) : Calls Tryz.prog 5 #[.pointer none, .int .i64 a, .agg #[.int .i64 11, .int .i64 0, .string ⟨#[]⟩, .string ⟨#[]⟩, .string ⟨#[]⟩, .int .i64 0, .int .i64 0]] w fun e w' => e = .returned (.int .i64 1) ∧ Below w.heap.size w w' := by
  have HB : Hid (Below w.heap.size w w) := Lib.hid (Below.refl _ _)
  have HK := Lib.hid (worker_nil a)
  go_enter Tryz.func5, Tryz.ntmps5
  go_wp2_with (first | (go_at_call 20; refine (HK.out _).mono ?_; rintro e w1 ⟨rfl, rfl⟩) | go_in)
  go_ret
  all_goals clear HK
  all_goals (have hz := HB.out; clear HB)
  exact ⟨rfl, by first | exact hz | exact hz.alloc hz.size _ | exact ((hz.alloc hz.size _).alloc (hz.alloc hz.size _).size _).alloc ((hz.alloc hz.size _).alloc (hz.alloc hz.size _).size _).size _ | skip⟩

theorem step_nil (a : Int) (w : World) : Calls Tryz.prog 6 #[.pointer none, .int .i64 a] w fun e w' => e = .returned (.bool false) ∧ Below w.heap.size w w' := by
  have HB : Hid (Below w.heap.size w w) := Lib.hid (Below.refl _ _)
  have HK := Lib.hid (worker_nil a)
  go_enter Tryz.func6, Tryz.ntmps6
  go_wp2_with (first | (go_at_call 20; refine (HK.out _).mono ?_; rintro e w1 ⟨rfl, rfl⟩) | go_in)
  go_ret
  all_goals clear HK
  all_goals (have hz := HB.out; clear HB)
  exact ⟨rfl, by first | exact hz | exact hz.alloc hz.size _ | exact ((hz.alloc hz.size _).alloc (hz.alloc hz.size _).size _).alloc ((hz.alloc hz.size _).alloc (hz.alloc hz.size _).size _).size _ | skip⟩

theorem reply_nil (a : Int) (w : World) : Calls Tryz.prog 7 #[.pointer none, .int .i64 a] w fun e w' => e = .returned (.tuple #[.agg #[.int .i64 0, .string ⟨#[]⟩, .bool false, .slice none 0 0, .int .i64 0, .int .i64 0], .bool false]) ∧ Below w.heap.size w w' := by
  have HB : Hid (Below w.heap.size w w) := Lib.hid (Below.refl _ _)
  have HK := Lib.hid (worker_nil a)
  go_enter Tryz.func7, Tryz.ntmps7
  go_wp2_with (first | (go_at_call 20; refine (HK.out _).mono ?_; rintro e w1 ⟨rfl, rfl⟩) | go_in)
  clear HK
  (try simp only [Exit.inBlock, Exit.then])
  refine bodyPost_ret (v := .tuple #[.agg #[.int .i64 0, .string ⟨#[]⟩, .bool false, .slice none 0 0, .int .i64 0, .int .i64 0], .bool false]) ?_ rfl ⟨rfl, HB.out.alloc HB.out.size _⟩
  rw [results_cell_tmp rfl]
  go_simp

theorem has_nil (a : Int) (w : World) : Calls Tryz.prog 8 #[.pointer none, .int .i64 a] w fun e w' => e = .returned (.bool false) ∧ Below w.heap.size w w' := by
  have HB : Hid (Below w.heap.size w w) := Lib.hid (Below.refl _ _)
  have HK := Lib.hid (worker_nil a)
  go_enter Tryz.func8, Tryz.ntmps8
  go_wp2_with (first | (go_at_call 20; refine (HK.out _).mono ?_; rintro e w1 ⟨rfl, rfl⟩) | go_in)
  go_ret
  all_goals clear HK
  all_goals (have hz := HB.out; clear HB)
  exact ⟨rfl, by first | exact hz | exact hz.alloc hz.size _ | exact ((hz.alloc hz.size _).alloc (hz.alloc hz.size _).size _).alloc ((hz.alloc hz.size _).alloc (hz.alloc hz.size _).size _).size _ | skip⟩

theorem snap_nil (w : World) : Calls Tryz.prog 9 #[.pointer none] w fun e w' => e = .returned (.pointer none) ∧ Below w.heap.size w w' := by
  have HB : Hid (Below w.heap.size w w) := Lib.hid (Below.refl _ _)
  go_enter Tryz.func9, Tryz.ntmps9
  go_wp2_with go_in
  go_ret
  all_goals (have hz := HB.out; clear HB)
  exact ⟨rfl, by first | exact hz | exact hz.alloc hz.size _ | exact ((hz.alloc hz.size _).alloc (hz.alloc hz.size _).size _).alloc ((hz.alloc hz.size _).alloc (hz.alloc hz.size _).size _).size _ | skip⟩

theorem sstep_nil (w : World) : Calls Tryz.prog 10 #[.pointer none] w fun e w' => e = .returned (.bool true) ∧ Below w.heap.size w w' := by
  have HB : Hid (Below w.heap.size w w) := Lib.hid (Below.refl _ _)
  go_enter Tryz.func10, Tryz.ntmps10
  go_wp2_with go_in
  go_ret
  all_goals (have hz := HB.out; clear HB)
  exact ⟨rfl, by first | exact hz | exact hz.alloc hz.size _ | exact ((hz.alloc hz.size _).alloc (hz.alloc hz.size _).size _).alloc ((hz.alloc hz.size _).alloc (hz.alloc hz.size _).size _).size _ | skip⟩

theorem ahead_nil (a : Int) (w : World) : Calls Tryz.prog 11 #[.pointer none, .int .i64 a] w fun e w' => e = .returned (.int .i64 1) ∧ Below w.heap.size w w' := by
  have HB : Hid (Below w.heap.size w w) := Lib.hid (Below.refl _ _)
  go_enter Tryz.func11, Tryz.ntmps11
  go_wp2_with go_in
  go_ret
  all_goals (have hz := HB.out; clear HB)
  exact ⟨rfl, by first | exact hz | exact hz.alloc hz.size _ | exact ((hz.alloc hz.size _).alloc (hz.alloc hz.size _).size _).alloc ((hz.alloc hz.size _).alloc (hz.alloc hz.size _).size _).size _ | skip⟩

theorem drawn_nil (a : Int) (w : World) : Calls Tryz.prog 12 #[.pointer none, .int .i64 a] w fun e w' => e = .returned (.int .i64 0) ∧ Below w.heap.size w w' := by
  have HB : Hid (Below w.heap.size w w) := Lib.hid (Below.refl _ _)
  have HK := Lib.hid (worker_nil a)
  go_enter Tryz.func12, Tryz.ntmps12
  go_wp2_with (first | (go_at_call 20; refine (HK.out _).mono ?_; rintro e w1 ⟨rfl, rfl⟩) | go_in)
  go_ret
  all_goals clear HK
  all_goals (have hz := HB.out; clear HB)
  exact ⟨rfl, by first | exact hz | exact hz.alloc hz.size _ | exact ((hz.alloc hz.size _).alloc (hz.alloc hz.size _).size _).alloc ((hz.alloc hz.size _).alloc (hz.alloc hz.size _).size _).size _ | skip⟩

theorem rows_nil (a : Int) (w : World) : Calls Tryz.prog 13 #[.pointer none, .int .i64 a] w fun e w' => e = .returned (.slice none 0 0) ∧ Below w.heap.size w w' := by
  have HB : Hid (Below w.heap.size w w) := Lib.hid (Below.refl _ _)
  go_enter Tryz.func13, Tryz.ntmps13
  go_wp2_with go_in
  go_ret
  all_goals (have hz := HB.out; clear HB)
  exact ⟨rfl, by first | exact hz | exact hz.alloc hz.size _ | exact ((hz.alloc hz.size _).alloc (hz.alloc hz.size _).size _).alloc ((hz.alloc hz.size _).alloc (hz.alloc hz.size _).size _).size _ | skip⟩

theorem now_nil (w : World) : Calls Tryz.prog 14 #[.pointer none] w fun e w' => e = .returned (.int .i64 0) ∧ Below w.heap.size w w' := by
  have HB : Hid (Below w.heap.size w w) := Lib.hid (Below.refl _ _)
  go_enter Tryz.func14, Tryz.ntmps14
  go_wp2_with go_in
  go_ret
  all_goals (have hz := HB.out; clear HB)
  exact ⟨rfl, by first | exact hz | exact hz.alloc hz.size _ | exact ((hz.alloc hz.size _).alloc (hz.alloc hz.size _).size _).alloc ((hz.alloc hz.size _).alloc (hz.alloc hz.size _).size _).size _ | skip⟩

theorem versions_nil (w : World) : Calls Tryz.prog 15 #[.pointer none] w fun e w' => e = .returned (.int .i64 0) ∧ Below w.heap.size w w' := by
  have HB : Hid (Below w.heap.size w w) := Lib.hid (Below.refl _ _)
  go_enter Tryz.func15, Tryz.ntmps15
  go_wp2_with go_in
  go_ret
  all_goals (have hz := HB.out; clear HB)
  exact ⟨rfl, by first | exact hz | exact hz.alloc hz.size _ | exact ((hz.alloc hz.size _).alloc (hz.alloc hz.size _).size _).alloc ((hz.alloc hz.size _).alloc (hz.alloc hz.size _).size _).size _ | skip⟩

theorem srows_nil (w : World) : Calls Tryz.prog 16 #[.pointer none] w fun e w' => e = .returned (.slice none 0 0) ∧ Below w.heap.size w w' := by
  have HB : Hid (Below w.heap.size w w) := Lib.hid (Below.refl _ _)
  go_enter Tryz.func16, Tryz.ntmps16
  go_wp2_with go_in
  go_ret
  all_goals (have hz := HB.out; clear HB)
  exact ⟨rfl, by first | exact hz | exact hz.alloc hz.size _ | exact ((hz.alloc hz.size _).alloc (hz.alloc hz.size _).size _).alloc ((hz.alloc hz.size _).alloc (hz.alloc hz.size _).size _).size _ | skip⟩

theorem sat_nil (w : World) : Calls Tryz.prog 17 #[.pointer none] w fun e w' => e = .returned (.int .i64 0) ∧ Below w.heap.size w w' := by
  have HB : Hid (Below w.heap.size w w) := Lib.hid (Below.refl _ _)
  go_enter Tryz.func17, Tryz.ntmps17
  go_wp2_with go_in
  go_ret
  all_goals (have hz := HB.out; clear HB)
  exact ⟨rfl, by first | exact hz | exact hz.alloc hz.size _ | exact ((hz.alloc hz.size _).alloc (hz.alloc hz.size _).size _).alloc ((hz.alloc hz.size _).alloc (hz.alloc hz.size _).size _).size _ | skip⟩
end Go.Proofs.YtoodbcpbfnojaaaGreatDoor
