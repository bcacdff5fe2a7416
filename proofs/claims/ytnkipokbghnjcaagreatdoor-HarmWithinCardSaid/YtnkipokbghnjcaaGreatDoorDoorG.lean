/-
  sane(): one run of the evaluator over all summaries.
-/
import Derived.Test.YtnkipokbghnjcaaGreatDoorDoorE
import Derived.Test.YtnkipokbghnjcaaGreatDoorDoorF
/-! sane(): one run of the evaluator over all summaries. -/
namespace Go.Ev
open Go Go.Proofs

def smY : Sums := smL2 smV [sumZ0, sumZ1, sumZ2, sumZ3, sumZ4, sumZ6]
theorem smY_ok : SumsOK Tryz.prog 7 smY := smL2_ok smV_ok _ fun e he => by
  simp only [List.mem_cons, List.not_mem_nil, or_false] at he
  rcases he with rfl | rfl | rfl | rfl | rfl | rfl
  · exact sum2_ok door_mix door_names smV_ok smV_ext _ sumZ0_chk
  · exact sum2_ok door_mix door_names smV_ok smV_ext _ sumZ1_chk
  · exact sum2_ok door_mix door_names smV_ok smV_ext _ sumZ2_chk
  · exact sum2_ok door_mix door_names smV_ok smV_ext _ sumZ3_chk
  · exact sum2_ok door_mix door_names smV_ok smV_ext _ sumZ4_chk
  · exact sum2_ok door_mix door_names smV_ok smV_ext _ sumZ6_chk
theorem smY_ext : SumsExt smY := smL2_ext smV_ext _ fun e he => by
  simp only [List.mem_cons, List.not_mem_nil, or_false] at he
  rcases he with rfl | rfl | rfl | rfl | rfl | rfl
  · exact (sum2_ok door_mix door_names smV_ok smV_ext _ sumZ0_chk).cap
  · exact (sum2_ok door_mix door_names smV_ok smV_ext _ sumZ1_chk).cap
  · exact (sum2_ok door_mix door_names smV_ok smV_ext _ sumZ2_chk).cap
  · exact (sum2_ok door_mix door_names smV_ok smV_ext _ sumZ3_chk).cap
  · exact (sum2_ok door_mix door_names smV_ok smV_ext _ sumZ4_chk).cap
  · exact (sum2_ok door_mix door_names smV_ok smV_ext _ sumZ6_chk).cap
def smW : Sums := smL smY [sumZ5, sumZ7, sumZ8, sumZ9, sumZ10, sumZ11, sumZ12, sumZ13, sumZ14]
theorem smW_ok : SumsOK Tryz.prog 7 smW := smL_ok smY_ok _ fun e he => by
  simp only [List.mem_cons, List.not_mem_nil, or_false] at he
  rcases he with rfl | rfl | rfl | rfl | rfl | rfl | rfl | rfl | rfl
  · exact door_sum smV_ok smV_ext _ sumZ5_chk
  · exact door_sum smV_ok smV_ext _ sumZ7_chk
  · exact door_sum smV_ok smV_ext _ sumZ8_chk
  · exact door_sum smV_ok smV_ext _ sumZ9_chk
  · exact door_sum smV_ok smV_ext _ sumZ10_chk
  · exact door_sum smV_ok smV_ext _ sumZ11_chk
  · exact door_sum smV_ok smV_ext _ sumZ12_chk
  · exact door_sum smV_ok smV_ext _ sumZ13_chk
  · exact door_sum smV_ok smV_ext _ sumZ14_chk
theorem smW_ext : SumsExt smW := smL_ext smY_ext _

def hst : Hp := mkH [.dead,
  .cells [.int .i64 31, .int .i64 29, .int .i64 31, .int .i64 30, .int .i64 31, .int .i64 30, .int .i64 31, .int .i64 31, .int .i64 30, .int .i64 31, .int .i64 30, .int .i64 31] 347,
  .dead,
  .dead,
  .dead,
  .dead,
  .dead]
def sumSane : Sum1 := Sum1.mk 4 [] hst (.bool true)
set_option maxRecDepth 100000 in
theorem sumSane_chk : sumChk Tryz.prog 7 smW 600 sumSane = true := by kernel_rfl
theorem sane_ok : CallOK Tryz.prog 7 4 [] false hst .run [.ret (.bool true) hst .run] := (door_sum smW_ok smW_ext 600 sumSane_chk).ok
end Go.Ev
