/- Proved here: closed facts on the types and functions of the program -/
import Derived.Test.YtmlgjhgicoggdaaK8
import Derived.Test.YtmlgjhgicoggdaaProg
namespace Go.Proofs.Ytmlgjhgicoggdaa
open Go Go.RowKit
set_option linter.unusedVariables false
set_option linter.unusedSimpArgs false
set_option maxRecDepth 100000

theorem fn_ok_10 : callOkB Try.prog 10 = true := by kernel_rfl
theorem fn_ok_11 : callOkB Try.prog 11 = true := by kernel_rfl
theorem fn_ok_12 : callOkB Try.prog 12 = true := by kernel_rfl
theorem fn_ok_13 : callOkB Try.prog 13 = true := by kernel_rfl
theorem fn_ok_14 : callOkB Try.prog 14 = true := by kernel_rfl
theorem fn_ok_15 : callOkB Try.prog 15 = true := by kernel_rfl
theorem fn_ok_16 : callOkB Try.prog 16 = true := by kernel_rfl
theorem fn_ok_17 : callOkB Try.prog 17 = true := by kernel_rfl
theorem fn_ok_18 : callOkB Try.prog 18 = true := by kernel_rfl
theorem fn_ok_19 : callOkB Try.prog 19 = true := by kernel_rfl
theorem fn_ok_20 : callOkB Try.prog 20 = true := by kernel_rfl
theorem fn_ok_21 : callOkB Try.prog 21 = true := by kernel_rfl
theorem fn_ok_22 : callOkB Try.prog 22 = true := by kernel_rfl
theorem fn_ok_23 : callOkB Try.prog 23 = true := by kernel_rfl
theorem fn_ok_24 : callOkB Try.prog 24 = true := by kernel_rfl
theorem fn_ok_25 : callOkB Try.prog 25 = true := by kernel_rfl
theorem fn_ok_9 : callOkB Try.prog 9 = true := by kernel_rfl
theorem ty_el_3 : ElT Try.prog 3 (Value.int IntKind.i64 0) 8 := by unfold ElT; kernel_rfl
theorem ty_el_5 : ElT Try.prog 5 (Value.int IntKind.u8 0) 1 := by unfold ElT; kernel_rfl
theorem ty_mixed : Try.prog.follows .mixedOrders = true := by kernel_rfl
theorem ty_sz_5 : (Try.prog.info? 5).map (fun i => i.size) = some 1 := by kernel_rfl

end Go.Proofs.Ytmlgjhgicoggdaa
