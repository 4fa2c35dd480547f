/- Proved here: closed facts on the types and functions of the program -/
import Derived.Test.YtblbimlobacciaaK8
import Derived.Test.YtblbimlobacciaaProg
namespace Go.Proofs.Ytblbimlobacciaa
open Go Go.RowKit
set_option linter.unusedVariables false
set_option linter.unusedSimpArgs false
set_option maxRecDepth 100000
set_option maxHeartbeats 40000000

theorem fn_ok_10 : callOkB Try.prog 10 = true := by kernel_rfl
theorem fn_ok_11 : callOkB Try.prog 11 = true := by kernel_rfl
theorem fn_ok_12 : callOkB Try.prog 12 = true := by kernel_rfl
theorem fn_ok_13 : callOkB Try.prog 13 = true := by kernel_rfl
theorem fn_ok_14 : callOkB Try.prog 14 = true := by kernel_rfl
theorem fn_ok_15 : callOkB Try.prog 15 = true := by kernel_rfl
theorem fn_ok_16 : callOkB Try.prog 16 = true := by kernel_rfl
theorem fn_ok_17 : callOkB Try.prog 17 = true := by kernel_rfl
theorem fn_ok_18 : callOkB Try.prog 18 = true := by kernel_rfl
theorem fn_ok_19 : callOkB Try.prog 19 = true := by kernel_rfl
theorem fn_ok_20 : callOkB Try.prog 20 = true := by kernel_rfl
theorem fn_ok_21 : callOkB Try.prog 21 = true := by kernel_rfl
theorem fn_ok_22 : callOkB Try.prog 22 = true := by kernel_rfl
theorem fn_ok_23 : callOkB Try.prog 23 = true := by kernel_rfl
theorem fn_ok_24 : callOkB Try.prog 24 = true := by kernel_rfl
theorem fn_ok_25 : callOkB Try.prog 25 = true := by kernel_rfl
theorem fn_ok_26 : callOkB Try.prog 26 = true := by kernel_rfl
theorem fn_ok_27 : callOkB Try.prog 27 = true := by kernel_rfl
theorem fn_ok_28 : callOkB Try.prog 28 = true := by kernel_rfl
theorem fn_ok_29 : callOkB Try.prog 29 = true := by kernel_rfl
theorem fn_ok_30 : callOkB Try.prog 30 = true := by kernel_rfl
theorem fn_ok_31 : callOkB Try.prog 31 = true := by kernel_rfl
theorem fn_ok_32 : callOkB Try.prog 32 = true := by kernel_rfl
theorem fn_ok_33 : callOkB Try.prog 33 = true := by kernel_rfl
theorem fn_ok_34 : callOkB Try.prog 34 = true := by kernel_rfl
theorem fn_ok_35 : callOkB Try.prog 35 = true := by kernel_rfl
theorem fn_ok_36 : callOkB Try.prog 36 = true := by kernel_rfl
theorem fn_ok_37 : callOkB Try.prog 37 = true := by kernel_rfl
theorem fn_ok_38 : callOkB Try.prog 38 = true := by kernel_rfl
theorem fn_ok_39 : callOkB Try.prog 39 = true := by kernel_rfl
theorem fn_ok_4 : callOkB Try.prog 4 = true := by kernel_rfl
theorem fn_ok_40 : callOkB Try.prog 40 = true := by kernel_rfl
theorem fn_ok_41 : callOkB Try.prog 41 = true := by kernel_rfl
theorem fn_ok_42 : callOkB Try.prog 42 = true := by kernel_rfl
theorem fn_ok_43 : callOkB Try.prog 43 = true := by kernel_rfl
theorem fn_ok_44 : callOkB Try.prog 44 = true := by kernel_rfl
theorem fn_ok_5 : callOkB Try.prog 5 = true := by kernel_rfl
theorem fn_ok_6 : callOkB Try.prog 6 = true := by kernel_rfl
theorem fn_ok_7 : callOkB Try.prog 7 = true := by kernel_rfl
theorem fn_ok_8 : callOkB Try.prog 8 = true := by kernel_rfl
theorem fn_ok_9 : callOkB Try.prog 9 = true := by kernel_rfl
theorem ty_ag_22 : aggB Try.prog 22 = some false := by kernel_rfl
theorem ty_ag_24 : aggB Try.prog 24 = some true := by kernel_rfl
theorem ty_ag_29 : aggB Try.prog 29 = some true := by kernel_rfl
theorem ty_ag_3 : aggB Try.prog 3 = some false := by kernel_rfl
theorem ty_el_22 : ElT Try.prog 22 (Value.slice none 0 0) 24 := by unfold ElT; kernel_rfl
theorem ty_el_3 : ElT Try.prog 3 (Value.int IntKind.i64 0) 8 := by unfold ElT; kernel_rfl
theorem ty_fd_24_0 : fdB Try.prog 24 0 = some 0 := by kernel_rfl
theorem ty_fd_24_1 : fdB Try.prog 24 1 = some 1 := by kernel_rfl
theorem ty_fd_29_0 : fdB Try.prog 29 0 = some 0 := by kernel_rfl
theorem ty_fd_29_1 : fdB Try.prog 29 1 = some 1 := by kernel_rfl
theorem ty_mixed : Try.prog.follows .mixedOrders = true := by kernel_rfl
theorem ty_st_29 : stB Try.prog 29 = some [(Value.int IntKind.i64 0), (Value.slice none 0 0)] := by kernel_rfl
theorem ty_sz_22 : (Try.prog.info? 22).map (fun i => i.size) = some 1 := by kernel_rfl
theorem ty_sz_24 : (Try.prog.info? 24).map (fun i => i.size) = some 2 := by kernel_rfl
theorem ty_sz_29 : (Try.prog.info? 29).map (fun i => i.size) = some 2 := by kernel_rfl
theorem ty_sz_3 : (Try.prog.info? 3).map (fun i => i.size) = some 1 := by kernel_rfl
theorem ty_zr_29 : (Try.prog.info? 29).map (fun i => i.zero) = some (some (Value.agg #[(Value.int IntKind.i64 0), (Value.slice none 0 0)])) := by kernel_rfl

end Go.Proofs.Ytblbimlobacciaa
