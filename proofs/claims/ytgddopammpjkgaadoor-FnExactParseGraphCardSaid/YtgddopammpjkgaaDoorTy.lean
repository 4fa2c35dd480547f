/- Proved here: closed facts on the types and functions of the program -/
import Derived.Test.YtgddopammpjkgaaDoorK8
import Derived.Test.YtgddopammpjkgaaDoorProg
namespace Go.Proofs.YtgddopammpjkgaaDoor
open Go Go.RowKit
set_option linter.unusedVariables false
set_option linter.unusedSimpArgs false
set_option maxRecDepth 100000
set_option maxHeartbeats 4000000

theorem fn_ok_10 : callOkB Tryd.prog 10 = true := by kernel_rfl
theorem fn_ok_11 : callOkB Tryd.prog 11 = true := by kernel_rfl
theorem fn_ok_12 : callOkB Tryd.prog 12 = true := by kernel_rfl
theorem fn_ok_13 : callOkB Tryd.prog 13 = true := by kernel_rfl
theorem fn_ok_14 : callOkB Tryd.prog 14 = true := by kernel_rfl
theorem fn_ok_15 : callOkB Tryd.prog 15 = true := by kernel_rfl
theorem fn_ok_16 : callOkB Tryd.prog 16 = true := by kernel_rfl
theorem fn_ok_17 : callOkB Tryd.prog 17 = true := by kernel_rfl
theorem fn_ok_18 : callOkB Tryd.prog 18 = true := by kernel_rfl
theorem fn_ok_19 : callOkB Tryd.prog 19 = true := by kernel_rfl
theorem fn_ok_20 : callOkB Tryd.prog 20 = true := by kernel_rfl
theorem fn_ok_21 : callOkB Tryd.prog 21 = true := by kernel_rfl
theorem fn_ok_22 : callOkB Tryd.prog 22 = true := by kernel_rfl
theorem fn_ok_23 : callOkB Tryd.prog 23 = true := by kernel_rfl
theorem fn_ok_24 : callOkB Tryd.prog 24 = true := by kernel_rfl
theorem fn_ok_25 : callOkB Tryd.prog 25 = true := by kernel_rfl
theorem fn_ok_26 : callOkB Tryd.prog 26 = true := by kernel_rfl
theorem fn_ok_27 : callOkB Tryd.prog 27 = true := by kernel_rfl
theorem fn_ok_28 : callOkB Tryd.prog 28 = true := by kernel_rfl
theorem fn_ok_29 : callOkB Tryd.prog 29 = true := by kernel_rfl
theorem fn_ok_30 : callOkB Tryd.prog 30 = true := by kernel_rfl
theorem fn_ok_31 : callOkB Tryd.prog 31 = true := by kernel_rfl
theorem fn_ok_32 : callOkB Tryd.prog 32 = true := by kernel_rfl
theorem fn_ok_33 : callOkB Tryd.prog 33 = true := by kernel_rfl
theorem fn_ok_34 : callOkB Tryd.prog 34 = true := by kernel_rfl
theorem fn_ok_35 : callOkB Tryd.prog 35 = true := by kernel_rfl
theorem fn_ok_36 : callOkB Tryd.prog 36 = true := by kernel_rfl
theorem fn_ok_37 : callOkB Tryd.prog 37 = true := by kernel_rfl
theorem fn_ok_38 : callOkB Tryd.prog 38 = true := by kernel_rfl
theorem fn_ok_39 : callOkB Tryd.prog 39 = true := by kernel_rfl
theorem fn_ok_40 : callOkB Tryd.prog 40 = true := by kernel_rfl
theorem fn_ok_41 : callOkB Tryd.prog 41 = true := by kernel_rfl
theorem fn_ok_42 : callOkB Tryd.prog 42 = true := by kernel_rfl
theorem fn_ok_43 : callOkB Tryd.prog 43 = true := by kernel_rfl
theorem fn_ok_44 : callOkB Tryd.prog 44 = true := by kernel_rfl
theorem fn_ok_45 : callOkB Tryd.prog 45 = true := by kernel_rfl
theorem fn_ok_46 : callOkB Tryd.prog 46 = true := by kernel_rfl
theorem fn_ok_47 : callOkB Tryd.prog 47 = true := by kernel_rfl
theorem fn_ok_48 : callOkB Tryd.prog 48 = true := by kernel_rfl
theorem fn_ok_49 : callOkB Tryd.prog 49 = true := by kernel_rfl
theorem fn_ok_50 : callOkB Tryd.prog 50 = true := by kernel_rfl
theorem fn_ok_51 : callOkB Tryd.prog 51 = true := by kernel_rfl
theorem fn_ok_52 : callOkB Tryd.prog 52 = true := by kernel_rfl
theorem fn_ok_53 : callOkB Tryd.prog 53 = true := by kernel_rfl
theorem fn_ok_54 : callOkB Tryd.prog 54 = true := by kernel_rfl
theorem fn_ok_55 : callOkB Tryd.prog 55 = true := by kernel_rfl
theorem fn_ok_56 : callOkB Tryd.prog 56 = true := by kernel_rfl
theorem fn_ok_57 : callOkB Tryd.prog 57 = true := by kernel_rfl
theorem fn_ok_58 : callOkB Tryd.prog 58 = true := by kernel_rfl
theorem fn_ok_59 : callOkB Tryd.prog 59 = true := by kernel_rfl
theorem fn_ok_60 : callOkB Tryd.prog 60 = true := by kernel_rfl
theorem fn_ok_64 : callOkB Tryd.prog 64 = true := by kernel_rfl
theorem fn_ok_65 : callOkB Tryd.prog 65 = true := by kernel_rfl
theorem fn_ok_66 : callOkB Tryd.prog 66 = true := by kernel_rfl
theorem fn_ok_67 : callOkB Tryd.prog 67 = true := by kernel_rfl
theorem fn_ok_9 : callOkB Tryd.prog 9 = true := by kernel_rfl
theorem ty_ag_22 : aggB Tryd.prog 22 = some false := by kernel_rfl
theorem ty_ag_3 : aggB Tryd.prog 3 = some false := by kernel_rfl
theorem ty_ag_38 : aggB Tryd.prog 38 = some false := by kernel_rfl
theorem ty_ag_40 : aggB Tryd.prog 40 = some true := by kernel_rfl
theorem ty_ag_43 : aggB Tryd.prog 43 = some true := by kernel_rfl
theorem ty_ag_5 : aggB Tryd.prog 5 = some false := by kernel_rfl
theorem ty_ag_9 : aggB Tryd.prog 9 = some false := by kernel_rfl
theorem ty_el_3 : ElT Tryd.prog 3 (Value.int IntKind.i64 0) 8 := by unfold ElT; kernel_rfl
theorem ty_el_38 : ElT Tryd.prog 38 (Value.slice none 0 0) 24 := by unfold ElT; kernel_rfl
theorem ty_el_5 : ElT Tryd.prog 5 (Value.int IntKind.u8 0) 1 := by unfold ElT; kernel_rfl
theorem ty_el_9 : ElT Tryd.prog 9 (Value.string (bs [])) 16 := by unfold ElT; kernel_rfl
theorem ty_fd_40_0 : fdB Tryd.prog 40 0 = some 0 := by kernel_rfl
theorem ty_fd_40_1 : fdB Tryd.prog 40 1 = some 1 := by kernel_rfl
theorem ty_fd_43_0 : fdB Tryd.prog 43 0 = some 0 := by kernel_rfl
theorem ty_fd_43_1 : fdB Tryd.prog 43 1 = some 1 := by kernel_rfl
theorem ty_fd_75_0 : fdB Tryd.prog 75 0 = some 0 := by kernel_rfl
theorem ty_fd_75_1 : fdB Tryd.prog 75 1 = some 1 := by kernel_rfl
theorem ty_fd_75_2 : fdB Tryd.prog 75 2 = some 2 := by kernel_rfl
theorem ty_mixed : Tryd.prog.follows .mixedOrders = true := by kernel_rfl
theorem ty_st_43 : stB Tryd.prog 43 = some [(Value.int IntKind.i64 0), (Value.slice none 0 0)] := by kernel_rfl
theorem ty_st_75 : stB Tryd.prog 75 = some [(Value.slice none 0 0), (Value.int IntKind.i64 0), (Value.int IntKind.i64 0)] := by kernel_rfl
theorem ty_sz_3 : (Tryd.prog.info? 3).map (fun i => i.size) = some 1 := by kernel_rfl
theorem ty_sz_38 : (Tryd.prog.info? 38).map (fun i => i.size) = some 1 := by kernel_rfl
theorem ty_sz_40 : (Tryd.prog.info? 40).map (fun i => i.size) = some 2 := by kernel_rfl
theorem ty_sz_43 : (Tryd.prog.info? 43).map (fun i => i.size) = some 2 := by kernel_rfl
theorem ty_sz_5 : (Tryd.prog.info? 5).map (fun i => i.size) = some 1 := by kernel_rfl
theorem ty_zr_43 : (Tryd.prog.info? 43).map (fun i => i.zero) = some (some (Value.agg #[(Value.int IntKind.i64 0), (Value.slice none 0 0)])) := by kernel_rfl

end Go.Proofs.YtgddopammpjkgaaDoor
