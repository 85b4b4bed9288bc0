import Derived.Test.YtddncbgdoplgiaaGreatAlRb
import Derived.Test.YtddncbgdoplgiaaGreatProg
namespace Go.R
open Go Go.AL Go.Proofs
set_option maxRecDepth 10000

@[simp] theorem ty_3 : tyS Tryz.prog 3 = some (false, 1) := by kernel_rfl
@[simp] theorem und_3 : (Tryz.prog.underlying 3).isSome = true := by kernel_rfl
@[simp] theorem kind_3 : kindS Tryz.prog 3 = some .i64 := by kernel_rfl
@[simp] theorem intT_3 : intT Tryz.prog 3 = true := by kernel_rfl
@[simp] theorem fltN_3 : fltT Tryz.prog 3 = none := by kernel_rfl
@[simp] theorem slcN_3 : slcS Tryz.prog 3 = none := by kernel_rfl
@[simp] theorem zero_3 : zeroOf Tryz.prog 3 = some (.int .i64 0) := by kernel_rfl
@[simp] theorem ty_4 : tyS Tryz.prog 4 = some (false, 1) := by kernel_rfl
@[simp] theorem und_4 : (Tryz.prog.underlying 4).isSome = true := by kernel_rfl
@[simp] theorem isBool_4 : Tryz.prog.underlying 4 = some .bool := by kernel_rfl
@[simp] theorem fltN_4 : fltT Tryz.prog 4 = none := by kernel_rfl
@[simp] theorem slcN_4 : slcS Tryz.prog 4 = none := by kernel_rfl
@[simp] theorem zero_4 : zeroOf Tryz.prog 4 = some (.bool false) := by kernel_rfl
@[simp] theorem ty_5 : tyS Tryz.prog 5 = some (false, 1) := by kernel_rfl
@[simp] theorem und_5 : (Tryz.prog.underlying 5).isSome = true := by kernel_rfl
@[simp] theorem kind_5 : kindS Tryz.prog 5 = some .u8 := by kernel_rfl
@[simp] theorem intT_5 : intT Tryz.prog 5 = true := by kernel_rfl
@[simp] theorem fltN_5 : fltT Tryz.prog 5 = none := by kernel_rfl
@[simp] theorem slcN_5 : slcS Tryz.prog 5 = none := by kernel_rfl
@[simp] theorem zero_5 : zeroOf Tryz.prog 5 = some (.int .u8 0) := by kernel_rfl
@[simp] theorem ty_9 : tyS Tryz.prog 9 = some (false, 1) := by kernel_rfl
@[simp] theorem und_9 : (Tryz.prog.underlying 9).isSome = true := by kernel_rfl
@[simp] theorem isStr_9 : isStrT Tryz.prog 9 = true := by kernel_rfl
@[simp] theorem notInt_9 : notInt Tryz.prog 9 = true := by kernel_rfl
@[simp] theorem fltN_9 : fltT Tryz.prog 9 = none := by kernel_rfl
@[simp] theorem slcN_9 : slcS Tryz.prog 9 = none := by kernel_rfl
@[simp] theorem zero_9 : zeroOf Tryz.prog 9 = some (.str []) := by kernel_rfl
@[simp] theorem ty_50 : tyS Tryz.prog 50 = some (false, 1) := by kernel_rfl
@[simp] theorem und_50 : (Tryz.prog.underlying 50).isSome = true := by kernel_rfl
@[simp] theorem kind_50 : kindS Tryz.prog 50 = some .u64 := by kernel_rfl
@[simp] theorem intT_50 : intT Tryz.prog 50 = true := by kernel_rfl
@[simp] theorem fltN_50 : fltT Tryz.prog 50 = none := by kernel_rfl
@[simp] theorem slcN_50 : slcS Tryz.prog 50 = none := by kernel_rfl
@[simp] theorem zero_50 : zeroOf Tryz.prog 50 = some (.int .u64 0) := by kernel_rfl
@[simp] theorem ty_60 : tyS Tryz.prog 60 = some (false, 1) := by kernel_rfl
@[simp] theorem und_60 : (Tryz.prog.underlying 60).isSome = true := by kernel_rfl
@[simp] theorem fltT_60 : fltT Tryz.prog 60 = some .f64 := by kernel_rfl
@[simp] theorem slcN_60 : slcS Tryz.prog 60 = none := by kernel_rfl
@[simp] theorem zero_60 : zeroOf Tryz.prog 60 = some (.flt .f64 0) := by kernel_rfl
@[simp] theorem ty_62 : tyS Tryz.prog 62 = some (true, 5) := by kernel_rfl
@[simp] theorem und_62 : (Tryz.prog.underlying 62).isSome = true := by kernel_rfl
@[simp] theorem fld_62_0 : fldS Tryz.prog 62 0 = some (0, 3) := by kernel_rfl
@[simp] theorem fld_62_1 : fldS Tryz.prog 62 1 = some (1, 3) := by kernel_rfl
@[simp] theorem fld_62_2 : fldS Tryz.prog 62 2 = some (2, 3) := by kernel_rfl
@[simp] theorem fld_62_3 : fldS Tryz.prog 62 3 = some (3, 60) := by kernel_rfl
@[simp] theorem fld_62_4 : fldS Tryz.prog 62 4 = some (4, 60) := by kernel_rfl
@[simp] theorem fltN_62 : fltT Tryz.prog 62 = none := by kernel_rfl
@[simp] theorem slcN_62 : slcS Tryz.prog 62 = none := by kernel_rfl
@[simp] theorem zero_62 : zeroOf Tryz.prog 62 = some (.agg [(.int .i64 0), (.int .i64 0), (.int .i64 0), (.flt .f64 0), (.flt .f64 0)]) := by kernel_rfl
@[simp] theorem ty_66 : tyS Tryz.prog 66 = some (false, 1) := by kernel_rfl
@[simp] theorem und_66 : (Tryz.prog.underlying 66).isSome = true := by kernel_rfl
@[simp] theorem slc_66 : slcS Tryz.prog 66 = some 62 := by kernel_rfl
@[simp] theorem notInt_66 : notInt Tryz.prog 66 = true := by kernel_rfl
@[simp] theorem el_66_62 : elS Tryz.prog 62 = some (5, 40) := by kernel_rfl
@[simp] theorem fltN_66 : fltT Tryz.prog 66 = none := by kernel_rfl
@[simp] theorem zero_66 : zeroOf Tryz.prog 66 = some (.own 0 0 []) := by kernel_rfl
end Go.R
