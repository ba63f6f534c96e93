/- Several texts, one behind the other. -/
import Derived.Test.YtkdimfmnialabaaDoorKB
import Derived.Test.YtkdimfmnialabaaDoorProg
import Derived.Test.YtkdimfmnialabaaDoorKC
import Derived.Deep.Slices
import Derived.ChangeSame
import Derived.ProofKit
import Derived.Laws.Externs
import Derived.Lib.MakeNoZero
/- What the types of this seat are. Written by a program: gents.py. -/
namespace Go.Pv
set_option linter.unusedVariables false
@[simp] theorem tsz_1 : tsz Go.Proofs.Tryd.prog 1 = some 1 := by kernel_rfl
@[simp] theorem aggT_1 : aggT Go.Proofs.Tryd.prog 1 = some false := by kernel_rfl
@[simp] theorem tby_1 : tby Go.Proofs.Tryd.prog 1 = some 8 := by kernel_rfl
@[simp] theorem tz_1 : tzero Go.Proofs.Tryd.prog 1 = some .nilFunc := by kernel_rfl
@[simp] theorem tsz_2 : tsz Go.Proofs.Tryd.prog 2 = some 1 := by kernel_rfl
@[simp] theorem aggT_2 : aggT Go.Proofs.Tryd.prog 2 = some false := by kernel_rfl
@[simp] theorem tby_2 : tby Go.Proofs.Tryd.prog 2 = some 8 := by kernel_rfl
@[simp] theorem tz_2 : tzero Go.Proofs.Tryd.prog 2 = some (.int .i64 0) := by kernel_rfl
@[simp] theorem intT_2 : intT Go.Proofs.Tryd.prog 2 = some .i64 := by kernel_rfl
@[simp] theorem und_2 : (Go.Proofs.Tryd.prog.underlying 2).isSome = true := by kernel_rfl
@[simp] theorem tsz_3 : tsz Go.Proofs.Tryd.prog 3 = some 1 := by kernel_rfl
@[simp] theorem aggT_3 : aggT Go.Proofs.Tryd.prog 3 = some false := by kernel_rfl
@[simp] theorem tby_3 : tby Go.Proofs.Tryd.prog 3 = some 8 := by kernel_rfl
@[simp] theorem tz_3 : tzero Go.Proofs.Tryd.prog 3 = some (.int .i64 0) := by kernel_rfl
@[simp] theorem intT_3 : intT Go.Proofs.Tryd.prog 3 = some .i64 := by kernel_rfl
@[simp] theorem und_3 : (Go.Proofs.Tryd.prog.underlying 3).isSome = true := by kernel_rfl
@[simp] theorem tsz_4 : tsz Go.Proofs.Tryd.prog 4 = some 1 := by kernel_rfl
@[simp] theorem aggT_4 : aggT Go.Proofs.Tryd.prog 4 = some false := by kernel_rfl
@[simp] theorem tby_4 : tby Go.Proofs.Tryd.prog 4 = some 1 := by kernel_rfl
@[simp] theorem tz_4 : tzero Go.Proofs.Tryd.prog 4 = some (.bool false) := by kernel_rfl
@[simp] theorem boolT_4 : isBoolT Go.Proofs.Tryd.prog 4 = true := by kernel_rfl
@[simp] theorem tsz_5 : tsz Go.Proofs.Tryd.prog 5 = some 1 := by kernel_rfl
@[simp] theorem aggT_5 : aggT Go.Proofs.Tryd.prog 5 = some false := by kernel_rfl
@[simp] theorem tby_5 : tby Go.Proofs.Tryd.prog 5 = some 1 := by kernel_rfl
@[simp] theorem tz_5 : tzero Go.Proofs.Tryd.prog 5 = some (.int .u8 0) := by kernel_rfl
@[simp] theorem intT_5 : intT Go.Proofs.Tryd.prog 5 = some .u8 := by kernel_rfl
@[simp] theorem und_5 : (Go.Proofs.Tryd.prog.underlying 5).isSome = true := by kernel_rfl
@[simp] theorem tsz_6 : tsz Go.Proofs.Tryd.prog 6 = some 1 := by kernel_rfl
@[simp] theorem aggT_6 : aggT Go.Proofs.Tryd.prog 6 = some false := by kernel_rfl
@[simp] theorem tsz_7 : tsz Go.Proofs.Tryd.prog 7 = some 4 := by kernel_rfl
@[simp] theorem aggT_7 : aggT Go.Proofs.Tryd.prog 7 = some true := by kernel_rfl
@[simp] theorem tsz_8 : tsz Go.Proofs.Tryd.prog 8 = some 4 := by kernel_rfl
@[simp] theorem aggT_8 : aggT Go.Proofs.Tryd.prog 8 = some true := by kernel_rfl
@[simp] theorem tsz_9 : tsz Go.Proofs.Tryd.prog 9 = some 1 := by kernel_rfl
@[simp] theorem aggT_9 : aggT Go.Proofs.Tryd.prog 9 = some false := by kernel_rfl
@[simp] theorem tby_9 : tby Go.Proofs.Tryd.prog 9 = some 16 := by kernel_rfl
@[simp] theorem tz_9 : tzero Go.Proofs.Tryd.prog 9 = some (.string ⟨#[]⟩) := by kernel_rfl
@[simp] theorem strT_9 : isStrT Go.Proofs.Tryd.prog 9 = true := by kernel_rfl
@[simp] theorem sliceT_9 : sliceT Go.Proofs.Tryd.prog 9 = none := by kernel_rfl
@[simp] theorem und_9 : (Go.Proofs.Tryd.prog.underlying 9).isSome = true := by kernel_rfl
@[simp] theorem tsz_10 : tsz Go.Proofs.Tryd.prog 10 = some 1 := by kernel_rfl
@[simp] theorem aggT_10 : aggT Go.Proofs.Tryd.prog 10 = some false := by kernel_rfl
@[simp] theorem tsz_11 : tsz Go.Proofs.Tryd.prog 11 = some 1 := by kernel_rfl
@[simp] theorem aggT_11 : aggT Go.Proofs.Tryd.prog 11 = some false := by kernel_rfl
@[simp] theorem tsz_12 : tsz Go.Proofs.Tryd.prog 12 = some 1 := by kernel_rfl
@[simp] theorem aggT_12 : aggT Go.Proofs.Tryd.prog 12 = some false := by kernel_rfl
@[simp] theorem tby_12 : tby Go.Proofs.Tryd.prog 12 = some 8 := by kernel_rfl
@[simp] theorem tz_12 : tzero Go.Proofs.Tryd.prog 12 = some (.int .u64 0) := by kernel_rfl
@[simp] theorem intT_12 : intT Go.Proofs.Tryd.prog 12 = some .u64 := by kernel_rfl
@[simp] theorem und_12 : (Go.Proofs.Tryd.prog.underlying 12).isSome = true := by kernel_rfl
@[simp] theorem tsz_13 : tsz Go.Proofs.Tryd.prog 13 = some 2 := by kernel_rfl
@[simp] theorem aggT_13 : aggT Go.Proofs.Tryd.prog 13 = some true := by kernel_rfl
@[simp] theorem tby_13 : tby Go.Proofs.Tryd.prog 13 = some 24 := by kernel_rfl
@[simp] theorem tz_13 : tzero Go.Proofs.Tryd.prog 13 = some (.agg #[(.string ⟨#[]⟩), (.int .u64 0)]) := by kernel_rfl
@[simp] theorem fld_13_0 : fld Go.Proofs.Tryd.prog 13 0 = some (0, 9) := by kernel_rfl
@[simp] theorem fld_13_1 : fld Go.Proofs.Tryd.prog 13 1 = some (1, 12) := by kernel_rfl
@[simp] theorem pl_13 : placesP Go.Proofs.Tryd.prog 13 = some [(0, 1), (1, 1)] := by kernel_rfl
@[simp] theorem tsz_14 : tsz Go.Proofs.Tryd.prog 14 = some 2 := by kernel_rfl
@[simp] theorem aggT_14 : aggT Go.Proofs.Tryd.prog 14 = some true := by kernel_rfl
@[simp] theorem tsz_15 : tsz Go.Proofs.Tryd.prog 15 = some 1 := by kernel_rfl
@[simp] theorem aggT_15 : aggT Go.Proofs.Tryd.prog 15 = some false := by kernel_rfl
@[simp] theorem tby_15 : tby Go.Proofs.Tryd.prog 15 = some 8 := by kernel_rfl
@[simp] theorem tz_15 : tzero Go.Proofs.Tryd.prog 15 = some (.pointer none) := by kernel_rfl
@[simp] theorem ptrT_15 : ptrT Go.Proofs.Tryd.prog 15 = true := by kernel_rfl
@[simp] theorem tsz_16 : tsz Go.Proofs.Tryd.prog 16 = some 1 := by kernel_rfl
@[simp] theorem aggT_16 : aggT Go.Proofs.Tryd.prog 16 = some false := by kernel_rfl
@[simp] theorem tby_16 : tby Go.Proofs.Tryd.prog 16 = some 8 := by kernel_rfl
@[simp] theorem tz_16 : tzero Go.Proofs.Tryd.prog 16 = some (.pointer none) := by kernel_rfl
@[simp] theorem tsz_17 : tsz Go.Proofs.Tryd.prog 17 = some 1 := by kernel_rfl
@[simp] theorem aggT_17 : aggT Go.Proofs.Tryd.prog 17 = some false := by kernel_rfl
@[simp] theorem tsz_18 : tsz Go.Proofs.Tryd.prog 18 = some 1 := by kernel_rfl
@[simp] theorem aggT_18 : aggT Go.Proofs.Tryd.prog 18 = some true := by kernel_rfl
@[simp] theorem tsz_19 : tsz Go.Proofs.Tryd.prog 19 = some 1 := by kernel_rfl
@[simp] theorem aggT_19 : aggT Go.Proofs.Tryd.prog 19 = some true := by kernel_rfl
@[simp] theorem tby_19 : tby Go.Proofs.Tryd.prog 19 = some 8 := by kernel_rfl
@[simp] theorem tz_19 : tzero Go.Proofs.Tryd.prog 19 = some (.agg #[(.pointer none)]) := by kernel_rfl
@[simp] theorem fld_19_0 : fld Go.Proofs.Tryd.prog 19 0 = some (0, 17) := by kernel_rfl
@[simp] theorem pl_19 : placesP Go.Proofs.Tryd.prog 19 = some [(0, 1)] := by kernel_rfl
@[simp] theorem tsz_20 : tsz Go.Proofs.Tryd.prog 20 = some 1 := by kernel_rfl
@[simp] theorem aggT_20 : aggT Go.Proofs.Tryd.prog 20 = some false := by kernel_rfl
@[simp] theorem tby_20 : tby Go.Proofs.Tryd.prog 20 = some 16 := by kernel_rfl
@[simp] theorem tz_20 : tzero Go.Proofs.Tryd.prog 20 = some .nilIface := by kernel_rfl
@[simp] theorem tsz_21 : tsz Go.Proofs.Tryd.prog 21 = some 1 := by kernel_rfl
@[simp] theorem aggT_21 : aggT Go.Proofs.Tryd.prog 21 = some false := by kernel_rfl
@[simp] theorem tby_21 : tby Go.Proofs.Tryd.prog 21 = some 4 := by kernel_rfl
@[simp] theorem tz_21 : tzero Go.Proofs.Tryd.prog 21 = some (.int .i32 0) := by kernel_rfl
@[simp] theorem intT_21 : intT Go.Proofs.Tryd.prog 21 = some .i32 := by kernel_rfl
@[simp] theorem und_21 : (Go.Proofs.Tryd.prog.underlying 21).isSome = true := by kernel_rfl
@[simp] theorem tsz_22 : tsz Go.Proofs.Tryd.prog 22 = some 1 := by kernel_rfl
@[simp] theorem aggT_22 : aggT Go.Proofs.Tryd.prog 22 = some false := by kernel_rfl
@[simp] theorem tby_22 : tby Go.Proofs.Tryd.prog 22 = some 24 := by kernel_rfl
@[simp] theorem tz_22 : tzero Go.Proofs.Tryd.prog 22 = some (.slice none 0 0) := by kernel_rfl
@[simp] theorem sliceT_22 : sliceT Go.Proofs.Tryd.prog 22 = some 3 := by kernel_rfl
@[simp] theorem strT_22 : isStrT Go.Proofs.Tryd.prog 22 = false := by kernel_rfl
@[simp] theorem und_22 : (Go.Proofs.Tryd.prog.underlying 22).isSome = true := by kernel_rfl
@[simp] theorem tsz_23 : tsz Go.Proofs.Tryd.prog 23 = some 1 := by kernel_rfl
@[simp] theorem aggT_23 : aggT Go.Proofs.Tryd.prog 23 = some false := by kernel_rfl
@[simp] theorem tby_23 : tby Go.Proofs.Tryd.prog 23 = some 8 := by kernel_rfl
@[simp] theorem tz_23 : tzero Go.Proofs.Tryd.prog 23 = some .nilFunc := by kernel_rfl
@[simp] theorem tsz_24 : tsz Go.Proofs.Tryd.prog 24 = some 1 := by kernel_rfl
@[simp] theorem aggT_24 : aggT Go.Proofs.Tryd.prog 24 = some false := by kernel_rfl
@[simp] theorem tby_24 : tby Go.Proofs.Tryd.prog 24 = some 24 := by kernel_rfl
@[simp] theorem tz_24 : tzero Go.Proofs.Tryd.prog 24 = some (.slice none 0 0) := by kernel_rfl
@[simp] theorem sliceT_24 : sliceT Go.Proofs.Tryd.prog 24 = some 31 := by kernel_rfl
@[simp] theorem strT_24 : isStrT Go.Proofs.Tryd.prog 24 = false := by kernel_rfl
@[simp] theorem und_24 : (Go.Proofs.Tryd.prog.underlying 24).isSome = true := by kernel_rfl
@[simp] theorem tsz_25 : tsz Go.Proofs.Tryd.prog 25 = some 1 := by kernel_rfl
@[simp] theorem aggT_25 : aggT Go.Proofs.Tryd.prog 25 = some false := by kernel_rfl
@[simp] theorem tby_25 : tby Go.Proofs.Tryd.prog 25 = some 8 := by kernel_rfl
@[simp] theorem tz_25 : tzero Go.Proofs.Tryd.prog 25 = some (.int .i64 0) := by kernel_rfl
@[simp] theorem intT_25 : intT Go.Proofs.Tryd.prog 25 = some .i64 := by kernel_rfl
@[simp] theorem und_25 : (Go.Proofs.Tryd.prog.underlying 25).isSome = true := by kernel_rfl
@[simp] theorem tsz_27 : tsz Go.Proofs.Tryd.prog 27 = some 1 := by kernel_rfl
@[simp] theorem aggT_27 : aggT Go.Proofs.Tryd.prog 27 = some false := by kernel_rfl
@[simp] theorem tby_27 : tby Go.Proofs.Tryd.prog 27 = some 8 := by kernel_rfl
@[simp] theorem tz_27 : tzero Go.Proofs.Tryd.prog 27 = some .nilFunc := by kernel_rfl
@[simp] theorem tsz_29 : tsz Go.Proofs.Tryd.prog 29 = some 1 := by kernel_rfl
@[simp] theorem aggT_29 : aggT Go.Proofs.Tryd.prog 29 = some false := by kernel_rfl
@[simp] theorem tby_29 : tby Go.Proofs.Tryd.prog 29 = some 8 := by kernel_rfl
@[simp] theorem tz_29 : tzero Go.Proofs.Tryd.prog 29 = some .nilFunc := by kernel_rfl
@[simp] theorem tsz_30 : tsz Go.Proofs.Tryd.prog 30 = some 4 := by kernel_rfl
@[simp] theorem aggT_30 : aggT Go.Proofs.Tryd.prog 30 = some true := by kernel_rfl
@[simp] theorem tby_30 : tby Go.Proofs.Tryd.prog 30 = some 48 := by kernel_rfl
@[simp] theorem tz_30 : tzero Go.Proofs.Tryd.prog 30 = some (.agg #[(.int .i64 0), (.string ⟨#[]⟩), (.string ⟨#[]⟩), (.int .i64 0)]) := by kernel_rfl
@[simp] theorem fld_30_0 : fld Go.Proofs.Tryd.prog 30 0 = some (0, 3) := by kernel_rfl
@[simp] theorem fld_30_1 : fld Go.Proofs.Tryd.prog 30 1 = some (1, 9) := by kernel_rfl
@[simp] theorem fld_30_2 : fld Go.Proofs.Tryd.prog 30 2 = some (2, 9) := by kernel_rfl
@[simp] theorem fld_30_3 : fld Go.Proofs.Tryd.prog 30 3 = some (3, 3) := by kernel_rfl
@[simp] theorem pl_30 : placesP Go.Proofs.Tryd.prog 30 = some [(0, 1), (1, 1), (2, 1), (3, 1)] := by kernel_rfl
@[simp] theorem tsz_31 : tsz Go.Proofs.Tryd.prog 31 = some 4 := by kernel_rfl
@[simp] theorem aggT_31 : aggT Go.Proofs.Tryd.prog 31 = some true := by kernel_rfl
@[simp] theorem tby_31 : tby Go.Proofs.Tryd.prog 31 = some 48 := by kernel_rfl
@[simp] theorem tz_31 : tzero Go.Proofs.Tryd.prog 31 = some (.agg #[(.int .i64 0), (.string ⟨#[]⟩), (.string ⟨#[]⟩), (.int .i64 0)]) := by kernel_rfl
@[simp] theorem fld_31_0 : fld Go.Proofs.Tryd.prog 31 0 = some (0, 3) := by kernel_rfl
@[simp] theorem fld_31_1 : fld Go.Proofs.Tryd.prog 31 1 = some (1, 9) := by kernel_rfl
@[simp] theorem fld_31_2 : fld Go.Proofs.Tryd.prog 31 2 = some (2, 9) := by kernel_rfl
@[simp] theorem fld_31_3 : fld Go.Proofs.Tryd.prog 31 3 = some (3, 3) := by kernel_rfl
@[simp] theorem flat_31 : flatT Go.Proofs.Tryd.prog 31 = some [0, 1, 1, 0] := by kernel_rfl
@[simp] theorem pl_31 : placesP Go.Proofs.Tryd.prog 31 = some [(0, 1), (1, 1), (2, 1), (3, 1)] := by kernel_rfl
@[simp] theorem tsz_33 : tsz Go.Proofs.Tryd.prog 33 = some 1 := by kernel_rfl
@[simp] theorem aggT_33 : aggT Go.Proofs.Tryd.prog 33 = some false := by kernel_rfl
@[simp] theorem tby_33 : tby Go.Proofs.Tryd.prog 33 = some 8 := by kernel_rfl
@[simp] theorem tz_33 : tzero Go.Proofs.Tryd.prog 33 = some .nilFunc := by kernel_rfl
@[simp] theorem tsz_34 : tsz Go.Proofs.Tryd.prog 34 = some 1 := by kernel_rfl
@[simp] theorem aggT_34 : aggT Go.Proofs.Tryd.prog 34 = some false := by kernel_rfl
@[simp] theorem tby_34 : tby Go.Proofs.Tryd.prog 34 = some 8 := by kernel_rfl
@[simp] theorem tz_34 : tzero Go.Proofs.Tryd.prog 34 = some .nilFunc := by kernel_rfl
@[simp] theorem tsz_35 : tsz Go.Proofs.Tryd.prog 35 = some 1 := by kernel_rfl
@[simp] theorem aggT_35 : aggT Go.Proofs.Tryd.prog 35 = some false := by kernel_rfl
@[simp] theorem tby_35 : tby Go.Proofs.Tryd.prog 35 = some 24 := by kernel_rfl
@[simp] theorem tz_35 : tzero Go.Proofs.Tryd.prog 35 = some (.slice none 0 0) := by kernel_rfl
@[simp] theorem sliceT_35 : sliceT Go.Proofs.Tryd.prog 35 = some 9 := by kernel_rfl
@[simp] theorem strT_35 : isStrT Go.Proofs.Tryd.prog 35 = false := by kernel_rfl
@[simp] theorem und_35 : (Go.Proofs.Tryd.prog.underlying 35).isSome = true := by kernel_rfl
@[simp] theorem tsz_36 : tsz Go.Proofs.Tryd.prog 36 = some 6 := by kernel_rfl
@[simp] theorem aggT_36 : aggT Go.Proofs.Tryd.prog 36 = some true := by kernel_rfl
@[simp] theorem tby_36 : tby Go.Proofs.Tryd.prog 36 = some 80 := by kernel_rfl
@[simp] theorem tz_36 : tzero Go.Proofs.Tryd.prog 36 = some (.agg #[(.string ⟨#[]⟩), (.int .i64 0), (.slice none 0 0), (.bool false), (.string ⟨#[]⟩), (.bool false)]) := by kernel_rfl
@[simp] theorem fld_36_0 : fld Go.Proofs.Tryd.prog 36 0 = some (0, 9) := by kernel_rfl
@[simp] theorem fld_36_1 : fld Go.Proofs.Tryd.prog 36 1 = some (1, 3) := by kernel_rfl
@[simp] theorem fld_36_2 : fld Go.Proofs.Tryd.prog 36 2 = some (2, 35) := by kernel_rfl
@[simp] theorem fld_36_3 : fld Go.Proofs.Tryd.prog 36 3 = some (3, 4) := by kernel_rfl
@[simp] theorem fld_36_4 : fld Go.Proofs.Tryd.prog 36 4 = some (4, 9) := by kernel_rfl
@[simp] theorem fld_36_5 : fld Go.Proofs.Tryd.prog 36 5 = some (5, 4) := by kernel_rfl
@[simp] theorem pl_36 : placesP Go.Proofs.Tryd.prog 36 = some [(0, 1), (1, 1), (2, 1), (3, 1), (4, 1), (5, 1)] := by kernel_rfl
@[simp] theorem tsz_37 : tsz Go.Proofs.Tryd.prog 37 = some 6 := by kernel_rfl
@[simp] theorem aggT_37 : aggT Go.Proofs.Tryd.prog 37 = some true := by kernel_rfl
@[simp] theorem tby_37 : tby Go.Proofs.Tryd.prog 37 = some 80 := by kernel_rfl
@[simp] theorem tz_37 : tzero Go.Proofs.Tryd.prog 37 = some (.agg #[(.string ⟨#[]⟩), (.int .i64 0), (.slice none 0 0), (.bool false), (.string ⟨#[]⟩), (.bool false)]) := by kernel_rfl
@[simp] theorem fld_37_0 : fld Go.Proofs.Tryd.prog 37 0 = some (0, 9) := by kernel_rfl
@[simp] theorem fld_37_1 : fld Go.Proofs.Tryd.prog 37 1 = some (1, 3) := by kernel_rfl
@[simp] theorem fld_37_2 : fld Go.Proofs.Tryd.prog 37 2 = some (2, 35) := by kernel_rfl
@[simp] theorem fld_37_3 : fld Go.Proofs.Tryd.prog 37 3 = some (3, 4) := by kernel_rfl
@[simp] theorem fld_37_4 : fld Go.Proofs.Tryd.prog 37 4 = some (4, 9) := by kernel_rfl
@[simp] theorem fld_37_5 : fld Go.Proofs.Tryd.prog 37 5 = some (5, 4) := by kernel_rfl
@[simp] theorem pl_37 : placesP Go.Proofs.Tryd.prog 37 = some [(0, 1), (1, 1), (2, 1), (3, 1), (4, 1), (5, 1)] := by kernel_rfl
@[simp] theorem tsz_39 : tsz Go.Proofs.Tryd.prog 39 = some 1 := by kernel_rfl
@[simp] theorem aggT_39 : aggT Go.Proofs.Tryd.prog 39 = some false := by kernel_rfl
@[simp] theorem tby_39 : tby Go.Proofs.Tryd.prog 39 = some 8 := by kernel_rfl
@[simp] theorem tz_39 : tzero Go.Proofs.Tryd.prog 39 = some .nilFunc := by kernel_rfl
@[simp] theorem tsz_40 : tsz Go.Proofs.Tryd.prog 40 = some 1 := by kernel_rfl
@[simp] theorem aggT_40 : aggT Go.Proofs.Tryd.prog 40 = some false := by kernel_rfl
@[simp] theorem tby_40 : tby Go.Proofs.Tryd.prog 40 = some 8 := by kernel_rfl
@[simp] theorem tz_40 : tzero Go.Proofs.Tryd.prog 40 = some (.pointer none) := by kernel_rfl
@[simp] theorem ptrT_40 : ptrT Go.Proofs.Tryd.prog 40 = true := by kernel_rfl
@[simp] theorem tsz_41 : tsz Go.Proofs.Tryd.prog 41 = some 1 := by kernel_rfl
@[simp] theorem aggT_41 : aggT Go.Proofs.Tryd.prog 41 = some false := by kernel_rfl
@[simp] theorem tby_41 : tby Go.Proofs.Tryd.prog 41 = some 8 := by kernel_rfl
@[simp] theorem tz_41 : tzero Go.Proofs.Tryd.prog 41 = some (.map none) := by kernel_rfl
@[simp] theorem mapT_41 : mapT Go.Proofs.Tryd.prog 41 = some (9, 4) := by kernel_rfl
@[simp] theorem tsz_42 : tsz Go.Proofs.Tryd.prog 42 = some 1 := by kernel_rfl
@[simp] theorem aggT_42 : aggT Go.Proofs.Tryd.prog 42 = some false := by kernel_rfl
@[simp] theorem tby_42 : tby Go.Proofs.Tryd.prog 42 = some 8 := by kernel_rfl
@[simp] theorem tz_42 : tzero Go.Proofs.Tryd.prog 42 = some .nilFunc := by kernel_rfl
@[simp] theorem tsz_43 : tsz Go.Proofs.Tryd.prog 43 = some 5 := by kernel_rfl
@[simp] theorem aggT_43 : aggT Go.Proofs.Tryd.prog 43 = some true := by kernel_rfl
@[simp] theorem tby_43 : tby Go.Proofs.Tryd.prog 43 = some 64 := by kernel_rfl
@[simp] theorem tz_43 : tzero Go.Proofs.Tryd.prog 43 = some (.agg #[(.string ⟨#[]⟩), (.int .i64 0), (.map none), (.slice none 0 0), (.bool false)]) := by kernel_rfl
@[simp] theorem fld_43_0 : fld Go.Proofs.Tryd.prog 43 0 = some (0, 9) := by kernel_rfl
@[simp] theorem fld_43_1 : fld Go.Proofs.Tryd.prog 43 1 = some (1, 3) := by kernel_rfl
@[simp] theorem fld_43_2 : fld Go.Proofs.Tryd.prog 43 2 = some (2, 41) := by kernel_rfl
@[simp] theorem fld_43_3 : fld Go.Proofs.Tryd.prog 43 3 = some (3, 35) := by kernel_rfl
@[simp] theorem fld_43_4 : fld Go.Proofs.Tryd.prog 43 4 = some (4, 4) := by kernel_rfl
@[simp] theorem pl_43 : placesP Go.Proofs.Tryd.prog 43 = some [(0, 1), (1, 1), (2, 1), (3, 1), (4, 1)] := by kernel_rfl
@[simp] theorem tsz_44 : tsz Go.Proofs.Tryd.prog 44 = some 5 := by kernel_rfl
@[simp] theorem aggT_44 : aggT Go.Proofs.Tryd.prog 44 = some true := by kernel_rfl
@[simp] theorem tby_44 : tby Go.Proofs.Tryd.prog 44 = some 64 := by kernel_rfl
@[simp] theorem tz_44 : tzero Go.Proofs.Tryd.prog 44 = some (.agg #[(.string ⟨#[]⟩), (.int .i64 0), (.map none), (.slice none 0 0), (.bool false)]) := by kernel_rfl
@[simp] theorem fld_44_0 : fld Go.Proofs.Tryd.prog 44 0 = some (0, 9) := by kernel_rfl
@[simp] theorem fld_44_1 : fld Go.Proofs.Tryd.prog 44 1 = some (1, 3) := by kernel_rfl
@[simp] theorem fld_44_2 : fld Go.Proofs.Tryd.prog 44 2 = some (2, 41) := by kernel_rfl
@[simp] theorem fld_44_3 : fld Go.Proofs.Tryd.prog 44 3 = some (3, 35) := by kernel_rfl
@[simp] theorem fld_44_4 : fld Go.Proofs.Tryd.prog 44 4 = some (4, 4) := by kernel_rfl
@[simp] theorem pl_44 : placesP Go.Proofs.Tryd.prog 44 = some [(0, 1), (1, 1), (2, 1), (3, 1), (4, 1)] := by kernel_rfl
@[simp] theorem tsz_45 : tsz Go.Proofs.Tryd.prog 45 = some 1 := by kernel_rfl
@[simp] theorem aggT_45 : aggT Go.Proofs.Tryd.prog 45 = some false := by kernel_rfl
@[simp] theorem tby_45 : tby Go.Proofs.Tryd.prog 45 = some 8 := by kernel_rfl
@[simp] theorem tz_45 : tzero Go.Proofs.Tryd.prog 45 = some .nilFunc := by kernel_rfl
@[simp] theorem tsz_46 : tsz Go.Proofs.Tryd.prog 46 = some 1 := by kernel_rfl
@[simp] theorem aggT_46 : aggT Go.Proofs.Tryd.prog 46 = some false := by kernel_rfl
@[simp] theorem tby_46 : tby Go.Proofs.Tryd.prog 46 = some 24 := by kernel_rfl
@[simp] theorem tz_46 : tzero Go.Proofs.Tryd.prog 46 = some (.slice none 0 0) := by kernel_rfl
@[simp] theorem sliceT_46 : sliceT Go.Proofs.Tryd.prog 46 = some 50 := by kernel_rfl
@[simp] theorem strT_46 : isStrT Go.Proofs.Tryd.prog 46 = false := by kernel_rfl
@[simp] theorem und_46 : (Go.Proofs.Tryd.prog.underlying 46).isSome = true := by kernel_rfl
@[simp] theorem tsz_48 : tsz Go.Proofs.Tryd.prog 48 = some 1 := by kernel_rfl
@[simp] theorem aggT_48 : aggT Go.Proofs.Tryd.prog 48 = some false := by kernel_rfl
@[simp] theorem tby_48 : tby Go.Proofs.Tryd.prog 48 = some 8 := by kernel_rfl
@[simp] theorem tz_48 : tzero Go.Proofs.Tryd.prog 48 = some .nilFunc := by kernel_rfl
@[simp] theorem tsz_49 : tsz Go.Proofs.Tryd.prog 49 = some 4 := by kernel_rfl
@[simp] theorem aggT_49 : aggT Go.Proofs.Tryd.prog 49 = some true := by kernel_rfl
@[simp] theorem tby_49 : tby Go.Proofs.Tryd.prog 49 = some 48 := by kernel_rfl
@[simp] theorem tz_49 : tzero Go.Proofs.Tryd.prog 49 = some (.agg #[(.slice none 0 0), (.int .i64 0), (.int .i64 0), (.int .i64 0)]) := by kernel_rfl
@[simp] theorem fld_49_0 : fld Go.Proofs.Tryd.prog 49 0 = some (0, 22) := by kernel_rfl
@[simp] theorem fld_49_1 : fld Go.Proofs.Tryd.prog 49 1 = some (1, 3) := by kernel_rfl
@[simp] theorem fld_49_2 : fld Go.Proofs.Tryd.prog 49 2 = some (2, 3) := by kernel_rfl
@[simp] theorem fld_49_3 : fld Go.Proofs.Tryd.prog 49 3 = some (3, 3) := by kernel_rfl
@[simp] theorem pl_49 : placesP Go.Proofs.Tryd.prog 49 = some [(0, 1), (1, 1), (2, 1), (3, 1)] := by kernel_rfl
@[simp] theorem tsz_50 : tsz Go.Proofs.Tryd.prog 50 = some 4 := by kernel_rfl
@[simp] theorem aggT_50 : aggT Go.Proofs.Tryd.prog 50 = some true := by kernel_rfl
@[simp] theorem tby_50 : tby Go.Proofs.Tryd.prog 50 = some 48 := by kernel_rfl
@[simp] theorem tz_50 : tzero Go.Proofs.Tryd.prog 50 = some (.agg #[(.slice none 0 0), (.int .i64 0), (.int .i64 0), (.int .i64 0)]) := by kernel_rfl
@[simp] theorem fld_50_0 : fld Go.Proofs.Tryd.prog 50 0 = some (0, 22) := by kernel_rfl
@[simp] theorem fld_50_1 : fld Go.Proofs.Tryd.prog 50 1 = some (1, 3) := by kernel_rfl
@[simp] theorem fld_50_2 : fld Go.Proofs.Tryd.prog 50 2 = some (2, 3) := by kernel_rfl
@[simp] theorem fld_50_3 : fld Go.Proofs.Tryd.prog 50 3 = some (3, 3) := by kernel_rfl
@[simp] theorem pl_50 : placesP Go.Proofs.Tryd.prog 50 = some [(0, 1), (1, 1), (2, 1), (3, 1)] := by kernel_rfl
@[simp] theorem tsz_51 : tsz Go.Proofs.Tryd.prog 51 = some 1 := by kernel_rfl
@[simp] theorem aggT_51 : aggT Go.Proofs.Tryd.prog 51 = some false := by kernel_rfl
@[simp] theorem tby_51 : tby Go.Proofs.Tryd.prog 51 = some 8 := by kernel_rfl
@[simp] theorem tz_51 : tzero Go.Proofs.Tryd.prog 51 = some .nilFunc := by kernel_rfl
@[simp] theorem tsz_52 : tsz Go.Proofs.Tryd.prog 52 = some 2 := by kernel_rfl
@[simp] theorem aggT_52 : aggT Go.Proofs.Tryd.prog 52 = some true := by kernel_rfl
@[simp] theorem tby_52 : tby Go.Proofs.Tryd.prog 52 = some 48 := by kernel_rfl
@[simp] theorem tz_52 : tzero Go.Proofs.Tryd.prog 52 = some (.agg #[(.slice none 0 0), (.slice none 0 0)]) := by kernel_rfl
@[simp] theorem fld_52_0 : fld Go.Proofs.Tryd.prog 52 0 = some (0, 24) := by kernel_rfl
@[simp] theorem fld_52_1 : fld Go.Proofs.Tryd.prog 52 1 = some (1, 22) := by kernel_rfl
@[simp] theorem pl_52 : placesP Go.Proofs.Tryd.prog 52 = some [(0, 1), (1, 1)] := by kernel_rfl
@[simp] theorem tsz_53 : tsz Go.Proofs.Tryd.prog 53 = some 2 := by kernel_rfl
@[simp] theorem aggT_53 : aggT Go.Proofs.Tryd.prog 53 = some true := by kernel_rfl
@[simp] theorem tby_53 : tby Go.Proofs.Tryd.prog 53 = some 48 := by kernel_rfl
@[simp] theorem tz_53 : tzero Go.Proofs.Tryd.prog 53 = some (.agg #[(.slice none 0 0), (.slice none 0 0)]) := by kernel_rfl
@[simp] theorem fld_53_0 : fld Go.Proofs.Tryd.prog 53 0 = some (0, 24) := by kernel_rfl
@[simp] theorem fld_53_1 : fld Go.Proofs.Tryd.prog 53 1 = some (1, 22) := by kernel_rfl
@[simp] theorem pl_53 : placesP Go.Proofs.Tryd.prog 53 = some [(0, 1), (1, 1)] := by kernel_rfl
@[simp] theorem tsz_55 : tsz Go.Proofs.Tryd.prog 55 = some 1 := by kernel_rfl
@[simp] theorem aggT_55 : aggT Go.Proofs.Tryd.prog 55 = some false := by kernel_rfl
@[simp] theorem tby_55 : tby Go.Proofs.Tryd.prog 55 = some 8 := by kernel_rfl
@[simp] theorem tz_55 : tzero Go.Proofs.Tryd.prog 55 = some .nilFunc := by kernel_rfl
@[simp] theorem tsz_56 : tsz Go.Proofs.Tryd.prog 56 = some 1 := by kernel_rfl
@[simp] theorem aggT_56 : aggT Go.Proofs.Tryd.prog 56 = some false := by kernel_rfl
@[simp] theorem tby_56 : tby Go.Proofs.Tryd.prog 56 = some 8 := by kernel_rfl
@[simp] theorem tz_56 : tzero Go.Proofs.Tryd.prog 56 = some .nilFunc := by kernel_rfl
@[simp] theorem tsz_58 : tsz Go.Proofs.Tryd.prog 58 = some 1 := by kernel_rfl
@[simp] theorem aggT_58 : aggT Go.Proofs.Tryd.prog 58 = some false := by kernel_rfl
@[simp] theorem tby_58 : tby Go.Proofs.Tryd.prog 58 = some 8 := by kernel_rfl
@[simp] theorem tz_58 : tzero Go.Proofs.Tryd.prog 58 = some .nilFunc := by kernel_rfl
@[simp] theorem tsz_59 : tsz Go.Proofs.Tryd.prog 59 = some 1 := by kernel_rfl
@[simp] theorem aggT_59 : aggT Go.Proofs.Tryd.prog 59 = some false := by kernel_rfl
@[simp] theorem tby_59 : tby Go.Proofs.Tryd.prog 59 = some 8 := by kernel_rfl
@[simp] theorem tz_59 : tzero Go.Proofs.Tryd.prog 59 = some .nilFunc := by kernel_rfl
@[simp] theorem tsz_60 : tsz Go.Proofs.Tryd.prog 60 = some 1 := by kernel_rfl
@[simp] theorem aggT_60 : aggT Go.Proofs.Tryd.prog 60 = some false := by kernel_rfl
@[simp] theorem tby_60 : tby Go.Proofs.Tryd.prog 60 = some 8 := by kernel_rfl
@[simp] theorem tz_60 : tzero Go.Proofs.Tryd.prog 60 = some .nilFunc := by kernel_rfl
@[simp] theorem tsz_61 : tsz Go.Proofs.Tryd.prog 61 = some 1 := by kernel_rfl
@[simp] theorem aggT_61 : aggT Go.Proofs.Tryd.prog 61 = some false := by kernel_rfl
@[simp] theorem tby_61 : tby Go.Proofs.Tryd.prog 61 = some 8 := by kernel_rfl
@[simp] theorem tz_61 : tzero Go.Proofs.Tryd.prog 61 = some .nilFunc := by kernel_rfl
@[simp] theorem tsz_62 : tsz Go.Proofs.Tryd.prog 62 = some 2 := by kernel_rfl
@[simp] theorem aggT_62 : aggT Go.Proofs.Tryd.prog 62 = some true := by kernel_rfl
@[simp] theorem tby_62 : tby Go.Proofs.Tryd.prog 62 = some 16 := by kernel_rfl
@[simp] theorem tz_62 : tzero Go.Proofs.Tryd.prog 62 = some (.agg #[(.int .i64 0), .nilFunc]) := by kernel_rfl
@[simp] theorem fld_62_0 : fld Go.Proofs.Tryd.prog 62 0 = some (0, 3) := by kernel_rfl
@[simp] theorem fld_62_1 : fld Go.Proofs.Tryd.prog 62 1 = some (1, 61) := by kernel_rfl
@[simp] theorem pl_62 : placesP Go.Proofs.Tryd.prog 62 = some [(0, 1), (1, 1)] := by kernel_rfl
@[simp] theorem tsz_63 : tsz Go.Proofs.Tryd.prog 63 = some 2 := by kernel_rfl
@[simp] theorem aggT_63 : aggT Go.Proofs.Tryd.prog 63 = some true := by kernel_rfl
@[simp] theorem tby_63 : tby Go.Proofs.Tryd.prog 63 = some 16 := by kernel_rfl
@[simp] theorem tz_63 : tzero Go.Proofs.Tryd.prog 63 = some (.agg #[(.int .i64 0), .nilFunc]) := by kernel_rfl
@[simp] theorem fld_63_0 : fld Go.Proofs.Tryd.prog 63 0 = some (0, 3) := by kernel_rfl
@[simp] theorem fld_63_1 : fld Go.Proofs.Tryd.prog 63 1 = some (1, 61) := by kernel_rfl
@[simp] theorem pl_63 : placesP Go.Proofs.Tryd.prog 63 = some [(0, 1), (1, 1)] := by kernel_rfl
@[simp] theorem tsz_64 : tsz Go.Proofs.Tryd.prog 64 = some 1 := by kernel_rfl
@[simp] theorem aggT_64 : aggT Go.Proofs.Tryd.prog 64 = some false := by kernel_rfl
@[simp] theorem tby_64 : tby Go.Proofs.Tryd.prog 64 = some 24 := by kernel_rfl
@[simp] theorem tz_64 : tzero Go.Proofs.Tryd.prog 64 = some (.slice none 0 0) := by kernel_rfl
@[simp] theorem sliceT_64 : sliceT Go.Proofs.Tryd.prog 64 = some 63 := by kernel_rfl
@[simp] theorem strT_64 : isStrT Go.Proofs.Tryd.prog 64 = false := by kernel_rfl
@[simp] theorem und_64 : (Go.Proofs.Tryd.prog.underlying 64).isSome = true := by kernel_rfl
@[simp] theorem tsz_65 : tsz Go.Proofs.Tryd.prog 65 = some 1 := by kernel_rfl
@[simp] theorem aggT_65 : aggT Go.Proofs.Tryd.prog 65 = some false := by kernel_rfl
@[simp] theorem tby_65 : tby Go.Proofs.Tryd.prog 65 = some 8 := by kernel_rfl
@[simp] theorem tz_65 : tzero Go.Proofs.Tryd.prog 65 = some .nilFunc := by kernel_rfl
@[simp] theorem tsz_66 : tsz Go.Proofs.Tryd.prog 66 = some 1 := by kernel_rfl
@[simp] theorem aggT_66 : aggT Go.Proofs.Tryd.prog 66 = some false := by kernel_rfl
@[simp] theorem tby_66 : tby Go.Proofs.Tryd.prog 66 = some 8 := by kernel_rfl
@[simp] theorem tz_66 : tzero Go.Proofs.Tryd.prog 66 = some .nilFunc := by kernel_rfl
@[simp] theorem tsz_67 : tsz Go.Proofs.Tryd.prog 67 = some 1 := by kernel_rfl
@[simp] theorem aggT_67 : aggT Go.Proofs.Tryd.prog 67 = some false := by kernel_rfl
@[simp] theorem tby_67 : tby Go.Proofs.Tryd.prog 67 = some 24 := by kernel_rfl
@[simp] theorem tz_67 : tzero Go.Proofs.Tryd.prog 67 = some (.slice none 0 0) := by kernel_rfl
@[simp] theorem sliceT_67 : sliceT Go.Proofs.Tryd.prog 67 = some 4 := by kernel_rfl
@[simp] theorem strT_67 : isStrT Go.Proofs.Tryd.prog 67 = false := by kernel_rfl
@[simp] theorem und_67 : (Go.Proofs.Tryd.prog.underlying 67).isSome = true := by kernel_rfl
@[simp] theorem tsz_68 : tsz Go.Proofs.Tryd.prog 68 = some 1 := by kernel_rfl
@[simp] theorem aggT_68 : aggT Go.Proofs.Tryd.prog 68 = some false := by kernel_rfl
@[simp] theorem tby_68 : tby Go.Proofs.Tryd.prog 68 = some 8 := by kernel_rfl
@[simp] theorem tz_68 : tzero Go.Proofs.Tryd.prog 68 = some (.pointer none) := by kernel_rfl
@[simp] theorem ptrT_68 : ptrT Go.Proofs.Tryd.prog 68 = true := by kernel_rfl
@[simp] theorem tsz_70 : tsz Go.Proofs.Tryd.prog 70 = some 1 := by kernel_rfl
@[simp] theorem aggT_70 : aggT Go.Proofs.Tryd.prog 70 = some false := by kernel_rfl
@[simp] theorem tby_70 : tby Go.Proofs.Tryd.prog 70 = some 8 := by kernel_rfl
@[simp] theorem tz_70 : tzero Go.Proofs.Tryd.prog 70 = some .nilFunc := by kernel_rfl
@[simp] theorem tsz_72 : tsz Go.Proofs.Tryd.prog 72 = some 1 := by kernel_rfl
@[simp] theorem aggT_72 : aggT Go.Proofs.Tryd.prog 72 = some false := by kernel_rfl
@[simp] theorem tby_72 : tby Go.Proofs.Tryd.prog 72 = some 8 := by kernel_rfl
@[simp] theorem tz_72 : tzero Go.Proofs.Tryd.prog 72 = some .nilFunc := by kernel_rfl
@[simp] theorem tsz_73 : tsz Go.Proofs.Tryd.prog 73 = some 12 := by kernel_rfl
@[simp] theorem aggT_73 : aggT Go.Proofs.Tryd.prog 73 = some true := by kernel_rfl
@[simp] theorem tby_73 : tby Go.Proofs.Tryd.prog 73 = some 128 := by kernel_rfl
@[simp] theorem tz_73 : tzero Go.Proofs.Tryd.prog 73 = some (.agg #[(.string ⟨#[]⟩), (.bool false), (.int .i64 0), (.string ⟨#[]⟩), (.string ⟨#[]⟩), (.int .i64 0), (.int .i64 0), (.string ⟨#[]⟩), (.string ⟨#[]⟩), (.int .i64 0), (.bool false), (.bool false)]) := by kernel_rfl
@[simp] theorem fld_73_0 : fld Go.Proofs.Tryd.prog 73 0 = some (0, 9) := by kernel_rfl
@[simp] theorem fld_73_1 : fld Go.Proofs.Tryd.prog 73 1 = some (1, 4) := by kernel_rfl
@[simp] theorem fld_73_2 : fld Go.Proofs.Tryd.prog 73 2 = some (2, 31) := by kernel_rfl
@[simp] theorem fld_73_3 : fld Go.Proofs.Tryd.prog 73 3 = some (6, 31) := by kernel_rfl
@[simp] theorem fld_73_4 : fld Go.Proofs.Tryd.prog 73 4 = some (10, 4) := by kernel_rfl
@[simp] theorem fld_73_5 : fld Go.Proofs.Tryd.prog 73 5 = some (11, 4) := by kernel_rfl
@[simp] theorem pl_73 : placesP Go.Proofs.Tryd.prog 73 = some [(0, 1), (1, 1), (2, 4), (6, 4), (10, 1), (11, 1)] := by kernel_rfl
@[simp] theorem tsz_74 : tsz Go.Proofs.Tryd.prog 74 = some 12 := by kernel_rfl
@[simp] theorem aggT_74 : aggT Go.Proofs.Tryd.prog 74 = some true := by kernel_rfl
@[simp] theorem tby_74 : tby Go.Proofs.Tryd.prog 74 = some 128 := by kernel_rfl
@[simp] theorem tz_74 : tzero Go.Proofs.Tryd.prog 74 = some (.agg #[(.string ⟨#[]⟩), (.bool false), (.int .i64 0), (.string ⟨#[]⟩), (.string ⟨#[]⟩), (.int .i64 0), (.int .i64 0), (.string ⟨#[]⟩), (.string ⟨#[]⟩), (.int .i64 0), (.bool false), (.bool false)]) := by kernel_rfl
@[simp] theorem fld_74_0 : fld Go.Proofs.Tryd.prog 74 0 = some (0, 9) := by kernel_rfl
@[simp] theorem fld_74_1 : fld Go.Proofs.Tryd.prog 74 1 = some (1, 4) := by kernel_rfl
@[simp] theorem fld_74_2 : fld Go.Proofs.Tryd.prog 74 2 = some (2, 31) := by kernel_rfl
@[simp] theorem fld_74_3 : fld Go.Proofs.Tryd.prog 74 3 = some (6, 31) := by kernel_rfl
@[simp] theorem fld_74_4 : fld Go.Proofs.Tryd.prog 74 4 = some (10, 4) := by kernel_rfl
@[simp] theorem fld_74_5 : fld Go.Proofs.Tryd.prog 74 5 = some (11, 4) := by kernel_rfl
@[simp] theorem pl_74 : placesP Go.Proofs.Tryd.prog 74 = some [(0, 1), (1, 1), (2, 4), (6, 4), (10, 1), (11, 1)] := by kernel_rfl
@[simp] theorem tsz_75 : tsz Go.Proofs.Tryd.prog 75 = some 1 := by kernel_rfl
@[simp] theorem aggT_75 : aggT Go.Proofs.Tryd.prog 75 = some false := by kernel_rfl
@[simp] theorem tby_75 : tby Go.Proofs.Tryd.prog 75 = some 8 := by kernel_rfl
@[simp] theorem tz_75 : tzero Go.Proofs.Tryd.prog 75 = some .nilFunc := by kernel_rfl
@[simp] theorem tsz_76 : tsz Go.Proofs.Tryd.prog 76 = some 1 := by kernel_rfl
@[simp] theorem aggT_76 : aggT Go.Proofs.Tryd.prog 76 = some false := by kernel_rfl
@[simp] theorem tby_76 : tby Go.Proofs.Tryd.prog 76 = some 8 := by kernel_rfl
@[simp] theorem tz_76 : tzero Go.Proofs.Tryd.prog 76 = some .nilFunc := by kernel_rfl
@[simp] theorem tsz_78 : tsz Go.Proofs.Tryd.prog 78 = some 1 := by kernel_rfl
@[simp] theorem aggT_78 : aggT Go.Proofs.Tryd.prog 78 = some false := by kernel_rfl
@[simp] theorem tby_78 : tby Go.Proofs.Tryd.prog 78 = some 8 := by kernel_rfl
@[simp] theorem tz_78 : tzero Go.Proofs.Tryd.prog 78 = some .nilFunc := by kernel_rfl
@[simp] theorem tsz_79 : tsz Go.Proofs.Tryd.prog 79 = some 1 := by kernel_rfl
@[simp] theorem aggT_79 : aggT Go.Proofs.Tryd.prog 79 = some false := by kernel_rfl
@[simp] theorem tby_79 : tby Go.Proofs.Tryd.prog 79 = some 8 := by kernel_rfl
@[simp] theorem tz_79 : tzero Go.Proofs.Tryd.prog 79 = some .nilFunc := by kernel_rfl
@[simp] theorem tsz_80 : tsz Go.Proofs.Tryd.prog 80 = some 256 := by kernel_rfl
@[simp] theorem aggT_80 : aggT Go.Proofs.Tryd.prog 80 = some true := by kernel_rfl
@[simp] theorem tby_80 : tby Go.Proofs.Tryd.prog 80 = some 256 := by kernel_rfl
@[simp] theorem arrT_80 : arrT Go.Proofs.Tryd.prog 80 = some (256, 5) := by kernel_rfl
@[simp] theorem pl_80 : placesP Go.Proofs.Tryd.prog 80 = none := by kernel_rfl
@[simp] theorem tsz_81 : tsz Go.Proofs.Tryd.prog 81 = some 1 := by kernel_rfl
@[simp] theorem aggT_81 : aggT Go.Proofs.Tryd.prog 81 = some false := by kernel_rfl
@[simp] theorem tby_81 : tby Go.Proofs.Tryd.prog 81 = some 8 := by kernel_rfl
@[simp] theorem tz_81 : tzero Go.Proofs.Tryd.prog 81 = some .nilFunc := by kernel_rfl
@[simp] theorem tsz_82 : tsz Go.Proofs.Tryd.prog 82 = some 1 := by kernel_rfl
@[simp] theorem aggT_82 : aggT Go.Proofs.Tryd.prog 82 = some false := by kernel_rfl
@[simp] theorem tby_82 : tby Go.Proofs.Tryd.prog 82 = some 8 := by kernel_rfl
@[simp] theorem tz_82 : tzero Go.Proofs.Tryd.prog 82 = some .nilFunc := by kernel_rfl
@[simp] theorem tsz_83 : tsz Go.Proofs.Tryd.prog 83 = some 1 := by kernel_rfl
@[simp] theorem aggT_83 : aggT Go.Proofs.Tryd.prog 83 = some false := by kernel_rfl
@[simp] theorem tby_83 : tby Go.Proofs.Tryd.prog 83 = some 8 := by kernel_rfl
@[simp] theorem tz_83 : tzero Go.Proofs.Tryd.prog 83 = some .nilFunc := by kernel_rfl
@[simp] theorem tsz_84 : tsz Go.Proofs.Tryd.prog 84 = some 1 := by kernel_rfl
@[simp] theorem aggT_84 : aggT Go.Proofs.Tryd.prog 84 = some false := by kernel_rfl
@[simp] theorem tby_84 : tby Go.Proofs.Tryd.prog 84 = some 8 := by kernel_rfl
@[simp] theorem tz_84 : tzero Go.Proofs.Tryd.prog 84 = some .nilFunc := by kernel_rfl
@[simp] theorem tsz_85 : tsz Go.Proofs.Tryd.prog 85 = some 1 := by kernel_rfl
@[simp] theorem aggT_85 : aggT Go.Proofs.Tryd.prog 85 = some false := by kernel_rfl
@[simp] theorem tby_85 : tby Go.Proofs.Tryd.prog 85 = some 8 := by kernel_rfl
@[simp] theorem tz_85 : tzero Go.Proofs.Tryd.prog 85 = some .nilFunc := by kernel_rfl
@[simp] theorem tsz_86 : tsz Go.Proofs.Tryd.prog 86 = some 1 := by kernel_rfl
@[simp] theorem aggT_86 : aggT Go.Proofs.Tryd.prog 86 = some false := by kernel_rfl
@[simp] theorem tby_86 : tby Go.Proofs.Tryd.prog 86 = some 8 := by kernel_rfl
@[simp] theorem tz_86 : tzero Go.Proofs.Tryd.prog 86 = some .nilFunc := by kernel_rfl
@[simp] theorem tsz_87 : tsz Go.Proofs.Tryd.prog 87 = some 1 := by kernel_rfl
@[simp] theorem aggT_87 : aggT Go.Proofs.Tryd.prog 87 = some false := by kernel_rfl
@[simp] theorem tby_87 : tby Go.Proofs.Tryd.prog 87 = some 8 := by kernel_rfl
@[simp] theorem tz_87 : tzero Go.Proofs.Tryd.prog 87 = some .nilFunc := by kernel_rfl
@[simp] theorem tsz_88 : tsz Go.Proofs.Tryd.prog 88 = some 1 := by kernel_rfl
@[simp] theorem aggT_88 : aggT Go.Proofs.Tryd.prog 88 = some false := by kernel_rfl
@[simp] theorem tby_88 : tby Go.Proofs.Tryd.prog 88 = some 8 := by kernel_rfl
@[simp] theorem tz_88 : tzero Go.Proofs.Tryd.prog 88 = some .nilFunc := by kernel_rfl
@[simp] theorem tsz_89 : tsz Go.Proofs.Tryd.prog 89 = some 1 := by kernel_rfl
@[simp] theorem aggT_89 : aggT Go.Proofs.Tryd.prog 89 = some false := by kernel_rfl
@[simp] theorem tby_89 : tby Go.Proofs.Tryd.prog 89 = some 8 := by kernel_rfl
@[simp] theorem tz_89 : tzero Go.Proofs.Tryd.prog 89 = some .nilFunc := by kernel_rfl
@[simp] theorem tsz_90 : tsz Go.Proofs.Tryd.prog 90 = some 1 := by kernel_rfl
@[simp] theorem aggT_90 : aggT Go.Proofs.Tryd.prog 90 = some false := by kernel_rfl
@[simp] theorem tby_90 : tby Go.Proofs.Tryd.prog 90 = some 8 := by kernel_rfl
@[simp] theorem tz_90 : tzero Go.Proofs.Tryd.prog 90 = some .nilFunc := by kernel_rfl
@[simp] theorem tsz_91 : tsz Go.Proofs.Tryd.prog 91 = some 1 := by kernel_rfl
@[simp] theorem aggT_91 : aggT Go.Proofs.Tryd.prog 91 = some false := by kernel_rfl
@[simp] theorem tby_91 : tby Go.Proofs.Tryd.prog 91 = some 8 := by kernel_rfl
@[simp] theorem tz_91 : tzero Go.Proofs.Tryd.prog 91 = some .nilFunc := by kernel_rfl
@[simp] theorem tsz_92 : tsz Go.Proofs.Tryd.prog 92 = some 1 := by kernel_rfl
@[simp] theorem aggT_92 : aggT Go.Proofs.Tryd.prog 92 = some false := by kernel_rfl
@[simp] theorem tby_92 : tby Go.Proofs.Tryd.prog 92 = some 8 := by kernel_rfl
@[simp] theorem tz_92 : tzero Go.Proofs.Tryd.prog 92 = some .nilFunc := by kernel_rfl
@[simp] theorem tsz_93 : tsz Go.Proofs.Tryd.prog 93 = some 1 := by kernel_rfl
@[simp] theorem aggT_93 : aggT Go.Proofs.Tryd.prog 93 = some false := by kernel_rfl
@[simp] theorem tby_93 : tby Go.Proofs.Tryd.prog 93 = some 8 := by kernel_rfl
@[simp] theorem tz_93 : tzero Go.Proofs.Tryd.prog 93 = some .nilFunc := by kernel_rfl
@[simp] theorem tsz_94 : tsz Go.Proofs.Tryd.prog 94 = some 1 := by kernel_rfl
@[simp] theorem aggT_94 : aggT Go.Proofs.Tryd.prog 94 = some false := by kernel_rfl
@[simp] theorem tby_94 : tby Go.Proofs.Tryd.prog 94 = some 8 := by kernel_rfl
@[simp] theorem tz_94 : tzero Go.Proofs.Tryd.prog 94 = some .nilFunc := by kernel_rfl
@[simp] theorem tsz_95 : tsz Go.Proofs.Tryd.prog 95 = some 1 := by kernel_rfl
@[simp] theorem aggT_95 : aggT Go.Proofs.Tryd.prog 95 = some false := by kernel_rfl
@[simp] theorem tby_95 : tby Go.Proofs.Tryd.prog 95 = some 24 := by kernel_rfl
@[simp] theorem tz_95 : tzero Go.Proofs.Tryd.prog 95 = some (.slice none 0 0) := by kernel_rfl
@[simp] theorem sliceT_95 : sliceT Go.Proofs.Tryd.prog 95 = some 97 := by kernel_rfl
@[simp] theorem strT_95 : isStrT Go.Proofs.Tryd.prog 95 = false := by kernel_rfl
@[simp] theorem und_95 : (Go.Proofs.Tryd.prog.underlying 95).isSome = true := by kernel_rfl
@[simp] theorem tsz_96 : tsz Go.Proofs.Tryd.prog 96 = some 2 := by kernel_rfl
@[simp] theorem aggT_96 : aggT Go.Proofs.Tryd.prog 96 = some true := by kernel_rfl
@[simp] theorem tby_96 : tby Go.Proofs.Tryd.prog 96 = some 16 := by kernel_rfl
@[simp] theorem tz_96 : tzero Go.Proofs.Tryd.prog 96 = some (.agg #[(.int .i64 0), (.int .i64 0)]) := by kernel_rfl
@[simp] theorem fld_96_0 : fld Go.Proofs.Tryd.prog 96 0 = some (0, 3) := by kernel_rfl
@[simp] theorem fld_96_1 : fld Go.Proofs.Tryd.prog 96 1 = some (1, 3) := by kernel_rfl
@[simp] theorem pl_96 : placesP Go.Proofs.Tryd.prog 96 = some [(0, 1), (1, 1)] := by kernel_rfl
@[simp] theorem tsz_97 : tsz Go.Proofs.Tryd.prog 97 = some 2 := by kernel_rfl
@[simp] theorem aggT_97 : aggT Go.Proofs.Tryd.prog 97 = some true := by kernel_rfl
@[simp] theorem tby_97 : tby Go.Proofs.Tryd.prog 97 = some 16 := by kernel_rfl
@[simp] theorem tz_97 : tzero Go.Proofs.Tryd.prog 97 = some (.agg #[(.int .i64 0), (.int .i64 0)]) := by kernel_rfl
@[simp] theorem fld_97_0 : fld Go.Proofs.Tryd.prog 97 0 = some (0, 3) := by kernel_rfl
@[simp] theorem fld_97_1 : fld Go.Proofs.Tryd.prog 97 1 = some (1, 3) := by kernel_rfl
@[simp] theorem pl_97 : placesP Go.Proofs.Tryd.prog 97 = some [(0, 1), (1, 1)] := by kernel_rfl
@[simp] theorem tsz_98 : tsz Go.Proofs.Tryd.prog 98 = some 1 := by kernel_rfl
@[simp] theorem aggT_98 : aggT Go.Proofs.Tryd.prog 98 = some false := by kernel_rfl
@[simp] theorem tby_98 : tby Go.Proofs.Tryd.prog 98 = some 4 := by kernel_rfl
@[simp] theorem tz_98 : tzero Go.Proofs.Tryd.prog 98 = some (.int .u32 0) := by kernel_rfl
@[simp] theorem intT_98 : intT Go.Proofs.Tryd.prog 98 = some .u32 := by kernel_rfl
@[simp] theorem und_98 : (Go.Proofs.Tryd.prog.underlying 98).isSome = true := by kernel_rfl
@[simp] theorem tsz_99 : tsz Go.Proofs.Tryd.prog 99 = some 1 := by kernel_rfl
@[simp] theorem aggT_99 : aggT Go.Proofs.Tryd.prog 99 = some false := by kernel_rfl
@[simp] theorem tby_99 : tby Go.Proofs.Tryd.prog 99 = some 8 := by kernel_rfl
@[simp] theorem tz_99 : tzero Go.Proofs.Tryd.prog 99 = some .nilFunc := by kernel_rfl
@[simp] theorem tsz_100 : tsz Go.Proofs.Tryd.prog 100 = some 1 := by kernel_rfl
@[simp] theorem aggT_100 : aggT Go.Proofs.Tryd.prog 100 = some false := by kernel_rfl
@[simp] theorem tby_100 : tby Go.Proofs.Tryd.prog 100 = some 8 := by kernel_rfl
@[simp] theorem tz_100 : tzero Go.Proofs.Tryd.prog 100 = some (.pointer none) := by kernel_rfl
@[simp] theorem ptrT_100 : ptrT Go.Proofs.Tryd.prog 100 = true := by kernel_rfl
@[simp] theorem tsz_101 : tsz Go.Proofs.Tryd.prog 101 = some 1 := by kernel_rfl
@[simp] theorem aggT_101 : aggT Go.Proofs.Tryd.prog 101 = some false := by kernel_rfl
@[simp] theorem tby_101 : tby Go.Proofs.Tryd.prog 101 = some 8 := by kernel_rfl
@[simp] theorem tz_101 : tzero Go.Proofs.Tryd.prog 101 = some .nilFunc := by kernel_rfl
@[simp] theorem tsz_102 : tsz Go.Proofs.Tryd.prog 102 = some 1 := by kernel_rfl
@[simp] theorem aggT_102 : aggT Go.Proofs.Tryd.prog 102 = some false := by kernel_rfl
@[simp] theorem tby_102 : tby Go.Proofs.Tryd.prog 102 = some 8 := by kernel_rfl
@[simp] theorem tz_102 : tzero Go.Proofs.Tryd.prog 102 = some (.pointer none) := by kernel_rfl
@[simp] theorem ptrT_102 : ptrT Go.Proofs.Tryd.prog 102 = true := by kernel_rfl
@[simp] theorem tsz_103 : tsz Go.Proofs.Tryd.prog 103 = some 1 := by kernel_rfl
@[simp] theorem aggT_103 : aggT Go.Proofs.Tryd.prog 103 = some false := by kernel_rfl
@[simp] theorem tby_103 : tby Go.Proofs.Tryd.prog 103 = some 24 := by kernel_rfl
@[simp] theorem tz_103 : tzero Go.Proofs.Tryd.prog 103 = some (.slice none 0 0) := by kernel_rfl
@[simp] theorem sliceT_103 : sliceT Go.Proofs.Tryd.prog 103 = some 5 := by kernel_rfl
@[simp] theorem strT_103 : isStrT Go.Proofs.Tryd.prog 103 = false := by kernel_rfl
@[simp] theorem und_103 : (Go.Proofs.Tryd.prog.underlying 103).isSome = true := by kernel_rfl
@[simp] theorem tsz_104 : tsz Go.Proofs.Tryd.prog 104 = some 2 := by kernel_rfl
@[simp] theorem aggT_104 : aggT Go.Proofs.Tryd.prog 104 = some true := by kernel_rfl
@[simp] theorem tby_104 : tby Go.Proofs.Tryd.prog 104 = some 32 := by kernel_rfl
@[simp] theorem tz_104 : tzero Go.Proofs.Tryd.prog 104 = some (.agg #[(.pointer none), (.slice none 0 0)]) := by kernel_rfl
@[simp] theorem fld_104_0 : fld Go.Proofs.Tryd.prog 104 0 = some (0, 102) := by kernel_rfl
@[simp] theorem fld_104_1 : fld Go.Proofs.Tryd.prog 104 1 = some (1, 103) := by kernel_rfl
@[simp] theorem pl_104 : placesP Go.Proofs.Tryd.prog 104 = some [(0, 1), (1, 1)] := by kernel_rfl
@[simp] theorem tsz_105 : tsz Go.Proofs.Tryd.prog 105 = some 2 := by kernel_rfl
@[simp] theorem aggT_105 : aggT Go.Proofs.Tryd.prog 105 = some true := by kernel_rfl
@[simp] theorem tby_105 : tby Go.Proofs.Tryd.prog 105 = some 32 := by kernel_rfl
@[simp] theorem tz_105 : tzero Go.Proofs.Tryd.prog 105 = some (.agg #[(.pointer none), (.slice none 0 0)]) := by kernel_rfl
@[simp] theorem fld_105_0 : fld Go.Proofs.Tryd.prog 105 0 = some (0, 102) := by kernel_rfl
@[simp] theorem fld_105_1 : fld Go.Proofs.Tryd.prog 105 1 = some (1, 103) := by kernel_rfl
@[simp] theorem pl_105 : placesP Go.Proofs.Tryd.prog 105 = some [(0, 1), (1, 1)] := by kernel_rfl
@[simp] theorem tsz_106 : tsz Go.Proofs.Tryd.prog 106 = some 1 := by kernel_rfl
@[simp] theorem aggT_106 : aggT Go.Proofs.Tryd.prog 106 = some false := by kernel_rfl
@[simp] theorem tby_106 : tby Go.Proofs.Tryd.prog 106 = some 8 := by kernel_rfl
@[simp] theorem tz_106 : tzero Go.Proofs.Tryd.prog 106 = some .nilFunc := by kernel_rfl
@[simp] theorem tsz_107 : tsz Go.Proofs.Tryd.prog 107 = some 1 := by kernel_rfl
@[simp] theorem aggT_107 : aggT Go.Proofs.Tryd.prog 107 = some false := by kernel_rfl
@[simp] theorem tby_107 : tby Go.Proofs.Tryd.prog 107 = some 16 := by kernel_rfl
@[simp] theorem tz_107 : tzero Go.Proofs.Tryd.prog 107 = some .nilIface := by kernel_rfl
@[simp] theorem tsz_108 : tsz Go.Proofs.Tryd.prog 108 = some 1 := by kernel_rfl
@[simp] theorem aggT_108 : aggT Go.Proofs.Tryd.prog 108 = some false := by kernel_rfl
@[simp] theorem tby_108 : tby Go.Proofs.Tryd.prog 108 = some 16 := by kernel_rfl
@[simp] theorem tz_108 : tzero Go.Proofs.Tryd.prog 108 = some .nilIface := by kernel_rfl
@[simp] theorem tsz_110 : tsz Go.Proofs.Tryd.prog 110 = some 1 := by kernel_rfl
@[simp] theorem aggT_110 : aggT Go.Proofs.Tryd.prog 110 = some false := by kernel_rfl
@[simp] theorem tby_110 : tby Go.Proofs.Tryd.prog 110 = some 8 := by kernel_rfl
@[simp] theorem tz_110 : tzero Go.Proofs.Tryd.prog 110 = some .nilFunc := by kernel_rfl
@[simp] theorem tsz_111 : tsz Go.Proofs.Tryd.prog 111 = some 1 := by kernel_rfl
@[simp] theorem aggT_111 : aggT Go.Proofs.Tryd.prog 111 = some false := by kernel_rfl
@[simp] theorem tby_111 : tby Go.Proofs.Tryd.prog 111 = some 24 := by kernel_rfl
@[simp] theorem tz_111 : tzero Go.Proofs.Tryd.prog 111 = some (.slice none 0 0) := by kernel_rfl
@[simp] theorem sliceT_111 : sliceT Go.Proofs.Tryd.prog 111 = some 117 := by kernel_rfl
@[simp] theorem strT_111 : isStrT Go.Proofs.Tryd.prog 111 = false := by kernel_rfl
@[simp] theorem und_111 : (Go.Proofs.Tryd.prog.underlying 111).isSome = true := by kernel_rfl
@[simp] theorem tsz_112 : tsz Go.Proofs.Tryd.prog 112 = some 1 := by kernel_rfl
@[simp] theorem aggT_112 : aggT Go.Proofs.Tryd.prog 112 = some false := by kernel_rfl
@[simp] theorem tby_112 : tby Go.Proofs.Tryd.prog 112 = some 24 := by kernel_rfl
@[simp] theorem tz_112 : tzero Go.Proofs.Tryd.prog 112 = some (.slice none 0 0) := by kernel_rfl
@[simp] theorem sliceT_112 : sliceT Go.Proofs.Tryd.prog 112 = some 120 := by kernel_rfl
@[simp] theorem strT_112 : isStrT Go.Proofs.Tryd.prog 112 = false := by kernel_rfl
@[simp] theorem und_112 : (Go.Proofs.Tryd.prog.underlying 112).isSome = true := by kernel_rfl
@[simp] theorem tsz_113 : tsz Go.Proofs.Tryd.prog 113 = some 3 := by kernel_rfl
@[simp] theorem aggT_113 : aggT Go.Proofs.Tryd.prog 113 = some true := by kernel_rfl
@[simp] theorem tby_113 : tby Go.Proofs.Tryd.prog 113 = some 56 := by kernel_rfl
@[simp] theorem tz_113 : tzero Go.Proofs.Tryd.prog 113 = some (.agg #[(.slice none 0 0), (.slice none 0 0), (.int .i64 0)]) := by kernel_rfl
@[simp] theorem fld_113_0 : fld Go.Proofs.Tryd.prog 113 0 = some (0, 111) := by kernel_rfl
@[simp] theorem fld_113_1 : fld Go.Proofs.Tryd.prog 113 1 = some (1, 112) := by kernel_rfl
@[simp] theorem fld_113_2 : fld Go.Proofs.Tryd.prog 113 2 = some (2, 3) := by kernel_rfl
@[simp] theorem pl_113 : placesP Go.Proofs.Tryd.prog 113 = some [(0, 1), (1, 1), (2, 1)] := by kernel_rfl
@[simp] theorem tsz_114 : tsz Go.Proofs.Tryd.prog 114 = some 3 := by kernel_rfl
@[simp] theorem aggT_114 : aggT Go.Proofs.Tryd.prog 114 = some true := by kernel_rfl
@[simp] theorem tby_114 : tby Go.Proofs.Tryd.prog 114 = some 56 := by kernel_rfl
@[simp] theorem tz_114 : tzero Go.Proofs.Tryd.prog 114 = some (.agg #[(.slice none 0 0), (.slice none 0 0), (.int .i64 0)]) := by kernel_rfl
@[simp] theorem fld_114_0 : fld Go.Proofs.Tryd.prog 114 0 = some (0, 111) := by kernel_rfl
@[simp] theorem fld_114_1 : fld Go.Proofs.Tryd.prog 114 1 = some (1, 112) := by kernel_rfl
@[simp] theorem fld_114_2 : fld Go.Proofs.Tryd.prog 114 2 = some (2, 3) := by kernel_rfl
@[simp] theorem pl_114 : placesP Go.Proofs.Tryd.prog 114 = some [(0, 1), (1, 1), (2, 1)] := by kernel_rfl
@[simp] theorem tsz_115 : tsz Go.Proofs.Tryd.prog 115 = some 1 := by kernel_rfl
@[simp] theorem aggT_115 : aggT Go.Proofs.Tryd.prog 115 = some false := by kernel_rfl
@[simp] theorem tby_115 : tby Go.Proofs.Tryd.prog 115 = some 2 := by kernel_rfl
@[simp] theorem tz_115 : tzero Go.Proofs.Tryd.prog 115 = some (.int .u16 0) := by kernel_rfl
@[simp] theorem intT_115 : intT Go.Proofs.Tryd.prog 115 = some .u16 := by kernel_rfl
@[simp] theorem und_115 : (Go.Proofs.Tryd.prog.underlying 115).isSome = true := by kernel_rfl
@[simp] theorem tsz_116 : tsz Go.Proofs.Tryd.prog 116 = some 3 := by kernel_rfl
@[simp] theorem aggT_116 : aggT Go.Proofs.Tryd.prog 116 = some true := by kernel_rfl
@[simp] theorem tby_116 : tby Go.Proofs.Tryd.prog 116 = some 6 := by kernel_rfl
@[simp] theorem tz_116 : tzero Go.Proofs.Tryd.prog 116 = some (.agg #[(.int .u16 0), (.int .u16 0), (.int .u16 0)]) := by kernel_rfl
@[simp] theorem fld_116_0 : fld Go.Proofs.Tryd.prog 116 0 = some (0, 115) := by kernel_rfl
@[simp] theorem fld_116_1 : fld Go.Proofs.Tryd.prog 116 1 = some (1, 115) := by kernel_rfl
@[simp] theorem fld_116_2 : fld Go.Proofs.Tryd.prog 116 2 = some (2, 115) := by kernel_rfl
@[simp] theorem pl_116 : placesP Go.Proofs.Tryd.prog 116 = some [(0, 1), (1, 1), (2, 1)] := by kernel_rfl
@[simp] theorem tsz_117 : tsz Go.Proofs.Tryd.prog 117 = some 3 := by kernel_rfl
@[simp] theorem aggT_117 : aggT Go.Proofs.Tryd.prog 117 = some true := by kernel_rfl
@[simp] theorem tby_117 : tby Go.Proofs.Tryd.prog 117 = some 6 := by kernel_rfl
@[simp] theorem tz_117 : tzero Go.Proofs.Tryd.prog 117 = some (.agg #[(.int .u16 0), (.int .u16 0), (.int .u16 0)]) := by kernel_rfl
@[simp] theorem fld_117_0 : fld Go.Proofs.Tryd.prog 117 0 = some (0, 115) := by kernel_rfl
@[simp] theorem fld_117_1 : fld Go.Proofs.Tryd.prog 117 1 = some (1, 115) := by kernel_rfl
@[simp] theorem fld_117_2 : fld Go.Proofs.Tryd.prog 117 2 = some (2, 115) := by kernel_rfl
@[simp] theorem pl_117 : placesP Go.Proofs.Tryd.prog 117 = some [(0, 1), (1, 1), (2, 1)] := by kernel_rfl
@[simp] theorem tsz_118 : tsz Go.Proofs.Tryd.prog 118 = some 1 := by kernel_rfl
@[simp] theorem aggT_118 : aggT Go.Proofs.Tryd.prog 118 = some false := by kernel_rfl
@[simp] theorem tby_118 : tby Go.Proofs.Tryd.prog 118 = some 8 := by kernel_rfl
@[simp] theorem tz_118 : tzero Go.Proofs.Tryd.prog 118 = some .nilFunc := by kernel_rfl
@[simp] theorem tsz_119 : tsz Go.Proofs.Tryd.prog 119 = some 3 := by kernel_rfl
@[simp] theorem aggT_119 : aggT Go.Proofs.Tryd.prog 119 = some true := by kernel_rfl
@[simp] theorem tby_119 : tby Go.Proofs.Tryd.prog 119 = some 12 := by kernel_rfl
@[simp] theorem tz_119 : tzero Go.Proofs.Tryd.prog 119 = some (.agg #[(.int .u32 0), (.int .u32 0), (.int .u32 0)]) := by kernel_rfl
@[simp] theorem fld_119_0 : fld Go.Proofs.Tryd.prog 119 0 = some (0, 98) := by kernel_rfl
@[simp] theorem fld_119_1 : fld Go.Proofs.Tryd.prog 119 1 = some (1, 98) := by kernel_rfl
@[simp] theorem fld_119_2 : fld Go.Proofs.Tryd.prog 119 2 = some (2, 98) := by kernel_rfl
@[simp] theorem pl_119 : placesP Go.Proofs.Tryd.prog 119 = some [(0, 1), (1, 1), (2, 1)] := by kernel_rfl
@[simp] theorem tsz_120 : tsz Go.Proofs.Tryd.prog 120 = some 3 := by kernel_rfl
@[simp] theorem aggT_120 : aggT Go.Proofs.Tryd.prog 120 = some true := by kernel_rfl
@[simp] theorem tby_120 : tby Go.Proofs.Tryd.prog 120 = some 12 := by kernel_rfl
@[simp] theorem tz_120 : tzero Go.Proofs.Tryd.prog 120 = some (.agg #[(.int .u32 0), (.int .u32 0), (.int .u32 0)]) := by kernel_rfl
@[simp] theorem fld_120_0 : fld Go.Proofs.Tryd.prog 120 0 = some (0, 98) := by kernel_rfl
@[simp] theorem fld_120_1 : fld Go.Proofs.Tryd.prog 120 1 = some (1, 98) := by kernel_rfl
@[simp] theorem fld_120_2 : fld Go.Proofs.Tryd.prog 120 2 = some (2, 98) := by kernel_rfl
@[simp] theorem pl_120 : placesP Go.Proofs.Tryd.prog 120 = some [(0, 1), (1, 1), (2, 1)] := by kernel_rfl
@[simp] theorem tsz_121 : tsz Go.Proofs.Tryd.prog 121 = some 1 := by kernel_rfl
@[simp] theorem aggT_121 : aggT Go.Proofs.Tryd.prog 121 = some false := by kernel_rfl
@[simp] theorem tby_121 : tby Go.Proofs.Tryd.prog 121 = some 8 := by kernel_rfl
@[simp] theorem tz_121 : tzero Go.Proofs.Tryd.prog 121 = some .nilFunc := by kernel_rfl
@[simp] theorem tsz_122 : tsz Go.Proofs.Tryd.prog 122 = some 1 := by kernel_rfl
@[simp] theorem aggT_122 : aggT Go.Proofs.Tryd.prog 122 = some false := by kernel_rfl
@[simp] theorem tby_122 : tby Go.Proofs.Tryd.prog 122 = some 8 := by kernel_rfl
@[simp] theorem tz_122 : tzero Go.Proofs.Tryd.prog 122 = some .nilFunc := by kernel_rfl
@[simp] theorem tsz_123 : tsz Go.Proofs.Tryd.prog 123 = some 1 := by kernel_rfl
@[simp] theorem aggT_123 : aggT Go.Proofs.Tryd.prog 123 = some false := by kernel_rfl
@[simp] theorem tby_123 : tby Go.Proofs.Tryd.prog 123 = some 8 := by kernel_rfl
@[simp] theorem tz_123 : tzero Go.Proofs.Tryd.prog 123 = some (.pointer none) := by kernel_rfl
@[simp] theorem ptrT_123 : ptrT Go.Proofs.Tryd.prog 123 = true := by kernel_rfl
@[simp] theorem tsz_124 : tsz Go.Proofs.Tryd.prog 124 = some 1 := by kernel_rfl
@[simp] theorem aggT_124 : aggT Go.Proofs.Tryd.prog 124 = some false := by kernel_rfl
@[simp] theorem tby_124 : tby Go.Proofs.Tryd.prog 124 = some 8 := by kernel_rfl
@[simp] theorem tz_124 : tzero Go.Proofs.Tryd.prog 124 = some (.pointer none) := by kernel_rfl
@[simp] theorem ptrT_124 : ptrT Go.Proofs.Tryd.prog 124 = true := by kernel_rfl
@[simp] theorem tsz_125 : tsz Go.Proofs.Tryd.prog 125 = some 1 := by kernel_rfl
@[simp] theorem aggT_125 : aggT Go.Proofs.Tryd.prog 125 = some false := by kernel_rfl
@[simp] theorem tby_125 : tby Go.Proofs.Tryd.prog 125 = some 8 := by kernel_rfl
@[simp] theorem tz_125 : tzero Go.Proofs.Tryd.prog 125 = some (.int .u64 0) := by kernel_rfl
@[simp] theorem intT_125 : intT Go.Proofs.Tryd.prog 125 = some .u64 := by kernel_rfl
@[simp] theorem und_125 : (Go.Proofs.Tryd.prog.underlying 125).isSome = true := by kernel_rfl
@[simp] theorem tsz_126 : tsz Go.Proofs.Tryd.prog 126 = some 1 := by kernel_rfl
@[simp] theorem aggT_126 : aggT Go.Proofs.Tryd.prog 126 = some false := by kernel_rfl
@[simp] theorem tby_126 : tby Go.Proofs.Tryd.prog 126 = some 8 := by kernel_rfl
@[simp] theorem tz_126 : tzero Go.Proofs.Tryd.prog 126 = some (.pointer none) := by kernel_rfl
@[simp] theorem ptrT_126 : ptrT Go.Proofs.Tryd.prog 126 = true := by kernel_rfl
@[simp] theorem tsz_127 : tsz Go.Proofs.Tryd.prog 127 = some 1 := by kernel_rfl
@[simp] theorem aggT_127 : aggT Go.Proofs.Tryd.prog 127 = some false := by kernel_rfl
@[simp] theorem tby_127 : tby Go.Proofs.Tryd.prog 127 = some 8 := by kernel_rfl
@[simp] theorem tz_127 : tzero Go.Proofs.Tryd.prog 127 = some .nilFunc := by kernel_rfl
@[simp] theorem tsz_129 : tsz Go.Proofs.Tryd.prog 129 = some 1 := by kernel_rfl
@[simp] theorem aggT_129 : aggT Go.Proofs.Tryd.prog 129 = some false := by kernel_rfl
@[simp] theorem tby_129 : tby Go.Proofs.Tryd.prog 129 = some 8 := by kernel_rfl
@[simp] theorem tz_129 : tzero Go.Proofs.Tryd.prog 129 = some .nilFunc := by kernel_rfl
@[simp] theorem tsz_131 : tsz Go.Proofs.Tryd.prog 131 = some 1 := by kernel_rfl
@[simp] theorem aggT_131 : aggT Go.Proofs.Tryd.prog 131 = some false := by kernel_rfl
@[simp] theorem tby_131 : tby Go.Proofs.Tryd.prog 131 = some 8 := by kernel_rfl
@[simp] theorem tz_131 : tzero Go.Proofs.Tryd.prog 131 = some .nilFunc := by kernel_rfl
@[simp] theorem tsz_132 : tsz Go.Proofs.Tryd.prog 132 = some 1 := by kernel_rfl
@[simp] theorem aggT_132 : aggT Go.Proofs.Tryd.prog 132 = some false := by kernel_rfl
@[simp] theorem tby_132 : tby Go.Proofs.Tryd.prog 132 = some 8 := by kernel_rfl
@[simp] theorem tz_132 : tzero Go.Proofs.Tryd.prog 132 = some .nilFunc := by kernel_rfl
@[simp] theorem tsz_134 : tsz Go.Proofs.Tryd.prog 134 = some 1 := by kernel_rfl
@[simp] theorem aggT_134 : aggT Go.Proofs.Tryd.prog 134 = some false := by kernel_rfl
@[simp] theorem tby_134 : tby Go.Proofs.Tryd.prog 134 = some 8 := by kernel_rfl
@[simp] theorem tz_134 : tzero Go.Proofs.Tryd.prog 134 = some .nilFunc := by kernel_rfl
@[simp] theorem tsz_135 : tsz Go.Proofs.Tryd.prog 135 = some 1 := by kernel_rfl
@[simp] theorem aggT_135 : aggT Go.Proofs.Tryd.prog 135 = some false := by kernel_rfl
@[simp] theorem tby_135 : tby Go.Proofs.Tryd.prog 135 = some 8 := by kernel_rfl
@[simp] theorem tz_135 : tzero Go.Proofs.Tryd.prog 135 = some .nilFunc := by kernel_rfl
@[simp] theorem tsz_136 : tsz Go.Proofs.Tryd.prog 136 = some 1 := by kernel_rfl
@[simp] theorem aggT_136 : aggT Go.Proofs.Tryd.prog 136 = some false := by kernel_rfl
@[simp] theorem tby_136 : tby Go.Proofs.Tryd.prog 136 = some 8 := by kernel_rfl
@[simp] theorem tz_136 : tzero Go.Proofs.Tryd.prog 136 = some .nilFunc := by kernel_rfl
@[simp] theorem tsz_137 : tsz Go.Proofs.Tryd.prog 137 = some 1 := by kernel_rfl
@[simp] theorem aggT_137 : aggT Go.Proofs.Tryd.prog 137 = some false := by kernel_rfl
@[simp] theorem tby_137 : tby Go.Proofs.Tryd.prog 137 = some 8 := by kernel_rfl
@[simp] theorem tz_137 : tzero Go.Proofs.Tryd.prog 137 = some .nilFunc := by kernel_rfl
@[simp] theorem tsz_138 : tsz Go.Proofs.Tryd.prog 138 = some 1 := by kernel_rfl
@[simp] theorem aggT_138 : aggT Go.Proofs.Tryd.prog 138 = some false := by kernel_rfl
@[simp] theorem tby_138 : tby Go.Proofs.Tryd.prog 138 = some 8 := by kernel_rfl
@[simp] theorem tz_138 : tzero Go.Proofs.Tryd.prog 138 = some .nilFunc := by kernel_rfl
@[simp] theorem tsz_139 : tsz Go.Proofs.Tryd.prog 139 = some 4 := by kernel_rfl
@[simp] theorem aggT_139 : aggT Go.Proofs.Tryd.prog 139 = some true := by kernel_rfl
@[simp] theorem tsz_140 : tsz Go.Proofs.Tryd.prog 140 = some 4 := by kernel_rfl
@[simp] theorem aggT_140 : aggT Go.Proofs.Tryd.prog 140 = some true := by kernel_rfl
@[simp] theorem tsz_141 : tsz Go.Proofs.Tryd.prog 141 = some 0 := by kernel_rfl
@[simp] theorem aggT_141 : aggT Go.Proofs.Tryd.prog 141 = some true := by kernel_rfl
@[simp] theorem tby_141 : tby Go.Proofs.Tryd.prog 141 = some 0 := by kernel_rfl
@[simp] theorem tz_141 : tzero Go.Proofs.Tryd.prog 141 = some (.agg #[]) := by kernel_rfl
@[simp] theorem arrT_141 : arrT Go.Proofs.Tryd.prog 141 = some (0, 16) := by kernel_rfl
@[simp] theorem pl_141 : placesP Go.Proofs.Tryd.prog 141 = none := by kernel_rfl
@[simp] theorem tsz_142 : tsz Go.Proofs.Tryd.prog 142 = some 0 := by kernel_rfl
@[simp] theorem aggT_142 : aggT Go.Proofs.Tryd.prog 142 = some true := by kernel_rfl
@[simp] theorem tby_142 : tby Go.Proofs.Tryd.prog 142 = some 0 := by kernel_rfl
@[simp] theorem tz_142 : tzero Go.Proofs.Tryd.prog 142 = some (.agg #[]) := by kernel_rfl
@[simp] theorem fld_142_0 : fld Go.Proofs.Tryd.prog 142 0 = some (0, 141) := by kernel_rfl
@[simp] theorem pl_142 : placesP Go.Proofs.Tryd.prog 142 = some [(0, 0)] := by kernel_rfl
@[simp] theorem tsz_143 : tsz Go.Proofs.Tryd.prog 143 = some 0 := by kernel_rfl
@[simp] theorem aggT_143 : aggT Go.Proofs.Tryd.prog 143 = some true := by kernel_rfl
@[simp] theorem tsz_144 : tsz Go.Proofs.Tryd.prog 144 = some 1 := by kernel_rfl
@[simp] theorem aggT_144 : aggT Go.Proofs.Tryd.prog 144 = some false := by kernel_rfl
@[simp] theorem tsz_145 : tsz Go.Proofs.Tryd.prog 145 = some 1 := by kernel_rfl
@[simp] theorem aggT_145 : aggT Go.Proofs.Tryd.prog 145 = some false := by kernel_rfl
@[simp] theorem tsz_146 : tsz Go.Proofs.Tryd.prog 146 = some 1 := by kernel_rfl
@[simp] theorem aggT_146 : aggT Go.Proofs.Tryd.prog 146 = some false := by kernel_rfl
@[simp] theorem tby_146 : tby Go.Proofs.Tryd.prog 146 = some 8 := by kernel_rfl
@[simp] theorem tz_146 : tzero Go.Proofs.Tryd.prog 146 = some .nilFunc := by kernel_rfl
@[simp] theorem tsz_147 : tsz Go.Proofs.Tryd.prog 147 = some 1 := by kernel_rfl
@[simp] theorem aggT_147 : aggT Go.Proofs.Tryd.prog 147 = some false := by kernel_rfl
@[simp] theorem tsz_148 : tsz Go.Proofs.Tryd.prog 148 = some 1 := by kernel_rfl
@[simp] theorem aggT_148 : aggT Go.Proofs.Tryd.prog 148 = some false := by kernel_rfl
@[simp] theorem tsz_149 : tsz Go.Proofs.Tryd.prog 149 = some 11 := by kernel_rfl
@[simp] theorem aggT_149 : aggT Go.Proofs.Tryd.prog 149 = some true := by kernel_rfl
@[simp] theorem tsz_150 : tsz Go.Proofs.Tryd.prog 150 = some 11 := by kernel_rfl
@[simp] theorem aggT_150 : aggT Go.Proofs.Tryd.prog 150 = some true := by kernel_rfl
@[simp] theorem mixed_ : Go.Proofs.Tryd.prog.follows .mixedOrders = true := by kernel_rfl
end Go.Pv

/- The types of this seat, for a symbolic walk. Written by a program: gti.py. -/
namespace Go.Pv
set_option maxRecDepth 100000
def ti_size : List (Nat × (Nat × Bool)) := [(1, (1, false)), (2, (1, false)), (3, (1, false)), (4, (1, false)), (5, (1, false)), (6, (1, false)), (7, (4, true)), (8, (4, true)), (9, (1, false)), (10, (1, false)), (11, (1, false)), (12, (1, false)), (13, (2, true)), (14, (2, true)), (15, (1, false)), (16, (1, false)), (17, (1, false)), (18, (1, true)), (19, (1, true)), (20, (1, false)), (21, (1, false)), (22, (1, false)), (23, (1, false)), (24, (1, false)), (25, (1, false)), (27, (1, false)), (29, (1, false)), (30, (4, true)), (31, (4, true)), (33, (1, false)), (34, (1, false)), (35, (1, false)), (36, (6, true)), (37, (6, true)), (39, (1, false)), (40, (1, false)), (41, (1, false)), (42, (1, false)), (43, (5, true)), (44, (5, true)), (45, (1, false)), (46, (1, false)), (48, (1, false)), (49, (4, true)), (50, (4, true)), (51, (1, false)), (52, (2, true)), (53, (2, true)), (55, (1, false)), (56, (1, false)), (58, (1, false)), (59, (1, false)), (60, (1, false)), (61, (1, false)), (62, (2, true)), (63, (2, true)), (64, (1, false)), (65, (1, false)), (66, (1, false)), (67, (1, false)), (68, (1, false)), (70, (1, false)), (72, (1, false)), (73, (12, true)), (74, (12, true)), (75, (1, false)), (76, (1, false)), (78, (1, false)), (79, (1, false)), (80, (256, true)), (81, (1, false)), (82, (1, false)), (83, (1, false)), (84, (1, false)), (85, (1, false)), (86, (1, false)), (87, (1, false)), (88, (1, false)), (89, (1, false)), (90, (1, false)), (91, (1, false)), (92, (1, false)), (93, (1, false)), (94, (1, false)), (95, (1, false)), (96, (2, true)), (97, (2, true)), (98, (1, false)), (99, (1, false)), (100, (1, false)), (101, (1, false)), (102, (1, false)), (103, (1, false)), (104, (2, true)), (105, (2, true)), (106, (1, false)), (107, (1, false)), (108, (1, false)), (110, (1, false)), (111, (1, false)), (112, (1, false)), (113, (3, true)), (114, (3, true)), (115, (1, false)), (116, (3, true)), (117, (3, true)), (118, (1, false)), (119, (3, true)), (120, (3, true)), (121, (1, false)), (122, (1, false)), (123, (1, false)), (124, (1, false)), (125, (1, false)), (126, (1, false)), (127, (1, false)), (129, (1, false)), (131, (1, false)), (132, (1, false)), (134, (1, false)), (135, (1, false)), (136, (1, false)), (137, (1, false)), (138, (1, false)), (139, (4, true)), (140, (4, true)), (141, (0, true)), (142, (0, true)), (143, (0, true)), (144, (1, false)), (145, (1, false)), (146, (1, false)), (147, (1, false)), (148, (1, false)), (149, (11, true)), (150, (11, true))]
def ti_zero : List (Nat × Value) := [(1, .nilFunc), (2, (.int .i64 0)), (3, (.int .i64 0)), (4, (.bool false)), (5, (.int .u8 0)), (9, (.string ⟨#[]⟩)), (12, (.int .u64 0)), (13, (.agg #[(.string ⟨#[]⟩), (.int .u64 0)])), (15, (.pointer none)), (16, (.pointer none)), (19, (.agg #[(.pointer none)])), (20, .nilIface), (21, (.int .i32 0)), (22, (.slice none 0 0)), (23, .nilFunc), (24, (.slice none 0 0)), (25, (.int .i64 0)), (27, .nilFunc), (29, .nilFunc), (30, (.agg #[(.int .i64 0), (.string ⟨#[]⟩), (.string ⟨#[]⟩), (.int .i64 0)])), (31, (.agg #[(.int .i64 0), (.string ⟨#[]⟩), (.string ⟨#[]⟩), (.int .i64 0)])), (33, .nilFunc), (34, .nilFunc), (35, (.slice none 0 0)), (36, (.agg #[(.string ⟨#[]⟩), (.int .i64 0), (.slice none 0 0), (.bool false), (.string ⟨#[]⟩), (.bool false)])), (37, (.agg #[(.string ⟨#[]⟩), (.int .i64 0), (.slice none 0 0), (.bool false), (.string ⟨#[]⟩), (.bool false)])), (39, .nilFunc), (40, (.pointer none)), (41, (.map none)), (42, .nilFunc), (43, (.agg #[(.string ⟨#[]⟩), (.int .i64 0), (.map none), (.slice none 0 0), (.bool false)])), (44, (.agg #[(.string ⟨#[]⟩), (.int .i64 0), (.map none), (.slice none 0 0), (.bool false)])), (45, .nilFunc), (46, (.slice none 0 0)), (48, .nilFunc), (49, (.agg #[(.slice none 0 0), (.int .i64 0), (.int .i64 0), (.int .i64 0)])), (50, (.agg #[(.slice none 0 0), (.int .i64 0), (.int .i64 0), (.int .i64 0)])), (51, .nilFunc), (52, (.agg #[(.slice none 0 0), (.slice none 0 0)])), (53, (.agg #[(.slice none 0 0), (.slice none 0 0)])), (55, .nilFunc), (56, .nilFunc), (58, .nilFunc), (59, .nilFunc), (60, .nilFunc), (61, .nilFunc), (62, (.agg #[(.int .i64 0), .nilFunc])), (63, (.agg #[(.int .i64 0), .nilFunc])), (64, (.slice none 0 0)), (65, .nilFunc), (66, .nilFunc), (67, (.slice none 0 0)), (68, (.pointer none)), (70, .nilFunc), (72, .nilFunc), (73, (.agg #[(.string ⟨#[]⟩), (.bool false), (.int .i64 0), (.string ⟨#[]⟩), (.string ⟨#[]⟩), (.int .i64 0), (.int .i64 0), (.string ⟨#[]⟩), (.string ⟨#[]⟩), (.int .i64 0), (.bool false), (.bool false)])), (74, (.agg #[(.string ⟨#[]⟩), (.bool false), (.int .i64 0), (.string ⟨#[]⟩), (.string ⟨#[]⟩), (.int .i64 0), (.int .i64 0), (.string ⟨#[]⟩), (.string ⟨#[]⟩), (.int .i64 0), (.bool false), (.bool false)])), (75, .nilFunc), (76, .nilFunc), (78, .nilFunc), (79, .nilFunc), (81, .nilFunc), (82, .nilFunc), (83, .nilFunc), (84, .nilFunc), (85, .nilFunc), (86, .nilFunc), (87, .nilFunc), (88, .nilFunc), (89, .nilFunc), (90, .nilFunc), (91, .nilFunc), (92, .nilFunc), (93, .nilFunc), (94, .nilFunc), (95, (.slice none 0 0)), (96, (.agg #[(.int .i64 0), (.int .i64 0)])), (97, (.agg #[(.int .i64 0), (.int .i64 0)])), (98, (.int .u32 0)), (99, .nilFunc), (100, (.pointer none)), (101, .nilFunc), (102, (.pointer none)), (103, (.slice none 0 0)), (104, (.agg #[(.pointer none), (.slice none 0 0)])), (105, (.agg #[(.pointer none), (.slice none 0 0)])), (106, .nilFunc), (107, .nilIface), (108, .nilIface), (110, .nilFunc), (111, (.slice none 0 0)), (112, (.slice none 0 0)), (113, (.agg #[(.slice none 0 0), (.slice none 0 0), (.int .i64 0)])), (114, (.agg #[(.slice none 0 0), (.slice none 0 0), (.int .i64 0)])), (115, (.int .u16 0)), (116, (.agg #[(.int .u16 0), (.int .u16 0), (.int .u16 0)])), (117, (.agg #[(.int .u16 0), (.int .u16 0), (.int .u16 0)])), (118, .nilFunc), (119, (.agg #[(.int .u32 0), (.int .u32 0), (.int .u32 0)])), (120, (.agg #[(.int .u32 0), (.int .u32 0), (.int .u32 0)])), (121, .nilFunc), (122, .nilFunc), (123, (.pointer none)), (124, (.pointer none)), (125, (.int .u64 0)), (126, (.pointer none)), (127, .nilFunc), (129, .nilFunc), (131, .nilFunc), (132, .nilFunc), (134, .nilFunc), (135, .nilFunc), (136, .nilFunc), (137, .nilFunc), (138, .nilFunc), (141, (.agg #[])), (142, (.agg #[])), (146, .nilFunc)]
def ti_flds : List (Nat × List (Nat × Nat)) := [(13, [(0, 9), (1, 12)]), (19, [(0, 17)]), (30, [(0, 3), (1, 9), (2, 9), (3, 3)]), (31, [(0, 3), (1, 9), (2, 9), (3, 3)]), (36, [(0, 9), (1, 3), (2, 35), (3, 4), (4, 9), (5, 4)]), (37, [(0, 9), (1, 3), (2, 35), (3, 4), (4, 9), (5, 4)]), (43, [(0, 9), (1, 3), (2, 41), (3, 35), (4, 4)]), (44, [(0, 9), (1, 3), (2, 41), (3, 35), (4, 4)]), (49, [(0, 22), (1, 3), (2, 3), (3, 3)]), (50, [(0, 22), (1, 3), (2, 3), (3, 3)]), (52, [(0, 24), (1, 22)]), (53, [(0, 24), (1, 22)]), (62, [(0, 3), (1, 61)]), (63, [(0, 3), (1, 61)]), (73, [(0, 9), (1, 4), (2, 31), (6, 31), (10, 4), (11, 4)]), (74, [(0, 9), (1, 4), (2, 31), (6, 31), (10, 4), (11, 4)]), (96, [(0, 3), (1, 3)]), (97, [(0, 3), (1, 3)]), (104, [(0, 102), (1, 103)]), (105, [(0, 102), (1, 103)]), (113, [(0, 111), (1, 112), (2, 3)]), (114, [(0, 111), (1, 112), (2, 3)]), (116, [(0, 115), (1, 115), (2, 115)]), (117, [(0, 115), (1, 115), (2, 115)]), (119, [(0, 98), (1, 98), (2, 98)]), (120, [(0, 98), (1, 98), (2, 98)]), (142, [(0, 141)])]
def ti_plc : List (Nat × List (Nat × Nat)) := [(13, [(0, 1), (1, 1)]), (19, [(0, 1)]), (30, [(0, 1), (1, 1), (2, 1), (3, 1)]), (31, [(0, 1), (1, 1), (2, 1), (3, 1)]), (36, [(0, 1), (1, 1), (2, 1), (3, 1), (4, 1), (5, 1)]), (37, [(0, 1), (1, 1), (2, 1), (3, 1), (4, 1), (5, 1)]), (43, [(0, 1), (1, 1), (2, 1), (3, 1), (4, 1)]), (44, [(0, 1), (1, 1), (2, 1), (3, 1), (4, 1)]), (49, [(0, 1), (1, 1), (2, 1), (3, 1)]), (50, [(0, 1), (1, 1), (2, 1), (3, 1)]), (52, [(0, 1), (1, 1)]), (53, [(0, 1), (1, 1)]), (62, [(0, 1), (1, 1)]), (63, [(0, 1), (1, 1)]), (73, [(0, 1), (1, 1), (2, 4), (6, 4), (10, 1), (11, 1)]), (74, [(0, 1), (1, 1), (2, 4), (6, 4), (10, 1), (11, 1)]), (96, [(0, 1), (1, 1)]), (97, [(0, 1), (1, 1)]), (104, [(0, 1), (1, 1)]), (105, [(0, 1), (1, 1)]), (113, [(0, 1), (1, 1), (2, 1)]), (114, [(0, 1), (1, 1), (2, 1)]), (116, [(0, 1), (1, 1), (2, 1)]), (117, [(0, 1), (1, 1), (2, 1)]), (119, [(0, 1), (1, 1), (2, 1)]), (120, [(0, 1), (1, 1), (2, 1)]), (142, [(0, 0)])]
def ti_slc : List (Nat × Nat) := [(22, 3), (24, 31), (35, 9), (46, 50), (64, 63), (67, 4), (95, 97), (103, 5), (111, 117), (112, 120)]
def ti_apd : List (Nat × (Nat × Nat × Nat)) := [(22, (3, 1, 8)), (24, (31, 4, 48)), (35, (9, 1, 16)), (46, (50, 4, 48)), (64, (63, 2, 16)), (67, (4, 1, 1)), (95, (97, 2, 16)), (103, (5, 1, 1)), (111, (117, 3, 6)), (112, (120, 3, 12))]
def ti_arr : List (Nat × (Nat × Nat)) := [(80, (256, 5)), (141, (0, 16))]
def ti_maps : List (Nat × (Option IntKind × Value)) := [(41, (none, (.bool false)))]
def ti_bools : List (Nat × Unit) := [(4, ())]
def ti_strs : List (Nat × Unit) := [(9, ())]
def TI0 : TI := { size := ti_size, zero := ti_zero, flds := ti_flds, plc := ti_plc, slc := ti_slc, apd := ti_apd, arr := ti_arr, maps := ti_maps, bools := ti_bools, strs := ti_strs }
theorem ti_ok : TIok Go.Proofs.Tryd.prog TI0 := ⟨by kernel_rfl, by kernel_rfl, by kernel_rfl, by kernel_rfl, by kernel_rfl, by kernel_rfl, by kernel_rfl, by kernel_rfl, by kernel_rfl, by kernel_rfl, by kernel_rfl, by kernel_rfl⟩
end Go.Pv

/- A logic over plain values: what a law is given reads as plain data. -/
namespace Go.Pv
open Go.RowKit Go.ChangeShapes Go.WideShapes
set_option linter.unusedVariables false
set_option linter.unusedSimpArgs false
/-- Before the call all of memory is frozen. -/
def g0 (w : World) : G := ⟨fun k => k < w.heap.size, fun k => ⟨k, 0, 0⟩, 64, fun k hk => ⟨hk, rfl⟩⟩
theorem holds0 (w : World) : Holds (g0 w) St.empty w := ⟨fun _ _ => rfl, fun _ h => h, fun i b h => by (cases h), fun i j h => absurd rfl h, fun i b h => (by cases h)⟩
theorem PCalls.below {P : Program} {f : FuncId} {args : List PV} {R : Res → St → Prop} (h : PCalls P f args St.empty R) (he : enters P f = true) {w : World} {vs : Array Value} (hA : Args w (g0 w) args vs) :
    Calls P f vs w fun e w' => Below w.heap.size w w' ∧ ∃ res s' g', RR w' g' res e ∧ R res s' := by
  rcases h with h | h
  · exact (h.2 (g0 w) w vs (holds0 w) hA).mono fun e w' ⟨res, s', g', h1, h2, h3, h4⟩ => ⟨⟨h1.os, h1.tape, h1.output, h1.size, fun k hk => h1.block k hk⟩, res, s', g', h3, h4⟩
  · obtain ⟨p, v, s', g', w', h1, _⟩ := h (g0 w) w vs (holds0 w) hA
    rw [run_enters he] at h1
    cases h1
/-- For a law: it answers true. -/
theorem PCalls.law {P : Program} {f : FuncId} {args : List PV} (h : PCalls P f args St.empty fun r s' => s' = St.empty ∧ r = .ret (.lit (.bool true))) (he : enters P f = true) {w : World} {vs : Array Value} (hA : Args w (g0 w) args vs) :
    Calls P f vs w fun e w' => e = .returned (.bool true) ∧ Below w.heap.size w w' :=
  (h.below he hA).mono fun e w' ⟨h1, res, s', g', h2, h3, h4⟩ => by
    subst h4
    cases h2 with
    | ret p v hv => obtain ⟨rfl, _⟩ := hv.lit_inv; exact ⟨rfl, h1⟩
theorem cell_lt {w : World} {a : Addr} {v : Value} (h : w.cell? a = some v) : a.block < w.heap.size := by
  rcases Nat.lt_or_ge a.block w.heap.size with hl | hl
  · exact hl
  · unfold World.cell? at h
    rw [Array.getElem?_eq_none hl] at h
    cases h
/-- Cells that read as the cells of a plain value. -/
def CRd (w : World) (p : PV) (cs : List Value) : Prop := p.cells.length = cs.length ∧ ∀ (i : Nat) (c : PV) (v : Value), p.cells[i]? = some c → cs[i]? = some v → VR w (g0 w) c v ∧ Value.oneCell' v = true
section
variable {H : Type} {enc : TypeId × Value → H} {w : World} {base : Nat} {spare : Nat → Bool} {held : Bool} {P : Program}
theorem list_of {α : Type} [Inhabited α] {p : Nat → α → Prop} : ∀ {n : Nat}, (∀ i, i < n → ∃ x, p i x) → ∃ l : List α, l.length = n ∧ ∀ i x, l[i]? = some x → p i x := by
  intro n h
  obtain ⟨f, hf⟩ := Go.Deep.choose_lt h
  refine ⟨(List.range n).map f, by simp, fun i x hx => ?_⟩
  obtain ⟨hl, hx⟩ := List.getElem?_eq_some_iff.1 hx
  have hi : i < n := by simpa using hl
  have he : f i = x := by simpa using hx
  rw [← he]
  exact hf i hi
theorem CRd.one {p : PV} {v : Value} (hp : p.cells = [p]) (hv : VR w (g0 w) p v) (h1 : Value.oneCell' v = true) : CRd w p [v] := by
  refine ⟨by rw [hp]; rfl, fun i c u hc hu => ?_⟩
  rw [hp] at hc
  cases i with
  | zero => cases hc; cases hu; exact ⟨hv, h1⟩
  | succ i => simp at hc
theorem CRd.agg {cs : List PV} {vs : List Value} (h : CRd w (.agg cs) vs) : VR w (g0 w) (.agg cs) (.agg vs.toArray) := by
  refine .agg cs _ (by simpa using h.1.symm) (fun i v hv => ?_) (fun i c v hc hv => (h.2 i c v hc (by simpa using hv)).1)
  have hv' : vs[i]? = some v := by simpa using hv
  have hlt : i < cs.length := by rw [show cs.length = vs.length from h.1]; exact (List.getElem?_eq_some_iff.1 hv').1
  exact (h.2 i _ v (List.getElem?_eq_getElem hlt) hv').2
/-- A struct's cells, one behind the other. -/
theorem CRd.cons {c : PV} {cs : List PV} {v : Value} {vs : List Value} (hv : VR w (g0 w) c v) (h1 : Value.oneCell' v = true) (h : CRd w (.agg cs) vs) : CRd w (.agg (c :: cs)) (v :: vs) := by
  refine ⟨by simpa [PV.cells] using h.1, fun i d u hd hu => ?_⟩
  cases i with
  | zero => cases hd; cases hu; exact ⟨hv, h1⟩
  | succ i => exact h.2 i d u hd hu
theorem CRd.nil : CRd w (.agg []) [] := ⟨rfl, fun i c v hc => by simp [PV.cells] at hc⟩
/-- A slice of whatever elements. -/
theorem rows_cr {α : Type} [Inhabited α] {t e sz : Nat} (encA : α → PV) (G : α → Prop) (hsz : ∀ x, (encA x).width = sz) {fuel : Nat} {cs : List Value} {x : DataW H × List MemPlace} (ht : P.underlying t = some (.slice e)) (hc : P.cellsOf e = sz)
    (ih : ∀ m, m < fuel → ∀ cs x, DataW.trod enc P w base spare held m e cs = some x → ∃ y, CRd w (encA y) cs ∧ G y)
    (h : DataW.trod enc P w base spare held fuel t cs = some x) : ∃ (v : Value) (l : List α), cs = [v] ∧ VR w (g0 w) (.vec .any (l.map encA)) v ∧ Value.oneCell' v = true ∧ l.length ≤ maxLen ∧ ∀ y ∈ l, G y := by
  rcases DataW.trod_slice ht h with ⟨rfl, _⟩ | ⟨a, len, cap, elems, rest, n, hf, rfl, _, hb, hl, hm, hlen, hel, _, _⟩
  · exact ⟨_, [], rfl, .vec .any [] none 0 0 (fun _ _ => undef) (Nat.le_refl _) (fun h => absurd rfl h) (fun h => by cases h) (fun _ => rfl) (by simp) (by simp) (by simp), rfl, Nat.zero_le _, fun y hy => by cases hy⟩
  · have hall : ∀ i, i < len → ∃ y : α, (∃ c, CRd w (encA y) c ∧ c.length = sz ∧ ∀ j u, c[j]? = some u → w.cell? (a.add (i * sz + j)) = some u) ∧ G y := by
      intro i hi
      have h1 := hel i hi
      rw [List.getElem?_eq_getElem (by omega)] at h1
      obtain ⟨c, hcc, ht2⟩ := Option.bind_eq_some_iff.1 h1
      obtain ⟨y, hK, hG⟩ := ih n (by omega) c _ ht2
      rw [hc] at hcc
      obtain ⟨_, hcl, hat⟩ := World.cells?_some hcc
      refine ⟨y, ⟨c, hK, hcl, fun j u hu => ?_⟩, hG⟩
      have hj : j < sz := by rw [← hcl]; exact (List.getElem?_eq_some_iff.1 hu).1
      rw [← Go.Deep.add_add, hat j hj]
      exact hu
    obtain ⟨l, hll, hp⟩ := list_of hall
    subst hll
    have key : ∀ (i : Nat) (p : PV) (j : Nat) (c : PV), (l.map encA)[i]? = some p → p.cells[j]? = some c → ∃ v, w.cell? (a.add (i * sz + j)) = some v ∧ Value.oneCell' v = true ∧ VR w (g0 w) c v := by
      intro i p j c hp' hcj
      rw [List.getElem?_map] at hp'
      obtain ⟨y, hy, rfl⟩ := Option.map_eq_some_iff.1 hp'
      obtain ⟨⟨cc, hCR, hcl, hcell⟩, _⟩ := hp i y hy
      have hj : j < cc.length := by rw [← hCR.1]; exact (List.getElem?_eq_some_iff.1 hcj).1
      have h2 := hCR.2 j c cc[j] hcj (List.getElem?_eq_getElem hj)
      exact ⟨cc[j], hcell j _ (List.getElem?_eq_getElem hj), h2.2, h2.1⟩
    refine ⟨_, l, rfl, ?_, rfl, Nat.le_trans hl hm, fun y hy => ?_⟩
    · have := VR.vec (w := w) (g := g0 w) .any (l.map encA) (some a) cap sz (fun i j => (w.cell? (a.add (i * sz + j))).getD undef) (by simpa using hl) (fun h => absurd rfl h) (fun h => by cases h) (fun h => by cases h) (fun i p hp' => by
          rw [List.getElem?_map] at hp'
          obtain ⟨y, hy, rfl⟩ := Option.map_eq_some_iff.1 hp'
          exact hsz y) (fun i p j c hp' hcj => by
          obtain ⟨v, h1, h2, h3⟩ := key i p j c hp' hcj
          refine ⟨a, rfl, ?_, by rw [h1]; rfl, by rw [h1]; exact h2⟩
          have := cell_lt h1
          rwa [add_zero_add] at this) (fun i p j c hp' hcj => by
          obtain ⟨v, h1, h2, h3⟩ := key i p j c hp' hcj
          rw [h1]; exact h3)
      rw [List.length_map] at this
      exact this
    · obtain ⟨i, hi⟩ := List.getElem?_of_mem hy
      exact (hp i y hi).2
theorem int_cr {t : TypeId} {k : IntKind} {fuel : Nat} {cs : List Value} {x : DataW H × List MemPlace} (ht : P.underlying t = some (.int k)) (h : DataW.trod enc P w base spare held fuel t cs = some x) :
    ∃ n : Int, cs = [.int k n] ∧ VR w (g0 w) (.lit (.int k n)) (.int k n) ∧ (Lit.int k n).wf = true := by
  obtain ⟨a, e, _, hw⟩ := DataW.trod_int ht h
  exact ⟨a, e, .lit _ rfl, hw⟩
theorem str_cr {t : TypeId} {fuel : Nat} {cs : List Value} {x : DataW H × List MemPlace} (ht : P.underlying t = some .string) (h : DataW.trod enc P w base spare held fuel t cs = some x) :
    ∃ s : ByteArray, cs = [.string s] ∧ VR w (g0 w) (.lit (.string s)) (.string s) ∧ s.size ≤ maxLen := by
  obtain ⟨a, e, _, hw⟩ := DataW.trod_string ht h
  exact ⟨a, e, .lit _ rfl, hw⟩
end
/-- Arguments, one behind the other. -/
theorem Args.nil {w : World} {g : G} : Args w g [] #[] := ⟨rfl, fun i p v hp => by simp at hp⟩
theorem Args.mk {w : World} {g : G} {ps : List PV} {vs : List Value} (hl : vs.length = ps.length) (h : ∀ (i : Nat) (p : PV) (v : Value), ps[i]? = some p → vs[i]? = some v → VR w g p v) : Args w g ps vs.toArray := ⟨by simpa using hl, fun i p v hp hv => h i p v hp (by simpa using hv)⟩
theorem Args.cons {w : World} {g : G} {p : PV} {v : Value} {ps : List PV} {vs : List Value} (h : VR w g p v) (t : Args w g ps vs.toArray) : Args w g (p :: ps) (v :: vs).toArray := by
  refine Args.mk (by have := t.1; simp at this; simp [this]) (fun i q u hq hu => ?_)
  cases i with
  | zero => cases hq; cases hu; exact h
  | succ i => exact t.2 i q u (by simpa using hq) (by simpa using hu)
end Go.Pv

/- Tokens as plain data. -/
namespace Go.Pv
set_option linter.unusedVariables false
set_option linter.unusedSimpArgs false
structure Tk where
  kind : Int
  before : ByteArray
  text : ByteArray
  at_ : Int
instance : Inhabited Tk := ⟨⟨0, ⟨#[]⟩, ⟨#[]⟩, 0⟩⟩
@[reducible] def encTC (t : Tk) : List PV := [.lit (.int .i64 t.kind), .lit (.string t.before), .lit (.string t.text), .lit (.int .i64 t.at_)]
@[reducible] def encT (t : Tk) : PV := .agg (encTC t)
@[reducible] def toks (k : VK) (l : List Tk) : PV := .vec k (l.map encT)
@[simp] theorem cells_encT : PV.cells ∘ encT = encTC := by funext x; rfl
@[simp] theorem width_encT : PV.width ∘ encT = fun _ => 4 := by funext x; rfl
end Go.Pv

/- strings.Builder: its own copy check, WriteString and String. -/
namespace Go.Pv
open Go.Proofs
set_option linter.unusedVariables false
set_option linter.unusedSimpArgs false
set_option maxRecDepth 100000
set_option maxHeartbeats 1000000
theorem noEsc_c (p : PV) (s : St) : PCalls Tryd.prog 82 [p] s (fun r s' => s' = s ∧ r = .ret p) := by
  refine .inr fun g w vs hH hA => ?_
  obtain ⟨v, rfl⟩ : ∃ v, vs = #[v] := by
    have h1 := hA.1
    obtain ⟨l⟩ := vs
    simp at h1
    obtain ⟨v, rfl⟩ := List.length_eq_one_iff.1 h1
    exact ⟨v, rfl⟩
  refine ⟨p, v, s, g, w, ?_, .refl _ _, hH, hA.2 0 p v rfl rfl, rfl, rfl⟩
  rw [run_callFunc_extern Tryd.func82 (by kernel_rfl) (by kernel_rfl) (by kernel_rfl) (e := Extern.AbiNoEscape.same) (by kernel_rfl)]
  rfl
theorem cv1 : cvT Tryd.prog 102 130 105 2 = true := by kernel_rfl
theorem cv2 : cvT Tryd.prog 130 102 105 2 = true := by kernel_rfl
theorem copyCheck_c (i : Nat) (p v : PV) (s : St) (hs : s i = some (.row 105 2 [[p, v]])) (hp : p = .lit (.pointer none) ∨ p = .pt i 0 0) :
    PCalls Tryd.prog 75 [.pt i 0 0] s (fun r s' => s' = s.upd i (some (.row 105 2 [[.pt i 0 0, v]])) ∧ r = .ret (.tup [])) := by
  refine PCalls.of Tryd.func75 rfl (by rfl) (by simp [Tryd.ntmps75]) ?_
  refine pwC_sound _ _ _ _ ?_
  rcases hp with rfl | rfl
  · simp [Tryd.ntmps75, hs, cv1]
    refine (noEsc_c _ _).mono ?_
    rintro _ _ ⟨rfl, rfl⟩
    simp [hs, cv2]
  · simp [Tryd.ntmps75, hs]
    rw [St.upd_self hs]
    exact sub_refl
/-- A builder in block i that holds the bytes b, over the blocks of base; gr: it may have been grown ahead. -/
def BldAt (gr : Bool) (base : St) (i : Nat) (b : List UInt8) (s : St) : Prop := Fresh base i ∧ ∃ p, (p = .lit (.pointer none) ∨ p = .pt i 0 0) ∧
  ((b = [] ∧ s = base.upd i (some (.row 105 2 [[p, .vec .nil []]]))) ∨
   ∃ j, (gr = true ∨ b ≠ []) ∧ j ≠ i ∧ Fresh base j ∧ s = (base.upd i (some (.row 105 2 [[p, .sl j 1 0 b.length]]))).upd j (some (.row 5 1 (b.map fun c => [.lit (.int .u8 c.toNat)]))))
theorem BldAt.at {gr : Bool} {base : St} {i : Nat} {b : List UInt8} {s : St} (h : BldAt gr base i b s) {k : Nat} {c : Blk} (hk : base k = some c) : s k = some c := by
  obtain ⟨hi, p, hp, ⟨rfl, rfl⟩ | ⟨j, hg, hj, hfj, rfl⟩⟩ := h
  · rw [St.upd_ne _ _ (fun e => by subst e; rw [show base k = none from hi] at hk; cases hk)]; exact hk
  · rw [St.upd_ne _ _ (fun e => by subst e; rw [show base k = none from hfj] at hk; cases hk), St.upd_ne _ _ (fun e => by subst e; rw [show base k = none from hi] at hk; cases hk)]; exact hk
theorem BldAt.new (base : St) (i : Nat) (hi : Fresh base i) : BldAt false base i [] (base.upd i (some (.row 105 2 [[.lit (.pointer none), .vec .nil []]]))) := ⟨hi, _, .inl rfl, .inl ⟨rfl, rfl⟩⟩
theorem write_c (gr : Bool) (base : St) (i : Nat) (b : List UInt8) (s : St) (h : BldAt gr base i b s) (t : ByteArray) (hl : b.length + t.size ≤ 100000000000000) :
    PCalls Tryd.prog 68 [.pt i 0 0, .lit (.string t)] s (fun r s' => BldAt gr base i (b ++ t.data.toList) s' ∧ r = .ret (.tup [.lit (.int .i64 t.size), .lit .nilIface])) := by
  refine PCalls.of Tryd.func68 rfl (by rfl) (by simp [Tryd.ntmps68]) ?_
  refine pwC_sound _ _ _ _ ?_
  obtain ⟨hi, p, hp, ⟨rfl, rfl⟩ | ⟨j, hg, hj, hfj, rfl⟩⟩ := h
  · simp [Tryd.ntmps68]
    refine (copyCheck_c i p (.vec .nil []) _ (by simp) hp).mono ?_
    rintro _ _ ⟨rfl, rfl⟩
    simp
    simp [appW, elemsOf]
    have htl : t.toList = t.data.toList := ByteArray.toList_eq t
    have hlen : t.data.toList.length = t.size := rfl
    rw [htl, hlen]
    refine ⟨fun h0 => ⟨_, sub_refl, ?_⟩, fun h0 => ⟨by simp at hl; omega, fun k hk => ?_⟩⟩
    · rw [h0]
      exact ⟨hi, .pt i 0 0, .inr rfl, .inl ⟨rfl, rfl⟩⟩
    · by_cases hki : k = i
      · rw [if_pos hki] at hk; cases hk
      · rw [if_neg hki] at hk
        have hik : ¬ i = k := fun e => hki e.symm
        simp [hik]
        refine ⟨_, sub_refl, hi, .pt i 0 0, .inr rfl, .inr ⟨k, .inr (by simp [h0]), hki, hk, ?_⟩⟩
        funext m
        simp only [St.upd]
        split <;> split <;> simp_all
  · simp [Tryd.ntmps68]
    refine (copyCheck_c i p (.sl j 1 0 b.length) _ (by simp [hj, Ne.symm hj]) hp).mono ?_
    rintro _ _ ⟨rfl, rfl⟩
    simp [hj, Ne.symm hj]
    simp [appW, elemsOf, hj, Ne.symm hj]
    have htl : t.toList = t.data.toList := ByteArray.toList_eq t
    have hlen : t.data.toList.length = t.size := rfl
    rw [htl, hlen]
    refine ⟨fun h0 => ⟨_, sub_refl, ?_⟩, fun h0 => ⟨by omega, fun k hk => ?_⟩⟩
    · rw [h0, List.append_nil]
      refine ⟨hi, .pt i 0 0, .inr rfl, .inr ⟨j, hg, hj, hfj, ?_⟩⟩
      funext m
      simp only [St.upd]
      split <;> split <;> simp_all
    · by_cases hki : k = i
      · rw [if_pos hki] at hk; cases hk
      · rw [if_neg hki] at hk
        by_cases hkj : k = j
        · rw [if_pos hkj] at hk; cases hk
        · rw [if_neg hkj, if_neg hki] at hk
          have hik : ¬ i = k := fun e => hki e.symm
          simp [hik]
          refine ⟨_, sub_refl, hi, .pt i 0 0, .inr rfl, .inr ⟨k, .inr (by simp [h0]), hki, hk, ?_⟩⟩
          funext m
          have hfj' : base j = none := hfj
          simp only [St.upd, List.map_append, List.length_append, hlen]
          by_cases h1 : m = i
          · subst h1; simp [hik, Ne.symm hj]
          · by_cases h2 : m = k
            · subst h2; simp [h1]
            · by_cases h3 : m = j
              · subst h3; simp [h1, h2, hfj']
              · simp [h1, h2, h3]
theorem bytesOf_map : ∀ (b : List UInt8), bytesOf (b.map fun c => [PV.lit (.int .u8 c.toNat)]) = some b
  | [] => rfl
  | c :: b => by
    have := c.toNat_lt
    have h1 : (0 : Int) ≤ (c.toNat : Int) ∧ (c.toNat : Int) < 256 := by omega
    simp only [List.map_cons, bytesOf, h1, and_self, if_true, bytesOf_map b, Option.map_some]
    simp
theorem string_c (gr : Bool) (base : St) (i : Nat) (b : List UInt8) (s : St) (h : BldAt gr base i b s) (hl : b.length ≤ 100000000000000) (hb : gr = false ∨ b ≠ []) :
    PCalls Tryd.prog 69 [.pt i 0 0] s (fun r s' => s' = base ∧ r = .ret (.lit (.string ⟨b.toArray⟩))) := by
  refine PCalls.of Tryd.func69 rfl (by rfl) (by simp [Tryd.ntmps69]) ?_
  refine pwC_sound _ _ _ _ ?_
  obtain ⟨hi, p, hp, ⟨rfl, rfl⟩ | ⟨j, hg, hj, hfj, rfl⟩⟩ := h
  · simp [Tryd.ntmps69]
    refine PW.drawn (fun i => 0) [0, 1, 2, 3, 5, 6, 7, 8, 9, 4, 10, 11] mixed_ (fun _ _ _ _ h => h) (by kernel_rfl) ?_
    simp
    exact sub_refl.set hi
  · simp [Tryd.ntmps69]
    refine PW.drawn (fun i => 0) [0, 1, 2, 3, 5, 6, 7, 8, 9, 4, 10, 11] mixed_ (fun _ _ _ _ h => h) (by kernel_rfl) ?_
    have hb0 : b ≠ [] := by
      rcases hb with rfl | hb
      · simpa using hg
      · exact hb
    have hbt : bytePT Tryd.prog 123 = some 5 := by kernel_rfl
    have hbs : bytesOf (b.map fun c => [PV.lit (.int .u8 c.toNat)]) = some b := bytesOf_map b
    have hpos : 0 < b.length := List.length_pos_iff.2 hb0
    simp [hj, Ne.symm hj, hb0, hbt]
    rw [List.take_of_length_le (by simp), hbs]
    simp
    refine ⟨hpos, by omega, fun k c hk => ?_⟩
    have hki : k ≠ i := fun e => by subst e; rw [show base k = none from hi] at hk; cases hk
    have hkj : k ≠ j := fun e => by subst e; rw [show base k = none from hfj] at hk; cases hk
    rw [St.upd_ne _ _ hkj, St.upd_ne _ _ hki]
    exact hk
theorem noZero_c (n : Nat) (hn : n ≤ 100000000000000) (s : St) : PCalls Tryd.prog 83 [.lit (.int .i64 n)] s (fun r s' => ∃ j, Fresh s j ∧ s' = s.upd j (some (.row 5 1 [])) ∧ r = .ret (.sl j 1 0 n)) := by
  refine .inr fun g w vs hH hA => ?_
  obtain ⟨v, rfl⟩ : ∃ v, vs = #[v] := by
    have h1 := hA.1
    obtain ⟨l⟩ := vs
    simp at h1
    obtain ⟨v, rfl⟩ := List.length_eq_one_iff.1 h1
    exact ⟨v, rfl⟩
  obtain ⟨rfl, _⟩ := (hA.2 0 _ v rfl rfl).lit_inv
  obtain ⟨cs, hrun, hle, _⟩ := Lib.run_makeNoZero (P := Tryd.prog) w #[3] 103 5 Tryd.underlying103 n (by omega)
  have hH' : Holds g s w.drew.drew := hH.heap rfl
  have hl0 : LE g w g w.drew.drew := ⟨⟨Nat.le_refl _, fun _ _ => rfl, fun _ h => h, fun _ _ => rfl⟩, rfl, rfl, rfl, Nat.le_refl _⟩
  have hmun : (g.more ⟨w.heap.size, cs.size, 1⟩).mu g.n = ⟨w.heap.size, cs.size, 1⟩ := by simp [G.more]
  refine ⟨.sl g.n 1 0 n, .slice (some ⟨w.heap.size, 0, none⟩) n cs.size, s.upd g.n (some (.row 5 1 [])), g.more ⟨w.heap.size, cs.size, 1⟩, pushed w.drew.drew (.cells cs 5 (0, 0)), ?_, hl0.trans (LE.more hH' ⟨w.heap.size, cs.size, 1⟩ _), ?_, ?_, g.n, hH.fresh _ (Nat.le_refl _), rfl, rfl⟩
  · rw [run_callFunc_extern Tryd.func83 (by kernel_rfl) (by kernel_rfl) (by kernel_rfl) (e := Extern.BytealgMakeNoZero.makeNoZero #[3] #[103]) (by kernel_rfl), hrun]
    rfl
  · exact hH'.newO _ cs.size 1 _ (.row _ 1 [] cs (by rw [show w.drew.drew.heap.size = w.heap.size from rfl, hmun]) (by rw [show w.drew.drew.heap.size = w.heap.size from rfl, hmun]; exact pushed_new _ _) (by rw [show w.drew.drew.heap.size = w.heap.size from rfl, hmun]) (by simp) (fun j cs hj => by simp at hj) (fun j cs f c hj => by simp at hj))
  · have := VR.sl (w := pushed w.drew.drew (.cells cs 5 (0, 0))) (g := g.more ⟨w.heap.size, cs.size, 1⟩) g.n 1 0 n cs.size (by simp [G.more]) hle (by rw [hmun]) (by rw [hmun]; simp)
    rw [hmun] at this
    simpa using this
theorem grow_c (i : Nat) (p : PV) (n : Nat) (hn : n ≤ 100000000000000) (s : St) (hs : s i = some (.row 105 2 [[p, .vec .nil []]])) :
    PCalls Tryd.prog 76 [.pt i 0 0, .lit (.int .i64 n)] s (fun r s' => ∃ j, Fresh s j ∧ s' = (s.upd j (some (.row 5 1 []))).upd i (some (.row 105 2 [[p, .sl j 1 0 0]])) ∧ r = .ret (.tup [])) := by
  refine PCalls.of Tryd.func76 rfl (by rfl) (by simp [Tryd.ntmps76]) ?_
  refine pwC_sound _ _ _ _ ?_
  simp [Tryd.ntmps76]
  refine PW.drawn (fun i => if i = 8 then 2 else 0) [0, 1, 2, 3, 4, 5, 6, 7, 9, 10, 11, 12, 13, 8, 14, 15] mixed_ (fun _ _ _ _ h => h) (by kernel_rfl) ?_
  have w1 : IntKind.i64.wrap (n : Int) = n := wrap_i64 (by omega) (by omega)
  have w0 : IntKind.i64.wrap 0 = 0 := wrap_i64 (by omega) (by omega)
  simp [hs, w1, w0]
  refine (noZero_c n hn _).mono ?_
  rintro _ _ ⟨j, hj, rfl, rfl⟩
  have hji := fresh_ne hj hs
  simp [hs, hji, Ne.symm hji, slc, bound, elemsOf]
  exact ⟨sub_refl.upd hj, _, sub_refl, j, hj, rfl⟩
theorem grown_c (base : St) (i : Nat) (n : Nat) (hn : n ≤ 100000000000000) (hi : Fresh base i) :
    PCalls Tryd.prog 67 [.pt i 0 0, .lit (.int .i64 n)] (base.upd i (some (.row 105 2 [[.lit (.pointer none), .vec .nil []]]))) (fun r s' => BldAt (decide (0 < n)) base i [] s' ∧ r = .ret (.tup [])) := by
  refine PCalls.of Tryd.func67 rfl (by rfl) (by simp [Tryd.ntmps67]) ?_
  refine pwC_sound _ _ _ _ ?_
  simp [Tryd.ntmps67]
  refine (copyCheck_c i (.lit (.pointer none)) (.vec .nil []) _ (by simp) (.inl rfl)).mono ?_
  rintro _ _ ⟨rfl, rfl⟩
  have h0 : ¬ (n : Int) < 0 := by omega
  simp [h0]
  have w0 : IntKind.i64.wrap 0 = 0 := wrap_i64 (by omega) (by omega)
  refine PW.drawn (fun i => 0) [0, 1, 2, 3, 4, 5, 6, 7, 8, 9, 10, 11, 12] mixed_ (fun _ _ _ _ h => h) (by kernel_rfl) ?_
  by_cases hn0 : 0 < n
  · have h1 : (0 : Int) < n := by omega
    simp [w0, h1, hn0]
    refine (grow_c i (.pt i 0 0) n hn _ (by simp)).mono ?_
    rintro _ _ ⟨j, hj, rfl, rfl⟩
    simp at hj
    obtain ⟨h1, h2, h3⟩ := hj
    simp
    refine ⟨_, sub_refl, hi, .pt i 0 0, .inr rfl, .inr ⟨j, .inl (by simp [hn0]), h1, h3, ?_⟩⟩
    funext m
    simp only [St.upd]
    split <;> split <;> simp_all
  · have h1 : ¬ (0 : Int) < n := by omega
    simp [w0, h1, hn0]
    exact ⟨_, sub_refl, hi, .pt i 0 0, .inr rfl, .inl ⟨rfl, rfl⟩⟩
end Go.Pv

/- strings.Join. -/
namespace Go.Pv
open Go.Proofs
set_option linter.unusedVariables false
set_option linter.unusedSimpArgs false
set_option maxRecDepth 100000
set_option maxHeartbeats 1000000
/-- Texts as values. -/
@[reducible] def strs (k : VK) (l : List ByteArray) : PV := .vec k (l.map fun s => .lit (.string s))
def joinL : List ByteArray → ByteArray → List UInt8
  | [], _ => []
  | x :: l, sep => x.data.toList ++ l.flatMap fun y => sep.data.toList ++ y.data.toList
def sizes (l : List ByteArray) : Nat := (l.map ByteArray.size).sum
theorem joinL_len (x : ByteArray) (l : List ByteArray) (sep : ByteArray) : (joinL (x :: l) sep).length = x.size + sizes l + sep.size * l.length := by
  have h : ∀ l : List ByteArray, (l.flatMap fun y => sep.data.toList ++ y.data.toList).length = sizes l + sep.size * l.length := by
    intro l
    induction l with
    | nil => rfl
    | cons y l ih =>
      have h1 : y.data.toList.length = y.size := rfl
      have h2 : sep.data.toList.length = sep.size := rfl
      simp only [List.flatMap_cons, List.length_append, ih, sizes, List.map_cons, List.sum_cons, List.length_cons, Nat.mul_succ] at *
      omega
  have h1 : x.data.toList.length = x.size := rfl
  simp only [joinL, List.length_append, h, h1]
  omega
theorem sizes_take (l : List ByteArray) (k : Nat) (h : k < l.length) : sizes (l.take (k + 1)) = sizes (l.take k) + l[k].size := by
  unfold sizes
  rw [List.map_take, List.map_take, sum_take_succ (by simpa using h)]
  simp
theorem sizes_take_le (l : List ByteArray) (k : Nat) : sizes (l.take k) ≤ sizes l := by
  unfold sizes
  rw [List.map_take]
  exact sum_take_le _ _
theorem slc_strs {P : Program} {t el : TypeId} (k : VK) (xs : List ByteArray) (h1 : sliceT P t = some el) (h2 : tsz P el = some 1) (hl : 1 ≤ xs.length) : ∃ k', slc P t (strs k xs) (some (.lit (.int .i64 1))) none = some (strs k' (xs.drop 1)) := by
  have h3 : ((xs.map fun s => PV.lit (.string s)).all (fun x => x.width == 1)) = true := by simp
  have h4 : (xs.map fun s => PV.lit (.string s)).take xs.length = xs.map fun s => PV.lit (.string s) := List.take_of_length_le (by simp)
  refine ⟨k, ?_⟩
  simp only [slc, h1, h2, Option.bind_some, bound]
  rw [List.length_map]
  cases k <;> simp [hl, h4]
theorem join_c (k : VK) (xs : List ByteArray) (sep : ByteArray) (hn : xs.length ≤ 1000000) (hs1 : sep.size ≤ 1000000) (hs2 : sizes xs ≤ 10000000000000) (s : St) :
    PCalls Tryd.prog 57 [strs k xs, .lit (.string sep)] s (fun r s' => s' = s ∧ r = .ret (.lit (.string ⟨(joinL xs sep).toArray⟩))) := by
  refine PCalls.of Tryd.func57 rfl (by rfl) (by simp [Tryd.ntmps57]) ?_
  refine pwC_sound _ _ _ _ ?_
  match xs, hn, hs2 with
  | [], _, _ => simp [Tryd.ntmps57, joinL]
  | [x], _, _ => simp [Tryd.ntmps57, joinL]
  | x :: y :: l, hn, hs2 =>
    have hN : ((x :: y :: l).length : Int) = (l.length : Int) + 1 + 1 := by simp
    have a1 : ¬ ((l.length : Int) + 1 + 1 = 0) := by omega
    have a2 : ¬ ((l.length : Int) + 1 + 1 = 1) := by omega
    refine pwC_cut fun K hK => ?_
    simp [Tryd.ntmps57]
    refine hK _ _ ?_
    clear hK K
    refine pwC_cut fun K hK => ?_
    simp [Tryd.ntmps57]
    simp [a1, a2]
    refine hK _ _ ?_
    clear hK K
    refine pwC_cut fun K hK => ?_
    simp
    refine hK _ _ ?_
    clear hK K
    -- the separators' room
    have hq : sep.size * (l.length + 1) ≤ 1000000000000 := by
      have h1 : l.length + 1 ≤ 1000000 := by simp at hn; omega
      calc sep.size * (l.length + 1) ≤ 1000000 * 1000000 := Nat.mul_le_mul hs1 h1
        _ = 1000000000000 := by decide
    have hln : l.length + 1 + 1 ≤ 1000000 := by simpa using hn
    obtain ⟨Q, hQ⟩ : ∃ Q, Q = 9223372036854775807 / (l.length + 1) := ⟨_, rfl⟩
    obtain ⟨M, hM⟩ : ∃ M, M = sep.size * (l.length + 1) := ⟨_, rfl⟩
    rw [← hM] at hq
    have hQi : Int.tdiv 9223372036854775807 ((l.length : Int) + 1) = (Q : Int) := by rw [hQ]; rfl
    have hMi : (sep.size : Int) * ((l.length : Int) + 1) = (M : Int) := by rw [hM]; push_cast; rfl
    have hQ1 : Q ≤ 9223372036854775807 := by rw [hQ]; exact Nat.div_le_self _ _
    have hQ2 : sep.size + 1 ≤ Q := by
      rw [hQ, Nat.le_div_iff_mul_le (by omega), Nat.add_mul, ← hM]
      omega
    have w1 : IntKind.i64.wrap ((l.length : Int) + 1) = l.length + 1 := wrap_i64 (by omega) (by omega)
    have w2 : IntKind.i64.wrap (Int.tdiv 9223372036854775807 ((l.length : Int) + 1)) = Q := by rw [hQi]; exact wrap_i64 (by omega) (by omega)
    have w3 : ¬ ((Q : Int) ≤ (sep.size : Int)) := by omega
    have w4 : ¬ ((l.length : Int) + 1 = 0) := by omega
    have w5 : IntKind.i64.wrap ((sep.size : Int) * ((l.length : Int) + 1)) = (M : Int) := by rw [hMi]; exact wrap_i64 (by omega) (by omega)
    have w6 : IntKind.i64.wrap (M : Int) = (M : Int) := wrap_i64 (by omega) (by omega)
    refine pwC_cut fun K hK => ?_
    have fin : ∀ e, e 5 = .lit (.int .i64 (M : Int)) → e 0 = strs k (x :: y :: l) → e 1 = .lit (.string sep) → K e s := by
      intro e e5 e0 e1
      refine hK _ _ ?_
      clear hK K
      refine pwC_cut fun K hK => ?_
      generalize hxs : x :: y :: l = xs at *
      have hlen : xs.length = l.length + 1 + 1 := by rw [← hxs]; rfl
      simp [e0, e1, e5]
      refine PW.loop (fun n e s' => ∃ j : Nat, j + n = xs.length ∧ e 0 = strs k xs ∧ e 1 = .lit (.string sep) ∧ e 39 = strs k xs ∧ e 40 = .lit (.int .i64 xs.length) ∧ e 41 = .lit (.int .i64 j) ∧ e 5 = .lit (.int .i64 ((M + sizes (xs.take j) : Nat) : Int)) ∧ s' = s) xs.length ⟨0, by simp, by simp [e0], by simp [e1], by simp, by simp [hlen], by simp, by simp [sizes, e5], rfl⟩ ?_
      rintro n e s' ⟨j, hj, e0, e1, e39, e40, e41, e5, rfl⟩
      refine pwC_sound _ _ _ _ ?_
      by_cases hlt : j < xs.length
      · have hg : xs[j]? = some xs[j] := List.getElem?_eq_getElem hlt
        have hst := sizes_take xs j hlt
        have hle := sizes_take_le xs (j + 1)
        have v1 : IntKind.i64.wrap ((9223372036854775807 : Int) - ((M + sizes (xs.take j) : Nat) : Int)) = 9223372036854775807 - ((M + sizes (xs.take j) : Nat) : Int) := wrap_i64 (by omega) (by omega)
        have v2 : ¬ ((9223372036854775807 : Int) - ((M + sizes (xs.take j) : Nat) : Int) < (xs[j].size : Int)) := by omega
        have v3 : IntKind.i64.wrap (((M + sizes (xs.take j) : Nat) : Int) + (xs[j].size : Int)) = ((M + sizes (xs.take (j + 1)) : Nat) : Int) := by rw [wrap_i64 (by omega) (by omega)]; omega
        have v4 : IntKind.i64.wrap ((j : Int) + 1) = ((j + 1 : Nat) : Int) := by rw [wrap_i64 (by omega) (by omega)]; omega
        simp only [Int.natCast_add] at v1 v2 v3
        simp [e0, e1, e39, e40, e41, e5, hlt, hg, v1, v2, v3, v4]
        exact ⟨n - 1, by omega, j + 1, by omega, by push_cast; rfl, rfl⟩
      · have hjl : j = xs.length := by omega
        subst hjl
        rw [List.take_length] at e5
        simp [e40, e41]
        refine hK _ _ ?_
        clear hK K e39 e40 e41
        refine pwC_cut fun K hK => ?_
        simp [e0, e1, e5]
        intro i hi
        refine hK _ _ ?_
        clear hK K
        refine pwC_cut fun K hK => ?_
        simp [e5]
        have hcast : ((M : Int) + (sizes xs : Int)) = ((M + sizes xs : Nat) : Int) := by push_cast; rfl
        rw [hcast]
        refine (grown_c s' i (M + sizes xs) (by omega) hi).mono ?_
        rintro _ s1 ⟨hB, rfl⟩
        simp
        refine hK _ _ ?_
        clear hK K
        refine pwC_cut fun K hK => ?_
        simp [e0]
        rw [← hxs]
        simp
        have hcont := joinL_len x (y :: l) sep
        have hxsz : x.size ≤ sizes xs := by rw [← hxs]; simp [sizes]
        refine (write_c _ _ i [] s1 hB x (by simp; omega)).mono ?_
        rintro _ s2 ⟨hB2, rfl⟩
        simp
        refine hK _ _ ?_
        clear hK K hB
        refine pwC_cut fun K hK => ?_
        obtain ⟨k', hk'⟩ := slc_strs (P := Tryd.prog) (t := 35) (el := 9) k xs (by simp) (by simp) (by omega)
        have hd : xs.drop 1 = y :: l := by rw [← hxs]; rfl
        rw [hd] at hk'
        simp [e0, hk']
        generalize hE : Env.put _ _ _ = E
        have g8 : E 8 = .pt i 0 0 := by rw [← hE]; simp
        have g1 : E 1 = .lit (.string sep) := by rw [← hE]; simp [e1]
        have g63 : E 63 = strs k' (y :: l) := by rw [← hE]; simp
        have g64 : E 64 = .lit (.int .i64 ((y :: l).length : Nat)) := by rw [← hE]; simp
        have g65 : E 65 = .lit (.int .i64 0) := by rw [← hE]; simp
        clear hE
        generalize htl : y :: l = tl at *
        have htlen : tl.length = l.length + 1 := by rw [← htl]; rfl
        have hsz : sizes xs = x.size + sizes tl := by rw [← hxs]; simp [sizes]
        clear e0 e1 e5 hk'
        refine PW.loop (fun n e s2 => ∃ j : Nat, j + n = tl.length ∧ e 8 = .pt i 0 0 ∧ e 1 = .lit (.string sep) ∧ e 63 = strs k' tl ∧ e 64 = .lit (.int .i64 tl.length) ∧ e 65 = .lit (.int .i64 j) ∧ BldAt (decide (0 < M + sizes xs)) s' i (joinL (x :: tl.take j) sep) s2) tl.length ⟨0, by simp, by simp [g8], by simp [g1], by simp [g63], by simp [g64], by simp [g65], by simpa [joinL] using hB2⟩ ?_
        clear g8 g1 g63 g64 g65 hB2
        rintro n2 e s2 ⟨j, hj, e8, e1, e63, e64, e65, hB⟩
        refine pwC_sound _ _ _ _ ?_
        by_cases hlt : j < tl.length
        · have hg : tl[j]? = some tl[j] := List.getElem?_eq_getElem hlt
          have hst := sizes_take tl j hlt
          have hle := sizes_take_le tl (j + 1)
          have hcon := joinL_len x (tl.take j) sep
          have hcon2 := joinL_len x (tl.take (j + 1)) sep
          have hmul : sep.size * (tl.take (j + 1)).length ≤ M := by
            rw [hM]; exact Nat.mul_le_mul_left _ (by simp; omega)
          have hmul2 : sep.size * (tl.take j).length + sep.size = sep.size * (tl.take (j + 1)).length := by
            rw [List.length_take, List.length_take, Nat.min_eq_left (by omega), Nat.min_eq_left (by omega), Nat.mul_succ]
          have v4 : IntKind.i64.wrap ((j : Int) + 1) = ((j + 1 : Nat) : Int) := by rw [wrap_i64 (by omega) (by omega)]; omega
          simp [e8, e1, e63, e64, e65, hlt, hg]
          refine (write_c _ _ i _ s2 hB sep (by omega)).mono ?_
          rintro _ s3 ⟨hB3, rfl⟩
          simp [e8, e1, e63, e64, e65, hlt, hg]
          refine (write_c _ _ i _ s3 hB3 tl[j] (by
            have : sep.data.toList.length = sep.size := rfl
            rw [List.length_append, this]; omega)).mono ?_
          rintro _ s4 ⟨hB4, rfl⟩
          simp [e8, e1, e63, e64, e65, v4]
          refine ⟨n2 - 1, by omega, j + 1, by omega, by push_cast; rfl, ?_⟩
          have : joinL (x :: tl.take (j + 1)) sep = joinL (x :: tl.take j) sep ++ sep.data.toList ++ tl[j].data.toList := by
            rw [List.take_succ_eq_append_getElem hlt]
            simp only [joinL, List.flatMap_append, List.flatMap_cons, List.flatMap_nil, List.append_nil, List.append_assoc]
          rw [this]
          exact hB4
        · have hjl : j = tl.length := by omega
          subst hjl
          rw [List.take_length] at hB
          have hcon := joinL_len x tl sep
          rw [htlen, ← hM] at hcon
          simp [e64, e65]
          refine hK _ _ ?_
          clear hK K
          simp [e8]
          refine (string_c _ _ i _ s2 hB (by omega) ?_).mono ?_
          · by_cases h0 : 0 < M + sizes xs
            · right
              intro h
              rw [h] at hcon
              simp at hcon
              omega
            · left; simpa using h0
          · rintro _ _ ⟨rfl, rfl⟩
            rw [← hxs]
            simp
    by_cases hsep : 0 < sep.size
    · have hsep' : (0 : Int) < sep.size := by omega
      simp [hsep, hsep', w1, w2, w3, w4, w5, w6]
      refine fin _ ?_ ?_ ?_
      · simp
      · simp
      · simp
    · have hsep' : ¬ (0 : Int) < sep.size := by omega
      have hz : sep.size = 0 := by omega
      simp [hsep, hsep']
      refine fin _ ?_ ?_ ?_
      · simp [hM, hz]
      · simp
      · simp
end Go.Pv

/- A logic over plain values: what a law is given, with its data. -/
namespace Go.Pv
open Go.RowKit Go.ChangeShapes Go.WideShapes
set_option linter.unusedVariables false
set_option linter.unusedSimpArgs false
section
variable {H : Type} {enc : TypeId × Value → H} {w : World} {base : Nat} {spare : Nat → Bool} {held : Bool} {P : Program}
/-- A slice's elements, as data. -/
def elemsD {H : Type} : DataW H → List (DataW H)
  | .slice elems _ => elems
  | _ => []
/-- A slice of whatever elements, each with its datum. -/
theorem rows_crD {α : Type} [Inhabited α] {t e sz : Nat} (encA : α → PV) (G : α → DataW H → Prop) (hsz : ∀ x, (encA x).width = sz) {fuel : Nat} {cs : List Value} {x : DataW H × List MemPlace} (ht : P.underlying t = some (.slice e)) (hc : P.cellsOf e = sz)
    (ih : ∀ m, m < fuel → ∀ cs x, DataW.trod enc P w base spare held m e cs = some x → ∃ y, CRd w (encA y) cs ∧ G y x.1)
    (h : DataW.trod enc P w base spare held fuel t cs = some x) : ∃ (v : Value) (l : List α), cs = [v] ∧ VR w (g0 w) (.vec .any (l.map encA)) v ∧ Value.oneCell' v = true ∧ l.length ≤ maxLen ∧ l.length = (elemsD x.1).length ∧ ∀ (i : Nat) y, l[i]? = some y → ∃ d, (elemsD x.1)[i]? = some d ∧ G y d := by
  rcases DataW.trod_slice ht h with ⟨rfl, rfl⟩ | ⟨a, len, cap, elems, rest, n, hf, rfl, rfl, hb, hl, hm, hlen, hel, _, _⟩
  · exact ⟨_, [], rfl, .vec .any [] none 0 0 (fun _ _ => undef) (Nat.le_refl _) (fun h => absurd rfl h) (fun h => by cases h) (fun _ => rfl) (by simp) (by simp) (by simp), rfl, Nat.zero_le _, rfl, fun i y hy => by simp at hy⟩
  · have hall : ∀ i, i < len → ∃ y : α, (∃ c, CRd w (encA y) c ∧ c.length = sz ∧ ∀ j u, c[j]? = some u → w.cell? (a.add (i * sz + j)) = some u) ∧ ∃ d, (elems.map (·.1))[i]? = some d ∧ G y d := by
      intro i hi
      have h1 := hel i hi
      rw [List.getElem?_eq_getElem (by omega)] at h1
      obtain ⟨c, hcc, ht2⟩ := Option.bind_eq_some_iff.1 h1
      obtain ⟨y, hK, hG⟩ := ih n (by omega) c _ ht2
      rw [hc] at hcc
      obtain ⟨_, hcl, hat⟩ := World.cells?_some hcc
      refine ⟨y, ⟨c, hK, hcl, fun j u hu => ?_⟩, elems[i].1, by simp [show i < elems.length by omega], hG⟩
      have hj : j < sz := by rw [← hcl]; exact (List.getElem?_eq_some_iff.1 hu).1
      rw [← Go.Deep.add_add, hat j hj]
      exact hu
    obtain ⟨l, hll, hp⟩ := list_of hall
    have hll' := hll
    subst hll
    have key : ∀ (i : Nat) (p : PV) (j : Nat) (c : PV), (l.map encA)[i]? = some p → p.cells[j]? = some c → ∃ v, w.cell? (a.add (i * sz + j)) = some v ∧ Value.oneCell' v = true ∧ VR w (g0 w) c v := by
      intro i p j c hp' hcj
      rw [List.getElem?_map] at hp'
      obtain ⟨y, hy, rfl⟩ := Option.map_eq_some_iff.1 hp'
      obtain ⟨⟨cc, hCR, hcl, hcell⟩, _⟩ := hp i y hy
      have hj : j < cc.length := by rw [← hCR.1]; exact (List.getElem?_eq_some_iff.1 hcj).1
      have h2 := hCR.2 j c cc[j] hcj (List.getElem?_eq_getElem hj)
      exact ⟨cc[j], hcell j _ (List.getElem?_eq_getElem hj), h2.2, h2.1⟩
    refine ⟨_, l, rfl, ?_, rfl, Nat.le_trans hl hm, by simp [elemsD]; omega, fun i y hy => ?_⟩
    · have := VR.vec (w := w) (g := g0 w) .any (l.map encA) (some a) cap sz (fun i j => (w.cell? (a.add (i * sz + j))).getD undef) (by simpa using hl) (fun h => absurd rfl h) (fun h => by cases h) (fun h => by cases h) (fun i p hp' => by
          rw [List.getElem?_map] at hp'
          obtain ⟨y, hy, rfl⟩ := Option.map_eq_some_iff.1 hp'
          exact hsz y) (fun i p j c hp' hcj => by
          obtain ⟨v, h1, h2, h3⟩ := key i p j c hp' hcj
          refine ⟨a, rfl, ?_, by rw [h1]; rfl, by rw [h1]; exact h2⟩
          have := cell_lt h1
          rwa [add_zero_add] at this) (fun i p j c hp' hcj => by
          obtain ⟨v, h1, h2, h3⟩ := key i p j c hp' hcj
          rw [h1]; exact h3)
      rw [List.length_map] at this
      exact this
    · exact (hp i y hy).2
theorem str_crD {t : TypeId} {fuel : Nat} {cs : List Value} {x : DataW H × List MemPlace} (ht : P.underlying t = some .string) (h : DataW.trod enc P w base spare held fuel t cs = some x) :
    ∃ s : ByteArray, cs = [.string s] ∧ VR w (g0 w) (.lit (.string s)) (.string s) ∧ s.size ≤ maxLen ∧ x.1 = .lit (.string s.data.toList) := by
  obtain ⟨a, e, hx, hw⟩ := DataW.trod_string ht h
  exact ⟨a, e, .lit _ rfl, hw, by rw [hx]⟩
end
end Go.Pv

/- A logic over plain values: parts of texts. -/
namespace Go.Pv
set_option linter.unusedVariables false
set_option linter.unusedSimpArgs false
section
variable {P : Program}
@[simp] theorem bound_none (d : Nat) : bound d none = some d := rfl
@[simp] theorem bound_int (d : Nat) (k : IntKind) (i : Int) : bound d (some (.lit (.int k i))) = if 0 ≤ i then some i.toNat else none := rfl
@[simp] theorem slc_str (t : TypeId) (s : ByteArray) (lo hi : Option PV) : slc P t (.lit (.string s)) lo hi = if isStrT P t then (bound s.size hi).bind fun h => (bound 0 lo).bind fun l => if l ≤ h ∧ h ≤ s.size then some (.lit (.string (s.extract l h))) else none else none := rfl
end
end Go.Pv

/- How a text falls into tokens: plain functions that both the program and the reference compute. -/
namespace Go.Pv
set_option linter.unusedVariables false
set_option linter.unusedSimpArgs false
/-- The byte at a place, 0 behind the end. -/
def bt (t : ByteArray) (i : Nat) : Int := match t[i]? with | some b => (b.toNat : Int) | none => 0
@[simp] theorem bt_get (t : ByteArray) (i : Nat) (h : i < t.size) : ((t[i].toNat : Nat) : Int) = bt t i := by
  unfold bt
  rw [getElem?_pos t i h]
theorem bt_none {t : ByteArray} {i : Nat} (h : t.size ≤ i) : bt t i = 0 := by
  unfold bt
  rw [getElem?_neg t i (by omega)]
theorem bt_nonneg (t : ByteArray) (i : Nat) : 0 ≤ bt t i := by
  unfold bt; split <;> omega
theorem bt_lt {t : ByteArray} {i : Nat} (h : bt t i ≠ 0) : i < t.size := by
  rcases Nat.lt_or_ge i t.size with h1 | h1
  · exact h1
  · exact absurd (bt_none h1) h
def isL (c : Int) : Bool := (decide (97 ≤ c) && decide (c ≤ 122)) || (decide (65 ≤ c) && decide (c ≤ 90)) || decide (c = 95)
def isD (c : Int) : Bool := decide (48 ≤ c) && decide (c ≤ 57)
/-- The first place from i on, below n, that p bars. -/
def scanF (p : Nat → Bool) : Nat → Nat → Nat
  | 0, i => i
  | k + 1, i => if p i then scanF p k (i + 1) else i
def scanW (p : Nat → Bool) (n i : Nat) : Nat := scanF p (n - i) i
theorem scanW_step {p : Nat → Bool} {n i : Nat} (h : i < n) (hp : p i = true) : scanW p n i = scanW p n (i + 1) := by
  unfold scanW
  rw [show n - i = (n - (i + 1)) + 1 by omega, scanF, if_pos hp]
theorem scanW_stop {p : Nat → Bool} {n i : Nat} (hp : p i = false) : scanW p n i = i := by
  unfold scanW
  cases n - i with
  | zero => rfl
  | succ k => rw [scanF, hp]; rfl
theorem scanW_end {p : Nat → Bool} {n i : Nat} (h : n ≤ i) : scanW p n i = i := by
  unfold scanW
  rw [show n - i = 0 by omega]; rfl
theorem scanF_le (p : Nat → Bool) : ∀ k i, i ≤ scanF p k i ∧ scanF p k i ≤ i + k
  | 0, i => ⟨Nat.le_refl _, Nat.le_refl _⟩
  | k + 1, i => by
    have := scanF_le p k (i + 1)
    rw [scanF]
    split <;> omega
theorem scanW_ge (p : Nat → Bool) (n i : Nat) : i ≤ scanW p n i := (scanF_le p _ _).1
theorem scanW_le (p : Nat → Bool) {n i : Nat} (h : i ≤ n) : scanW p n i ≤ n := by have := (scanF_le p (n - i) i).2; unfold scanW; omega
/-- The text x stands at place i. -/
def beg (t : ByteArray) (i : Nat) (x : ByteArray) : Bool := decide (i + x.size ≤ t.size) && decide (t.extract i (i + x.size) = x)
def wordEnd (t : ByteArray) (i : Nat) : Nat := scanW (fun j => isL (bt t j) || isD (bt t j)) t.size i
def numP (t : ByteArray) (j : Nat) : Bool := isL (bt t j) || isD (bt t j) || decide (bt t j = 46) || ((decide (bt t j = 43) || decide (bt t j = 45)) && (decide (bt t (j - 1) = 101) || decide (bt t (j - 1) = 69)))
def numEnd (t : ByteArray) (i : Nat) : Nat := scanW (numP t) t.size (i + 1)
def quotF (t : ByteArray) (q : Int) : Nat → Nat → Option Nat
  | 0, _ => none
  | k + 1, i => if i < t.size then (if bt t i = q then some (i + 1) else if bt t i = 10 then none else if bt t i = 92 then (if bt t (i + 1) = 10 then none else quotF t q k (i + 2)) else quotF t q k (i + 1)) else none
def quotE (t : ByteArray) (q : Int) (i : Nat) : Option Nat := quotF t q (t.size - i) i
/-- A line that goes on behind a backslash: its end, from j on, begun at i. -/
def linP (t : ByteArray) (i j : Nat) : Bool := decide (bt t j ≠ 10) || decide (bt t (j - 1) = 92) || (decide (i + 2 ≤ j) && decide (bt t (j - 1) = 13) && decide (bt t (j - 2) = 92))
def lineEnd (t : ByteArray) (i : Nat) : Nat :=
  let j := scanW (linP t i) t.size i
  if j < t.size ∧ i + 1 < j ∧ bt t (j - 1) = 13 then j - 1 else j
def cmtEnd (t : ByteArray) (i : Nat) : Nat :=
  if beg t i ⟨#[47, 47]⟩ then scanW (fun j => decide (bt t j ≠ 10)) t.size i
  else if beg t i ⟨#[47, 42]⟩ then (let j := scanW (fun j => !beg t j ⟨#[42, 47]⟩) t.size (i + 2); if j < t.size then j + 2 else t.size)
  else i
def isB (c : Int) : Bool := decide (c = 32) || decide (c = 9) || decide (c = 10) || decide (c = 11) || decide (c = 12) || decide (c = 13)
def pieceEnd (t : ByteArray) (i : Nat) : Nat :=
  if isB (bt t i) then i + 1
  else if bt t i = 92 then (if bt t (i + 1) = 10 then i + 2 else if bt t (i + 1) = 13 ∧ bt t (i + 2) = 10 then i + 3 else i)
  else cmtEnd t i
/-- A line ends between i and e. -/
def hasNL (t : ByteArray) (i e : Nat) : Bool := decide (scanW (fun j => decide (bt t j ≠ 10)) e i < e)
def clearB (t : ByteArray) (i e : Nat) (c : Bool) : Bool := if e = i + 1 ∧ 11 ≤ bt t i ∧ bt t i ≤ 13 then false else if hasNL t i e then true else c
/-- What stands before a token: its end, and whether the line is still clear. -/
def befF (t : ByteArray) : Nat → Nat → Bool → Nat × Bool
  | 0, i, c => (i, c)
  | k + 1, i, c => if i < pieceEnd t i then befF t k (pieceEnd t i) (clearB t i (pieceEnd t i) c) else (i, c)
def bef (t : ByteArray) (i : Nat) (c : Bool) : Nat × Bool := befF t (t.size - i) i c
def signLen (t : ByteArray) (i : Nat) (l : List ByteArray) : Nat := l.foldl (fun n s => if n < s.size ∧ beg t i s = true then s.size else n) 0
/-- A token at i: its kind and its end. -/
def tokE (keys signs : List ByteArray) (t : ByteArray) (i : Nat) (c : Bool) : Nat × Nat :=
  if bt t i = 35 ∧ c = true then (7, lineEnd t i)
  else if isL (bt t i) then (if (keys.any fun k => decide (k = t.extract i (wordEnd t i))) = true then 2 else 1, wordEnd t i)
  else if isD (bt t i) ∨ (bt t i = 46 ∧ isD (bt t (i + 1)) = true) then (3, numEnd t i)
  else if bt t i = 39 ∨ bt t i = 34 then (match quotE t (bt t i) (i + 1) with
    | none => (8, i + 1)
    | some e => (if bt t i = 34 then 5 else 4, e))
  else if signLen t i signs ≠ 0 then (6, i + signLen t i signs)
  else (8, i + 1)
def toksF (keys signs : List ByteArray) (t : ByteArray) : Nat → Nat → Bool → List Tk
  | 0, _, _ => []
  | k + 1, i, c =>
    let (a, d) := bef t i c
    if a = t.size then [⟨0, t.extract i a, ⟨#[]⟩, a⟩]
    else let (kd, e) := tokE keys signs t a d
      ⟨kd, t.extract i a, t.extract a e, a⟩ :: toksF keys signs t k e false
end Go.Pv

/- The keys and the signs of the language; a text's place in a list. -/
namespace Go.Pv
set_option linter.unusedVariables false
set_option linter.unusedSimpArgs false
def keysL : List ByteArray := [⟨#[98, 114, 101, 97, 107]⟩, ⟨#[99, 97, 115, 101]⟩, ⟨#[99, 104, 97, 114]⟩, ⟨#[99, 111, 110, 115, 116]⟩, ⟨#[99, 111, 110, 116, 105, 110, 117, 101]⟩, ⟨#[100, 101, 102, 97, 117, 108, 116]⟩, ⟨#[100, 111]⟩, ⟨#[101, 108, 115, 101]⟩, ⟨#[101, 110, 117, 109]⟩, ⟨#[101, 120, 116, 101, 114, 110]⟩, ⟨#[102, 111, 114]⟩, ⟨#[103, 111, 116, 111]⟩, ⟨#[105, 102]⟩, ⟨#[105, 110, 116]⟩, ⟨#[108, 111, 110, 103]⟩, ⟨#[114, 101, 116, 117, 114, 110]⟩, ⟨#[115, 104, 111, 114, 116]⟩, ⟨#[115, 105, 103, 110, 101, 100]⟩, ⟨#[115, 105, 122, 101, 111, 102]⟩, ⟨#[115, 116, 97, 116, 105, 99]⟩, ⟨#[115, 116, 114, 117, 99, 116]⟩, ⟨#[115, 119, 105, 116, 99, 104]⟩, ⟨#[116, 121, 112, 101, 100, 101, 102]⟩, ⟨#[117, 110, 105, 111, 110]⟩, ⟨#[117, 110, 115, 105, 103, 110, 101, 100]⟩, ⟨#[118, 111, 105, 100]⟩, ⟨#[118, 111, 108, 97, 116, 105, 108, 101]⟩, ⟨#[119, 104, 105, 108, 101]⟩]
def signsL : List ByteArray := [⟨#[46, 46, 46]⟩, ⟨#[60, 60, 61]⟩, ⟨#[62, 62, 61]⟩, ⟨#[60, 60]⟩, ⟨#[62, 62]⟩, ⟨#[60, 61]⟩, ⟨#[62, 61]⟩, ⟨#[61, 61]⟩, ⟨#[33, 61]⟩, ⟨#[38, 38]⟩, ⟨#[124, 124]⟩, ⟨#[43, 43]⟩, ⟨#[45, 45]⟩, ⟨#[43, 61]⟩, ⟨#[45, 61]⟩, ⟨#[42, 61]⟩, ⟨#[47, 61]⟩, ⟨#[37, 61]⟩, ⟨#[38, 61]⟩, ⟨#[124, 61]⟩, ⟨#[94, 61]⟩, ⟨#[45, 62]⟩, ⟨#[43]⟩, ⟨#[45]⟩, ⟨#[42]⟩, ⟨#[47]⟩, ⟨#[37]⟩, ⟨#[38]⟩, ⟨#[124]⟩, ⟨#[94]⟩, ⟨#[33]⟩, ⟨#[126]⟩, ⟨#[60]⟩, ⟨#[62]⟩, ⟨#[61]⟩, ⟨#[63]⟩, ⟨#[58]⟩, ⟨#[59]⟩, ⟨#[44]⟩, ⟨#[46]⟩, ⟨#[40]⟩, ⟨#[41]⟩, ⟨#[91]⟩, ⟨#[93]⟩, ⟨#[123]⟩, ⟨#[125]⟩, ⟨#[35]⟩]
def hasF : List ByteArray → ByteArray → Int → Int
  | [], _, _ => -1
  | y :: r, x, i => if y = x then i else hasF r x (i + 1)
def hasI (l : List ByteArray) (x : ByteArray) : Int := hasF l x 0
theorem hasF_ge (l : List ByteArray) (x : ByteArray) (i : Int) (hi : 0 ≤ i) : 0 ≤ hasF l x i ↔ (l.any fun k => decide (k = x)) = true := by
  induction l generalizing i with
  | nil => simp [hasF]
  | cons y r ih =>
    by_cases h : y = x
    · simp [hasF, h, hi]
    · simp only [hasF, if_neg h, List.any_cons, h, decide_false, Bool.false_or]
      exact ih (i + 1) (by omega)
theorem hasI_ge (l : List ByteArray) (x : ByteArray) : 0 ≤ hasI l x ↔ (l.any fun k => decide (k = x)) = true := hasF_ge l x 0 (by omega)
end Go.Pv

/- Facts about tokens: places stay inside the text. -/
namespace Go.Pv
set_option linter.unusedVariables false
set_option linter.unusedSimpArgs false
theorem scanF_bar (p : Nat → Bool) : ∀ k i, scanF p k i < i + k → p (scanF p k i) = false
  | 0, i, h => by simp [scanF] at h
  | k + 1, i, h => by
    rw [scanF] at h ⊢
    split
    · rename_i hp
      rw [if_pos hp] at h
      exact scanF_bar p k (i + 1) (by omega)
    · rename_i hp
      simpa using hp
theorem scanW_bar {p : Nat → Bool} {n i : Nat} (h : scanW p n i < n) : p (scanW p n i) = false := by
  have hge := scanW_ge p n i
  unfold scanW at *
  exact scanF_bar p (n - i) i (by omega)
theorem beg_le {t : ByteArray} {i : Nat} {x : ByteArray} (h : beg t i x = true) : i + x.size ≤ t.size := by
  simp [beg] at h; exact h.1
theorem cmtEnd_le {t : ByteArray} {i : Nat} (hi : i ≤ t.size) : cmtEnd t i ≤ t.size := by
  unfold cmtEnd
  split
  · exact scanW_le _ hi
  · split
    · rename_i h
      simp only
      split
      · rename_i hj
        have := scanW_bar hj
        simp at this
        have := beg_le this
        exact this
      · exact Nat.le_refl _
    · exact hi
theorem cmtEnd_ge {t : ByteArray} {i : Nat} (hi : i ≤ t.size) : i ≤ cmtEnd t i := by
  unfold cmtEnd
  split
  · exact scanW_ge _ _ _
  · split
    · simp only
      split
      · have := scanW_ge (fun j => !beg t j ⟨#[42, 47]⟩) t.size (i + 2); omega
      · exact hi
    · exact Nat.le_refl _
theorem pieceEnd_le {t : ByteArray} {i : Nat} (hi : i ≤ t.size) : i ≤ pieceEnd t i ∧ pieceEnd t i ≤ t.size := by
  unfold pieceEnd
  split
  · rename_i h
    have : bt t i ≠ 0 := by intro h0; rw [h0] at h; revert h; decide
    have := bt_lt this
    omega
  · split
    · rename_i h
      split
      · rename_i h1
        have := bt_lt (t := t) (i := i + 1) (by omega)
        omega
      · split
        · rename_i h1
          have := bt_lt (t := t) (i := i + 2) (by omega)
          omega
        · omega
    · exact ⟨cmtEnd_ge hi, cmtEnd_le hi⟩
theorem lineEnd_gt {t : ByteArray} {i : Nat} (hi : i < t.size) (h : bt t i ≠ 10) : i < lineEnd t i ∧ lineEnd t i ≤ t.size := by
  have h1 : scanW (linP t i) t.size i = scanW (linP t i) t.size (i + 1) := scanW_step hi (by simp [linP, h])
  have h2 := scanW_ge (linP t i) t.size (i + 1)
  have h3 := scanW_le (linP t i) (n := t.size) (i := i) (by omega)
  unfold lineEnd
  simp only
  split <;> omega
theorem signLen_in {t : ByteArray} {i : Nat} (hi : i ≤ t.size) (l : List ByteArray) : i + signLen t i l ≤ t.size := by
  have h : ∀ (l : List ByteArray) (n : Nat), i + n ≤ t.size → i + l.foldl (fun n s => if n < s.size ∧ beg t i s = true then s.size else n) n ≤ t.size := by
    intro l
    induction l with
    | nil => intro n h; exact h
    | cons x l ih =>
      intro n h
      simp only [List.foldl_cons]
      apply ih
      split
      · rename_i h1
        exact beg_le h1.2
      · exact h
  exact h l 0 hi
theorem quotF_in (t : ByteArray) (q : Int) : ∀ (k i e : Nat), quotF t q k i = some e → i < e ∧ e ≤ t.size
  | 0, i, e, h => by simp [quotF] at h
  | k + 1, i, e, h => by
    simp only [quotF] at h
    split at h
    · split at h
      · cases h; omega
      · split at h
        · cases h
        · split at h
          · split at h
            · cases h
            · have := quotF_in t q k (i + 2) e h; omega
          · have := quotF_in t q k (i + 1) e h; omega
    · cases h
theorem tokE_in (keys signs : List ByteArray) {t : ByteArray} {i : Nat} (c : Bool) (hi : i < t.size) : i < (tokE keys signs t i c).2 ∧ (tokE keys signs t i c).2 ≤ t.size := by
  unfold tokE
  split
  · rename_i h
    exact lineEnd_gt hi (by omega)
  · split
    · rename_i h
      have h1 : wordEnd t i = scanW (fun j => isL (bt t j) || isD (bt t j)) t.size (i + 1) := scanW_step hi (by simp [h])
      have h2 := scanW_ge (fun j => isL (bt t j) || isD (bt t j)) t.size (i + 1)
      have h3 := scanW_le (fun j => isL (bt t j) || isD (bt t j)) (n := t.size) (i := i + 1) (by omega)
      simp only
      omega
    · split
      · have h2 := scanW_ge (numP t) t.size (i + 1)
        have h3 := scanW_le (numP t) (n := t.size) (i := i + 1) (by omega)
        simp only [numEnd]
        omega
      · split
        · split
          · simp only; omega
          · rename_i e he
            have := quotF_in t _ _ _ _ he
            simp only; omega
        · split
          · rename_i h
            have := signLen_in (t := t) (i := i) (by omega) signs
            simp only; omega
          · simp only; omega
theorem befF_fuel (t : ByteArray) : ∀ (k k' i : Nat) (c : Bool), i ≤ t.size → t.size - i ≤ k → t.size - i ≤ k' → befF t k i c = befF t k' i c
  | 0, 0, i, c, _, h, h' => rfl
  | 0, k' + 1, i, c, hi, h, h' => by
    have := pieceEnd_le hi
    simp only [befF]; rw [if_neg (by omega)]
  | k + 1, 0, i, c, hi, h, h' => by
    have := pieceEnd_le hi
    simp only [befF]; rw [if_neg (by omega)]
  | k + 1, k' + 1, i, c, hi, h, h' => by
    have := pieceEnd_le hi
    simp only [befF]
    split
    · exact befF_fuel t k k' _ _ (by omega) (by omega) (by omega)
    · rfl
theorem bef_step {t : ByteArray} {i : Nat} {c : Bool} (hi : i ≤ t.size) (h : i < pieceEnd t i) : bef t i c = bef t (pieceEnd t i) (clearB t i (pieceEnd t i) c) := by
  have := pieceEnd_le hi
  unfold bef
  obtain ⟨k, hk⟩ : ∃ k, t.size - i = k + 1 := ⟨t.size - i - 1, by omega⟩
  rw [hk]
  simp only [befF]
  rw [if_pos h]
  exact befF_fuel t _ _ _ _ (by omega) (by omega) (by omega)
theorem bef_stop {t : ByteArray} {i : Nat} {c : Bool} (h : ¬ i < pieceEnd t i) : bef t i c = (i, c) := by
  unfold bef
  cases t.size - i with
  | zero => rfl
  | succ k => simp only [befF]; rw [if_neg h]
/-- The tokens from a place on, what stands before the first one begun at st. -/
def restF (keys signs : List ByteArray) (t : ByteArray) (k st i : Nat) (c : Bool) : List Tk :=
  if (bef t i c).1 = t.size then [⟨0, t.extract st (bef t i c).1, ⟨#[]⟩, (bef t i c).1⟩]
  else ⟨(tokE keys signs t (bef t i c).1 (bef t i c).2).1, t.extract st (bef t i c).1, t.extract (bef t i c).1 (tokE keys signs t (bef t i c).1 (bef t i c).2).2, (bef t i c).1⟩ :: toksF keys signs t k (tokE keys signs t (bef t i c).1 (bef t i c).2).2 false
theorem toksF_succ (keys signs : List ByteArray) (t : ByteArray) (k i : Nat) (c : Bool) : toksF keys signs t (k + 1) i c = restF keys signs t k i i c := rfl
def allT (t : ByteArray) : List Tk := toksF keysL signsL t (t.size + 1) 0 true
end Go.Pv

/- The reference's lexer: its parts. -/
namespace Go.Pv
open Go.Proofs
set_option linter.unusedVariables false
set_option linter.unusedSimpArgs false
set_option maxRecDepth 100000
set_option maxHeartbeats 1000000
theorem rletter_c (c : Int) (s : St) : PCalls Tryd.prog 88 [.lit (.int .u8 c)] s (fun r s' => s' = s ∧ r = .ret (.lit (.bool (isL c)))) := by
  refine PCalls.of Tryd.func88 rfl (by rfl) (by simp [Tryd.ntmps88]) ?_
  refine pwC_sound _ _ _ _ ?_
  by_cases h1 : 97 ≤ c <;> by_cases h2 : c ≤ 122 <;> by_cases h3 : 65 ≤ c <;> by_cases h4 : c ≤ 90 <;>
    simp [Tryd.ntmps88, isL, h1, h2, h3, h4]
theorem rdigit_c (c : Int) (s : St) : PCalls Tryd.prog 90 [.lit (.int .u8 c)] s (fun r s' => s' = s ∧ r = .ret (.lit (.bool (isD c)))) := by
  refine PCalls.of Tryd.func90 rfl (by rfl) (by simp [Tryd.ntmps90]) ?_
  refine pwC_sound _ _ _ _ ?_
  by_cases h1 : 48 ≤ c <;> simp [Tryd.ntmps90, isD, h1]
theorem rbyte_c (t : ByteArray) (i : Nat) (ht : t.size ≤ 1000000) (s : St) : PCalls Tryd.prog 85 [.lit (.string t), .lit (.int .i64 i)] s (fun r s' => s' = s ∧ r = .ret (.lit (.int .u8 (bt t i)))) := by
  refine PCalls.of Tryd.func85 rfl (by rfl) (by simp [Tryd.ntmps85]) ?_
  refine pwC_sound _ _ _ _ ?_
  have h0 : ¬ (i : Int) < 0 := by omega
  by_cases h1 : i < t.size
  · have h2 : ¬ (t.size : Int) ≤ i := by omega
    have h3 : ¬ t.size ≤ i := by omega
    simp [Tryd.ntmps85, h0, h1, h2, h3]
  · have h2 : (t.size : Int) ≤ i := by omega
    have h3 : t.size ≤ i := by omega
    simp [Tryd.ntmps85, h0, h1, h2, h3, bt_none h3]
theorem rbegins_c (t : ByteArray) (i : Nat) (x : ByteArray) (ht : t.size ≤ 1000000) (hi : i ≤ 1000000) (hx : x.size ≤ 1000000) (s : St) : PCalls Tryd.prog 94 [.lit (.string t), .lit (.int .i64 i), .lit (.string x)] s (fun r s' => s' = s ∧ r = .ret (.lit (.bool (beg t i x)))) := by
  refine PCalls.of Tryd.func94 rfl (by rfl) (by simp [Tryd.ntmps94]) ?_
  refine pwC_sound _ _ _ _ ?_
  have w1 : IntKind.i64.wrap ((t.size : Int) - (i : Int)) = (t.size : Int) - (i : Int) := wrap_i64 (by omega) (by omega)
  have w2 : IntKind.i64.wrap ((i : Int) + (x.size : Int)) = (i : Int) + (x.size : Int) := wrap_i64 (by omega) (by omega)
  have w3 : ((i : Int) + (x.size : Int)).toNat = i + x.size := by omega
  have w4 : (0 : Int) ≤ (i : Int) + (x.size : Int) := by omega
  by_cases h1 : i + x.size ≤ t.size
  · have h2 : (x.size : Int) ≤ (t.size : Int) - (i : Int) := by omega
    simp [Tryd.ntmps94, w1, w2, w3, w4, h1, h2, beg]
  · have h2 : ¬ (x.size : Int) ≤ (t.size : Int) - (i : Int) := by omega
    simp [Tryd.ntmps94, w1, w2, w3, w4, h1, h2, beg]
end Go.Pv

/- The reference's lexer: comments, numbers, quoted texts, lines, pieces. -/
namespace Go.Pv
open Go.Proofs
set_option linter.unusedVariables false
set_option linter.unusedSimpArgs false
set_option maxRecDepth 100000
set_option maxHeartbeats 1000000
theorem rcomment_c (t : ByteArray) (i : Nat) (ht : t.size ≤ 1000000) (hi : i ≤ t.size) (s : St) : PCalls Tryd.prog 86 [.lit (.string t), .lit (.int .i64 i)] s (fun r s' => s' = s ∧ r = .ret (.lit (.int .i64 (cmtEnd t i)))) := by
  refine PCalls.of Tryd.func86 rfl (by rfl) (by simp [Tryd.ntmps86]) ?_
  refine pwC_sound _ _ _ _ ?_
  simp [Tryd.ntmps86]
  refine (rbegins_c t i ⟨#[47, 47]⟩ ht (by omega) (by decide) _).mono ?_
  rintro _ s1 ⟨hs1, rfl⟩
  rw [hs1]
  clear hs1 s1
  by_cases h1 : beg t i ⟨#[47, 47]⟩ = true
  · simp [h1]
    refine PW.loop (fun n e s' => ∃ j : Nat, j + n = t.size ∧ e 0 = .lit (.string t) ∧ e 1 = .lit (.int .i64 j) ∧ scanW (fun j => decide (bt t j ≠ 10)) t.size j = cmtEnd t i ∧ s' = s) (t.size - i) ⟨i, by omega, by simp, by simp, by simp [cmtEnd, h1], rfl⟩ ?_
    rintro n e s' ⟨j, hj, e0, e1, hs, rfl⟩
    refine pwC_sound _ _ _ _ ?_
    by_cases hlt : j < t.size
    · have hlt' : (j : Int) < t.size := by omega
      have w1 : IntKind.i64.wrap ((j : Int) + 1) = ((j + 1 : Nat) : Int) := by rw [wrap_i64 (by omega) (by omega)]; omega
      by_cases hc : bt t j = 10
      · rw [scanW_stop (by simp [hc])] at hs
        simp [e0, e1, hlt, hlt', hc, ← hs]
      · rw [scanW_step hlt (by simp [hc])] at hs
        simp [e0, e1, hlt, hlt', hc, w1]
        exact ⟨n - 1, by omega, j + 1, by omega, by omega, by simpa using hs⟩
    · have hlt' : ¬ (j : Int) < t.size := by omega
      rw [scanW_end (by omega)] at hs
      simp [e0, e1, hlt, hlt', ← hs]
  · simp [h1]
    refine (rbegins_c t i ⟨#[47, 42]⟩ ht (by omega) (by decide) _).mono ?_
    rintro _ s1 ⟨hs1, rfl⟩
    rw [hs1]
    clear hs1 s1
    by_cases h2 : beg t i ⟨#[47, 42]⟩ = true
    · have hi2 : i + 2 ≤ t.size := by
        have := h2
        simp [beg] at this
        exact this.1
      have w2 : IntKind.i64.wrap ((i : Int) + 2) = ((i + 2 : Nat) : Int) := by rw [wrap_i64 (by omega) (by omega)]; omega
      simp [h2, w2]
      refine PW.loop (fun n e s' => ∃ j : Nat, j + n = t.size ∧ e 0 = .lit (.string t) ∧ e 5 = .lit (.int .i64 j) ∧ (let k := scanW (fun j => !beg t j ⟨#[42, 47]⟩) t.size j; if k < t.size then k + 2 else t.size) = cmtEnd t i ∧ s' = s) (t.size - (i + 2)) ⟨i + 2, by omega, by simp, by simp, by simp [cmtEnd, h1, h2], rfl⟩ ?_
      rintro n e s' ⟨j, hj, e0, e5, hs, rfl⟩
      refine pwC_sound _ _ _ _ ?_
      by_cases hlt : j < t.size
      · have hlt' : (j : Int) < t.size := by omega
        have w1 : IntKind.i64.wrap ((j : Int) + 1) = ((j + 1 : Nat) : Int) := by rw [wrap_i64 (by omega) (by omega)]; omega
        have w3 : IntKind.i64.wrap ((j : Int) + 2) = ((j + 2 : Nat) : Int) := by rw [wrap_i64 (by omega) (by omega)]; omega
        simp [e0, e5, hlt, hlt']
        refine (rbegins_c t j ⟨#[42, 47]⟩ ht (by omega) (by decide) _).mono ?_
        rintro _ s1 ⟨hs1, rfl⟩
        rw [hs1]
        clear hs1 s1
        by_cases hc : beg t j ⟨#[42, 47]⟩ = true
        · rw [scanW_stop (by simp [hc])] at hs
          simp [hlt] at hs
          simp [e0, e5, hlt, hlt', hc, w3, ← hs]
        · rw [scanW_step hlt (by simp [hc])] at hs
          simp [e0, e5, hlt, hlt', hc, w1]
          exact ⟨n - 1, by omega, j + 1, by omega, by omega, by simpa using hs⟩
      · have hlt' : ¬ (j : Int) < t.size := by omega
        rw [scanW_end (by omega)] at hs
        simp [hlt] at hs
        simp [e0, e5, hlt, hlt', ← hs]
    · simp [h2, cmtEnd, h1]
end Go.Pv

/- The reference's lexer: numbers. -/
namespace Go.Pv
open Go.Proofs
set_option linter.unusedVariables false
set_option linter.unusedSimpArgs false
set_option maxRecDepth 100000
set_option maxHeartbeats 1000000
theorem rnumber_c (t : ByteArray) (i : Nat) (ht : t.size ≤ 1000000) (hi : i < t.size) (s : St) : PCalls Tryd.prog 91 [.lit (.string t), .lit (.int .i64 i)] s (fun r s' => s' = s ∧ r = .ret (.lit (.int .i64 (numEnd t i)))) := by
  refine PCalls.of Tryd.func91 rfl (by rfl) (by simp [Tryd.ntmps91]) ?_
  refine pwC_sound _ _ _ _ ?_
  have w0 : IntKind.i64.wrap ((i : Int) + 1) = ((i + 1 : Nat) : Int) := by rw [wrap_i64 (by omega) (by omega)]; omega
  simp [Tryd.ntmps91, w0]
  refine PW.loop (fun n e s' => ∃ j : Nat, j + n = t.size ∧ i + 1 ≤ j ∧ e 0 = .lit (.string t) ∧ e 5 = .lit (.int .i64 j) ∧ scanW (numP t) t.size j = numEnd t i ∧ s' = s) (t.size - (i + 1)) ⟨i + 1, by omega, by omega, by simp, by simp, rfl, rfl⟩ ?_
  rintro n e s' ⟨j, hj, hij, e0, e5, hs, rfl⟩
  refine pwC_sound _ _ _ _ ?_
  by_cases hlt : j < t.size
  · have hlt' : (j : Int) < t.size := by omega
    have hlt2 : j - 1 < t.size := by omega
    have w1 : IntKind.i64.wrap ((j : Int) + 1) = ((j + 1 : Nat) : Int) := by rw [wrap_i64 (by omega) (by omega)]; omega
    have w2 : IntKind.i64.wrap ((j : Int) - 1) = ((j - 1 : Nat) : Int) := by rw [wrap_i64 (by omega) (by omega)]; omega
    have hn : numP t j = true → scanW (numP t) t.size (j + 1) = numEnd t i := fun h => by rw [scanW_step hlt h] at hs; exact hs
    have hno : numP t j = false → numEnd t i = j := fun h => by rw [scanW_stop h] at hs; exact hs.symm
    by_cases hsg : bt t j = 43 ∨ bt t j = 45
    · have hL : isL (bt t j) = false := by rcases hsg with a | a <;> rw [a] <;> decide
      have hD : isD (bt t j) = false := by rcases hsg with a | a <;> rw [a] <;> decide
      have h46 : ¬ bt t j = 46 := by omega
      by_cases a1 : bt t j = 43 <;> by_cases a3 : bt t (j - 1) = 101 <;> by_cases a4 : bt t (j - 1) = 69 <;> (try (exfalso; omega)) <;>
      (have a2 : ¬ bt t j = 43 → bt t j = 45 := by omega
       simp [a1] at a2
       simp [a1, a2] at hL hD
       simp [e0, e5, hlt, hlt', hlt2, w2, a1, a2, a3, a4]
       refine (rletter_c _ _).mono ?_
       rintro _ s1 ⟨hs1, rfl⟩
       rw [hs1]
       clear hs1 s1
       simp [e0, e5, hlt, hlt', hlt2, w2, a1, a2, a3, a4, hL]
       refine (rdigit_c _ _).mono ?_
       rintro _ s1 ⟨hs1, rfl⟩
       rw [hs1]
       clear hs1 s1
       simp [e0, e5, hlt, hlt', hlt2, w1, w2, a1, a2, a3, a4, hL, hD]
       first
       | exact ⟨n - 1, by omega, j + 1, by omega, by omega, by omega, hn (by simp [numP, hL, hD, a1, a2, a3, a4])⟩
       | (rw [hno (by simp [numP, hL, hD, a1, a2, a3, a4])]; exact ⟨_, sub_refl, rfl, rfl⟩))
    · have a1 : ¬ bt t j = 43 := fun h => hsg (.inl h)
      have a2 : ¬ bt t j = 45 := fun h => hsg (.inr h)
      simp [e0, e5, hlt, hlt', hlt2, w2, a1, a2]
      refine (rletter_c _ _).mono ?_
      rintro _ s1 ⟨hs1, rfl⟩
      rw [hs1]
      clear hs1 s1
      by_cases hL : isL (bt t j) = true
      · simp [e0, e5, hlt, hlt', hlt2, w1, w2, a1, a2, hL]
        exact ⟨n - 1, by omega, j + 1, by omega, by omega, by omega, hn (by simp [numP, hL])⟩
      · simp [e0, e5, hlt, hlt', hlt2, w1, w2, a1, a2, hL]
        refine (rdigit_c _ _).mono ?_
        rintro _ s1 ⟨hs1, rfl⟩
        rw [hs1]
        clear hs1 s1
        by_cases hD : isD (bt t j) = true
        · simp [e0, e5, hlt, hlt', hlt2, w1, w2, a1, a2, hL, hD]
          exact ⟨n - 1, by omega, j + 1, by omega, by omega, by omega, hn (by simp [numP, hD])⟩
        · by_cases h46 : bt t j = 46
          · simp [e0, e5, hlt, hlt', hlt2, w1, w2, a1, a2, hL, hD, h46]
            exact ⟨n - 1, by omega, j + 1, by omega, by omega, by omega, hn (by simp [numP, h46])⟩
          · simp [e0, e5, hlt, hlt', hlt2, w1, w2, a1, a2, hL, hD, h46]
            rw [hno (by simp [numP, hL, hD, a1, a2, h46])]
            exact ⟨_, sub_refl, rfl, rfl⟩
  · have hlt' : ¬ (j : Int) < t.size := by omega
    rw [scanW_end (by omega)] at hs
    simp [e0, e5, hlt, hlt', ← hs]
end Go.Pv

/- The reference's lexer: quoted texts. -/
namespace Go.Pv
open Go.Proofs
set_option linter.unusedVariables false
set_option linter.unusedSimpArgs false
set_option maxRecDepth 100000
set_option maxHeartbeats 1000000
theorem quotF_fuel (t : ByteArray) (q : Int) : ∀ (k k' i : Nat), t.size - i ≤ k → t.size - i ≤ k' → quotF t q k i = quotF t q k' i
  | 0, k', i, h, h' => by
    cases k' with
    | zero => rfl
    | succ k' => simp only [quotF]; rw [if_neg (by omega)]
  | k + 1, 0, i, h, h' => by simp only [quotF]; rw [if_neg (by omega)]
  | k + 1, k' + 1, i, h, h' => by
    simp only [quotF]
    rw [quotF_fuel t q k k' (i + 2) (by omega) (by omega), quotF_fuel t q k k' (i + 1) (by omega) (by omega)]
theorem quotE_eq (t : ByteArray) (q : Int) (i : Nat) : quotE t q i = if i < t.size then (if bt t i = q then some (i + 1) else if bt t i = 10 then none else if bt t i = 92 then (if bt t (i + 1) = 10 then none else quotE t q (i + 2)) else quotE t q (i + 1)) else none := by
  unfold quotE
  cases h : t.size - i with
  | zero => rw [if_neg (by omega)]; rfl
  | succ k =>
    simp only [quotF]
    rw [quotF_fuel t q k (t.size - (i + 2)) (i + 2) (by omega) (by omega), quotF_fuel t q k (t.size - (i + 1)) (i + 1) (by omega) (by omega)]
theorem rquoted_c (t : ByteArray) (i : Nat) (ht : t.size ≤ 1000000) (hi : i < t.size) (hq : bt t i = 39 ∨ bt t i = 34) (s : St) : PCalls Tryd.prog 92 [.lit (.string t), .lit (.int .i64 i)] s (fun r s' => s' = s ∧ r = .ret (.lit (.int .i64 ((quotE t (bt t i) (i + 1)).getD i : Nat)))) := by
  refine PCalls.of Tryd.func92 rfl (by rfl) (by simp [Tryd.ntmps92]) ?_
  refine pwC_sound _ _ _ _ ?_
  have w0 : IntKind.i64.wrap ((i : Int) + 1) = ((i + 1 : Nat) : Int) := by rw [wrap_i64 (by omega) (by omega)]; omega
  simp [Tryd.ntmps92, w0]
  refine PW.loop (fun n e s' => ∃ j : Nat, j + n = t.size + 1 ∧ i + 1 ≤ j ∧ e 0 = .lit (.string t) ∧ e 1 = .lit (.int .i64 i) ∧ e 5 = .lit (.int .i64 j) ∧ quotE t (bt t i) j = quotE t (bt t i) (i + 1) ∧ s' = s) (t.size + 1 - (i + 1)) ⟨i + 1, by omega, by omega, by simp, by simp, by simp, rfl, rfl⟩ ?_
  rintro n e s' ⟨j, hj, hij, e0, e1, e5, hs, rfl⟩
  refine pwC_sound _ _ _ _ ?_
  rw [quotE_eq] at hs
  have hq10 : ¬ bt t i = 10 := by omega
  by_cases hlt : j < t.size
  · have hlt' : (j : Int) < t.size := by omega
    have w1 : IntKind.i64.wrap ((j : Int) + 1) = ((j + 1 : Nat) : Int) := by rw [wrap_i64 (by omega) (by omega)]; omega
    rw [if_pos hlt] at hs
    by_cases h10 : bt t j = 10
    · rw [if_neg (by omega), if_pos h10] at hs
      simp [e0, e1, e5, hlt, hlt', h10, ← hs]
    · refine pwC_cut fun K1 hK1 => ?_
      simp [e0, e5, hlt, hlt', h10]
      refine hK1 _ _ ?_
      clear hK1 K1
      simp
      refine PW.drawn (fun i => 0) [0, 1, 2, 3, 4, 5, 6] mixed_ (fun _ _ _ _ h => h) (by kernel_rfl) ?_
      by_cases hc : bt t j = bt t i
      · rw [if_pos hc] at hs
        simp [e0, e1, e5, hlt, hlt', hi, hc, w1]
        rw [← hs]
        simp
      · rw [if_neg hc, if_neg h10] at hs
        by_cases h92 : bt t j = 92
        · rw [if_pos h92] at hs
          rw [h92] at hc h10
          by_cases hlt1 : j + 1 < t.size
          · have hlt1' : (j : Int) + 1 < t.size := by omega
            have w5 : IntKind.i64.wrap ((j : Int) + 1 + 1) = ((j + 2 : Nat) : Int) := by rw [wrap_i64 (by omega) (by omega)]; omega
            have w6 : ((j : Int) + 1).toNat = j + 1 := by omega
            have w7 : (0 : Int) ≤ (j : Int) + 1 := by omega
            by_cases h10' : bt t (j + 1) = 10
            · rw [if_pos h10'] at hs
              simp [e0, e1, e5, hlt, hlt', hi, hc, w1, h92, hlt1, hlt1', w6, w7, h10', ← hs]
            · rw [if_neg h10'] at hs
              simp [e0, e1, e5, hlt, hlt', hi, hc, w1, h92, hlt1, hlt1', w5, w6, w7, h10']
              exact ⟨n - 2, by omega, j + 2, by omega, by omega, by omega, hs⟩
          · have hlt1' : ¬ (j : Int) + 1 < t.size := by omega
            have w5 : IntKind.i64.wrap ((j : Int) + 1 + 1) = ((j + 2 : Nat) : Int) := by rw [wrap_i64 (by omega) (by omega)]; omega
            rw [if_neg (by rw [bt_none (by omega)]; omega)] at hs
            simp [e0, e1, e5, hlt, hlt', hi, hc, w1, h92, hlt1, hlt1', w5]
            exact ⟨n - 2, by omega, j + 2, by omega, by omega, by omega, hs⟩
        · rw [if_neg h92] at hs
          simp [e0, e1, e5, hlt, hlt', hi, hc, w1, h92]
          exact ⟨n - 1, by omega, j + 1, by omega, by omega, by omega, hs⟩
  · have hlt' : ¬ (j : Int) < t.size := by omega
    rw [if_neg hlt] at hs
    simp [e0, e1, e5, hlt, hlt', ← hs]
end Go.Pv

/- The reference's lexer: lines, and what stands before a token. -/
namespace Go.Pv
open Go.Proofs
set_option linter.unusedVariables false
set_option linter.unusedSimpArgs false
set_option maxRecDepth 100000
set_option maxHeartbeats 1000000
theorem rline_c (t : ByteArray) (i : Nat) (ht : t.size ≤ 1000000) (hi : i < t.size) (h35 : bt t i = 35) (s : St) : PCalls Tryd.prog 87 [.lit (.string t), .lit (.int .i64 i)] s (fun r s' => s' = s ∧ r = .ret (.lit (.int .i64 (lineEnd t i)))) := by
  refine PCalls.of Tryd.func87 rfl (by rfl) (by simp [Tryd.ntmps87]) ?_
  refine pwC_sound _ _ _ _ ?_
  refine pwC_cut fun K hK => ?_
  simp [Tryd.ntmps87]
  refine hK _ _ ?_
  clear hK K
  refine pwC_cut fun K hK => ?_
  simp
  refine hK _ _ ?_
  clear hK K
  refine pwC_cut fun K hK => ?_
  simp
  have fin : ∀ (e : Env) (j : Nat), j ≤ t.size → e 0 = .lit (.string t) → e 1 = .lit (.int .i64 i) → e 5 = .lit (.int .i64 j) → scanW (linP t i) t.size i = j → K e s := by
    intro e j hj e0 e1 e5 hs
    refine hK _ _ ?_
    clear hK K
    have hle : lineEnd t i = if j < t.size ∧ i + 1 < j ∧ bt t (j - 1) = 13 then j - 1 else j := by simp [lineEnd, hs]
    have w2 : IntKind.i64.wrap ((j : Int) - 1) = (j : Int) - 1 := by rw [wrap_i64 (by omega) (by omega)]
    by_cases h1 : j < t.size
    · have h1' : (j : Int) < t.size := by omega
      by_cases h2 : i + 1 < j
      · have h2' : (i : Int) < (j : Int) - 1 := by omega
        have h3 : ((j : Int) - 1).toNat = j - 1 := by omega
        have h4 : (0 : Int) ≤ (j : Int) - 1 := by omega
        have h5 : j - 1 < t.size := by omega
        have h4' : (1 : Int) ≤ (j : Int) := by omega
        by_cases h6 : bt t (j - 1) = 13
        · simp [h1, h2, h6] at hle
          simp [e0, e1, e5, w2, h1, h1', h2', h3, h4, h4', h5, h6, hle]
          exact ⟨_, sub_refl, rfl, by omega⟩
        · simp [h1, h2, h6] at hle
          simp [e0, e1, e5, w2, h1, h1', h2', h3, h4, h4', h5, h6, hle]
      · have h2' : ¬ (i : Int) < (j : Int) - 1 := by omega
        simp [h1, h2] at hle
        simp [e0, e1, e5, w2, h1, h1', h2', hle]
    · have h1' : ¬ (j : Int) < t.size := by omega
      simp [h1] at hle
      simp [e0, e1, e5, w2, h1, h1', hle]
  clear hK
  refine PW.loop (fun n e s' => ∃ j : Nat, j + n = t.size ∧ i ≤ j ∧ e 0 = .lit (.string t) ∧ e 1 = .lit (.int .i64 i) ∧ e 5 = .lit (.int .i64 j) ∧ scanW (linP t i) t.size j = scanW (linP t i) t.size i ∧ s' = s) (t.size - i) ⟨i, by omega, by omega, by simp, by simp, by simp, rfl, rfl⟩ ?_
  rintro n e s' ⟨j, hj, hij, e0, e1, e5, hs, rfl⟩
  refine pwC_sound _ _ _ _ ?_
  by_cases hlt : j < t.size
  · have hlt' : (j : Int) < t.size := by omega
    have w1 : IntKind.i64.wrap ((j : Int) + 1) = ((j + 1 : Nat) : Int) := by rw [wrap_i64 (by omega) (by omega)]; omega
    have hn : linP t i j = true → scanW (linP t i) t.size (j + 1) = scanW (linP t i) t.size i := fun h => by rw [scanW_step hlt h] at hs; exact hs
    have hno : linP t i j = false → scanW (linP t i) t.size i = j := fun h => by rw [scanW_stop h] at hs; exact hs.symm
    by_cases h10 : bt t j = 10
    · have hji : i < j := by
        rcases Nat.lt_or_ge i j with h | h
        · exact h
        · have : j = i := by omega
          subst this; omega
      have w2 : IntKind.i64.wrap ((j : Int) - 1) = ((j : Int) - 1) := by rw [wrap_i64 (by omega) (by omega)]
      have w3 : IntKind.i64.wrap ((j : Int) - 2) = ((j : Int) - 2) := by rw [wrap_i64 (by omega) (by omega)]
      have h3 : ((j : Int) - 1).toNat = j - 1 := by omega
      have h4 : (0 : Int) ≤ (j : Int) - 1 := by omega
      have h4' : (1 : Int) ≤ (j : Int) := by omega
      have h5 : j - 1 < t.size := by omega
      by_cases a1 : bt t (j - 1) = 92
      · simp [e0, e1, e5, hlt, hlt', h10, w1, w2, h3, h4, h4', h5, a1]
        exact ⟨n - 1, by omega, j + 1, by omega, by omega, by omega, hn (by simp [linP, a1])⟩
      · by_cases a2 : i + 2 ≤ j
        · have a2' : (i : Int) ≤ (j : Int) - 2 := by omega
          have h6 : ((j : Int) - 2).toNat = j - 2 := by omega
          have h7 : (0 : Int) ≤ (j : Int) - 2 := by omega
          have h7' : (2 : Int) ≤ (j : Int) := by omega
          have h8 : j - 2 < t.size := by omega
          by_cases a3 : bt t (j - 1) = 13
          · by_cases a4 : bt t (j - 2) = 92
            · simp [e0, e1, e5, hlt, hlt', h10, w1, w2, w3, h3, h4, h4', h5, h6, h7, h7', h8, a1, a2', a3, a4]
              exact ⟨n - 1, by omega, j + 1, by omega, by omega, by omega, hn (by simp [linP, a2, a3, a4])⟩
            · simp [e0, e1, e5, hlt, hlt', h10, w1, w2, w3, h3, h4, h4', h5, h6, h7, h7', h8, a1, a2', a3, a4]
              exact fin _ j (by omega) (by simp [e0]) (by simp [e1]) (by simp [e5]) (hno (by simp [linP, h10, a1, a3, a4]))
          · simp [e0, e1, e5, hlt, hlt', h10, w1, w2, w3, h3, h4, h4', h5, h6, h7, h7', h8, a1, a2', a3]
            exact fin _ j (by omega) (by simp [e0]) (by simp [e1]) (by simp [e5]) (hno (by simp [linP, h10, a1, a3]))
        · have a2' : ¬ (i : Int) ≤ (j : Int) - 2 := by omega
          simp [e0, e1, e5, hlt, hlt', h10, w1, w2, w3, h3, h4, h4', h5, a1, a2']
          exact fin _ j (by omega) (by simp [e0]) (by simp [e1]) (by simp [e5]) (hno (by simp [linP, h10, a1]; omega))
    · simp [e0, e1, e5, hlt, hlt', h10, w1]
      exact ⟨n - 1, by omega, j + 1, by omega, by omega, by omega, hn (by simp [linP, h10])⟩
  · have hlt' : ¬ (j : Int) < t.size := by omega
    rw [scanW_end (by omega)] at hs
    simp [e0, e1, e5, hlt, hlt']
    exact fin _ j (by omega) (by simp [e0]) (by simp [e1]) (by simp [e5]) hs.symm
end Go.Pv

/- The reference's lexer: words and signs. -/
namespace Go.Pv
open Go.Proofs
set_option linter.unusedVariables false
set_option linter.unusedSimpArgs false
set_option maxRecDepth 100000
set_option maxHeartbeats 1000000
theorem has_c (k : VK) (l : List ByteArray) (x : ByteArray) (hl : l.length ≤ 1000000) (s : St) : PCalls Tryd.prog 51 [strs k l, .lit (.string x)] s (fun r s' => s' = s ∧ r = .ret (.lit (.int .i64 (hasI l x)))) := by
  refine PCalls.of Tryd.func51 rfl (by rfl) (by simp [Tryd.ntmps51]) ?_
  refine pwC_sound _ _ _ _ ?_
  simp [Tryd.ntmps51]
  refine PW.loop (fun n e s' => ∃ j : Nat, j + n = l.length ∧ e 0 = strs k l ∧ e 1 = .lit (.string x) ∧ e 5 = .lit (.int .i64 j) ∧ hasF (l.drop j) x j = hasI l x ∧ s' = s) l.length ⟨0, by omega, by simp, by simp, by simp, rfl, rfl⟩ ?_
  rintro n e s' ⟨j, hj, e0, e1, e5, hs, rfl⟩
  refine pwC_sound _ _ _ _ ?_
  by_cases hlt : j < l.length
  · have hlt' : (j : Int) < l.length := by omega
    have hg : l[j]? = some l[j] := List.getElem?_eq_getElem hlt
    have w1 : IntKind.i64.wrap ((j : Int) + 1) = ((j + 1 : Nat) : Int) := by rw [wrap_i64 (by omega) (by omega)]; omega
    rw [List.drop_eq_getElem_cons hlt, hasF] at hs
    by_cases hc : l[j] = x
    · rw [if_pos hc] at hs
      simp [e0, e1, e5, hlt, hlt', hg, hc, ← hs]
    · rw [if_neg hc] at hs
      simp [e0, e1, e5, hlt, hlt', hg, hc, w1]
      exact ⟨n - 1, by omega, j + 1, by omega, by omega, hs⟩
  · have hlt' : ¬ (j : Int) < l.length := by omega
    rw [List.drop_eq_nil_of_le (by omega)] at hs
    simp [e0, e1, e5, hlt, hlt', ← hs, hasF]
theorem rkeys_c (s : St) : PCalls Tryd.prog 95 [] s (fun r s' => s' = s ∧ r = .ret (strs .tight keysL)) := by
  refine PCalls.of Tryd.func95 rfl (by rfl) (by simp [Tryd.ntmps95]) ?_
  refine pwC_sound _ _ _ _ ?_
  simp [Tryd.ntmps95, keysL]
theorem rsigns_c (s : St) : PCalls Tryd.prog 96 [] s (fun r s' => s' = s ∧ r = .ret (strs .tight signsL)) := by
  refine PCalls.of Tryd.func96 rfl (by rfl) (by simp [Tryd.ntmps96]) ?_
  refine pwC_sound _ _ _ _ ?_
  simp [Tryd.ntmps96, signsL]
theorem rword_c (t : ByteArray) (i : Nat) (ht : t.size ≤ 1000000) (hi : i ≤ t.size) (s : St) : PCalls Tryd.prog 89 [.lit (.string t), .lit (.int .i64 i)] s (fun r s' => s' = s ∧ r = .ret (.tup [.lit (.int .i64 (if (keysL.any fun k => decide (k = t.extract i (wordEnd t i))) = true then 2 else 1)), .lit (.int .i64 (wordEnd t i))])) := by
  refine PCalls.of Tryd.func89 rfl (by rfl) (by simp [Tryd.ntmps89]) ?_
  refine pwC_sound _ _ _ _ ?_
  refine pwC_cut fun K hK => ?_
  simp [Tryd.ntmps89]
  refine hK _ _ ?_
  clear hK K
  refine pwC_cut fun K hK => ?_
  simp
  refine hK _ _ ?_
  clear hK K
  refine pwC_cut fun K hK => ?_
  simp
  have fin : ∀ (e : Env) (j : Nat), e 0 = .lit (.string t) → e 1 = .lit (.int .i64 i) → e 6 = .lit (.int .i64 j) → wordEnd t i = j → K e s := by
    intro e j e0 e1 e6 hs
    refine hK _ _ ?_
    clear hK K
    have h1 : i ≤ j := by rw [← hs]; exact scanW_ge _ _ _
    have h2 : j ≤ t.size := by rw [← hs]; exact scanW_le _ hi
    rw [hs]
    simp
    refine PW.drawn (fun i => match i with | 0 => 1 | 5 => 1 | _ => 0) [0, 1, 2, 3, 4, 5, 6] mixed_ (fun _ _ _ _ h => h) (by kernel_rfl) ?_
    simp [e0, e1, e6]
    refine quiet_of (rkeys_c _) ?_
    simp [e0, e1, e6, h1, h2]
    refine quiet_of (has_c .tight keysL (t.extract i j) (by decide) _) ?_
    have hh := hasI_ge keysL (t.extract i j)
    by_cases hc : 0 ≤ hasI keysL (t.extract i j)
    · have hh' := hh.1 hc
      simp [hc, e0, e1, e6]
      exact ⟨_, sub_refl, rfl, by simpa using hh'⟩
    · have hh' : ¬ (keysL.any fun k => decide (k = t.extract i j)) = true := fun h => hc (hh.2 h)
      simp [hc, e0, e1, e6]
      exact ⟨_, sub_refl, rfl, by simpa using hh'⟩
  clear hK
  refine PW.loop (fun n e s' => ∃ j : Nat, j + n = t.size ∧ e 0 = .lit (.string t) ∧ e 1 = .lit (.int .i64 i) ∧ e 6 = .lit (.int .i64 j) ∧ scanW (fun j => isL (bt t j) || isD (bt t j)) t.size j = wordEnd t i ∧ s' = s) (t.size - i) ⟨i, by omega, by simp, by simp, by simp, rfl, rfl⟩ ?_
  rintro n e s' ⟨j, hj, e0, e1, e6, hs, rfl⟩
  refine pwC_sound _ _ _ _ ?_
  by_cases hlt : j < t.size
  · have hlt' : (j : Int) < t.size := by omega
    have w1 : IntKind.i64.wrap ((j : Int) + 1) = ((j + 1 : Nat) : Int) := by rw [wrap_i64 (by omega) (by omega)]; omega
    simp [e0, e6, hlt, hlt']
    refine (rletter_c _ _).mono ?_
    rintro _ s1 ⟨hs1, rfl⟩
    rw [hs1]
    clear hs1 s1
    by_cases hL : isL (bt t j) = true
    · rw [scanW_step hlt (by simp [hL])] at hs
      simp [e0, e1, e6, hlt, hlt', hL, w1]
      exact ⟨n - 1, by omega, j + 1, by omega, by omega, hs⟩
    · simp [e0, e1, e6, hlt, hlt', hL]
      refine (rdigit_c _ _).mono ?_
      rintro _ s1 ⟨hs1, rfl⟩
      rw [hs1]
      clear hs1 s1
      by_cases hD : isD (bt t j) = true
      · rw [scanW_step hlt (by simp [hD])] at hs
        simp [e0, e1, e6, hlt, hlt', hL, hD, w1]
        exact ⟨n - 1, by omega, j + 1, by omega, by omega, hs⟩
      · rw [scanW_stop (by simp [hL, hD])] at hs
        simp [e0, e1, e6, hlt, hlt', hL, hD]
        exact fin _ j (by simp [e0]) (by simp [e1]) (by simp [e6]) hs.symm
  · have hlt' : ¬ (j : Int) < t.size := by omega
    rw [scanW_end (by omega)] at hs
    simp [e0, e1, e6, hlt, hlt']
    exact fin _ j (by simp [e0]) (by simp [e1]) (by simp [e6]) hs.symm
end Go.Pv

/- The reference's lexer: signs, and what stands before a token. -/
namespace Go.Pv
open Go.Proofs
set_option linter.unusedVariables false
set_option linter.unusedSimpArgs false
set_option maxRecDepth 100000
set_option maxHeartbeats 1000000
/-- The longest sign so far, as a text. -/
def signT (t : ByteArray) (i : Nat) (l : List ByteArray) (b : ByteArray) : ByteArray := l.foldl (fun b s => if b.size < s.size ∧ beg t i s = true then s else b) b
theorem signT_size (t : ByteArray) (i : Nat) (l : List ByteArray) (b : ByteArray) : (signT t i l b).size = l.foldl (fun n s => if n < s.size ∧ beg t i s = true then s.size else n) b.size := by
  induction l generalizing b with
  | nil => rfl
  | cons x l ih =>
    simp only [signT, List.foldl_cons] at *
    split
    · exact ih x
    · exact ih b
theorem signLen_eq (t : ByteArray) (i : Nat) (l : List ByteArray) : (signT t i l ⟨#[]⟩).size = signLen t i l := signT_size t i l ⟨#[]⟩
theorem rsign_c (t : ByteArray) (i : Nat) (ht : t.size ≤ 1000000) (hi : i ≤ t.size) (s : St) : PCalls Tryd.prog 93 [.lit (.string t), .lit (.int .i64 i)] s (fun r s' => s' = s ∧ r = .ret (.lit (.string (signT t i signsL ⟨#[]⟩)))) := by
  refine PCalls.of Tryd.func93 rfl (by rfl) (by simp [Tryd.ntmps93]) ?_
  refine pwC_sound _ _ _ _ ?_
  simp [Tryd.ntmps93]
  refine (rsigns_c _).mono ?_
  rintro _ s1 ⟨hs1, rfl⟩
  rw [hs1]
  clear hs1 s1
  have hl : ∀ x ∈ signsL, x.size ≤ 3 := by decide
  have hn : signsL.length = 47 := by decide
  generalize signsL = L at *
  simp
  refine PW.loop (fun n e s' => ∃ (j : Nat) (b : ByteArray), j + n = L.length ∧ e 0 = .lit (.string t) ∧ e 1 = .lit (.int .i64 i) ∧ e 5 = .lit (.string b) ∧ e 6 = strs .tight L ∧ e 7 = .lit (.int .i64 j) ∧ signT t i (L.drop j) b = signT t i L ⟨#[]⟩ ∧ s' = s) L.length ⟨0, ⟨#[]⟩, by omega, by simp, by simp, by simp, by simp, by simp, rfl, rfl⟩ ?_
  rintro n e s' ⟨j, b, hj, e0, e1, e5, e6, e7, hs, rfl⟩
  refine pwC_sound _ _ _ _ ?_
  by_cases hlt : j < L.length
  · have hlt' : (j : Int) < L.length := by omega
    have hg : L[j]? = some L[j] := List.getElem?_eq_getElem hlt
    have w1 : IntKind.i64.wrap ((j : Int) + 1) = ((j + 1 : Nat) : Int) := by rw [wrap_i64 (by omega) (by omega)]; omega
    have hx := hl L[j] (List.getElem_mem hlt)
    rw [List.drop_eq_getElem_cons hlt, signT, List.foldl_cons] at hs
    by_cases hc : b.size < (L[j]).size
    · have hc' : (b.size : Int) < (L[j]).size := by omega
      simp [e0, e1, e5, e6, e7, hlt, hlt', hg, hc, hc']
      refine (rbegins_c t i L[j] ht (by omega) (by omega) _).mono ?_
      rintro _ s1 ⟨hs1, rfl⟩
      rw [hs1]
      clear hs1 s1
      by_cases hb : beg t i L[j] = true
      · rw [if_pos ⟨hc, hb⟩] at hs
        simp [e0, e1, e5, e6, e7, hlt, hlt', hg, hc, hc', hb, w1]
        exact ⟨n - 1, by omega, j + 1, by omega, by omega, hs⟩
      · rw [if_neg (fun h => hb h.2)] at hs
        simp [e0, e1, e5, e6, e7, hlt, hlt', hg, hc, hc', hb, w1]
        exact ⟨n - 1, by omega, j + 1, by omega, by omega, hs⟩
    · have hc' : ¬ (b.size : Int) < (L[j]).size := by omega
      rw [if_neg (fun h => hc h.1)] at hs
      simp [e0, e1, e5, e6, e7, hlt, hlt', hg, hc, hc', w1]
      exact ⟨n - 1, by omega, j + 1, by omega, by omega, hs⟩
  · have hlt' : ¬ (j : Int) < L.length := by omega
    rw [List.drop_eq_nil_of_le (by omega)] at hs
    simp only [signT, List.foldl_nil] at hs
    simp [e0, e1, e5, e6, e7, hlt, hlt', hs, signT]
theorem rpiece_c (t : ByteArray) (i : Nat) (ht : t.size ≤ 1000000) (hi : i ≤ t.size) (s : St) : PCalls Tryd.prog 80 [.lit (.string t), .lit (.int .i64 i)] s (fun r s' => s' = s ∧ r = .ret (.lit (.int .i64 (pieceEnd t i)))) := by
  refine PCalls.of Tryd.func80 rfl (by rfl) (by simp [Tryd.ntmps80]) ?_
  refine pwC_sound _ _ _ _ ?_
  simp [Tryd.ntmps80]
  have w1 : IntKind.i64.wrap ((i : Int) + 1) = ((i + 1 : Nat) : Int) := by rw [wrap_i64 (by omega) (by omega)]; omega
  have w2 : IntKind.i64.wrap ((i : Int) + 2) = ((i + 2 : Nat) : Int) := by rw [wrap_i64 (by omega) (by omega)]; omega
  have w3 : IntKind.i64.wrap ((i : Int) + 3) = ((i + 3 : Nat) : Int) := by rw [wrap_i64 (by omega) (by omega)]; omega
  refine (rbyte_c t i ht _).mono ?_
  rintro _ s1 ⟨hs1, rfl⟩
  rw [hs1]
  clear hs1 s1
  by_cases c1 : bt t i = 32
  · simp [c1, w1, pieceEnd, isB]
  by_cases c2 : bt t i = 9
  · simp [c2, w1, pieceEnd, isB]
  by_cases c3 : bt t i = 10
  · simp [c3, w1, pieceEnd, isB]
  by_cases c4 : bt t i = 11
  · simp [c4, w1, pieceEnd, isB]
  by_cases c5 : bt t i = 12
  · simp [c5, w1, pieceEnd, isB]
  by_cases c6 : bt t i = 13
  · simp [c6, w1, pieceEnd, isB]
  have hB : isB (bt t i) = false := by simp [isB, c1, c2, c3, c4, c5, c6]
  have hP : pieceEnd t i = if bt t i = 92 then (if bt t (i + 1) = 10 then i + 2 else if bt t (i + 1) = 13 ∧ bt t (i + 2) = 10 then i + 3 else i) else cmtEnd t i := by simp [pieceEnd, hB]
  rw [hP]
  by_cases c7 : bt t i = 92
  · simp [c7, w1]
    refine (rbyte_c t (i + 1) ht _).mono ?_
    rintro _ s1 ⟨hs1, rfl⟩
    rw [hs1]
    clear hs1 s1
    by_cases d1 : bt t (i + 1) = 10
    · simp [c7, w1, w2, d1]
    · simp [c7, w1, w2, d1]
      refine (rbyte_c t (i + 1) ht _).mono ?_
      rintro _ s1 ⟨hs1, rfl⟩
      rw [hs1]
      clear hs1 s1
      by_cases d2 : bt t (i + 1) = 13
      · simp [c7, w1, w2, d1, d2]
        refine (rbyte_c t (i + 2) ht _).mono ?_
        rintro _ s1 ⟨hs1, rfl⟩
        rw [hs1]
        clear hs1 s1
        by_cases d3 : bt t (i + 2) = 10
        · simp [c7, w1, w2, w3, d1, d2, d3]
        · simp [c7, w1, w2, w3, d1, d2, d3]
      · simp [c7, w1, w2, d1, d2]
  · simp [c1, c2, c3, c4, c5, c6, c7]
    refine (rcomment_c t i ht hi _).mono ?_
    rintro _ s1 ⟨hs1, rfl⟩
    rw [hs1]
    clear hs1 s1
    simp [c7]
end Go.Pv

/- The reference's lexer: a token. -/
namespace Go.Pv
open Go.Proofs
set_option linter.unusedVariables false
set_option linter.unusedSimpArgs false
set_option maxRecDepth 100000
set_option maxHeartbeats 1000000
theorem signT_nil (t : ByteArray) (i : Nat) (l : List ByteArray) : signT t i l ⟨#[]⟩ = ⟨#[]⟩ ↔ signLen t i l = 0 := by
  rw [← signLen_eq]
  constructor
  · intro h; rw [h]; rfl
  · intro h
    generalize signT t i l ⟨#[]⟩ = x at h
    obtain ⟨d⟩ := x
    have : d.size = 0 := h
    rw [Array.eq_empty_of_size_eq_zero this]
theorem signLen_le (t : ByteArray) (i : Nat) (l : List ByteArray) : signLen t i l ≤ t.size := by
  have h : ∀ (l : List ByteArray) (n : Nat), n ≤ t.size → l.foldl (fun n s => if n < s.size ∧ beg t i s = true then s.size else n) n ≤ t.size := by
    intro l
    induction l with
    | nil => intro n h; exact h
    | cons x l ih =>
      intro n h
      simp only [List.foldl_cons]
      apply ih
      split
      · rename_i h1
        have := h1.2
        simp [beg] at this
        omega
      · exact h
  exact h l 0 (Nat.zero_le _)
theorem quotF_gt (t : ByteArray) (q : Int) : ∀ (k i e : Nat), quotF t q k i = some e → i < e ∧ e ≤ t.size
  | 0, i, e, h => by simp [quotF] at h
  | k + 1, i, e, h => by
    simp only [quotF] at h
    split at h
    · split at h
      · cases h; omega
      · split at h
        · cases h
        · split at h
          · split at h
            · cases h
            · have := quotF_gt t q k (i + 2) e h; omega
          · have := quotF_gt t q k (i + 1) e h; omega
    · cases h
theorem quotE_gt {t : ByteArray} {q : Int} {i e : Nat} {v : Option Nat} (hv : quotE t q i = v) (he : v = some e) : i < e ∧ e ≤ t.size := by
  subst he; exact quotF_gt t q _ i e hv
theorem rtoken_c (t : ByteArray) (i : Nat) (c : Bool) (ht : t.size ≤ 1000000) (hi : i < t.size) (s : St) : PCalls Tryd.prog 81 [.lit (.string t), .lit (.int .i64 i), .lit (.bool c)] s (fun r s' => s' = s ∧ r = .ret (.tup [.lit (.int .i64 ((tokE keysL signsL t i c).1 : Nat)), .lit (.int .i64 ((tokE keysL signsL t i c).2 : Nat))])) := by
  refine PCalls.of Tryd.func81 rfl (by rfl) (by simp [Tryd.ntmps81]) ?_
  refine pwC_sound _ _ _ _ ?_
  have w1 : IntKind.i64.wrap ((i : Int) + 1) = ((i + 1 : Nat) : Int) := by rw [wrap_i64 (by omega) (by omega)]; omega
  have hi' : i ≤ t.size := by omega
  by_cases h35 : bt t i = 35
  · have n1 : isL 35 = false := by decide
    have n2 : isD 35 = false := by decide
    cases c with
    | true =>
      rw [show tokE keysL signsL t i true = (7, lineEnd t i) from by simp [tokE, h35]]
      simp [Tryd.ntmps81, hi, h35]
      refine (rline_c t i ht hi h35 _).mono ?_
      rintro _ s1 ⟨hs1, rfl⟩
      rw [hs1]
      clear hs1 s1
      simp
    | false =>
      simp [Tryd.ntmps81, hi, h35]
      refine (rletter_c _ _).mono ?_
      rintro _ s1 ⟨hs1, rfl⟩
      rw [hs1]
      clear hs1 s1
      simp [n1]
      refine (rdigit_c _ _).mono ?_
      rintro _ s1 ⟨hs1, rfl⟩
      rw [hs1]
      clear hs1 s1
      simp [n2]
      refine (rsign_c t i ht hi' _).mono ?_
      rintro _ s1 ⟨hs1, rfl⟩
      rw [hs1]
      clear hs1 s1
      by_cases hS : signLen t i signsL = 0
      · have hS' := (signT_nil t i signsL).2 hS
        rw [show tokE keysL signsL t i false = (8, i + 1) from by simp [tokE, hS, h35, n1, n2]]
        simp [hS', w1, h35, n1, n2]
      · have hS' : ¬ signT t i signsL ⟨#[]⟩ = ⟨#[]⟩ := fun h => hS ((signT_nil t i signsL).1 h)
        have hz := signLen_eq t i signsL
        rw [show tokE keysL signsL t i false = (6, i + signLen t i signsL) from by simp [tokE, hS, h35, n1, n2]]
        have w9 : IntKind.i64.wrap ((i : Int) + (signLen t i signsL : Int)) = ((i + signLen t i signsL : Nat) : Int) := by rw [wrap_i64 (by omega) (by have := signLen_le t i signsL; omega)]; omega
        simp [hS', hz, w9, h35, n1, n2]
  by_cases hL : isL (bt t i) = true
  · rw [show tokE keysL signsL t i c = (if (keysL.any fun k => decide (k = t.extract i (wordEnd t i))) = true then 2 else 1, wordEnd t i) from by simp [tokE, h35, hL]]
    simp [Tryd.ntmps81, hi, h35]
    refine (rletter_c _ _).mono ?_
    rintro _ s1 ⟨hs1, rfl⟩
    rw [hs1]
    clear hs1 s1
    simp [hL]
    refine (rword_c t i ht hi' _).mono ?_
    rintro _ s1 ⟨hs1, rfl⟩
    rw [hs1]
    clear hs1 s1
    simp
    exact ⟨_, sub_refl, rfl, by split <;> rfl⟩
  simp [Tryd.ntmps81, hi, h35]
  refine (rletter_c _ _).mono ?_
  rintro _ s1 ⟨hs1, rfl⟩
  rw [hs1]
  clear hs1 s1
  simp [hL]
  refine (rdigit_c _ _).mono ?_
  rintro _ s1 ⟨hs1, rfl⟩
  rw [hs1]
  clear hs1 s1
  by_cases hD : isD (bt t i) = true
  · rw [show tokE keysL signsL t i c = (3, numEnd t i) from by simp [tokE, h35, hL, hD]]
    simp [hD]
    refine (rnumber_c t i ht hi _).mono ?_
    rintro _ s1 ⟨hs1, rfl⟩
    rw [hs1]
    clear hs1 s1
    simp
  by_cases h46 : bt t i = 46
  · have n1 : isL 46 = false := by decide
    have n2 : isD 46 = false := by decide
    simp [hD, h46, n1, n2, w1]
    refine (rbyte_c t (i + 1) ht _).mono ?_
    rintro _ s1 ⟨hs1, rfl⟩
    rw [hs1]
    clear hs1 s1
    simp [n1, n2]
    refine (rdigit_c _ _).mono ?_
    rintro _ s1 ⟨hs1, rfl⟩
    rw [hs1]
    clear hs1 s1
    by_cases hD1 : isD (bt t (i + 1)) = true
    · rw [show tokE keysL signsL t i c = (3, numEnd t i) from by simp [tokE, h46, hD1, n1, n2]]
      simp [hD1, n1, n2]
      refine (rnumber_c t i ht hi _).mono ?_
      rintro _ s1 ⟨hs1, rfl⟩
      rw [hs1]
      clear hs1 s1
      simp
    · simp [hD1, n1, n2, h46]
      refine (rsign_c t i ht hi' _).mono ?_
      rintro _ s1 ⟨hs1, rfl⟩
      rw [hs1]
      clear hs1 s1
      by_cases hS : signLen t i signsL = 0
      · have hS' := (signT_nil t i signsL).2 hS
        rw [show tokE keysL signsL t i c = (8, i + 1) from by simp [tokE, hS, h46, hD1, n1, n2]]
        simp [hS', w1, h46, hD1, n1, n2]
      · have hS' : ¬ signT t i signsL ⟨#[]⟩ = ⟨#[]⟩ := fun h => hS ((signT_nil t i signsL).1 h)
        have hz := signLen_eq t i signsL
        rw [show tokE keysL signsL t i c = (6, i + signLen t i signsL) from by simp [tokE, hS, h46, hD1, n1, n2]]
        have w9 : IntKind.i64.wrap ((i : Int) + (signLen t i signsL : Int)) = ((i + signLen t i signsL : Nat) : Int) := by rw [wrap_i64 (by omega) (by have := signLen_le t i signsL; omega)]; omega
        simp [hS', hz, w9, h46, hD1, n1, n2]
  by_cases hq : bt t i = 39 ∨ bt t i = 34
  · have hqE : tokE keysL signsL t i c = (match quotE t (bt t i) (i + 1) with | none => (8, i + 1) | some e => (if bt t i = 34 then 5 else 4, e)) := by
      simp [tokE, h35, hL, hD, h46, hq]
      all_goals (cases quotE t (bt t i) (i + 1) <;> rfl)
    rw [hqE]
    have key : ∀ v : Option Nat, quotE t (bt t i) (i + 1) = v → (∀ e, v = some e → e ≠ i) := by
      intro v hv e he
      have := quotE_gt hv he
      omega
    rcases hq with q1 | q1
    · simp [hD, h46, q1]
      refine (rquoted_c t i ht hi (by omega) _).mono ?_
      rintro _ s1 ⟨hs1, rfl⟩
      rw [hs1]
      clear hs1 s1
      rw [q1]
      rw [q1] at key
      cases hQ : quotE t 39 (i + 1) with
      | none => simp [q1, w1]
      | some e =>
        have hne := key _ hQ e rfl
        have hne' : ¬ (e : Int) = i := by omega
        simp [q1, w1, hne, hne']
    · simp [hD, h46, q1]
      refine (rquoted_c t i ht hi (by omega) _).mono ?_
      rintro _ s1 ⟨hs1, rfl⟩
      rw [hs1]
      clear hs1 s1
      rw [q1]
      rw [q1] at key
      cases hQ : quotE t 34 (i + 1) with
      | none => simp [q1, w1]
      | some e =>
        have hne := key _ hQ e rfl
        have hne' : ¬ (e : Int) = i := by omega
        simp [q1, w1, hne, hne']
  have q1 : ¬ bt t i = 39 := fun h => hq (.inl h)
  have q2 : ¬ bt t i = 34 := fun h => hq (.inr h)
  simp [hD, h46, q1, q2]
  refine (rsign_c t i ht hi' _).mono ?_
  rintro _ s1 ⟨hs1, rfl⟩
  rw [hs1]
  clear hs1 s1
  by_cases hS : signLen t i signsL = 0
  · have hS' := (signT_nil t i signsL).2 hS
    rw [show tokE keysL signsL t i c = (8, i + 1) from by simp [tokE, hS, h35, hL, hD, h46, q1, q2]]
    simp [hS', w1, h35, hL, hD, h46, q1, q2]
  · have hS' : ¬ signT t i signsL ⟨#[]⟩ = ⟨#[]⟩ := fun h => hS ((signT_nil t i signsL).1 h)
    have hz := signLen_eq t i signsL
    rw [show tokE keysL signsL t i c = (6, i + signLen t i signsL) from by simp [tokE, hS, h35, hL, hD, h46, q1, q2]]
    have w9 : IntKind.i64.wrap ((i : Int) + (signLen t i signsL : Int)) = ((i + signLen t i signsL : Nat) : Int) := by rw [wrap_i64 (by omega) (by have := signLen_le t i signsL; omega)]; omega
    simp [hS', hz, w9, h35, hL, hD, h46, q1, q2]
end Go.Pv

/- The reference's lexer: all tokens. -/
namespace Go.Pv
open Go.Proofs
set_option linter.unusedVariables false
set_option linter.unusedSimpArgs false
set_option maxRecDepth 100000
set_option maxHeartbeats 1000000
theorem rall_c (t : ByteArray) (ht : t.size ≤ 1000000) (s : St) : PCalls Tryd.prog 74 [.lit (.string t)] s (fun r s' => s' = s ∧ r = .ret (toks .any (allT t))) := by
  refine PCalls.conv (R := fun r s' => ∃ v, r = .ret v ∧ OwnL 31 4 s ((allT t).map encTC) v s') ?_ ?_ ?_
  · refine PCalls.of Tryd.func74 rfl (by rfl) (by simp [Tryd.ntmps74]) ?_
    refine pwC_sound _ _ _ _ ?_
    simp [Tryd.ntmps74]
    refine PW.loop (fun n e s' => ∃ (a st k : Nat) (c : Bool) (acc : List Tk), a + n = t.size ∧ st ≤ a ∧ t.size - a ≤ k ∧ acc.length ≤ a ∧ e 0 = .lit (.string t) ∧ e 4 = .lit (.int .i64 st) ∧ e 5 = .lit (.int .i64 a) ∧ e 6 = .lit (.bool c) ∧ acc ++ restF keysL signsL t k st a c = allT t ∧ OwnL 31 4 s (acc.map encTC) (e 3) s') t.size ⟨0, 0, t.size, true, [], by omega, by omega, by omega, by simp, by simp, by simp, by simp, by simp, by simp [allT, toksF_succ], by simpa using OwnL.nil _ _ _⟩ ?_
    rintro n e s' ⟨a, st, k, c, acc, hn, hst, hk, hacc, e0, e4, e5, e6, hall, hB⟩
    refine pwC_sound _ _ _ _ ?_
    refine pwC_cut fun K hK => ?_
    have hpe := pieceEnd_le (t := t) (i := a) (by omega)
    simp [e0, e4, e5, e6]
    refine (rpiece_c t a ht (by omega) _).mono ?_
    rintro _ s1 ⟨hs1, rfl⟩
    rw [hs1]
    clear hs1 s1
    simp [e0, e4, e5, e6]
    refine hK _ _ ?_
    clear hK K
    generalize hE : Env.put _ _ _ = E
    have g0 : E 0 = .lit (.string t) := by rw [← hE]; simp [e0]
    have g4 : E 4 = .lit (.int .i64 st) := by rw [← hE]; simp [e4]
    have g5 : E 5 = .lit (.int .i64 a) := by rw [← hE]; simp [e5]
    have g6 : E 6 = .lit (.bool c) := by rw [← hE]; simp [e6]
    have g7 : E 7 = .lit (.int .i64 (pieceEnd t a : Nat)) := by rw [← hE]; simp
    have g3 : E 3 = e 3 := by rw [← hE]; simp
    clear hE e0 e4 e5 e6
    generalize e 3 = v at *
    clear e
    refine pwC_cut fun K hK => ?_
    by_cases hp : a < pieceEnd t a
    · have hp' : (a : Int) < (pieceEnd t a : Nat) := by omega
      have hb := bef_step (c := c) (i := a) (t := t) (by omega) hp
      have hrest : restF keysL signsL t k st a c = restF keysL signsL t k st (pieceEnd t a) (clearB t a (pieceEnd t a) c) := by unfold restF; rw [hb]
      rw [hrest] at hall
      clear hK
      have hcl : clearB t a (pieceEnd t a) c = (if pieceEnd t a = a + 1 ∧ 11 ≤ bt t a ∧ bt t a ≤ 13 then false else (c || hasNL t a (pieceEnd t a))) := by
        unfold clearB
        split
        · rfl
        · cases hasNL t a (pieceEnd t a) <;> simp
      generalize clearB t a (pieceEnd t a) c = c' at *
      generalize pieceEnd t a = pe at *
      simp [g0, g3, g4, g5, g6, g7, hp, hp']
      refine PW.loop (fun n1 e1 s1 => ∃ (j : Nat) (d : Bool), j + n1 = pe ∧ a ≤ j ∧ e1 0 = .lit (.string t) ∧ e1 3 = v ∧ e1 4 = .lit (.int .i64 st) ∧ e1 5 = .lit (.int .i64 a) ∧ e1 7 = .lit (.int .i64 (pe : Nat)) ∧ e1 8 = .lit (.int .i64 j) ∧ e1 6 = .lit (.bool d) ∧ (d || hasNL t j pe) = (c || hasNL t a pe) ∧ s1 = s') (pe - a) ⟨a, c, by omega, by omega, by simp [g0], by simp [g3], by simp [g4], by simp [g5], by simp [g7], by simp, by simp [g6], rfl, rfl⟩ ?_
      rintro n1 e1 s1 ⟨j, d, hj, haj, f0, f3, f4, f5, f7, f8, f6, hd, hs1⟩
      rw [hs1]
      clear hs1 s1
      refine pwC_sound _ _ _ _ ?_
      by_cases hlt : j < pe
      · have hlt' : (j : Int) < (pe : Nat) := by omega
        have hjt : j < t.size := by omega
        have w1 : IntKind.i64.wrap ((j : Int) + 1) = ((j + 1 : Nat) : Int) := by rw [wrap_i64 (by omega) (by omega)]; omega
        by_cases hc : bt t j = 10
        · have hnl : hasNL t j pe = true := by unfold hasNL; rw [scanW_stop (by simp [hc])]; simpa using hlt
          rw [hnl, Bool.or_true] at hd
          simp [f0, f3, f4, f5, f6, f7, f8, hlt, hlt', hjt, hc, w1]
          exact ⟨n1 - 1, by omega, j + 1, by omega, by omega, by omega, by simpa using hd.symm⟩
        · have hnl : hasNL t j pe = hasNL t (j + 1) pe := by unfold hasNL; rw [scanW_step hlt (by simp [hc])]
          rw [hnl] at hd
          simp [f0, f3, f4, f5, f6, f7, f8, hlt, hlt', hjt, hc, w1]
          exact ⟨n1 - 1, by omega, j + 1, by omega, by omega, by omega, hd⟩
      · have hlt' : ¬ (j : Int) < (pe : Nat) := by omega
        have hnl : hasNL t j pe = false := by unfold hasNL; rw [scanW_end (by omega)]; simpa using hlt
        rw [hnl, Bool.or_false] at hd
        rw [← hd] at hcl
        have hat : a < t.size := by omega
        have w1 : IntKind.i64.wrap ((a : Int) + 1) = ((a + 1 : Nat) : Int) := by rw [wrap_i64 (by omega) (by omega)]; omega
        have hex : c' = d ∨ True := .inr trivial
        by_cases q1 : pe = a + 1
        · subst q1
          have hlt2 : ¬ (j : Int) < (a : Int) + 1 := by omega
          by_cases q2 : 11 ≤ bt t a
          · by_cases q3 : bt t a ≤ 13
            · rw [if_pos ⟨rfl, q2, q3⟩] at hcl
              rw [hcl] at hall
              simp [f0, f3, f4, f5, f6, f7, f8, hlt, hlt2, w1, q2, q3, hat]
              exact ⟨n - 1, by omega, a + 1, by omega, st, by omega, k, by omega, acc, by omega, rfl, by omega, hall, hB⟩
            · rw [if_neg (fun h => q3 h.2.2)] at hcl
              rw [hcl] at hall
              simp [f0, f3, f4, f5, f6, f7, f8, hlt, hlt2, w1, q2, q3, hat]
              cases d with
              | false => exact ⟨n - 1, by omega, a + 1, by omega, st, by omega, k, by omega, .inl ⟨acc, by omega, rfl, by omega, rfl, hall, hB⟩⟩
              | true => exact ⟨n - 1, by omega, a + 1, by omega, st, by omega, k, by omega, .inr ⟨acc, by omega, rfl, by omega, rfl, hall, hB⟩⟩
          · rw [if_neg (fun h => q2 h.2.1)] at hcl
            rw [hcl] at hall
            simp [f0, f3, f4, f5, f6, f7, f8, hlt, hlt2, w1, q2, hat]
            cases d with
            | false => exact ⟨n - 1, by omega, a + 1, by omega, st, by omega, k, by omega, .inl ⟨acc, by omega, rfl, by omega, rfl, hall, hB⟩⟩
            | true => exact ⟨n - 1, by omega, a + 1, by omega, st, by omega, k, by omega, .inr ⟨acc, by omega, rfl, by omega, rfl, hall, hB⟩⟩
        · have q1' : ¬ (pe : Int) = (a : Int) + 1 := by omega
          rw [if_neg (fun h => q1 h.1)] at hcl
          rw [hcl] at hall
          simp [f0, f3, f4, f5, f6, f7, f8, hlt, hlt', w1, q1, q1', hat]
          cases d with
          | false => exact ⟨n - (pe - a), by omega, pe, by omega, st, by omega, k, by omega, .inl ⟨acc, by omega, rfl, rfl, rfl, hall, hB⟩⟩
          | true => exact ⟨n - (pe - a), by omega, pe, by omega, st, by omega, k, by omega, .inr ⟨acc, by omega, rfl, rfl, rfl, hall, hB⟩⟩
    · have hpe2 : pieceEnd t a = a := by omega
      have hp' : ¬ (a : Int) < (pieceEnd t a : Nat) := by omega
      have hb := bef_stop (c := c) hp
      simp [g0, g3, g4, g5, g6, g7, hp, hp']
      refine hK _ _ ?_
      clear hK K
      generalize hE : Env.put _ _ _ = E'
      have f0 : E' 0 = .lit (.string t) := by rw [← hE]; simp [g0]
      have f3 : E' 3 = v := by rw [← hE]; simp [g3]
      have f4 : E' 4 = .lit (.int .i64 st) := by rw [← hE]; simp [g4]
      have f5 : E' 5 = .lit (.int .i64 a) := by rw [← hE]; simp [g5]
      have f6 : E' 6 = .lit (.bool c) := by rw [← hE]; simp [g6]
      clear hE g0 g3 g4 g5 g6 g7 E
      unfold restF at hall
      rw [hb] at hall
      simp only at hall
      refine pwC_cut fun K hK => ?_
      by_cases hae : a = t.size
      · rw [if_pos hae] at hall
        have hae' : (a : Int) = (t.size : Nat) := by omega
        have hst' : st ≤ t.size := by omega
        clear hK
        simp [f0, f3, f4, f5, hae, hae', hst']
        rw [hae] at hall
        refine appOwn (b := 48) (z := .agg #[.int .i64 0, .string ⟨#[]⟩, .string ⟨#[]⟩, .int .i64 0]) (ys := [encTC ⟨0, t.extract st t.size, ⟨#[]⟩, t.size⟩]) hB (by simp) (by simp) (by simp) (by simp) rfl (by omega) (by simp) (fun s => by simp [elemsOf]) (by simp; omega) (fun v1 s1 hB1 => ⟨_, sub_refl, ?_⟩)
        rw [← hall]
        simpa using hB1
      · rw [if_neg hae] at hall
        have hae' : ¬ (a : Int) = (t.size : Nat) := by omega
        simp [f0, f3, f4, f5, hae, hae']
        refine hK _ _ ?_
        clear hK K
        have hat : a < t.size := by omega
        have hin := tokE_in keysL signsL c hat
        refine pwC_cut fun K hK => ?_
        simp [f0, f3, f4, f5, f6]
        refine (rtoken_c t a c ht hat _).mono ?_
        rintro _ s1 ⟨hs1, rfl⟩
        rw [hs1]
        clear hs1 s1
        generalize hkd : (tokE keysL signsL t a c).1 = kd at *
        generalize hen : (tokE keysL signsL t a c).2 = en at *
        simp [f0, f3, f4, f5, f6]
        refine hK _ _ ?_
        clear hK K
        generalize hE : Env.put _ _ _ = E
        have g0 : E 0 = .lit (.string t) := by rw [← hE]; simp [f0]
        have g3 : E 3 = v := by rw [← hE]; simp [f3]
        have g4 : E 4 = .lit (.int .i64 st) := by rw [← hE]; simp [f4]
        have g5 : E 5 = .lit (.int .i64 a) := by rw [← hE]; simp [f5]
        have g9 : E 9 = .lit (.int .i64 (kd : Nat)) := by rw [← hE]; simp
        have g10 : E 10 = .lit (.int .i64 (en : Nat)) := by rw [← hE]; simp
        clear hE f0 f3 f4 f5 f6 E'
        obtain ⟨k', rfl⟩ : ∃ k', k = k' + 1 := ⟨k - 1, by omega⟩
        refine pwC_cut fun K hK => ?_
        refine PW.drawn (fun i => 0) [0, 1, 2, 3, 4, 5, 6, 7, 8, 9, 10, 11, 12, 13, 14] mixed_ (fun _ _ _ _ h => h) (by kernel_rfl) ?_
        have ha2 : a ≤ t.size := by omega
        have hen1 : a ≤ en := by omega
        have hen2 : en ≤ t.size := by omega
        simp [g0, g3, g4, g5, g9, g10, hst, ha2, hen1, hen2]
        refine appOwn (b := 48) (z := .agg #[.int .i64 0, .string ⟨#[]⟩, .string ⟨#[]⟩, .int .i64 0]) (ys := [encTC ⟨kd, t.extract st a, t.extract a en, a⟩]) hB (by simp) (by simp) (by simp) (by simp) rfl (by omega) (by simp) (fun s => by simp [elemsOf]) (by simp; omega) (fun v1 s1 hB1 => ?_)
        refine hK _ _ ?_
        clear hK K
        simp [g0, g3, g4, g5, g9, g10]
        rw [toksF_succ] at hall
        exact ⟨n - (en - a), by omega, en, by omega, en, by omega, k', by omega, acc ++ [⟨kd, t.extract st a, t.extract a en, a⟩], by simp; omega, rfl, rfl, by simpa using hall, by simpa using hB1⟩
  · rintro p s' ⟨v, hv, hO⟩
    cases hv
    exact ⟨_, _, Conv.own (xs := (allT t).map encT) hO (by simp) [], rfl, rfl⟩
  · rintro c s' ⟨v, hv, _⟩
    cases hv
theorem rscan_c (t : ByteArray) (ht : t.size ≤ 1000000000) (s : St) : PCalls Tryd.prog 65 [.lit (.string t)] s (fun r s' => s' = s ∧ r = .ret (if 200000 < t.size ∨ 40000 < (allT t).length then .tup [.vec .nil [], .lit (.int .i64 2)] else .tup [toks .any (allT t), .lit (.int .i64 0)])) := by
  refine PCalls.of Tryd.func65 rfl (by rfl) (by simp [Tryd.ntmps65]) ?_
  refine pwC_sound _ _ _ _ ?_
  by_cases h1 : 200000 < t.size
  · have h1' : (200000 : Int) < t.size := by omega
    simp [Tryd.ntmps65, h1, h1']
  · have h1' : ¬ (200000 : Int) < t.size := by omega
    simp [Tryd.ntmps65, h1, h1']
    refine (rall_c t (by omega) _).mono ?_
    rintro _ s1 ⟨hs1, rfl⟩
    rw [hs1]
    clear hs1 s1
    by_cases h2 : 40000 < (allT t).length
    · have h2' : (40000 : Int) < (allT t).length := by omega
      simp [h2, h2']
    · have h2' : ¬ (40000 : Int) < (allT t).length := by omega
      simp [h2, h2']
      exact ⟨_, sub_refl, rfl, by omega⟩
end Go.Pv
