/- What the types of this seat are. Written by a program: gents.py. -/
import Derived.Test.YteajbghklmkoeaaPv15
import Derived.Test.YteajbghklmkoeaaProg
namespace Go.Pv
set_option linter.unusedVariables false
@[simp] theorem tsz_1 : tsz Go.Proofs.Try.prog 1 = some 1 := by kernel_rfl
@[simp] theorem aggT_1 : aggT Go.Proofs.Try.prog 1 = some false := by kernel_rfl
@[simp] theorem tby_1 : tby Go.Proofs.Try.prog 1 = some 8 := by kernel_rfl
@[simp] theorem tz_1 : tzero Go.Proofs.Try.prog 1 = some .nilFunc := by kernel_rfl
@[simp] theorem tsz_2 : tsz Go.Proofs.Try.prog 2 = some 1 := by kernel_rfl
@[simp] theorem aggT_2 : aggT Go.Proofs.Try.prog 2 = some false := by kernel_rfl
@[simp] theorem tby_2 : tby Go.Proofs.Try.prog 2 = some 8 := by kernel_rfl
@[simp] theorem tz_2 : tzero Go.Proofs.Try.prog 2 = some (.int .i64 0) := by kernel_rfl
@[simp] theorem intT_2 : intT Go.Proofs.Try.prog 2 = some .i64 := by kernel_rfl
@[simp] theorem und_2 : (Go.Proofs.Try.prog.underlying 2).isSome = true := by kernel_rfl
@[simp] theorem tsz_3 : tsz Go.Proofs.Try.prog 3 = some 1 := by kernel_rfl
@[simp] theorem aggT_3 : aggT Go.Proofs.Try.prog 3 = some false := by kernel_rfl
@[simp] theorem tby_3 : tby Go.Proofs.Try.prog 3 = some 8 := by kernel_rfl
@[simp] theorem tz_3 : tzero Go.Proofs.Try.prog 3 = some (.int .i64 0) := by kernel_rfl
@[simp] theorem intT_3 : intT Go.Proofs.Try.prog 3 = some .i64 := by kernel_rfl
@[simp] theorem und_3 : (Go.Proofs.Try.prog.underlying 3).isSome = true := by kernel_rfl
@[simp] theorem tsz_4 : tsz Go.Proofs.Try.prog 4 = some 1 := by kernel_rfl
@[simp] theorem aggT_4 : aggT Go.Proofs.Try.prog 4 = some false := by kernel_rfl
@[simp] theorem tby_4 : tby Go.Proofs.Try.prog 4 = some 1 := by kernel_rfl
@[simp] theorem tz_4 : tzero Go.Proofs.Try.prog 4 = some (.bool false) := by kernel_rfl
@[simp] theorem boolT_4 : isBoolT Go.Proofs.Try.prog 4 = true := by kernel_rfl
@[simp] theorem tsz_5 : tsz Go.Proofs.Try.prog 5 = some 1 := by kernel_rfl
@[simp] theorem aggT_5 : aggT Go.Proofs.Try.prog 5 = some false := by kernel_rfl
@[simp] theorem tby_5 : tby Go.Proofs.Try.prog 5 = some 1 := by kernel_rfl
@[simp] theorem tz_5 : tzero Go.Proofs.Try.prog 5 = some (.int .u8 0) := by kernel_rfl
@[simp] theorem intT_5 : intT Go.Proofs.Try.prog 5 = some .u8 := by kernel_rfl
@[simp] theorem und_5 : (Go.Proofs.Try.prog.underlying 5).isSome = true := by kernel_rfl
@[simp] theorem tsz_6 : tsz Go.Proofs.Try.prog 6 = some 1 := by kernel_rfl
@[simp] theorem aggT_6 : aggT Go.Proofs.Try.prog 6 = some false := by kernel_rfl
@[simp] theorem tsz_7 : tsz Go.Proofs.Try.prog 7 = some 4 := by kernel_rfl
@[simp] theorem aggT_7 : aggT Go.Proofs.Try.prog 7 = some true := by kernel_rfl
@[simp] theorem tsz_8 : tsz Go.Proofs.Try.prog 8 = some 4 := by kernel_rfl
@[simp] theorem aggT_8 : aggT Go.Proofs.Try.prog 8 = some true := by kernel_rfl
@[simp] theorem tsz_9 : tsz Go.Proofs.Try.prog 9 = some 1 := by kernel_rfl
@[simp] theorem aggT_9 : aggT Go.Proofs.Try.prog 9 = some false := by kernel_rfl
@[simp] theorem tby_9 : tby Go.Proofs.Try.prog 9 = some 16 := by kernel_rfl
@[simp] theorem tz_9 : tzero Go.Proofs.Try.prog 9 = some (.string ⟨#[]⟩) := by kernel_rfl
@[simp] theorem strT_9 : isStrT Go.Proofs.Try.prog 9 = true := by kernel_rfl
@[simp] theorem sliceT_9 : sliceT Go.Proofs.Try.prog 9 = none := by kernel_rfl
@[simp] theorem und_9 : (Go.Proofs.Try.prog.underlying 9).isSome = true := by kernel_rfl
@[simp] theorem tsz_10 : tsz Go.Proofs.Try.prog 10 = some 1 := by kernel_rfl
@[simp] theorem aggT_10 : aggT Go.Proofs.Try.prog 10 = some false := by kernel_rfl
@[simp] theorem tsz_11 : tsz Go.Proofs.Try.prog 11 = some 1 := by kernel_rfl
@[simp] theorem aggT_11 : aggT Go.Proofs.Try.prog 11 = some false := by kernel_rfl
@[simp] theorem tsz_12 : tsz Go.Proofs.Try.prog 12 = some 1 := by kernel_rfl
@[simp] theorem aggT_12 : aggT Go.Proofs.Try.prog 12 = some false := by kernel_rfl
@[simp] theorem tby_12 : tby Go.Proofs.Try.prog 12 = some 8 := by kernel_rfl
@[simp] theorem tz_12 : tzero Go.Proofs.Try.prog 12 = some (.int .u64 0) := by kernel_rfl
@[simp] theorem intT_12 : intT Go.Proofs.Try.prog 12 = some .u64 := by kernel_rfl
@[simp] theorem und_12 : (Go.Proofs.Try.prog.underlying 12).isSome = true := by kernel_rfl
@[simp] theorem tsz_13 : tsz Go.Proofs.Try.prog 13 = some 2 := by kernel_rfl
@[simp] theorem aggT_13 : aggT Go.Proofs.Try.prog 13 = some true := by kernel_rfl
@[simp] theorem tby_13 : tby Go.Proofs.Try.prog 13 = some 24 := by kernel_rfl
@[simp] theorem tz_13 : tzero Go.Proofs.Try.prog 13 = some (.agg #[(.string ⟨#[]⟩), (.int .u64 0)]) := by kernel_rfl
@[simp] theorem fld_13_0 : fld Go.Proofs.Try.prog 13 0 = some (0, 9) := by kernel_rfl
@[simp] theorem fld_13_1 : fld Go.Proofs.Try.prog 13 1 = some (1, 12) := by kernel_rfl
@[simp] theorem pl_13 : placesP Go.Proofs.Try.prog 13 = some [(0, 1), (1, 1)] := by kernel_rfl
@[simp] theorem tsz_14 : tsz Go.Proofs.Try.prog 14 = some 2 := by kernel_rfl
@[simp] theorem aggT_14 : aggT Go.Proofs.Try.prog 14 = some true := by kernel_rfl
@[simp] theorem tsz_15 : tsz Go.Proofs.Try.prog 15 = some 1 := by kernel_rfl
@[simp] theorem aggT_15 : aggT Go.Proofs.Try.prog 15 = some false := by kernel_rfl
@[simp] theorem tby_15 : tby Go.Proofs.Try.prog 15 = some 8 := by kernel_rfl
@[simp] theorem tz_15 : tzero Go.Proofs.Try.prog 15 = some (.pointer none) := by kernel_rfl
@[simp] theorem ptrT_15 : ptrT Go.Proofs.Try.prog 15 = true := by kernel_rfl
@[simp] theorem tsz_16 : tsz Go.Proofs.Try.prog 16 = some 1 := by kernel_rfl
@[simp] theorem aggT_16 : aggT Go.Proofs.Try.prog 16 = some false := by kernel_rfl
@[simp] theorem tby_16 : tby Go.Proofs.Try.prog 16 = some 8 := by kernel_rfl
@[simp] theorem tz_16 : tzero Go.Proofs.Try.prog 16 = some (.pointer none) := by kernel_rfl
@[simp] theorem tsz_17 : tsz Go.Proofs.Try.prog 17 = some 1 := by kernel_rfl
@[simp] theorem aggT_17 : aggT Go.Proofs.Try.prog 17 = some false := by kernel_rfl
@[simp] theorem tsz_18 : tsz Go.Proofs.Try.prog 18 = some 1 := by kernel_rfl
@[simp] theorem aggT_18 : aggT Go.Proofs.Try.prog 18 = some true := by kernel_rfl
@[simp] theorem tsz_19 : tsz Go.Proofs.Try.prog 19 = some 1 := by kernel_rfl
@[simp] theorem aggT_19 : aggT Go.Proofs.Try.prog 19 = some true := by kernel_rfl
@[simp] theorem tby_19 : tby Go.Proofs.Try.prog 19 = some 8 := by kernel_rfl
@[simp] theorem tz_19 : tzero Go.Proofs.Try.prog 19 = some (.agg #[(.pointer none)]) := by kernel_rfl
@[simp] theorem fld_19_0 : fld Go.Proofs.Try.prog 19 0 = some (0, 17) := by kernel_rfl
@[simp] theorem pl_19 : placesP Go.Proofs.Try.prog 19 = some [(0, 1)] := by kernel_rfl
@[simp] theorem tsz_20 : tsz Go.Proofs.Try.prog 20 = some 1 := by kernel_rfl
@[simp] theorem aggT_20 : aggT Go.Proofs.Try.prog 20 = some false := by kernel_rfl
@[simp] theorem tby_20 : tby Go.Proofs.Try.prog 20 = some 16 := by kernel_rfl
@[simp] theorem tz_20 : tzero Go.Proofs.Try.prog 20 = some .nilIface := by kernel_rfl
@[simp] theorem tsz_21 : tsz Go.Proofs.Try.prog 21 = some 1 := by kernel_rfl
@[simp] theorem aggT_21 : aggT Go.Proofs.Try.prog 21 = some false := by kernel_rfl
@[simp] theorem tby_21 : tby Go.Proofs.Try.prog 21 = some 4 := by kernel_rfl
@[simp] theorem tz_21 : tzero Go.Proofs.Try.prog 21 = some (.int .i32 0) := by kernel_rfl
@[simp] theorem intT_21 : intT Go.Proofs.Try.prog 21 = some .i32 := by kernel_rfl
@[simp] theorem und_21 : (Go.Proofs.Try.prog.underlying 21).isSome = true := by kernel_rfl
@[simp] theorem tsz_22 : tsz Go.Proofs.Try.prog 22 = some 1 := by kernel_rfl
@[simp] theorem aggT_22 : aggT Go.Proofs.Try.prog 22 = some false := by kernel_rfl
@[simp] theorem tby_22 : tby Go.Proofs.Try.prog 22 = some 24 := by kernel_rfl
@[simp] theorem tz_22 : tzero Go.Proofs.Try.prog 22 = some (.slice none 0 0) := by kernel_rfl
@[simp] theorem sliceT_22 : sliceT Go.Proofs.Try.prog 22 = some 24 := by kernel_rfl
@[simp] theorem strT_22 : isStrT Go.Proofs.Try.prog 22 = false := by kernel_rfl
@[simp] theorem und_22 : (Go.Proofs.Try.prog.underlying 22).isSome = true := by kernel_rfl
@[simp] theorem tsz_23 : tsz Go.Proofs.Try.prog 23 = some 6 := by kernel_rfl
@[simp] theorem aggT_23 : aggT Go.Proofs.Try.prog 23 = some true := by kernel_rfl
@[simp] theorem tby_23 : tby Go.Proofs.Try.prog 23 = some 72 := by kernel_rfl
@[simp] theorem tz_23 : tzero Go.Proofs.Try.prog 23 = some (.agg #[(.int .i64 0), (.string ⟨#[]⟩), (.int .i64 0), (.int .i64 0), (.int .i64 0), (.slice none 0 0)]) := by kernel_rfl
@[simp] theorem fld_23_0 : fld Go.Proofs.Try.prog 23 0 = some (0, 3) := by kernel_rfl
@[simp] theorem fld_23_1 : fld Go.Proofs.Try.prog 23 1 = some (1, 9) := by kernel_rfl
@[simp] theorem fld_23_2 : fld Go.Proofs.Try.prog 23 2 = some (2, 3) := by kernel_rfl
@[simp] theorem fld_23_3 : fld Go.Proofs.Try.prog 23 3 = some (3, 3) := by kernel_rfl
@[simp] theorem fld_23_4 : fld Go.Proofs.Try.prog 23 4 = some (4, 3) := by kernel_rfl
@[simp] theorem fld_23_5 : fld Go.Proofs.Try.prog 23 5 = some (5, 22) := by kernel_rfl
@[simp] theorem pl_23 : placesP Go.Proofs.Try.prog 23 = some [(0, 1), (1, 1), (2, 1), (3, 1), (4, 1), (5, 1)] := by kernel_rfl
@[simp] theorem tsz_24 : tsz Go.Proofs.Try.prog 24 = some 6 := by kernel_rfl
@[simp] theorem aggT_24 : aggT Go.Proofs.Try.prog 24 = some true := by kernel_rfl
@[simp] theorem tby_24 : tby Go.Proofs.Try.prog 24 = some 72 := by kernel_rfl
@[simp] theorem tz_24 : tzero Go.Proofs.Try.prog 24 = some (.agg #[(.int .i64 0), (.string ⟨#[]⟩), (.int .i64 0), (.int .i64 0), (.int .i64 0), (.slice none 0 0)]) := by kernel_rfl
@[simp] theorem fld_24_0 : fld Go.Proofs.Try.prog 24 0 = some (0, 3) := by kernel_rfl
@[simp] theorem fld_24_1 : fld Go.Proofs.Try.prog 24 1 = some (1, 9) := by kernel_rfl
@[simp] theorem fld_24_2 : fld Go.Proofs.Try.prog 24 2 = some (2, 3) := by kernel_rfl
@[simp] theorem fld_24_3 : fld Go.Proofs.Try.prog 24 3 = some (3, 3) := by kernel_rfl
@[simp] theorem fld_24_4 : fld Go.Proofs.Try.prog 24 4 = some (4, 3) := by kernel_rfl
@[simp] theorem fld_24_5 : fld Go.Proofs.Try.prog 24 5 = some (5, 22) := by kernel_rfl
@[simp] theorem pl_24 : placesP Go.Proofs.Try.prog 24 = some [(0, 1), (1, 1), (2, 1), (3, 1), (4, 1), (5, 1)] := by kernel_rfl
@[simp] theorem tsz_25 : tsz Go.Proofs.Try.prog 25 = some 1 := by kernel_rfl
@[simp] theorem aggT_25 : aggT Go.Proofs.Try.prog 25 = some false := by kernel_rfl
@[simp] theorem tby_25 : tby Go.Proofs.Try.prog 25 = some 8 := by kernel_rfl
@[simp] theorem tz_25 : tzero Go.Proofs.Try.prog 25 = some .nilFunc := by kernel_rfl
@[simp] theorem tsz_26 : tsz Go.Proofs.Try.prog 26 = some 1 := by kernel_rfl
@[simp] theorem aggT_26 : aggT Go.Proofs.Try.prog 26 = some false := by kernel_rfl
@[simp] theorem tby_26 : tby Go.Proofs.Try.prog 26 = some 8 := by kernel_rfl
@[simp] theorem tz_26 : tzero Go.Proofs.Try.prog 26 = some .nilFunc := by kernel_rfl
@[simp] theorem tsz_27 : tsz Go.Proofs.Try.prog 27 = some 1 := by kernel_rfl
@[simp] theorem aggT_27 : aggT Go.Proofs.Try.prog 27 = some false := by kernel_rfl
@[simp] theorem tby_27 : tby Go.Proofs.Try.prog 27 = some 8 := by kernel_rfl
@[simp] theorem tz_27 : tzero Go.Proofs.Try.prog 27 = some .nilFunc := by kernel_rfl
@[simp] theorem tsz_28 : tsz Go.Proofs.Try.prog 28 = some 1 := by kernel_rfl
@[simp] theorem aggT_28 : aggT Go.Proofs.Try.prog 28 = some false := by kernel_rfl
@[simp] theorem tby_28 : tby Go.Proofs.Try.prog 28 = some 8 := by kernel_rfl
@[simp] theorem tz_28 : tzero Go.Proofs.Try.prog 28 = some .nilFunc := by kernel_rfl
@[simp] theorem tsz_29 : tsz Go.Proofs.Try.prog 29 = some 1 := by kernel_rfl
@[simp] theorem aggT_29 : aggT Go.Proofs.Try.prog 29 = some false := by kernel_rfl
@[simp] theorem tby_29 : tby Go.Proofs.Try.prog 29 = some 8 := by kernel_rfl
@[simp] theorem tz_29 : tzero Go.Proofs.Try.prog 29 = some .nilFunc := by kernel_rfl
@[simp] theorem tsz_30 : tsz Go.Proofs.Try.prog 30 = some 1 := by kernel_rfl
@[simp] theorem aggT_30 : aggT Go.Proofs.Try.prog 30 = some false := by kernel_rfl
@[simp] theorem tby_30 : tby Go.Proofs.Try.prog 30 = some 8 := by kernel_rfl
@[simp] theorem tz_30 : tzero Go.Proofs.Try.prog 30 = some .nilFunc := by kernel_rfl
@[simp] theorem tsz_31 : tsz Go.Proofs.Try.prog 31 = some 1 := by kernel_rfl
@[simp] theorem aggT_31 : aggT Go.Proofs.Try.prog 31 = some false := by kernel_rfl
@[simp] theorem tby_31 : tby Go.Proofs.Try.prog 31 = some 24 := by kernel_rfl
@[simp] theorem tz_31 : tzero Go.Proofs.Try.prog 31 = some (.slice none 0 0) := by kernel_rfl
@[simp] theorem sliceT_31 : sliceT Go.Proofs.Try.prog 31 = some 3 := by kernel_rfl
@[simp] theorem strT_31 : isStrT Go.Proofs.Try.prog 31 = false := by kernel_rfl
@[simp] theorem und_31 : (Go.Proofs.Try.prog.underlying 31).isSome = true := by kernel_rfl
@[simp] theorem tsz_32 : tsz Go.Proofs.Try.prog 32 = some 1 := by kernel_rfl
@[simp] theorem aggT_32 : aggT Go.Proofs.Try.prog 32 = some false := by kernel_rfl
@[simp] theorem tby_32 : tby Go.Proofs.Try.prog 32 = some 8 := by kernel_rfl
@[simp] theorem tz_32 : tzero Go.Proofs.Try.prog 32 = some (.int .i64 0) := by kernel_rfl
@[simp] theorem intT_32 : intT Go.Proofs.Try.prog 32 = some .i64 := by kernel_rfl
@[simp] theorem und_32 : (Go.Proofs.Try.prog.underlying 32).isSome = true := by kernel_rfl
@[simp] theorem tsz_34 : tsz Go.Proofs.Try.prog 34 = some 1 := by kernel_rfl
@[simp] theorem aggT_34 : aggT Go.Proofs.Try.prog 34 = some false := by kernel_rfl
@[simp] theorem tby_34 : tby Go.Proofs.Try.prog 34 = some 8 := by kernel_rfl
@[simp] theorem tz_34 : tzero Go.Proofs.Try.prog 34 = some .nilFunc := by kernel_rfl
@[simp] theorem tsz_35 : tsz Go.Proofs.Try.prog 35 = some 1 := by kernel_rfl
@[simp] theorem aggT_35 : aggT Go.Proofs.Try.prog 35 = some false := by kernel_rfl
@[simp] theorem tby_35 : tby Go.Proofs.Try.prog 35 = some 8 := by kernel_rfl
@[simp] theorem tz_35 : tzero Go.Proofs.Try.prog 35 = some .nilFunc := by kernel_rfl
@[simp] theorem tsz_36 : tsz Go.Proofs.Try.prog 36 = some 1 := by kernel_rfl
@[simp] theorem aggT_36 : aggT Go.Proofs.Try.prog 36 = some false := by kernel_rfl
@[simp] theorem tby_36 : tby Go.Proofs.Try.prog 36 = some 8 := by kernel_rfl
@[simp] theorem tz_36 : tzero Go.Proofs.Try.prog 36 = some .nilFunc := by kernel_rfl
@[simp] theorem tsz_37 : tsz Go.Proofs.Try.prog 37 = some 1 := by kernel_rfl
@[simp] theorem aggT_37 : aggT Go.Proofs.Try.prog 37 = some false := by kernel_rfl
@[simp] theorem tby_37 : tby Go.Proofs.Try.prog 37 = some 24 := by kernel_rfl
@[simp] theorem tz_37 : tzero Go.Proofs.Try.prog 37 = some (.slice none 0 0) := by kernel_rfl
@[simp] theorem sliceT_37 : sliceT Go.Proofs.Try.prog 37 = some 78 := by kernel_rfl
@[simp] theorem strT_37 : isStrT Go.Proofs.Try.prog 37 = false := by kernel_rfl
@[simp] theorem und_37 : (Go.Proofs.Try.prog.underlying 37).isSome = true := by kernel_rfl
@[simp] theorem tsz_38 : tsz Go.Proofs.Try.prog 38 = some 1 := by kernel_rfl
@[simp] theorem aggT_38 : aggT Go.Proofs.Try.prog 38 = some false := by kernel_rfl
@[simp] theorem tby_38 : tby Go.Proofs.Try.prog 38 = some 8 := by kernel_rfl
@[simp] theorem tz_38 : tzero Go.Proofs.Try.prog 38 = some .nilFunc := by kernel_rfl
@[simp] theorem tsz_39 : tsz Go.Proofs.Try.prog 39 = some 1 := by kernel_rfl
@[simp] theorem aggT_39 : aggT Go.Proofs.Try.prog 39 = some false := by kernel_rfl
@[simp] theorem tby_39 : tby Go.Proofs.Try.prog 39 = some 8 := by kernel_rfl
@[simp] theorem tz_39 : tzero Go.Proofs.Try.prog 39 = some .nilFunc := by kernel_rfl
@[simp] theorem tsz_41 : tsz Go.Proofs.Try.prog 41 = some 1 := by kernel_rfl
@[simp] theorem aggT_41 : aggT Go.Proofs.Try.prog 41 = some false := by kernel_rfl
@[simp] theorem tby_41 : tby Go.Proofs.Try.prog 41 = some 8 := by kernel_rfl
@[simp] theorem tz_41 : tzero Go.Proofs.Try.prog 41 = some .nilFunc := by kernel_rfl
@[simp] theorem tsz_42 : tsz Go.Proofs.Try.prog 42 = some 1 := by kernel_rfl
@[simp] theorem aggT_42 : aggT Go.Proofs.Try.prog 42 = some false := by kernel_rfl
@[simp] theorem tby_42 : tby Go.Proofs.Try.prog 42 = some 8 := by kernel_rfl
@[simp] theorem tz_42 : tzero Go.Proofs.Try.prog 42 = some .nilFunc := by kernel_rfl
@[simp] theorem tsz_43 : tsz Go.Proofs.Try.prog 43 = some 1 := by kernel_rfl
@[simp] theorem aggT_43 : aggT Go.Proofs.Try.prog 43 = some false := by kernel_rfl
@[simp] theorem tby_43 : tby Go.Proofs.Try.prog 43 = some 8 := by kernel_rfl
@[simp] theorem tz_43 : tzero Go.Proofs.Try.prog 43 = some .nilFunc := by kernel_rfl
@[simp] theorem tsz_44 : tsz Go.Proofs.Try.prog 44 = some 1 := by kernel_rfl
@[simp] theorem aggT_44 : aggT Go.Proofs.Try.prog 44 = some false := by kernel_rfl
@[simp] theorem tby_44 : tby Go.Proofs.Try.prog 44 = some 8 := by kernel_rfl
@[simp] theorem tz_44 : tzero Go.Proofs.Try.prog 44 = some .nilFunc := by kernel_rfl
@[simp] theorem tsz_45 : tsz Go.Proofs.Try.prog 45 = some 1 := by kernel_rfl
@[simp] theorem aggT_45 : aggT Go.Proofs.Try.prog 45 = some false := by kernel_rfl
@[simp] theorem tby_45 : tby Go.Proofs.Try.prog 45 = some 8 := by kernel_rfl
@[simp] theorem tz_45 : tzero Go.Proofs.Try.prog 45 = some .nilFunc := by kernel_rfl
@[simp] theorem tsz_46 : tsz Go.Proofs.Try.prog 46 = some 1 := by kernel_rfl
@[simp] theorem aggT_46 : aggT Go.Proofs.Try.prog 46 = some false := by kernel_rfl
@[simp] theorem tby_46 : tby Go.Proofs.Try.prog 46 = some 24 := by kernel_rfl
@[simp] theorem tz_46 : tzero Go.Proofs.Try.prog 46 = some (.slice none 0 0) := by kernel_rfl
@[simp] theorem sliceT_46 : sliceT Go.Proofs.Try.prog 46 = some 31 := by kernel_rfl
@[simp] theorem strT_46 : isStrT Go.Proofs.Try.prog 46 = false := by kernel_rfl
@[simp] theorem und_46 : (Go.Proofs.Try.prog.underlying 46).isSome = true := by kernel_rfl
@[simp] theorem tsz_47 : tsz Go.Proofs.Try.prog 47 = some 1 := by kernel_rfl
@[simp] theorem aggT_47 : aggT Go.Proofs.Try.prog 47 = some false := by kernel_rfl
@[simp] theorem tby_47 : tby Go.Proofs.Try.prog 47 = some 8 := by kernel_rfl
@[simp] theorem tz_47 : tzero Go.Proofs.Try.prog 47 = some .nilFunc := by kernel_rfl
@[simp] theorem tsz_49 : tsz Go.Proofs.Try.prog 49 = some 1 := by kernel_rfl
@[simp] theorem aggT_49 : aggT Go.Proofs.Try.prog 49 = some false := by kernel_rfl
@[simp] theorem tby_49 : tby Go.Proofs.Try.prog 49 = some 8 := by kernel_rfl
@[simp] theorem tz_49 : tzero Go.Proofs.Try.prog 49 = some .nilFunc := by kernel_rfl
@[simp] theorem tsz_50 : tsz Go.Proofs.Try.prog 50 = some 1 := by kernel_rfl
@[simp] theorem aggT_50 : aggT Go.Proofs.Try.prog 50 = some false := by kernel_rfl
@[simp] theorem tby_50 : tby Go.Proofs.Try.prog 50 = some 8 := by kernel_rfl
@[simp] theorem tz_50 : tzero Go.Proofs.Try.prog 50 = some .nilFunc := by kernel_rfl
@[simp] theorem tsz_51 : tsz Go.Proofs.Try.prog 51 = some 1 := by kernel_rfl
@[simp] theorem aggT_51 : aggT Go.Proofs.Try.prog 51 = some false := by kernel_rfl
@[simp] theorem tby_51 : tby Go.Proofs.Try.prog 51 = some 8 := by kernel_rfl
@[simp] theorem tz_51 : tzero Go.Proofs.Try.prog 51 = some .nilFunc := by kernel_rfl
@[simp] theorem tsz_52 : tsz Go.Proofs.Try.prog 52 = some 1 := by kernel_rfl
@[simp] theorem aggT_52 : aggT Go.Proofs.Try.prog 52 = some false := by kernel_rfl
@[simp] theorem tby_52 : tby Go.Proofs.Try.prog 52 = some 24 := by kernel_rfl
@[simp] theorem tz_52 : tzero Go.Proofs.Try.prog 52 = some (.slice none 0 0) := by kernel_rfl
@[simp] theorem sliceT_52 : sliceT Go.Proofs.Try.prog 52 = some 9 := by kernel_rfl
@[simp] theorem strT_52 : isStrT Go.Proofs.Try.prog 52 = false := by kernel_rfl
@[simp] theorem und_52 : (Go.Proofs.Try.prog.underlying 52).isSome = true := by kernel_rfl
@[simp] theorem tsz_53 : tsz Go.Proofs.Try.prog 53 = some 1 := by kernel_rfl
@[simp] theorem aggT_53 : aggT Go.Proofs.Try.prog 53 = some false := by kernel_rfl
@[simp] theorem tby_53 : tby Go.Proofs.Try.prog 53 = some 8 := by kernel_rfl
@[simp] theorem tz_53 : tzero Go.Proofs.Try.prog 53 = some .nilFunc := by kernel_rfl
@[simp] theorem tsz_54 : tsz Go.Proofs.Try.prog 54 = some 1 := by kernel_rfl
@[simp] theorem aggT_54 : aggT Go.Proofs.Try.prog 54 = some false := by kernel_rfl
@[simp] theorem tby_54 : tby Go.Proofs.Try.prog 54 = some 8 := by kernel_rfl
@[simp] theorem tz_54 : tzero Go.Proofs.Try.prog 54 = some .nilFunc := by kernel_rfl
@[simp] theorem tsz_55 : tsz Go.Proofs.Try.prog 55 = some 1 := by kernel_rfl
@[simp] theorem aggT_55 : aggT Go.Proofs.Try.prog 55 = some false := by kernel_rfl
@[simp] theorem tby_55 : tby Go.Proofs.Try.prog 55 = some 8 := by kernel_rfl
@[simp] theorem tz_55 : tzero Go.Proofs.Try.prog 55 = some .nilFunc := by kernel_rfl
@[simp] theorem tsz_56 : tsz Go.Proofs.Try.prog 56 = some 4 := by kernel_rfl
@[simp] theorem aggT_56 : aggT Go.Proofs.Try.prog 56 = some true := by kernel_rfl
@[simp] theorem tby_56 : tby Go.Proofs.Try.prog 56 = some 40 := by kernel_rfl
@[simp] theorem tz_56 : tzero Go.Proofs.Try.prog 56 = some (.agg #[(.int .i64 0), (.int .i64 0), (.int .i64 0), (.string ⟨#[]⟩)]) := by kernel_rfl
@[simp] theorem fld_56_0 : fld Go.Proofs.Try.prog 56 0 = some (0, 3) := by kernel_rfl
@[simp] theorem fld_56_1 : fld Go.Proofs.Try.prog 56 1 = some (1, 3) := by kernel_rfl
@[simp] theorem fld_56_2 : fld Go.Proofs.Try.prog 56 2 = some (2, 3) := by kernel_rfl
@[simp] theorem fld_56_3 : fld Go.Proofs.Try.prog 56 3 = some (3, 9) := by kernel_rfl
@[simp] theorem flat_56 : flatT Go.Proofs.Try.prog 56 = some [0, 0, 0, 1] := by kernel_rfl
@[simp] theorem pl_56 : placesP Go.Proofs.Try.prog 56 = some [(0, 1), (1, 1), (2, 1), (3, 1)] := by kernel_rfl
@[simp] theorem tsz_57 : tsz Go.Proofs.Try.prog 57 = some 4 := by kernel_rfl
@[simp] theorem aggT_57 : aggT Go.Proofs.Try.prog 57 = some true := by kernel_rfl
@[simp] theorem tby_57 : tby Go.Proofs.Try.prog 57 = some 40 := by kernel_rfl
@[simp] theorem tz_57 : tzero Go.Proofs.Try.prog 57 = some (.agg #[(.int .i64 0), (.int .i64 0), (.int .i64 0), (.string ⟨#[]⟩)]) := by kernel_rfl
@[simp] theorem fld_57_0 : fld Go.Proofs.Try.prog 57 0 = some (0, 3) := by kernel_rfl
@[simp] theorem fld_57_1 : fld Go.Proofs.Try.prog 57 1 = some (1, 3) := by kernel_rfl
@[simp] theorem fld_57_2 : fld Go.Proofs.Try.prog 57 2 = some (2, 3) := by kernel_rfl
@[simp] theorem fld_57_3 : fld Go.Proofs.Try.prog 57 3 = some (3, 9) := by kernel_rfl
@[simp] theorem flat_57 : flatT Go.Proofs.Try.prog 57 = some [0, 0, 0, 1] := by kernel_rfl
@[simp] theorem pl_57 : placesP Go.Proofs.Try.prog 57 = some [(0, 1), (1, 1), (2, 1), (3, 1)] := by kernel_rfl
@[simp] theorem tsz_58 : tsz Go.Proofs.Try.prog 58 = some 1 := by kernel_rfl
@[simp] theorem aggT_58 : aggT Go.Proofs.Try.prog 58 = some false := by kernel_rfl
@[simp] theorem tby_58 : tby Go.Proofs.Try.prog 58 = some 8 := by kernel_rfl
@[simp] theorem tz_58 : tzero Go.Proofs.Try.prog 58 = some .nilFunc := by kernel_rfl
@[simp] theorem tsz_59 : tsz Go.Proofs.Try.prog 59 = some 1 := by kernel_rfl
@[simp] theorem aggT_59 : aggT Go.Proofs.Try.prog 59 = some false := by kernel_rfl
@[simp] theorem tby_59 : tby Go.Proofs.Try.prog 59 = some 8 := by kernel_rfl
@[simp] theorem tz_59 : tzero Go.Proofs.Try.prog 59 = some .nilFunc := by kernel_rfl
@[simp] theorem tsz_60 : tsz Go.Proofs.Try.prog 60 = some 1 := by kernel_rfl
@[simp] theorem aggT_60 : aggT Go.Proofs.Try.prog 60 = some false := by kernel_rfl
@[simp] theorem tby_60 : tby Go.Proofs.Try.prog 60 = some 8 := by kernel_rfl
@[simp] theorem tz_60 : tzero Go.Proofs.Try.prog 60 = some .nilFunc := by kernel_rfl
@[simp] theorem tsz_61 : tsz Go.Proofs.Try.prog 61 = some 1 := by kernel_rfl
@[simp] theorem aggT_61 : aggT Go.Proofs.Try.prog 61 = some false := by kernel_rfl
@[simp] theorem tby_61 : tby Go.Proofs.Try.prog 61 = some 8 := by kernel_rfl
@[simp] theorem tz_61 : tzero Go.Proofs.Try.prog 61 = some .nilFunc := by kernel_rfl
@[simp] theorem tsz_63 : tsz Go.Proofs.Try.prog 63 = some 1 := by kernel_rfl
@[simp] theorem aggT_63 : aggT Go.Proofs.Try.prog 63 = some false := by kernel_rfl
@[simp] theorem tby_63 : tby Go.Proofs.Try.prog 63 = some 8 := by kernel_rfl
@[simp] theorem tz_63 : tzero Go.Proofs.Try.prog 63 = some .nilFunc := by kernel_rfl
@[simp] theorem tsz_64 : tsz Go.Proofs.Try.prog 64 = some 1 := by kernel_rfl
@[simp] theorem aggT_64 : aggT Go.Proofs.Try.prog 64 = some false := by kernel_rfl
@[simp] theorem tby_64 : tby Go.Proofs.Try.prog 64 = some 8 := by kernel_rfl
@[simp] theorem tz_64 : tzero Go.Proofs.Try.prog 64 = some (.pointer none) := by kernel_rfl
@[simp] theorem ptrT_64 : ptrT Go.Proofs.Try.prog 64 = true := by kernel_rfl
@[simp] theorem tsz_65 : tsz Go.Proofs.Try.prog 65 = some 1 := by kernel_rfl
@[simp] theorem aggT_65 : aggT Go.Proofs.Try.prog 65 = some false := by kernel_rfl
@[simp] theorem tby_65 : tby Go.Proofs.Try.prog 65 = some 8 := by kernel_rfl
@[simp] theorem tz_65 : tzero Go.Proofs.Try.prog 65 = some .nilFunc := by kernel_rfl
@[simp] theorem tsz_66 : tsz Go.Proofs.Try.prog 66 = some 1 := by kernel_rfl
@[simp] theorem aggT_66 : aggT Go.Proofs.Try.prog 66 = some false := by kernel_rfl
@[simp] theorem tby_66 : tby Go.Proofs.Try.prog 66 = some 8 := by kernel_rfl
@[simp] theorem tz_66 : tzero Go.Proofs.Try.prog 66 = some .nilFunc := by kernel_rfl
@[simp] theorem tsz_67 : tsz Go.Proofs.Try.prog 67 = some 1 := by kernel_rfl
@[simp] theorem aggT_67 : aggT Go.Proofs.Try.prog 67 = some false := by kernel_rfl
@[simp] theorem tby_67 : tby Go.Proofs.Try.prog 67 = some 8 := by kernel_rfl
@[simp] theorem tz_67 : tzero Go.Proofs.Try.prog 67 = some .nilFunc := by kernel_rfl
@[simp] theorem tsz_68 : tsz Go.Proofs.Try.prog 68 = some 1 := by kernel_rfl
@[simp] theorem aggT_68 : aggT Go.Proofs.Try.prog 68 = some false := by kernel_rfl
@[simp] theorem tby_68 : tby Go.Proofs.Try.prog 68 = some 8 := by kernel_rfl
@[simp] theorem tz_68 : tzero Go.Proofs.Try.prog 68 = some .nilFunc := by kernel_rfl
@[simp] theorem tsz_69 : tsz Go.Proofs.Try.prog 69 = some 1 := by kernel_rfl
@[simp] theorem aggT_69 : aggT Go.Proofs.Try.prog 69 = some false := by kernel_rfl
@[simp] theorem tby_69 : tby Go.Proofs.Try.prog 69 = some 8 := by kernel_rfl
@[simp] theorem tz_69 : tzero Go.Proofs.Try.prog 69 = some (.pointer none) := by kernel_rfl
@[simp] theorem ptrT_69 : ptrT Go.Proofs.Try.prog 69 = true := by kernel_rfl
@[simp] theorem tsz_70 : tsz Go.Proofs.Try.prog 70 = some 1 := by kernel_rfl
@[simp] theorem aggT_70 : aggT Go.Proofs.Try.prog 70 = some false := by kernel_rfl
@[simp] theorem tby_70 : tby Go.Proofs.Try.prog 70 = some 24 := by kernel_rfl
@[simp] theorem tz_70 : tzero Go.Proofs.Try.prog 70 = some (.slice none 0 0) := by kernel_rfl
@[simp] theorem sliceT_70 : sliceT Go.Proofs.Try.prog 70 = some 5 := by kernel_rfl
@[simp] theorem strT_70 : isStrT Go.Proofs.Try.prog 70 = false := by kernel_rfl
@[simp] theorem und_70 : (Go.Proofs.Try.prog.underlying 70).isSome = true := by kernel_rfl
@[simp] theorem tsz_71 : tsz Go.Proofs.Try.prog 71 = some 2 := by kernel_rfl
@[simp] theorem aggT_71 : aggT Go.Proofs.Try.prog 71 = some true := by kernel_rfl
@[simp] theorem tby_71 : tby Go.Proofs.Try.prog 71 = some 32 := by kernel_rfl
@[simp] theorem tz_71 : tzero Go.Proofs.Try.prog 71 = some (.agg #[(.pointer none), (.slice none 0 0)]) := by kernel_rfl
@[simp] theorem fld_71_0 : fld Go.Proofs.Try.prog 71 0 = some (0, 69) := by kernel_rfl
@[simp] theorem fld_71_1 : fld Go.Proofs.Try.prog 71 1 = some (1, 70) := by kernel_rfl
@[simp] theorem pl_71 : placesP Go.Proofs.Try.prog 71 = some [(0, 1), (1, 1)] := by kernel_rfl
@[simp] theorem tsz_72 : tsz Go.Proofs.Try.prog 72 = some 2 := by kernel_rfl
@[simp] theorem aggT_72 : aggT Go.Proofs.Try.prog 72 = some true := by kernel_rfl
@[simp] theorem tby_72 : tby Go.Proofs.Try.prog 72 = some 32 := by kernel_rfl
@[simp] theorem tz_72 : tzero Go.Proofs.Try.prog 72 = some (.agg #[(.pointer none), (.slice none 0 0)]) := by kernel_rfl
@[simp] theorem fld_72_0 : fld Go.Proofs.Try.prog 72 0 = some (0, 69) := by kernel_rfl
@[simp] theorem fld_72_1 : fld Go.Proofs.Try.prog 72 1 = some (1, 70) := by kernel_rfl
@[simp] theorem pl_72 : placesP Go.Proofs.Try.prog 72 = some [(0, 1), (1, 1)] := by kernel_rfl
@[simp] theorem tsz_73 : tsz Go.Proofs.Try.prog 73 = some 1 := by kernel_rfl
@[simp] theorem aggT_73 : aggT Go.Proofs.Try.prog 73 = some false := by kernel_rfl
@[simp] theorem tby_73 : tby Go.Proofs.Try.prog 73 = some 16 := by kernel_rfl
@[simp] theorem tz_73 : tzero Go.Proofs.Try.prog 73 = some .nilIface := by kernel_rfl
@[simp] theorem tsz_74 : tsz Go.Proofs.Try.prog 74 = some 1 := by kernel_rfl
@[simp] theorem aggT_74 : aggT Go.Proofs.Try.prog 74 = some false := by kernel_rfl
@[simp] theorem tby_74 : tby Go.Proofs.Try.prog 74 = some 16 := by kernel_rfl
@[simp] theorem tz_74 : tzero Go.Proofs.Try.prog 74 = some .nilIface := by kernel_rfl
@[simp] theorem tsz_76 : tsz Go.Proofs.Try.prog 76 = some 1 := by kernel_rfl
@[simp] theorem aggT_76 : aggT Go.Proofs.Try.prog 76 = some false := by kernel_rfl
@[simp] theorem tby_76 : tby Go.Proofs.Try.prog 76 = some 8 := by kernel_rfl
@[simp] theorem tz_76 : tzero Go.Proofs.Try.prog 76 = some .nilFunc := by kernel_rfl
@[simp] theorem tsz_77 : tsz Go.Proofs.Try.prog 77 = some 4 := by kernel_rfl
@[simp] theorem aggT_77 : aggT Go.Proofs.Try.prog 77 = some true := by kernel_rfl
@[simp] theorem tby_77 : tby Go.Proofs.Try.prog 77 = some 48 := by kernel_rfl
@[simp] theorem tz_77 : tzero Go.Proofs.Try.prog 77 = some (.agg #[(.int .i64 0), (.string ⟨#[]⟩), (.string ⟨#[]⟩), (.int .i64 0)]) := by kernel_rfl
@[simp] theorem fld_77_0 : fld Go.Proofs.Try.prog 77 0 = some (0, 3) := by kernel_rfl
@[simp] theorem fld_77_1 : fld Go.Proofs.Try.prog 77 1 = some (1, 9) := by kernel_rfl
@[simp] theorem fld_77_2 : fld Go.Proofs.Try.prog 77 2 = some (2, 9) := by kernel_rfl
@[simp] theorem fld_77_3 : fld Go.Proofs.Try.prog 77 3 = some (3, 3) := by kernel_rfl
@[simp] theorem pl_77 : placesP Go.Proofs.Try.prog 77 = some [(0, 1), (1, 1), (2, 1), (3, 1)] := by kernel_rfl
@[simp] theorem tsz_78 : tsz Go.Proofs.Try.prog 78 = some 4 := by kernel_rfl
@[simp] theorem aggT_78 : aggT Go.Proofs.Try.prog 78 = some true := by kernel_rfl
@[simp] theorem tby_78 : tby Go.Proofs.Try.prog 78 = some 48 := by kernel_rfl
@[simp] theorem tz_78 : tzero Go.Proofs.Try.prog 78 = some (.agg #[(.int .i64 0), (.string ⟨#[]⟩), (.string ⟨#[]⟩), (.int .i64 0)]) := by kernel_rfl
@[simp] theorem fld_78_0 : fld Go.Proofs.Try.prog 78 0 = some (0, 3) := by kernel_rfl
@[simp] theorem fld_78_1 : fld Go.Proofs.Try.prog 78 1 = some (1, 9) := by kernel_rfl
@[simp] theorem fld_78_2 : fld Go.Proofs.Try.prog 78 2 = some (2, 9) := by kernel_rfl
@[simp] theorem fld_78_3 : fld Go.Proofs.Try.prog 78 3 = some (3, 3) := by kernel_rfl
@[simp] theorem flat_78 : flatT Go.Proofs.Try.prog 78 = some [0, 1, 1, 0] := by kernel_rfl
@[simp] theorem pl_78 : placesP Go.Proofs.Try.prog 78 = some [(0, 1), (1, 1), (2, 1), (3, 1)] := by kernel_rfl
@[simp] theorem tsz_79 : tsz Go.Proofs.Try.prog 79 = some 1 := by kernel_rfl
@[simp] theorem aggT_79 : aggT Go.Proofs.Try.prog 79 = some false := by kernel_rfl
@[simp] theorem tby_79 : tby Go.Proofs.Try.prog 79 = some 8 := by kernel_rfl
@[simp] theorem tz_79 : tzero Go.Proofs.Try.prog 79 = some .nilFunc := by kernel_rfl
@[simp] theorem tsz_80 : tsz Go.Proofs.Try.prog 80 = some 1 := by kernel_rfl
@[simp] theorem aggT_80 : aggT Go.Proofs.Try.prog 80 = some false := by kernel_rfl
@[simp] theorem tby_80 : tby Go.Proofs.Try.prog 80 = some 8 := by kernel_rfl
@[simp] theorem tz_80 : tzero Go.Proofs.Try.prog 80 = some .nilFunc := by kernel_rfl
@[simp] theorem tsz_82 : tsz Go.Proofs.Try.prog 82 = some 1 := by kernel_rfl
@[simp] theorem aggT_82 : aggT Go.Proofs.Try.prog 82 = some false := by kernel_rfl
@[simp] theorem tby_82 : tby Go.Proofs.Try.prog 82 = some 8 := by kernel_rfl
@[simp] theorem tz_82 : tzero Go.Proofs.Try.prog 82 = some .nilFunc := by kernel_rfl
@[simp] theorem tsz_83 : tsz Go.Proofs.Try.prog 83 = some 1 := by kernel_rfl
@[simp] theorem aggT_83 : aggT Go.Proofs.Try.prog 83 = some false := by kernel_rfl
@[simp] theorem tby_83 : tby Go.Proofs.Try.prog 83 = some 8 := by kernel_rfl
@[simp] theorem tz_83 : tzero Go.Proofs.Try.prog 83 = some .nilFunc := by kernel_rfl
@[simp] theorem tsz_84 : tsz Go.Proofs.Try.prog 84 = some 1 := by kernel_rfl
@[simp] theorem aggT_84 : aggT Go.Proofs.Try.prog 84 = some false := by kernel_rfl
@[simp] theorem tby_84 : tby Go.Proofs.Try.prog 84 = some 8 := by kernel_rfl
@[simp] theorem tz_84 : tzero Go.Proofs.Try.prog 84 = some (.map none) := by kernel_rfl
@[simp] theorem mapT_84 : mapT Go.Proofs.Try.prog 84 = some (9, 4) := by kernel_rfl
@[simp] theorem tsz_85 : tsz Go.Proofs.Try.prog 85 = some 1 := by kernel_rfl
@[simp] theorem aggT_85 : aggT Go.Proofs.Try.prog 85 = some false := by kernel_rfl
@[simp] theorem tby_85 : tby Go.Proofs.Try.prog 85 = some 8 := by kernel_rfl
@[simp] theorem tz_85 : tzero Go.Proofs.Try.prog 85 = some .nilFunc := by kernel_rfl
@[simp] theorem tsz_86 : tsz Go.Proofs.Try.prog 86 = some 1 := by kernel_rfl
@[simp] theorem aggT_86 : aggT Go.Proofs.Try.prog 86 = some false := by kernel_rfl
@[simp] theorem tby_86 : tby Go.Proofs.Try.prog 86 = some 8 := by kernel_rfl
@[simp] theorem tz_86 : tzero Go.Proofs.Try.prog 86 = some .nilFunc := by kernel_rfl
@[simp] theorem tsz_87 : tsz Go.Proofs.Try.prog 87 = some 1 := by kernel_rfl
@[simp] theorem aggT_87 : aggT Go.Proofs.Try.prog 87 = some false := by kernel_rfl
@[simp] theorem tby_87 : tby Go.Proofs.Try.prog 87 = some 8 := by kernel_rfl
@[simp] theorem tz_87 : tzero Go.Proofs.Try.prog 87 = some .nilFunc := by kernel_rfl
@[simp] theorem tsz_88 : tsz Go.Proofs.Try.prog 88 = some 1 := by kernel_rfl
@[simp] theorem aggT_88 : aggT Go.Proofs.Try.prog 88 = some false := by kernel_rfl
@[simp] theorem tby_88 : tby Go.Proofs.Try.prog 88 = some 8 := by kernel_rfl
@[simp] theorem tz_88 : tzero Go.Proofs.Try.prog 88 = some .nilFunc := by kernel_rfl
@[simp] theorem tsz_89 : tsz Go.Proofs.Try.prog 89 = some 1 := by kernel_rfl
@[simp] theorem aggT_89 : aggT Go.Proofs.Try.prog 89 = some false := by kernel_rfl
@[simp] theorem tby_89 : tby Go.Proofs.Try.prog 89 = some 8 := by kernel_rfl
@[simp] theorem tz_89 : tzero Go.Proofs.Try.prog 89 = some .nilFunc := by kernel_rfl
@[simp] theorem tsz_90 : tsz Go.Proofs.Try.prog 90 = some 1 := by kernel_rfl
@[simp] theorem aggT_90 : aggT Go.Proofs.Try.prog 90 = some false := by kernel_rfl
@[simp] theorem tby_90 : tby Go.Proofs.Try.prog 90 = some 8 := by kernel_rfl
@[simp] theorem tz_90 : tzero Go.Proofs.Try.prog 90 = some .nilFunc := by kernel_rfl
@[simp] theorem tsz_91 : tsz Go.Proofs.Try.prog 91 = some 1 := by kernel_rfl
@[simp] theorem aggT_91 : aggT Go.Proofs.Try.prog 91 = some false := by kernel_rfl
@[simp] theorem tby_91 : tby Go.Proofs.Try.prog 91 = some 8 := by kernel_rfl
@[simp] theorem tz_91 : tzero Go.Proofs.Try.prog 91 = some .nilFunc := by kernel_rfl
@[simp] theorem tsz_92 : tsz Go.Proofs.Try.prog 92 = some 1 := by kernel_rfl
@[simp] theorem aggT_92 : aggT Go.Proofs.Try.prog 92 = some false := by kernel_rfl
@[simp] theorem tby_92 : tby Go.Proofs.Try.prog 92 = some 8 := by kernel_rfl
@[simp] theorem tz_92 : tzero Go.Proofs.Try.prog 92 = some .nilFunc := by kernel_rfl
@[simp] theorem tsz_93 : tsz Go.Proofs.Try.prog 93 = some 1 := by kernel_rfl
@[simp] theorem aggT_93 : aggT Go.Proofs.Try.prog 93 = some false := by kernel_rfl
@[simp] theorem tby_93 : tby Go.Proofs.Try.prog 93 = some 8 := by kernel_rfl
@[simp] theorem tz_93 : tzero Go.Proofs.Try.prog 93 = some .nilFunc := by kernel_rfl
@[simp] theorem tsz_94 : tsz Go.Proofs.Try.prog 94 = some 1 := by kernel_rfl
@[simp] theorem aggT_94 : aggT Go.Proofs.Try.prog 94 = some false := by kernel_rfl
@[simp] theorem tby_94 : tby Go.Proofs.Try.prog 94 = some 8 := by kernel_rfl
@[simp] theorem tz_94 : tzero Go.Proofs.Try.prog 94 = some (.pointer none) := by kernel_rfl
@[simp] theorem ptrT_94 : ptrT Go.Proofs.Try.prog 94 = true := by kernel_rfl
@[simp] theorem tsz_95 : tsz Go.Proofs.Try.prog 95 = some 1 := by kernel_rfl
@[simp] theorem aggT_95 : aggT Go.Proofs.Try.prog 95 = some false := by kernel_rfl
@[simp] theorem tby_95 : tby Go.Proofs.Try.prog 95 = some 8 := by kernel_rfl
@[simp] theorem tz_95 : tzero Go.Proofs.Try.prog 95 = some (.int .u64 0) := by kernel_rfl
@[simp] theorem intT_95 : intT Go.Proofs.Try.prog 95 = some .u64 := by kernel_rfl
@[simp] theorem und_95 : (Go.Proofs.Try.prog.underlying 95).isSome = true := by kernel_rfl
@[simp] theorem tsz_96 : tsz Go.Proofs.Try.prog 96 = some 1 := by kernel_rfl
@[simp] theorem aggT_96 : aggT Go.Proofs.Try.prog 96 = some false := by kernel_rfl
@[simp] theorem tby_96 : tby Go.Proofs.Try.prog 96 = some 8 := by kernel_rfl
@[simp] theorem tz_96 : tzero Go.Proofs.Try.prog 96 = some .nilFunc := by kernel_rfl
@[simp] theorem tsz_97 : tsz Go.Proofs.Try.prog 97 = some 1 := by kernel_rfl
@[simp] theorem aggT_97 : aggT Go.Proofs.Try.prog 97 = some false := by kernel_rfl
@[simp] theorem tby_97 : tby Go.Proofs.Try.prog 97 = some 8 := by kernel_rfl
@[simp] theorem tz_97 : tzero Go.Proofs.Try.prog 97 = some .nilFunc := by kernel_rfl
@[simp] theorem tsz_98 : tsz Go.Proofs.Try.prog 98 = some 1 := by kernel_rfl
@[simp] theorem aggT_98 : aggT Go.Proofs.Try.prog 98 = some false := by kernel_rfl
@[simp] theorem tby_98 : tby Go.Proofs.Try.prog 98 = some 8 := by kernel_rfl
@[simp] theorem tz_98 : tzero Go.Proofs.Try.prog 98 = some .nilFunc := by kernel_rfl
@[simp] theorem tsz_99 : tsz Go.Proofs.Try.prog 99 = some 1 := by kernel_rfl
@[simp] theorem aggT_99 : aggT Go.Proofs.Try.prog 99 = some false := by kernel_rfl
@[simp] theorem tby_99 : tby Go.Proofs.Try.prog 99 = some 8 := by kernel_rfl
@[simp] theorem tz_99 : tzero Go.Proofs.Try.prog 99 = some .nilFunc := by kernel_rfl
@[simp] theorem tsz_100 : tsz Go.Proofs.Try.prog 100 = some 1 := by kernel_rfl
@[simp] theorem aggT_100 : aggT Go.Proofs.Try.prog 100 = some false := by kernel_rfl
@[simp] theorem tby_100 : tby Go.Proofs.Try.prog 100 = some 8 := by kernel_rfl
@[simp] theorem tz_100 : tzero Go.Proofs.Try.prog 100 = some .nilFunc := by kernel_rfl
@[simp] theorem tsz_101 : tsz Go.Proofs.Try.prog 101 = some 1 := by kernel_rfl
@[simp] theorem aggT_101 : aggT Go.Proofs.Try.prog 101 = some false := by kernel_rfl
@[simp] theorem tby_101 : tby Go.Proofs.Try.prog 101 = some 8 := by kernel_rfl
@[simp] theorem tz_101 : tzero Go.Proofs.Try.prog 101 = some .nilFunc := by kernel_rfl
@[simp] theorem tsz_103 : tsz Go.Proofs.Try.prog 103 = some 1 := by kernel_rfl
@[simp] theorem aggT_103 : aggT Go.Proofs.Try.prog 103 = some false := by kernel_rfl
@[simp] theorem tby_103 : tby Go.Proofs.Try.prog 103 = some 8 := by kernel_rfl
@[simp] theorem tz_103 : tzero Go.Proofs.Try.prog 103 = some .nilFunc := by kernel_rfl
@[simp] theorem tsz_104 : tsz Go.Proofs.Try.prog 104 = some 1 := by kernel_rfl
@[simp] theorem aggT_104 : aggT Go.Proofs.Try.prog 104 = some false := by kernel_rfl
@[simp] theorem tby_104 : tby Go.Proofs.Try.prog 104 = some 8 := by kernel_rfl
@[simp] theorem tz_104 : tzero Go.Proofs.Try.prog 104 = some .nilFunc := by kernel_rfl
@[simp] theorem tsz_105 : tsz Go.Proofs.Try.prog 105 = some 1 := by kernel_rfl
@[simp] theorem aggT_105 : aggT Go.Proofs.Try.prog 105 = some false := by kernel_rfl
@[simp] theorem tby_105 : tby Go.Proofs.Try.prog 105 = some 8 := by kernel_rfl
@[simp] theorem tz_105 : tzero Go.Proofs.Try.prog 105 = some .nilFunc := by kernel_rfl
@[simp] theorem tsz_106 : tsz Go.Proofs.Try.prog 106 = some 1 := by kernel_rfl
@[simp] theorem aggT_106 : aggT Go.Proofs.Try.prog 106 = some false := by kernel_rfl
@[simp] theorem tby_106 : tby Go.Proofs.Try.prog 106 = some 8 := by kernel_rfl
@[simp] theorem tz_106 : tzero Go.Proofs.Try.prog 106 = some .nilFunc := by kernel_rfl
@[simp] theorem tsz_107 : tsz Go.Proofs.Try.prog 107 = some 1 := by kernel_rfl
@[simp] theorem aggT_107 : aggT Go.Proofs.Try.prog 107 = some false := by kernel_rfl
@[simp] theorem tby_107 : tby Go.Proofs.Try.prog 107 = some 8 := by kernel_rfl
@[simp] theorem tz_107 : tzero Go.Proofs.Try.prog 107 = some .nilFunc := by kernel_rfl
@[simp] theorem tsz_108 : tsz Go.Proofs.Try.prog 108 = some 1 := by kernel_rfl
@[simp] theorem aggT_108 : aggT Go.Proofs.Try.prog 108 = some false := by kernel_rfl
@[simp] theorem tby_108 : tby Go.Proofs.Try.prog 108 = some 8 := by kernel_rfl
@[simp] theorem tz_108 : tzero Go.Proofs.Try.prog 108 = some .nilFunc := by kernel_rfl
@[simp] theorem tsz_109 : tsz Go.Proofs.Try.prog 109 = some 1 := by kernel_rfl
@[simp] theorem aggT_109 : aggT Go.Proofs.Try.prog 109 = some false := by kernel_rfl
@[simp] theorem tby_109 : tby Go.Proofs.Try.prog 109 = some 8 := by kernel_rfl
@[simp] theorem tz_109 : tzero Go.Proofs.Try.prog 109 = some (.int .i64 0) := by kernel_rfl
@[simp] theorem intT_109 : intT Go.Proofs.Try.prog 109 = some .i64 := by kernel_rfl
@[simp] theorem und_109 : (Go.Proofs.Try.prog.underlying 109).isSome = true := by kernel_rfl
@[simp] theorem tsz_111 : tsz Go.Proofs.Try.prog 111 = some 1 := by kernel_rfl
@[simp] theorem aggT_111 : aggT Go.Proofs.Try.prog 111 = some false := by kernel_rfl
@[simp] theorem tby_111 : tby Go.Proofs.Try.prog 111 = some 8 := by kernel_rfl
@[simp] theorem tz_111 : tzero Go.Proofs.Try.prog 111 = some .nilFunc := by kernel_rfl
@[simp] theorem tsz_112 : tsz Go.Proofs.Try.prog 112 = some 1 := by kernel_rfl
@[simp] theorem aggT_112 : aggT Go.Proofs.Try.prog 112 = some false := by kernel_rfl
@[simp] theorem tby_112 : tby Go.Proofs.Try.prog 112 = some 8 := by kernel_rfl
@[simp] theorem tz_112 : tzero Go.Proofs.Try.prog 112 = some .nilFunc := by kernel_rfl
@[simp] theorem tsz_113 : tsz Go.Proofs.Try.prog 113 = some 1 := by kernel_rfl
@[simp] theorem aggT_113 : aggT Go.Proofs.Try.prog 113 = some false := by kernel_rfl
@[simp] theorem tby_113 : tby Go.Proofs.Try.prog 113 = some 8 := by kernel_rfl
@[simp] theorem tz_113 : tzero Go.Proofs.Try.prog 113 = some .nilFunc := by kernel_rfl
@[simp] theorem tsz_114 : tsz Go.Proofs.Try.prog 114 = some 1 := by kernel_rfl
@[simp] theorem aggT_114 : aggT Go.Proofs.Try.prog 114 = some false := by kernel_rfl
@[simp] theorem tby_114 : tby Go.Proofs.Try.prog 114 = some 8 := by kernel_rfl
@[simp] theorem tz_114 : tzero Go.Proofs.Try.prog 114 = some .nilFunc := by kernel_rfl
@[simp] theorem tsz_115 : tsz Go.Proofs.Try.prog 115 = some 1 := by kernel_rfl
@[simp] theorem aggT_115 : aggT Go.Proofs.Try.prog 115 = some false := by kernel_rfl
@[simp] theorem tby_115 : tby Go.Proofs.Try.prog 115 = some 8 := by kernel_rfl
@[simp] theorem tz_115 : tzero Go.Proofs.Try.prog 115 = some .nilFunc := by kernel_rfl
@[simp] theorem tsz_116 : tsz Go.Proofs.Try.prog 116 = some 1 := by kernel_rfl
@[simp] theorem aggT_116 : aggT Go.Proofs.Try.prog 116 = some false := by kernel_rfl
@[simp] theorem tby_116 : tby Go.Proofs.Try.prog 116 = some 8 := by kernel_rfl
@[simp] theorem tz_116 : tzero Go.Proofs.Try.prog 116 = some .nilFunc := by kernel_rfl
@[simp] theorem tsz_117 : tsz Go.Proofs.Try.prog 117 = some 1 := by kernel_rfl
@[simp] theorem aggT_117 : aggT Go.Proofs.Try.prog 117 = some false := by kernel_rfl
@[simp] theorem tby_117 : tby Go.Proofs.Try.prog 117 = some 4 := by kernel_rfl
@[simp] theorem tz_117 : tzero Go.Proofs.Try.prog 117 = some (.int .u32 0) := by kernel_rfl
@[simp] theorem intT_117 : intT Go.Proofs.Try.prog 117 = some .u32 := by kernel_rfl
@[simp] theorem und_117 : (Go.Proofs.Try.prog.underlying 117).isSome = true := by kernel_rfl
@[simp] theorem tsz_118 : tsz Go.Proofs.Try.prog 118 = some 1 := by kernel_rfl
@[simp] theorem aggT_118 : aggT Go.Proofs.Try.prog 118 = some false := by kernel_rfl
@[simp] theorem tby_118 : tby Go.Proofs.Try.prog 118 = some 8 := by kernel_rfl
@[simp] theorem tz_118 : tzero Go.Proofs.Try.prog 118 = some .nilFunc := by kernel_rfl
@[simp] theorem tsz_119 : tsz Go.Proofs.Try.prog 119 = some 1 := by kernel_rfl
@[simp] theorem aggT_119 : aggT Go.Proofs.Try.prog 119 = some false := by kernel_rfl
@[simp] theorem tby_119 : tby Go.Proofs.Try.prog 119 = some 8 := by kernel_rfl
@[simp] theorem tz_119 : tzero Go.Proofs.Try.prog 119 = some (.int .u64 0) := by kernel_rfl
@[simp] theorem intT_119 : intT Go.Proofs.Try.prog 119 = some .u64 := by kernel_rfl
@[simp] theorem und_119 : (Go.Proofs.Try.prog.underlying 119).isSome = true := by kernel_rfl
@[simp] theorem tsz_120 : tsz Go.Proofs.Try.prog 120 = some 1 := by kernel_rfl
@[simp] theorem aggT_120 : aggT Go.Proofs.Try.prog 120 = some false := by kernel_rfl
@[simp] theorem tby_120 : tby Go.Proofs.Try.prog 120 = some 8 := by kernel_rfl
@[simp] theorem tz_120 : tzero Go.Proofs.Try.prog 120 = some (.int .u64 0) := by kernel_rfl
@[simp] theorem intT_120 : intT Go.Proofs.Try.prog 120 = some .u64 := by kernel_rfl
@[simp] theorem und_120 : (Go.Proofs.Try.prog.underlying 120).isSome = true := by kernel_rfl
@[simp] theorem tsz_121 : tsz Go.Proofs.Try.prog 121 = some 1 := by kernel_rfl
@[simp] theorem aggT_121 : aggT Go.Proofs.Try.prog 121 = some false := by kernel_rfl
@[simp] theorem tby_121 : tby Go.Proofs.Try.prog 121 = some 8 := by kernel_rfl
@[simp] theorem tz_121 : tzero Go.Proofs.Try.prog 121 = some .nilFunc := by kernel_rfl
@[simp] theorem tsz_122 : tsz Go.Proofs.Try.prog 122 = some 1 := by kernel_rfl
@[simp] theorem aggT_122 : aggT Go.Proofs.Try.prog 122 = some false := by kernel_rfl
@[simp] theorem tby_122 : tby Go.Proofs.Try.prog 122 = some 8 := by kernel_rfl
@[simp] theorem tz_122 : tzero Go.Proofs.Try.prog 122 = some .nilFunc := by kernel_rfl
@[simp] theorem tsz_123 : tsz Go.Proofs.Try.prog 123 = some 1 := by kernel_rfl
@[simp] theorem aggT_123 : aggT Go.Proofs.Try.prog 123 = some false := by kernel_rfl
@[simp] theorem tby_123 : tby Go.Proofs.Try.prog 123 = some 8 := by kernel_rfl
@[simp] theorem tz_123 : tzero Go.Proofs.Try.prog 123 = some .nilFunc := by kernel_rfl
@[simp] theorem tsz_124 : tsz Go.Proofs.Try.prog 124 = some 1 := by kernel_rfl
@[simp] theorem aggT_124 : aggT Go.Proofs.Try.prog 124 = some false := by kernel_rfl
@[simp] theorem tby_124 : tby Go.Proofs.Try.prog 124 = some 8 := by kernel_rfl
@[simp] theorem tz_124 : tzero Go.Proofs.Try.prog 124 = some (.pointer none) := by kernel_rfl
@[simp] theorem ptrT_124 : ptrT Go.Proofs.Try.prog 124 = true := by kernel_rfl
@[simp] theorem tsz_125 : tsz Go.Proofs.Try.prog 125 = some 1 := by kernel_rfl
@[simp] theorem aggT_125 : aggT Go.Proofs.Try.prog 125 = some false := by kernel_rfl
@[simp] theorem tby_125 : tby Go.Proofs.Try.prog 125 = some 8 := by kernel_rfl
@[simp] theorem tz_125 : tzero Go.Proofs.Try.prog 125 = some .nilFunc := by kernel_rfl
@[simp] theorem tsz_126 : tsz Go.Proofs.Try.prog 126 = some 1 := by kernel_rfl
@[simp] theorem aggT_126 : aggT Go.Proofs.Try.prog 126 = some false := by kernel_rfl
@[simp] theorem tby_126 : tby Go.Proofs.Try.prog 126 = some 8 := by kernel_rfl
@[simp] theorem tz_126 : tzero Go.Proofs.Try.prog 126 = some (.pointer none) := by kernel_rfl
@[simp] theorem ptrT_126 : ptrT Go.Proofs.Try.prog 126 = true := by kernel_rfl
@[simp] theorem tsz_128 : tsz Go.Proofs.Try.prog 128 = some 1 := by kernel_rfl
@[simp] theorem aggT_128 : aggT Go.Proofs.Try.prog 128 = some false := by kernel_rfl
@[simp] theorem tby_128 : tby Go.Proofs.Try.prog 128 = some 8 := by kernel_rfl
@[simp] theorem tz_128 : tzero Go.Proofs.Try.prog 128 = some .nilFunc := by kernel_rfl
@[simp] theorem tsz_129 : tsz Go.Proofs.Try.prog 129 = some 4 := by kernel_rfl
@[simp] theorem aggT_129 : aggT Go.Proofs.Try.prog 129 = some true := by kernel_rfl
@[simp] theorem tsz_130 : tsz Go.Proofs.Try.prog 130 = some 4 := by kernel_rfl
@[simp] theorem aggT_130 : aggT Go.Proofs.Try.prog 130 = some true := by kernel_rfl
@[simp] theorem tsz_131 : tsz Go.Proofs.Try.prog 131 = some 0 := by kernel_rfl
@[simp] theorem aggT_131 : aggT Go.Proofs.Try.prog 131 = some true := by kernel_rfl
@[simp] theorem tby_131 : tby Go.Proofs.Try.prog 131 = some 0 := by kernel_rfl
@[simp] theorem tz_131 : tzero Go.Proofs.Try.prog 131 = some (.agg #[]) := by kernel_rfl
@[simp] theorem arrT_131 : arrT Go.Proofs.Try.prog 131 = some (0, 16) := by kernel_rfl
@[simp] theorem pl_131 : placesP Go.Proofs.Try.prog 131 = none := by kernel_rfl
@[simp] theorem tsz_132 : tsz Go.Proofs.Try.prog 132 = some 0 := by kernel_rfl
@[simp] theorem aggT_132 : aggT Go.Proofs.Try.prog 132 = some true := by kernel_rfl
@[simp] theorem tby_132 : tby Go.Proofs.Try.prog 132 = some 0 := by kernel_rfl
@[simp] theorem tz_132 : tzero Go.Proofs.Try.prog 132 = some (.agg #[]) := by kernel_rfl
@[simp] theorem fld_132_0 : fld Go.Proofs.Try.prog 132 0 = some (0, 131) := by kernel_rfl
@[simp] theorem pl_132 : placesP Go.Proofs.Try.prog 132 = some [(0, 0)] := by kernel_rfl
@[simp] theorem tsz_133 : tsz Go.Proofs.Try.prog 133 = some 0 := by kernel_rfl
@[simp] theorem aggT_133 : aggT Go.Proofs.Try.prog 133 = some true := by kernel_rfl
@[simp] theorem tsz_134 : tsz Go.Proofs.Try.prog 134 = some 1 := by kernel_rfl
@[simp] theorem aggT_134 : aggT Go.Proofs.Try.prog 134 = some false := by kernel_rfl
@[simp] theorem tby_134 : tby Go.Proofs.Try.prog 134 = some 8 := by kernel_rfl
@[simp] theorem tz_134 : tzero Go.Proofs.Try.prog 134 = some .nilFunc := by kernel_rfl
@[simp] theorem tsz_135 : tsz Go.Proofs.Try.prog 135 = some 1 := by kernel_rfl
@[simp] theorem aggT_135 : aggT Go.Proofs.Try.prog 135 = some false := by kernel_rfl
@[simp] theorem tsz_136 : tsz Go.Proofs.Try.prog 136 = some 1 := by kernel_rfl
@[simp] theorem aggT_136 : aggT Go.Proofs.Try.prog 136 = some false := by kernel_rfl
@[simp] theorem tsz_137 : tsz Go.Proofs.Try.prog 137 = some 1 := by kernel_rfl
@[simp] theorem aggT_137 : aggT Go.Proofs.Try.prog 137 = some false := by kernel_rfl
@[simp] theorem tby_137 : tby Go.Proofs.Try.prog 137 = some 8 := by kernel_rfl
@[simp] theorem tz_137 : tzero Go.Proofs.Try.prog 137 = some .nilFunc := by kernel_rfl
@[simp] theorem tsz_138 : tsz Go.Proofs.Try.prog 138 = some 1 := by kernel_rfl
@[simp] theorem aggT_138 : aggT Go.Proofs.Try.prog 138 = some false := by kernel_rfl
@[simp] theorem tsz_139 : tsz Go.Proofs.Try.prog 139 = some 1 := by kernel_rfl
@[simp] theorem aggT_139 : aggT Go.Proofs.Try.prog 139 = some false := by kernel_rfl
@[simp] theorem tsz_140 : tsz Go.Proofs.Try.prog 140 = some 11 := by kernel_rfl
@[simp] theorem aggT_140 : aggT Go.Proofs.Try.prog 140 = some true := by kernel_rfl
@[simp] theorem tsz_141 : tsz Go.Proofs.Try.prog 141 = some 11 := by kernel_rfl
@[simp] theorem aggT_141 : aggT Go.Proofs.Try.prog 141 = some true := by kernel_rfl
@[simp] theorem mixed_ : Go.Proofs.Try.prog.follows .mixedOrders = true := by kernel_rfl
end Go.Pv
