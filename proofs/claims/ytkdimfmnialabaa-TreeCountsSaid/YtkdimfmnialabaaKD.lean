/- Several texts, one behind the other. -/
import Derived.Test.YtkdimfmnialabaaKC
import Derived.Test.YtkdimfmnialabaaProg
import Derived.Test.YtkdimfmnialabaaKB
import Derived.Deep.Slices
import Derived.ChangeSame
import Derived.ProofKit
/- The types of this seat, for a symbolic walk. Written by a program: gti.py. -/
namespace Go.Pv
set_option maxRecDepth 100000
def ti_size : List (Nat × (Nat × Bool)) := [(1, (1, false)), (2, (1, false)), (3, (1, false)), (4, (1, false)), (5, (1, false)), (6, (1, false)), (7, (4, true)), (8, (4, true)), (9, (1, false)), (10, (1, false)), (11, (1, false)), (12, (1, false)), (13, (2, true)), (14, (2, true)), (15, (1, false)), (16, (1, false)), (17, (1, false)), (18, (1, true)), (19, (1, true)), (20, (1, false)), (21, (1, false)), (22, (1, false)), (23, (6, true)), (24, (6, true)), (25, (1, false)), (26, (1, false)), (27, (1, false)), (28, (1, false)), (29, (1, false)), (30, (1, false)), (31, (1, false)), (32, (1, false)), (33, (1, false)), (34, (1, false)), (35, (1, false)), (36, (1, false)), (37, (1, false)), (38, (1, false)), (39, (1, false)), (40, (1, false)), (41, (1, false)), (42, (1, false)), (43, (1, false)), (44, (1, false)), (45, (1, false)), (46, (1, false)), (47, (1, false)), (48, (4, true)), (49, (4, true)), (50, (1, false)), (51, (1, false)), (52, (1, false)), (53, (1, false)), (54, (1, false)), (55, (1, false)), (56, (1, false)), (57, (1, false)), (58, (1, false)), (59, (1, false)), (60, (1, false)), (61, (1, false)), (63, (1, false)), (64, (1, false)), (65, (1, false)), (66, (1, false)), (68, (1, false)), (69, (1, false)), (70, (1, false)), (71, (1, false)), (72, (1, false)), (73, (1, false)), (74, (1, false)), (75, (1, false)), (76, (1, false)), (77, (1, false)), (78, (1, false)), (79, (1, false)), (81, (1, false)), (82, (1, false)), (83, (4, true)), (84, (4, true)), (85, (0, true)), (86, (0, true)), (87, (0, true)), (88, (1, false)), (89, (1, false)), (90, (1, false)), (91, (1, false)), (92, (1, false)), (93, (1, false)), (94, (1, false)), (95, (11, true)), (96, (11, true)), (97, (4, true)), (98, (4, true))]
def ti_zero : List (Nat × Value) := [(1, .nilFunc), (2, (.int .i64 0)), (3, (.int .i64 0)), (4, (.bool false)), (5, (.int .u8 0)), (9, (.string ⟨#[]⟩)), (12, (.int .u64 0)), (13, (.agg #[(.string ⟨#[]⟩), (.int .u64 0)])), (15, (.pointer none)), (16, (.pointer none)), (19, (.agg #[(.pointer none)])), (20, .nilIface), (21, (.int .i32 0)), (22, (.slice none 0 0)), (23, (.agg #[(.int .i64 0), (.string ⟨#[]⟩), (.int .i64 0), (.int .i64 0), (.int .i64 0), (.slice none 0 0)])), (24, (.agg #[(.int .i64 0), (.string ⟨#[]⟩), (.int .i64 0), (.int .i64 0), (.int .i64 0), (.slice none 0 0)])), (25, .nilFunc), (26, .nilFunc), (27, .nilFunc), (28, .nilFunc), (29, (.slice none 0 0)), (30, .nilFunc), (31, .nilFunc), (32, (.slice none 0 0)), (33, (.slice none 0 0)), (34, .nilFunc), (35, .nilFunc), (36, (.map none)), (37, .nilFunc), (38, .nilFunc), (39, .nilFunc), (40, .nilFunc), (41, .nilFunc), (42, .nilFunc), (43, .nilFunc), (44, .nilFunc), (45, .nilFunc), (46, .nilFunc), (47, .nilFunc), (48, (.agg #[(.int .i64 0), (.int .i64 0), (.int .i64 0), (.string ⟨#[]⟩)])), (49, (.agg #[(.int .i64 0), (.int .i64 0), (.int .i64 0), (.string ⟨#[]⟩)])), (50, .nilFunc), (51, .nilFunc), (52, .nilFunc), (53, .nilFunc), (54, .nilFunc), (55, .nilFunc), (56, .nilFunc), (57, .nilFunc), (58, .nilFunc), (59, (.int .u64 0)), (60, .nilFunc), (61, (.int .i64 0)), (63, .nilFunc), (64, .nilFunc), (65, .nilFunc), (66, .nilFunc), (68, .nilFunc), (69, .nilFunc), (70, (.int .u32 0)), (71, .nilFunc), (72, (.int .u64 0)), (73, (.int .u64 0)), (74, .nilFunc), (75, .nilFunc), (76, .nilFunc), (77, (.pointer none)), (78, .nilFunc), (79, (.pointer none)), (81, .nilFunc), (82, .nilFunc), (85, (.agg #[])), (86, (.agg #[])), (88, .nilFunc), (91, .nilFunc), (92, (.pointer none)), (97, (.agg #[(.int .i64 0), (.string ⟨#[]⟩), (.string ⟨#[]⟩), (.int .i64 0)])), (98, (.agg #[(.int .i64 0), (.string ⟨#[]⟩), (.string ⟨#[]⟩), (.int .i64 0)]))]
def ti_flds : List (Nat × List (Nat × Nat)) := [(13, [(0, 9), (1, 12)]), (19, [(0, 17)]), (23, [(0, 3), (1, 9), (2, 3), (3, 3), (4, 3), (5, 22)]), (24, [(0, 3), (1, 9), (2, 3), (3, 3), (4, 3), (5, 22)]), (48, [(0, 3), (1, 3), (2, 3), (3, 9)]), (49, [(0, 3), (1, 3), (2, 3), (3, 9)]), (86, [(0, 85)]), (97, [(0, 3), (1, 9), (2, 9), (3, 3)]), (98, [(0, 3), (1, 9), (2, 9), (3, 3)])]
def ti_plc : List (Nat × List (Nat × Nat)) := [(13, [(0, 1), (1, 1)]), (19, [(0, 1)]), (23, [(0, 1), (1, 1), (2, 1), (3, 1), (4, 1), (5, 1)]), (24, [(0, 1), (1, 1), (2, 1), (3, 1), (4, 1), (5, 1)]), (48, [(0, 1), (1, 1), (2, 1), (3, 1)]), (49, [(0, 1), (1, 1), (2, 1), (3, 1)]), (86, [(0, 0)]), (97, [(0, 1), (1, 1), (2, 1), (3, 1)]), (98, [(0, 1), (1, 1), (2, 1), (3, 1)])]
def ti_slc : List (Nat × Nat) := [(22, 24), (29, 9), (32, 98), (33, 3)]
def ti_apd : List (Nat × (Nat × Nat × Nat)) := [(22, (24, 6, 72)), (29, (9, 1, 16)), (32, (98, 4, 48)), (33, (3, 1, 8))]
def ti_arr : List (Nat × (Nat × Nat)) := [(85, (0, 16))]
def ti_maps : List (Nat × (Option IntKind × Value)) := [(36, (none, (.bool false)))]
def ti_bools : List (Nat × Unit) := [(4, ())]
def ti_strs : List (Nat × Unit) := [(9, ())]
def TI0 : TI := { size := ti_size, zero := ti_zero, flds := ti_flds, plc := ti_plc, slc := ti_slc, apd := ti_apd, arr := ti_arr, maps := ti_maps, bools := ti_bools, strs := ti_strs }
theorem ti_ok : TIok Go.Proofs.Try.prog TI0 := ⟨by kernel_rfl, by kernel_rfl, by kernel_rfl, by kernel_rfl, by kernel_rfl, by kernel_rfl, by kernel_rfl, by kernel_rfl, by kernel_rfl, by kernel_rfl, by kernel_rfl, by kernel_rfl⟩
end Go.Pv

/- What the types of this seat are. Written by a program: gents.py. -/
namespace Go.Pv
set_option linter.unusedVariables false
@[simp] theorem tsz_1 : tsz Go.Proofs.Try.prog 1 = some 1 := by kernel_rfl
@[simp] theorem aggT_1 : aggT Go.Proofs.Try.prog 1 = some false := by kernel_rfl
@[simp] theorem tby_1 : tby Go.Proofs.Try.prog 1 = some 8 := by kernel_rfl
@[simp] theorem tz_1 : tzero Go.Proofs.Try.prog 1 = some .nilFunc := by kernel_rfl
@[simp] theorem tsz_2 : tsz Go.Proofs.Try.prog 2 = some 1 := by kernel_rfl
@[simp] theorem aggT_2 : aggT Go.Proofs.Try.prog 2 = some false := by kernel_rfl
@[simp] theorem tby_2 : tby Go.Proofs.Try.prog 2 = some 8 := by kernel_rfl
@[simp] theorem tz_2 : tzero Go.Proofs.Try.prog 2 = some (.int .i64 0) := by kernel_rfl
@[simp] theorem intT_2 : intT Go.Proofs.Try.prog 2 = some .i64 := by kernel_rfl
@[simp] theorem und_2 : (Go.Proofs.Try.prog.underlying 2).isSome = true := by kernel_rfl
@[simp] theorem tsz_3 : tsz Go.Proofs.Try.prog 3 = some 1 := by kernel_rfl
@[simp] theorem aggT_3 : aggT Go.Proofs.Try.prog 3 = some false := by kernel_rfl
@[simp] theorem tby_3 : tby Go.Proofs.Try.prog 3 = some 8 := by kernel_rfl
@[simp] theorem tz_3 : tzero Go.Proofs.Try.prog 3 = some (.int .i64 0) := by kernel_rfl
@[simp] theorem intT_3 : intT Go.Proofs.Try.prog 3 = some .i64 := by kernel_rfl
@[simp] theorem und_3 : (Go.Proofs.Try.prog.underlying 3).isSome = true := by kernel_rfl
@[simp] theorem tsz_4 : tsz Go.Proofs.Try.prog 4 = some 1 := by kernel_rfl
@[simp] theorem aggT_4 : aggT Go.Proofs.Try.prog 4 = some false := by kernel_rfl
@[simp] theorem tby_4 : tby Go.Proofs.Try.prog 4 = some 1 := by kernel_rfl
@[simp] theorem tz_4 : tzero Go.Proofs.Try.prog 4 = some (.bool false) := by kernel_rfl
@[simp] theorem boolT_4 : isBoolT Go.Proofs.Try.prog 4 = true := by kernel_rfl
@[simp] theorem tsz_5 : tsz Go.Proofs.Try.prog 5 = some 1 := by kernel_rfl
@[simp] theorem aggT_5 : aggT Go.Proofs.Try.prog 5 = some false := by kernel_rfl
@[simp] theorem tby_5 : tby Go.Proofs.Try.prog 5 = some 1 := by kernel_rfl
@[simp] theorem tz_5 : tzero Go.Proofs.Try.prog 5 = some (.int .u8 0) := by kernel_rfl
@[simp] theorem intT_5 : intT Go.Proofs.Try.prog 5 = some .u8 := by kernel_rfl
@[simp] theorem und_5 : (Go.Proofs.Try.prog.underlying 5).isSome = true := by kernel_rfl
@[simp] theorem tsz_6 : tsz Go.Proofs.Try.prog 6 = some 1 := by kernel_rfl
@[simp] theorem aggT_6 : aggT Go.Proofs.Try.prog 6 = some false := by kernel_rfl
@[simp] theorem tsz_7 : tsz Go.Proofs.Try.prog 7 = some 4 := by kernel_rfl
@[simp] theorem aggT_7 : aggT Go.Proofs.Try.prog 7 = some true := by kernel_rfl
@[simp] theorem tsz_8 : tsz Go.Proofs.Try.prog 8 = some 4 := by kernel_rfl
@[simp] theorem aggT_8 : aggT Go.Proofs.Try.prog 8 = some true := by kernel_rfl
@[simp] theorem tsz_9 : tsz Go.Proofs.Try.prog 9 = some 1 := by kernel_rfl
@[simp] theorem aggT_9 : aggT Go.Proofs.Try.prog 9 = some false := by kernel_rfl
@[simp] theorem tby_9 : tby Go.Proofs.Try.prog 9 = some 16 := by kernel_rfl
@[simp] theorem tz_9 : tzero Go.Proofs.Try.prog 9 = some (.string ⟨#[]⟩) := by kernel_rfl
@[simp] theorem strT_9 : isStrT Go.Proofs.Try.prog 9 = true := by kernel_rfl
@[simp] theorem sliceT_9 : sliceT Go.Proofs.Try.prog 9 = none := by kernel_rfl
@[simp] theorem und_9 : (Go.Proofs.Try.prog.underlying 9).isSome = true := by kernel_rfl
@[simp] theorem tsz_10 : tsz Go.Proofs.Try.prog 10 = some 1 := by kernel_rfl
@[simp] theorem aggT_10 : aggT Go.Proofs.Try.prog 10 = some false := by kernel_rfl
@[simp] theorem tsz_11 : tsz Go.Proofs.Try.prog 11 = some 1 := by kernel_rfl
@[simp] theorem aggT_11 : aggT Go.Proofs.Try.prog 11 = some false := by kernel_rfl
@[simp] theorem tsz_12 : tsz Go.Proofs.Try.prog 12 = some 1 := by kernel_rfl
@[simp] theorem aggT_12 : aggT Go.Proofs.Try.prog 12 = some false := by kernel_rfl
@[simp] theorem tby_12 : tby Go.Proofs.Try.prog 12 = some 8 := by kernel_rfl
@[simp] theorem tz_12 : tzero Go.Proofs.Try.prog 12 = some (.int .u64 0) := by kernel_rfl
@[simp] theorem intT_12 : intT Go.Proofs.Try.prog 12 = some .u64 := by kernel_rfl
@[simp] theorem und_12 : (Go.Proofs.Try.prog.underlying 12).isSome = true := by kernel_rfl
@[simp] theorem tsz_13 : tsz Go.Proofs.Try.prog 13 = some 2 := by kernel_rfl
@[simp] theorem aggT_13 : aggT Go.Proofs.Try.prog 13 = some true := by kernel_rfl
@[simp] theorem tby_13 : tby Go.Proofs.Try.prog 13 = some 24 := by kernel_rfl
@[simp] theorem tz_13 : tzero Go.Proofs.Try.prog 13 = some (.agg #[(.string ⟨#[]⟩), (.int .u64 0)]) := by kernel_rfl
@[simp] theorem fld_13_0 : fld Go.Proofs.Try.prog 13 0 = some (0, 9) := by kernel_rfl
@[simp] theorem fld_13_1 : fld Go.Proofs.Try.prog 13 1 = some (1, 12) := by kernel_rfl
@[simp] theorem pl_13 : placesP Go.Proofs.Try.prog 13 = some [(0, 1), (1, 1)] := by kernel_rfl
@[simp] theorem tsz_14 : tsz Go.Proofs.Try.prog 14 = some 2 := by kernel_rfl
@[simp] theorem aggT_14 : aggT Go.Proofs.Try.prog 14 = some true := by kernel_rfl
@[simp] theorem tsz_15 : tsz Go.Proofs.Try.prog 15 = some 1 := by kernel_rfl
@[simp] theorem aggT_15 : aggT Go.Proofs.Try.prog 15 = some false := by kernel_rfl
@[simp] theorem tby_15 : tby Go.Proofs.Try.prog 15 = some 8 := by kernel_rfl
@[simp] theorem tz_15 : tzero Go.Proofs.Try.prog 15 = some (.pointer none) := by kernel_rfl
@[simp] theorem ptrT_15 : ptrT Go.Proofs.Try.prog 15 = true := by kernel_rfl
@[simp] theorem tsz_16 : tsz Go.Proofs.Try.prog 16 = some 1 := by kernel_rfl
@[simp] theorem aggT_16 : aggT Go.Proofs.Try.prog 16 = some false := by kernel_rfl
@[simp] theorem tby_16 : tby Go.Proofs.Try.prog 16 = some 8 := by kernel_rfl
@[simp] theorem tz_16 : tzero Go.Proofs.Try.prog 16 = some (.pointer none) := by kernel_rfl
@[simp] theorem tsz_17 : tsz Go.Proofs.Try.prog 17 = some 1 := by kernel_rfl
@[simp] theorem aggT_17 : aggT Go.Proofs.Try.prog 17 = some false := by kernel_rfl
@[simp] theorem tsz_18 : tsz Go.Proofs.Try.prog 18 = some 1 := by kernel_rfl
@[simp] theorem aggT_18 : aggT Go.Proofs.Try.prog 18 = some true := by kernel_rfl
@[simp] theorem tsz_19 : tsz Go.Proofs.Try.prog 19 = some 1 := by kernel_rfl
@[simp] theorem aggT_19 : aggT Go.Proofs.Try.prog 19 = some true := by kernel_rfl
@[simp] theorem tby_19 : tby Go.Proofs.Try.prog 19 = some 8 := by kernel_rfl
@[simp] theorem tz_19 : tzero Go.Proofs.Try.prog 19 = some (.agg #[(.pointer none)]) := by kernel_rfl
@[simp] theorem fld_19_0 : fld Go.Proofs.Try.prog 19 0 = some (0, 17) := by kernel_rfl
@[simp] theorem pl_19 : placesP Go.Proofs.Try.prog 19 = some [(0, 1)] := by kernel_rfl
@[simp] theorem tsz_20 : tsz Go.Proofs.Try.prog 20 = some 1 := by kernel_rfl
@[simp] theorem aggT_20 : aggT Go.Proofs.Try.prog 20 = some false := by kernel_rfl
@[simp] theorem tby_20 : tby Go.Proofs.Try.prog 20 = some 16 := by kernel_rfl
@[simp] theorem tz_20 : tzero Go.Proofs.Try.prog 20 = some .nilIface := by kernel_rfl
@[simp] theorem tsz_21 : tsz Go.Proofs.Try.prog 21 = some 1 := by kernel_rfl
@[simp] theorem aggT_21 : aggT Go.Proofs.Try.prog 21 = some false := by kernel_rfl
@[simp] theorem tby_21 : tby Go.Proofs.Try.prog 21 = some 4 := by kernel_rfl
@[simp] theorem tz_21 : tzero Go.Proofs.Try.prog 21 = some (.int .i32 0) := by kernel_rfl
@[simp] theorem intT_21 : intT Go.Proofs.Try.prog 21 = some .i32 := by kernel_rfl
@[simp] theorem und_21 : (Go.Proofs.Try.prog.underlying 21).isSome = true := by kernel_rfl
@[simp] theorem tsz_22 : tsz Go.Proofs.Try.prog 22 = some 1 := by kernel_rfl
@[simp] theorem aggT_22 : aggT Go.Proofs.Try.prog 22 = some false := by kernel_rfl
@[simp] theorem tby_22 : tby Go.Proofs.Try.prog 22 = some 24 := by kernel_rfl
@[simp] theorem tz_22 : tzero Go.Proofs.Try.prog 22 = some (.slice none 0 0) := by kernel_rfl
@[simp] theorem sliceT_22 : sliceT Go.Proofs.Try.prog 22 = some 24 := by kernel_rfl
@[simp] theorem strT_22 : isStrT Go.Proofs.Try.prog 22 = false := by kernel_rfl
@[simp] theorem und_22 : (Go.Proofs.Try.prog.underlying 22).isSome = true := by kernel_rfl
@[simp] theorem tsz_23 : tsz Go.Proofs.Try.prog 23 = some 6 := by kernel_rfl
@[simp] theorem aggT_23 : aggT Go.Proofs.Try.prog 23 = some true := by kernel_rfl
@[simp] theorem tby_23 : tby Go.Proofs.Try.prog 23 = some 72 := by kernel_rfl
@[simp] theorem tz_23 : tzero Go.Proofs.Try.prog 23 = some (.agg #[(.int .i64 0), (.string ⟨#[]⟩), (.int .i64 0), (.int .i64 0), (.int .i64 0), (.slice none 0 0)]) := by kernel_rfl
@[simp] theorem fld_23_0 : fld Go.Proofs.Try.prog 23 0 = some (0, 3) := by kernel_rfl
@[simp] theorem fld_23_1 : fld Go.Proofs.Try.prog 23 1 = some (1, 9) := by kernel_rfl
@[simp] theorem fld_23_2 : fld Go.Proofs.Try.prog 23 2 = some (2, 3) := by kernel_rfl
@[simp] theorem fld_23_3 : fld Go.Proofs.Try.prog 23 3 = some (3, 3) := by kernel_rfl
@[simp] theorem fld_23_4 : fld Go.Proofs.Try.prog 23 4 = some (4, 3) := by kernel_rfl
@[simp] theorem fld_23_5 : fld Go.Proofs.Try.prog 23 5 = some (5, 22) := by kernel_rfl
@[simp] theorem pl_23 : placesP Go.Proofs.Try.prog 23 = some [(0, 1), (1, 1), (2, 1), (3, 1), (4, 1), (5, 1)] := by kernel_rfl
@[simp] theorem tsz_24 : tsz Go.Proofs.Try.prog 24 = some 6 := by kernel_rfl
@[simp] theorem aggT_24 : aggT Go.Proofs.Try.prog 24 = some true := by kernel_rfl
@[simp] theorem tby_24 : tby Go.Proofs.Try.prog 24 = some 72 := by kernel_rfl
@[simp] theorem tz_24 : tzero Go.Proofs.Try.prog 24 = some (.agg #[(.int .i64 0), (.string ⟨#[]⟩), (.int .i64 0), (.int .i64 0), (.int .i64 0), (.slice none 0 0)]) := by kernel_rfl
@[simp] theorem fld_24_0 : fld Go.Proofs.Try.prog 24 0 = some (0, 3) := by kernel_rfl
@[simp] theorem fld_24_1 : fld Go.Proofs.Try.prog 24 1 = some (1, 9) := by kernel_rfl
@[simp] theorem fld_24_2 : fld Go.Proofs.Try.prog 24 2 = some (2, 3) := by kernel_rfl
@[simp] theorem fld_24_3 : fld Go.Proofs.Try.prog 24 3 = some (3, 3) := by kernel_rfl
@[simp] theorem fld_24_4 : fld Go.Proofs.Try.prog 24 4 = some (4, 3) := by kernel_rfl
@[simp] theorem fld_24_5 : fld Go.Proofs.Try.prog 24 5 = some (5, 22) := by kernel_rfl
@[simp] theorem pl_24 : placesP Go.Proofs.Try.prog 24 = some [(0, 1), (1, 1), (2, 1), (3, 1), (4, 1), (5, 1)] := by kernel_rfl
@[simp] theorem tsz_25 : tsz Go.Proofs.Try.prog 25 = some 1 := by kernel_rfl
@[simp] theorem aggT_25 : aggT Go.Proofs.Try.prog 25 = some false := by kernel_rfl
@[simp] theorem tby_25 : tby Go.Proofs.Try.prog 25 = some 8 := by kernel_rfl
@[simp] theorem tz_25 : tzero Go.Proofs.Try.prog 25 = some .nilFunc := by kernel_rfl
@[simp] theorem tsz_26 : tsz Go.Proofs.Try.prog 26 = some 1 := by kernel_rfl
@[simp] theorem aggT_26 : aggT Go.Proofs.Try.prog 26 = some false := by kernel_rfl
@[simp] theorem tby_26 : tby Go.Proofs.Try.prog 26 = some 8 := by kernel_rfl
@[simp] theorem tz_26 : tzero Go.Proofs.Try.prog 26 = some .nilFunc := by kernel_rfl
@[simp] theorem tsz_27 : tsz Go.Proofs.Try.prog 27 = some 1 := by kernel_rfl
@[simp] theorem aggT_27 : aggT Go.Proofs.Try.prog 27 = some false := by kernel_rfl
@[simp] theorem tby_27 : tby Go.Proofs.Try.prog 27 = some 8 := by kernel_rfl
@[simp] theorem tz_27 : tzero Go.Proofs.Try.prog 27 = some .nilFunc := by kernel_rfl
@[simp] theorem tsz_28 : tsz Go.Proofs.Try.prog 28 = some 1 := by kernel_rfl
@[simp] theorem aggT_28 : aggT Go.Proofs.Try.prog 28 = some false := by kernel_rfl
@[simp] theorem tby_28 : tby Go.Proofs.Try.prog 28 = some 8 := by kernel_rfl
@[simp] theorem tz_28 : tzero Go.Proofs.Try.prog 28 = some .nilFunc := by kernel_rfl
@[simp] theorem tsz_29 : tsz Go.Proofs.Try.prog 29 = some 1 := by kernel_rfl
@[simp] theorem aggT_29 : aggT Go.Proofs.Try.prog 29 = some false := by kernel_rfl
@[simp] theorem tby_29 : tby Go.Proofs.Try.prog 29 = some 24 := by kernel_rfl
@[simp] theorem tz_29 : tzero Go.Proofs.Try.prog 29 = some (.slice none 0 0) := by kernel_rfl
@[simp] theorem sliceT_29 : sliceT Go.Proofs.Try.prog 29 = some 9 := by kernel_rfl
@[simp] theorem strT_29 : isStrT Go.Proofs.Try.prog 29 = false := by kernel_rfl
@[simp] theorem und_29 : (Go.Proofs.Try.prog.underlying 29).isSome = true := by kernel_rfl
@[simp] theorem tsz_30 : tsz Go.Proofs.Try.prog 30 = some 1 := by kernel_rfl
@[simp] theorem aggT_30 : aggT Go.Proofs.Try.prog 30 = some false := by kernel_rfl
@[simp] theorem tby_30 : tby Go.Proofs.Try.prog 30 = some 8 := by kernel_rfl
@[simp] theorem tz_30 : tzero Go.Proofs.Try.prog 30 = some .nilFunc := by kernel_rfl
@[simp] theorem tsz_31 : tsz Go.Proofs.Try.prog 31 = some 1 := by kernel_rfl
@[simp] theorem aggT_31 : aggT Go.Proofs.Try.prog 31 = some false := by kernel_rfl
@[simp] theorem tby_31 : tby Go.Proofs.Try.prog 31 = some 8 := by kernel_rfl
@[simp] theorem tz_31 : tzero Go.Proofs.Try.prog 31 = some .nilFunc := by kernel_rfl
@[simp] theorem tsz_32 : tsz Go.Proofs.Try.prog 32 = some 1 := by kernel_rfl
@[simp] theorem aggT_32 : aggT Go.Proofs.Try.prog 32 = some false := by kernel_rfl
@[simp] theorem tby_32 : tby Go.Proofs.Try.prog 32 = some 24 := by kernel_rfl
@[simp] theorem tz_32 : tzero Go.Proofs.Try.prog 32 = some (.slice none 0 0) := by kernel_rfl
@[simp] theorem sliceT_32 : sliceT Go.Proofs.Try.prog 32 = some 98 := by kernel_rfl
@[simp] theorem strT_32 : isStrT Go.Proofs.Try.prog 32 = false := by kernel_rfl
@[simp] theorem und_32 : (Go.Proofs.Try.prog.underlying 32).isSome = true := by kernel_rfl
@[simp] theorem tsz_33 : tsz Go.Proofs.Try.prog 33 = some 1 := by kernel_rfl
@[simp] theorem aggT_33 : aggT Go.Proofs.Try.prog 33 = some false := by kernel_rfl
@[simp] theorem tby_33 : tby Go.Proofs.Try.prog 33 = some 24 := by kernel_rfl
@[simp] theorem tz_33 : tzero Go.Proofs.Try.prog 33 = some (.slice none 0 0) := by kernel_rfl
@[simp] theorem sliceT_33 : sliceT Go.Proofs.Try.prog 33 = some 3 := by kernel_rfl
@[simp] theorem strT_33 : isStrT Go.Proofs.Try.prog 33 = false := by kernel_rfl
@[simp] theorem und_33 : (Go.Proofs.Try.prog.underlying 33).isSome = true := by kernel_rfl
@[simp] theorem tsz_34 : tsz Go.Proofs.Try.prog 34 = some 1 := by kernel_rfl
@[simp] theorem aggT_34 : aggT Go.Proofs.Try.prog 34 = some false := by kernel_rfl
@[simp] theorem tby_34 : tby Go.Proofs.Try.prog 34 = some 8 := by kernel_rfl
@[simp] theorem tz_34 : tzero Go.Proofs.Try.prog 34 = some .nilFunc := by kernel_rfl
@[simp] theorem tsz_35 : tsz Go.Proofs.Try.prog 35 = some 1 := by kernel_rfl
@[simp] theorem aggT_35 : aggT Go.Proofs.Try.prog 35 = some false := by kernel_rfl
@[simp] theorem tby_35 : tby Go.Proofs.Try.prog 35 = some 8 := by kernel_rfl
@[simp] theorem tz_35 : tzero Go.Proofs.Try.prog 35 = some .nilFunc := by kernel_rfl
@[simp] theorem tsz_36 : tsz Go.Proofs.Try.prog 36 = some 1 := by kernel_rfl
@[simp] theorem aggT_36 : aggT Go.Proofs.Try.prog 36 = some false := by kernel_rfl
@[simp] theorem tby_36 : tby Go.Proofs.Try.prog 36 = some 8 := by kernel_rfl
@[simp] theorem tz_36 : tzero Go.Proofs.Try.prog 36 = some (.map none) := by kernel_rfl
@[simp] theorem mapT_36 : mapT Go.Proofs.Try.prog 36 = some (9, 4) := by kernel_rfl
@[simp] theorem tsz_37 : tsz Go.Proofs.Try.prog 37 = some 1 := by kernel_rfl
@[simp] theorem aggT_37 : aggT Go.Proofs.Try.prog 37 = some false := by kernel_rfl
@[simp] theorem tby_37 : tby Go.Proofs.Try.prog 37 = some 8 := by kernel_rfl
@[simp] theorem tz_37 : tzero Go.Proofs.Try.prog 37 = some .nilFunc := by kernel_rfl
@[simp] theorem tsz_38 : tsz Go.Proofs.Try.prog 38 = some 1 := by kernel_rfl
@[simp] theorem aggT_38 : aggT Go.Proofs.Try.prog 38 = some false := by kernel_rfl
@[simp] theorem tby_38 : tby Go.Proofs.Try.prog 38 = some 8 := by kernel_rfl
@[simp] theorem tz_38 : tzero Go.Proofs.Try.prog 38 = some .nilFunc := by kernel_rfl
@[simp] theorem tsz_39 : tsz Go.Proofs.Try.prog 39 = some 1 := by kernel_rfl
@[simp] theorem aggT_39 : aggT Go.Proofs.Try.prog 39 = some false := by kernel_rfl
@[simp] theorem tby_39 : tby Go.Proofs.Try.prog 39 = some 8 := by kernel_rfl
@[simp] theorem tz_39 : tzero Go.Proofs.Try.prog 39 = some .nilFunc := by kernel_rfl
@[simp] theorem tsz_40 : tsz Go.Proofs.Try.prog 40 = some 1 := by kernel_rfl
@[simp] theorem aggT_40 : aggT Go.Proofs.Try.prog 40 = some false := by kernel_rfl
@[simp] theorem tby_40 : tby Go.Proofs.Try.prog 40 = some 8 := by kernel_rfl
@[simp] theorem tz_40 : tzero Go.Proofs.Try.prog 40 = some .nilFunc := by kernel_rfl
@[simp] theorem tsz_41 : tsz Go.Proofs.Try.prog 41 = some 1 := by kernel_rfl
@[simp] theorem aggT_41 : aggT Go.Proofs.Try.prog 41 = some false := by kernel_rfl
@[simp] theorem tby_41 : tby Go.Proofs.Try.prog 41 = some 8 := by kernel_rfl
@[simp] theorem tz_41 : tzero Go.Proofs.Try.prog 41 = some .nilFunc := by kernel_rfl
@[simp] theorem tsz_42 : tsz Go.Proofs.Try.prog 42 = some 1 := by kernel_rfl
@[simp] theorem aggT_42 : aggT Go.Proofs.Try.prog 42 = some false := by kernel_rfl
@[simp] theorem tby_42 : tby Go.Proofs.Try.prog 42 = some 8 := by kernel_rfl
@[simp] theorem tz_42 : tzero Go.Proofs.Try.prog 42 = some .nilFunc := by kernel_rfl
@[simp] theorem tsz_43 : tsz Go.Proofs.Try.prog 43 = some 1 := by kernel_rfl
@[simp] theorem aggT_43 : aggT Go.Proofs.Try.prog 43 = some false := by kernel_rfl
@[simp] theorem tby_43 : tby Go.Proofs.Try.prog 43 = some 8 := by kernel_rfl
@[simp] theorem tz_43 : tzero Go.Proofs.Try.prog 43 = some .nilFunc := by kernel_rfl
@[simp] theorem tsz_44 : tsz Go.Proofs.Try.prog 44 = some 1 := by kernel_rfl
@[simp] theorem aggT_44 : aggT Go.Proofs.Try.prog 44 = some false := by kernel_rfl
@[simp] theorem tby_44 : tby Go.Proofs.Try.prog 44 = some 8 := by kernel_rfl
@[simp] theorem tz_44 : tzero Go.Proofs.Try.prog 44 = some .nilFunc := by kernel_rfl
@[simp] theorem tsz_45 : tsz Go.Proofs.Try.prog 45 = some 1 := by kernel_rfl
@[simp] theorem aggT_45 : aggT Go.Proofs.Try.prog 45 = some false := by kernel_rfl
@[simp] theorem tby_45 : tby Go.Proofs.Try.prog 45 = some 8 := by kernel_rfl
@[simp] theorem tz_45 : tzero Go.Proofs.Try.prog 45 = some .nilFunc := by kernel_rfl
@[simp] theorem tsz_46 : tsz Go.Proofs.Try.prog 46 = some 1 := by kernel_rfl
@[simp] theorem aggT_46 : aggT Go.Proofs.Try.prog 46 = some false := by kernel_rfl
@[simp] theorem tby_46 : tby Go.Proofs.Try.prog 46 = some 8 := by kernel_rfl
@[simp] theorem tz_46 : tzero Go.Proofs.Try.prog 46 = some .nilFunc := by kernel_rfl
@[simp] theorem tsz_47 : tsz Go.Proofs.Try.prog 47 = some 1 := by kernel_rfl
@[simp] theorem aggT_47 : aggT Go.Proofs.Try.prog 47 = some false := by kernel_rfl
@[simp] theorem tby_47 : tby Go.Proofs.Try.prog 47 = some 8 := by kernel_rfl
@[simp] theorem tz_47 : tzero Go.Proofs.Try.prog 47 = some .nilFunc := by kernel_rfl
@[simp] theorem tsz_48 : tsz Go.Proofs.Try.prog 48 = some 4 := by kernel_rfl
@[simp] theorem aggT_48 : aggT Go.Proofs.Try.prog 48 = some true := by kernel_rfl
@[simp] theorem tby_48 : tby Go.Proofs.Try.prog 48 = some 40 := by kernel_rfl
@[simp] theorem tz_48 : tzero Go.Proofs.Try.prog 48 = some (.agg #[(.int .i64 0), (.int .i64 0), (.int .i64 0), (.string ⟨#[]⟩)]) := by kernel_rfl
@[simp] theorem fld_48_0 : fld Go.Proofs.Try.prog 48 0 = some (0, 3) := by kernel_rfl
@[simp] theorem fld_48_1 : fld Go.Proofs.Try.prog 48 1 = some (1, 3) := by kernel_rfl
@[simp] theorem fld_48_2 : fld Go.Proofs.Try.prog 48 2 = some (2, 3) := by kernel_rfl
@[simp] theorem fld_48_3 : fld Go.Proofs.Try.prog 48 3 = some (3, 9) := by kernel_rfl
@[simp] theorem flat_48 : flatT Go.Proofs.Try.prog 48 = some [0, 0, 0, 1] := by kernel_rfl
@[simp] theorem pl_48 : placesP Go.Proofs.Try.prog 48 = some [(0, 1), (1, 1), (2, 1), (3, 1)] := by kernel_rfl
@[simp] theorem tsz_49 : tsz Go.Proofs.Try.prog 49 = some 4 := by kernel_rfl
@[simp] theorem aggT_49 : aggT Go.Proofs.Try.prog 49 = some true := by kernel_rfl
@[simp] theorem tby_49 : tby Go.Proofs.Try.prog 49 = some 40 := by kernel_rfl
@[simp] theorem tz_49 : tzero Go.Proofs.Try.prog 49 = some (.agg #[(.int .i64 0), (.int .i64 0), (.int .i64 0), (.string ⟨#[]⟩)]) := by kernel_rfl
@[simp] theorem fld_49_0 : fld Go.Proofs.Try.prog 49 0 = some (0, 3) := by kernel_rfl
@[simp] theorem fld_49_1 : fld Go.Proofs.Try.prog 49 1 = some (1, 3) := by kernel_rfl
@[simp] theorem fld_49_2 : fld Go.Proofs.Try.prog 49 2 = some (2, 3) := by kernel_rfl
@[simp] theorem fld_49_3 : fld Go.Proofs.Try.prog 49 3 = some (3, 9) := by kernel_rfl
@[simp] theorem flat_49 : flatT Go.Proofs.Try.prog 49 = some [0, 0, 0, 1] := by kernel_rfl
@[simp] theorem pl_49 : placesP Go.Proofs.Try.prog 49 = some [(0, 1), (1, 1), (2, 1), (3, 1)] := by kernel_rfl
@[simp] theorem tsz_50 : tsz Go.Proofs.Try.prog 50 = some 1 := by kernel_rfl
@[simp] theorem aggT_50 : aggT Go.Proofs.Try.prog 50 = some false := by kernel_rfl
@[simp] theorem tby_50 : tby Go.Proofs.Try.prog 50 = some 8 := by kernel_rfl
@[simp] theorem tz_50 : tzero Go.Proofs.Try.prog 50 = some .nilFunc := by kernel_rfl
@[simp] theorem tsz_51 : tsz Go.Proofs.Try.prog 51 = some 1 := by kernel_rfl
@[simp] theorem aggT_51 : aggT Go.Proofs.Try.prog 51 = some false := by kernel_rfl
@[simp] theorem tby_51 : tby Go.Proofs.Try.prog 51 = some 8 := by kernel_rfl
@[simp] theorem tz_51 : tzero Go.Proofs.Try.prog 51 = some .nilFunc := by kernel_rfl
@[simp] theorem tsz_52 : tsz Go.Proofs.Try.prog 52 = some 1 := by kernel_rfl
@[simp] theorem aggT_52 : aggT Go.Proofs.Try.prog 52 = some false := by kernel_rfl
@[simp] theorem tby_52 : tby Go.Proofs.Try.prog 52 = some 8 := by kernel_rfl
@[simp] theorem tz_52 : tzero Go.Proofs.Try.prog 52 = some .nilFunc := by kernel_rfl
@[simp] theorem tsz_53 : tsz Go.Proofs.Try.prog 53 = some 1 := by kernel_rfl
@[simp] theorem aggT_53 : aggT Go.Proofs.Try.prog 53 = some false := by kernel_rfl
@[simp] theorem tby_53 : tby Go.Proofs.Try.prog 53 = some 8 := by kernel_rfl
@[simp] theorem tz_53 : tzero Go.Proofs.Try.prog 53 = some .nilFunc := by kernel_rfl
@[simp] theorem tsz_54 : tsz Go.Proofs.Try.prog 54 = some 1 := by kernel_rfl
@[simp] theorem aggT_54 : aggT Go.Proofs.Try.prog 54 = some false := by kernel_rfl
@[simp] theorem tby_54 : tby Go.Proofs.Try.prog 54 = some 8 := by kernel_rfl
@[simp] theorem tz_54 : tzero Go.Proofs.Try.prog 54 = some .nilFunc := by kernel_rfl
@[simp] theorem tsz_55 : tsz Go.Proofs.Try.prog 55 = some 1 := by kernel_rfl
@[simp] theorem aggT_55 : aggT Go.Proofs.Try.prog 55 = some false := by kernel_rfl
@[simp] theorem tby_55 : tby Go.Proofs.Try.prog 55 = some 8 := by kernel_rfl
@[simp] theorem tz_55 : tzero Go.Proofs.Try.prog 55 = some .nilFunc := by kernel_rfl
@[simp] theorem tsz_56 : tsz Go.Proofs.Try.prog 56 = some 1 := by kernel_rfl
@[simp] theorem aggT_56 : aggT Go.Proofs.Try.prog 56 = some false := by kernel_rfl
@[simp] theorem tby_56 : tby Go.Proofs.Try.prog 56 = some 8 := by kernel_rfl
@[simp] theorem tz_56 : tzero Go.Proofs.Try.prog 56 = some .nilFunc := by kernel_rfl
@[simp] theorem tsz_57 : tsz Go.Proofs.Try.prog 57 = some 1 := by kernel_rfl
@[simp] theorem aggT_57 : aggT Go.Proofs.Try.prog 57 = some false := by kernel_rfl
@[simp] theorem tby_57 : tby Go.Proofs.Try.prog 57 = some 8 := by kernel_rfl
@[simp] theorem tz_57 : tzero Go.Proofs.Try.prog 57 = some .nilFunc := by kernel_rfl
@[simp] theorem tsz_58 : tsz Go.Proofs.Try.prog 58 = some 1 := by kernel_rfl
@[simp] theorem aggT_58 : aggT Go.Proofs.Try.prog 58 = some false := by kernel_rfl
@[simp] theorem tby_58 : tby Go.Proofs.Try.prog 58 = some 8 := by kernel_rfl
@[simp] theorem tz_58 : tzero Go.Proofs.Try.prog 58 = some .nilFunc := by kernel_rfl
@[simp] theorem tsz_59 : tsz Go.Proofs.Try.prog 59 = some 1 := by kernel_rfl
@[simp] theorem aggT_59 : aggT Go.Proofs.Try.prog 59 = some false := by kernel_rfl
@[simp] theorem tby_59 : tby Go.Proofs.Try.prog 59 = some 8 := by kernel_rfl
@[simp] theorem tz_59 : tzero Go.Proofs.Try.prog 59 = some (.int .u64 0) := by kernel_rfl
@[simp] theorem intT_59 : intT Go.Proofs.Try.prog 59 = some .u64 := by kernel_rfl
@[simp] theorem und_59 : (Go.Proofs.Try.prog.underlying 59).isSome = true := by kernel_rfl
@[simp] theorem tsz_60 : tsz Go.Proofs.Try.prog 60 = some 1 := by kernel_rfl
@[simp] theorem aggT_60 : aggT Go.Proofs.Try.prog 60 = some false := by kernel_rfl
@[simp] theorem tby_60 : tby Go.Proofs.Try.prog 60 = some 8 := by kernel_rfl
@[simp] theorem tz_60 : tzero Go.Proofs.Try.prog 60 = some .nilFunc := by kernel_rfl
@[simp] theorem tsz_61 : tsz Go.Proofs.Try.prog 61 = some 1 := by kernel_rfl
@[simp] theorem aggT_61 : aggT Go.Proofs.Try.prog 61 = some false := by kernel_rfl
@[simp] theorem tby_61 : tby Go.Proofs.Try.prog 61 = some 8 := by kernel_rfl
@[simp] theorem tz_61 : tzero Go.Proofs.Try.prog 61 = some (.int .i64 0) := by kernel_rfl
@[simp] theorem intT_61 : intT Go.Proofs.Try.prog 61 = some .i64 := by kernel_rfl
@[simp] theorem und_61 : (Go.Proofs.Try.prog.underlying 61).isSome = true := by kernel_rfl
@[simp] theorem tsz_63 : tsz Go.Proofs.Try.prog 63 = some 1 := by kernel_rfl
@[simp] theorem aggT_63 : aggT Go.Proofs.Try.prog 63 = some false := by kernel_rfl
@[simp] theorem tby_63 : tby Go.Proofs.Try.prog 63 = some 8 := by kernel_rfl
@[simp] theorem tz_63 : tzero Go.Proofs.Try.prog 63 = some .nilFunc := by kernel_rfl
@[simp] theorem tsz_64 : tsz Go.Proofs.Try.prog 64 = some 1 := by kernel_rfl
@[simp] theorem aggT_64 : aggT Go.Proofs.Try.prog 64 = some false := by kernel_rfl
@[simp] theorem tby_64 : tby Go.Proofs.Try.prog 64 = some 8 := by kernel_rfl
@[simp] theorem tz_64 : tzero Go.Proofs.Try.prog 64 = some .nilFunc := by kernel_rfl
@[simp] theorem tsz_65 : tsz Go.Proofs.Try.prog 65 = some 1 := by kernel_rfl
@[simp] theorem aggT_65 : aggT Go.Proofs.Try.prog 65 = some false := by kernel_rfl
@[simp] theorem tby_65 : tby Go.Proofs.Try.prog 65 = some 8 := by kernel_rfl
@[simp] theorem tz_65 : tzero Go.Proofs.Try.prog 65 = some .nilFunc := by kernel_rfl
@[simp] theorem tsz_66 : tsz Go.Proofs.Try.prog 66 = some 1 := by kernel_rfl
@[simp] theorem aggT_66 : aggT Go.Proofs.Try.prog 66 = some false := by kernel_rfl
@[simp] theorem tby_66 : tby Go.Proofs.Try.prog 66 = some 8 := by kernel_rfl
@[simp] theorem tz_66 : tzero Go.Proofs.Try.prog 66 = some .nilFunc := by kernel_rfl
@[simp] theorem tsz_68 : tsz Go.Proofs.Try.prog 68 = some 1 := by kernel_rfl
@[simp] theorem aggT_68 : aggT Go.Proofs.Try.prog 68 = some false := by kernel_rfl
@[simp] theorem tby_68 : tby Go.Proofs.Try.prog 68 = some 8 := by kernel_rfl
@[simp] theorem tz_68 : tzero Go.Proofs.Try.prog 68 = some .nilFunc := by kernel_rfl
@[simp] theorem tsz_69 : tsz Go.Proofs.Try.prog 69 = some 1 := by kernel_rfl
@[simp] theorem aggT_69 : aggT Go.Proofs.Try.prog 69 = some false := by kernel_rfl
@[simp] theorem tby_69 : tby Go.Proofs.Try.prog 69 = some 8 := by kernel_rfl
@[simp] theorem tz_69 : tzero Go.Proofs.Try.prog 69 = some .nilFunc := by kernel_rfl
@[simp] theorem tsz_70 : tsz Go.Proofs.Try.prog 70 = some 1 := by kernel_rfl
@[simp] theorem aggT_70 : aggT Go.Proofs.Try.prog 70 = some false := by kernel_rfl
@[simp] theorem tby_70 : tby Go.Proofs.Try.prog 70 = some 4 := by kernel_rfl
@[simp] theorem tz_70 : tzero Go.Proofs.Try.prog 70 = some (.int .u32 0) := by kernel_rfl
@[simp] theorem intT_70 : intT Go.Proofs.Try.prog 70 = some .u32 := by kernel_rfl
@[simp] theorem und_70 : (Go.Proofs.Try.prog.underlying 70).isSome = true := by kernel_rfl
@[simp] theorem tsz_71 : tsz Go.Proofs.Try.prog 71 = some 1 := by kernel_rfl
@[simp] theorem aggT_71 : aggT Go.Proofs.Try.prog 71 = some false := by kernel_rfl
@[simp] theorem tby_71 : tby Go.Proofs.Try.prog 71 = some 8 := by kernel_rfl
@[simp] theorem tz_71 : tzero Go.Proofs.Try.prog 71 = some .nilFunc := by kernel_rfl
@[simp] theorem tsz_72 : tsz Go.Proofs.Try.prog 72 = some 1 := by kernel_rfl
@[simp] theorem aggT_72 : aggT Go.Proofs.Try.prog 72 = some false := by kernel_rfl
@[simp] theorem tby_72 : tby Go.Proofs.Try.prog 72 = some 8 := by kernel_rfl
@[simp] theorem tz_72 : tzero Go.Proofs.Try.prog 72 = some (.int .u64 0) := by kernel_rfl
@[simp] theorem intT_72 : intT Go.Proofs.Try.prog 72 = some .u64 := by kernel_rfl
@[simp] theorem und_72 : (Go.Proofs.Try.prog.underlying 72).isSome = true := by kernel_rfl
@[simp] theorem tsz_73 : tsz Go.Proofs.Try.prog 73 = some 1 := by kernel_rfl
@[simp] theorem aggT_73 : aggT Go.Proofs.Try.prog 73 = some false := by kernel_rfl
@[simp] theorem tby_73 : tby Go.Proofs.Try.prog 73 = some 8 := by kernel_rfl
@[simp] theorem tz_73 : tzero Go.Proofs.Try.prog 73 = some (.int .u64 0) := by kernel_rfl
@[simp] theorem intT_73 : intT Go.Proofs.Try.prog 73 = some .u64 := by kernel_rfl
@[simp] theorem und_73 : (Go.Proofs.Try.prog.underlying 73).isSome = true := by kernel_rfl
@[simp] theorem tsz_74 : tsz Go.Proofs.Try.prog 74 = some 1 := by kernel_rfl
@[simp] theorem aggT_74 : aggT Go.Proofs.Try.prog 74 = some false := by kernel_rfl
@[simp] theorem tby_74 : tby Go.Proofs.Try.prog 74 = some 8 := by kernel_rfl
@[simp] theorem tz_74 : tzero Go.Proofs.Try.prog 74 = some .nilFunc := by kernel_rfl
@[simp] theorem tsz_75 : tsz Go.Proofs.Try.prog 75 = some 1 := by kernel_rfl
@[simp] theorem aggT_75 : aggT Go.Proofs.Try.prog 75 = some false := by kernel_rfl
@[simp] theorem tby_75 : tby Go.Proofs.Try.prog 75 = some 8 := by kernel_rfl
@[simp] theorem tz_75 : tzero Go.Proofs.Try.prog 75 = some .nilFunc := by kernel_rfl
@[simp] theorem tsz_76 : tsz Go.Proofs.Try.prog 76 = some 1 := by kernel_rfl
@[simp] theorem aggT_76 : aggT Go.Proofs.Try.prog 76 = some false := by kernel_rfl
@[simp] theorem tby_76 : tby Go.Proofs.Try.prog 76 = some 8 := by kernel_rfl
@[simp] theorem tz_76 : tzero Go.Proofs.Try.prog 76 = some .nilFunc := by kernel_rfl
@[simp] theorem tsz_77 : tsz Go.Proofs.Try.prog 77 = some 1 := by kernel_rfl
@[simp] theorem aggT_77 : aggT Go.Proofs.Try.prog 77 = some false := by kernel_rfl
@[simp] theorem tby_77 : tby Go.Proofs.Try.prog 77 = some 8 := by kernel_rfl
@[simp] theorem tz_77 : tzero Go.Proofs.Try.prog 77 = some (.pointer none) := by kernel_rfl
@[simp] theorem ptrT_77 : ptrT Go.Proofs.Try.prog 77 = true := by kernel_rfl
@[simp] theorem tsz_78 : tsz Go.Proofs.Try.prog 78 = some 1 := by kernel_rfl
@[simp] theorem aggT_78 : aggT Go.Proofs.Try.prog 78 = some false := by kernel_rfl
@[simp] theorem tby_78 : tby Go.Proofs.Try.prog 78 = some 8 := by kernel_rfl
@[simp] theorem tz_78 : tzero Go.Proofs.Try.prog 78 = some .nilFunc := by kernel_rfl
@[simp] theorem tsz_79 : tsz Go.Proofs.Try.prog 79 = some 1 := by kernel_rfl
@[simp] theorem aggT_79 : aggT Go.Proofs.Try.prog 79 = some false := by kernel_rfl
@[simp] theorem tby_79 : tby Go.Proofs.Try.prog 79 = some 8 := by kernel_rfl
@[simp] theorem tz_79 : tzero Go.Proofs.Try.prog 79 = some (.pointer none) := by kernel_rfl
@[simp] theorem ptrT_79 : ptrT Go.Proofs.Try.prog 79 = true := by kernel_rfl
@[simp] theorem tsz_81 : tsz Go.Proofs.Try.prog 81 = some 1 := by kernel_rfl
@[simp] theorem aggT_81 : aggT Go.Proofs.Try.prog 81 = some false := by kernel_rfl
@[simp] theorem tby_81 : tby Go.Proofs.Try.prog 81 = some 8 := by kernel_rfl
@[simp] theorem tz_81 : tzero Go.Proofs.Try.prog 81 = some .nilFunc := by kernel_rfl
@[simp] theorem tsz_82 : tsz Go.Proofs.Try.prog 82 = some 1 := by kernel_rfl
@[simp] theorem aggT_82 : aggT Go.Proofs.Try.prog 82 = some false := by kernel_rfl
@[simp] theorem tby_82 : tby Go.Proofs.Try.prog 82 = some 8 := by kernel_rfl
@[simp] theorem tz_82 : tzero Go.Proofs.Try.prog 82 = some .nilFunc := by kernel_rfl
@[simp] theorem tsz_83 : tsz Go.Proofs.Try.prog 83 = some 4 := by kernel_rfl
@[simp] theorem aggT_83 : aggT Go.Proofs.Try.prog 83 = some true := by kernel_rfl
@[simp] theorem tsz_84 : tsz Go.Proofs.Try.prog 84 = some 4 := by kernel_rfl
@[simp] theorem aggT_84 : aggT Go.Proofs.Try.prog 84 = some true := by kernel_rfl
@[simp] theorem tsz_85 : tsz Go.Proofs.Try.prog 85 = some 0 := by kernel_rfl
@[simp] theorem aggT_85 : aggT Go.Proofs.Try.prog 85 = some true := by kernel_rfl
@[simp] theorem tby_85 : tby Go.Proofs.Try.prog 85 = some 0 := by kernel_rfl
@[simp] theorem tz_85 : tzero Go.Proofs.Try.prog 85 = some (.agg #[]) := by kernel_rfl
@[simp] theorem arrT_85 : arrT Go.Proofs.Try.prog 85 = some (0, 16) := by kernel_rfl
@[simp] theorem pl_85 : placesP Go.Proofs.Try.prog 85 = none := by kernel_rfl
@[simp] theorem tsz_86 : tsz Go.Proofs.Try.prog 86 = some 0 := by kernel_rfl
@[simp] theorem aggT_86 : aggT Go.Proofs.Try.prog 86 = some true := by kernel_rfl
@[simp] theorem tby_86 : tby Go.Proofs.Try.prog 86 = some 0 := by kernel_rfl
@[simp] theorem tz_86 : tzero Go.Proofs.Try.prog 86 = some (.agg #[]) := by kernel_rfl
@[simp] theorem fld_86_0 : fld Go.Proofs.Try.prog 86 0 = some (0, 85) := by kernel_rfl
@[simp] theorem pl_86 : placesP Go.Proofs.Try.prog 86 = some [(0, 0)] := by kernel_rfl
@[simp] theorem tsz_87 : tsz Go.Proofs.Try.prog 87 = some 0 := by kernel_rfl
@[simp] theorem aggT_87 : aggT Go.Proofs.Try.prog 87 = some true := by kernel_rfl
@[simp] theorem tsz_88 : tsz Go.Proofs.Try.prog 88 = some 1 := by kernel_rfl
@[simp] theorem aggT_88 : aggT Go.Proofs.Try.prog 88 = some false := by kernel_rfl
@[simp] theorem tby_88 : tby Go.Proofs.Try.prog 88 = some 8 := by kernel_rfl
@[simp] theorem tz_88 : tzero Go.Proofs.Try.prog 88 = some .nilFunc := by kernel_rfl
@[simp] theorem tsz_89 : tsz Go.Proofs.Try.prog 89 = some 1 := by kernel_rfl
@[simp] theorem aggT_89 : aggT Go.Proofs.Try.prog 89 = some false := by kernel_rfl
@[simp] theorem tsz_90 : tsz Go.Proofs.Try.prog 90 = some 1 := by kernel_rfl
@[simp] theorem aggT_90 : aggT Go.Proofs.Try.prog 90 = some false := by kernel_rfl
@[simp] theorem tsz_91 : tsz Go.Proofs.Try.prog 91 = some 1 := by kernel_rfl
@[simp] theorem aggT_91 : aggT Go.Proofs.Try.prog 91 = some false := by kernel_rfl
@[simp] theorem tby_91 : tby Go.Proofs.Try.prog 91 = some 8 := by kernel_rfl
@[simp] theorem tz_91 : tzero Go.Proofs.Try.prog 91 = some .nilFunc := by kernel_rfl
@[simp] theorem tsz_92 : tsz Go.Proofs.Try.prog 92 = some 1 := by kernel_rfl
@[simp] theorem aggT_92 : aggT Go.Proofs.Try.prog 92 = some false := by kernel_rfl
@[simp] theorem tby_92 : tby Go.Proofs.Try.prog 92 = some 8 := by kernel_rfl
@[simp] theorem tz_92 : tzero Go.Proofs.Try.prog 92 = some (.pointer none) := by kernel_rfl
@[simp] theorem ptrT_92 : ptrT Go.Proofs.Try.prog 92 = true := by kernel_rfl
@[simp] theorem tsz_93 : tsz Go.Proofs.Try.prog 93 = some 1 := by kernel_rfl
@[simp] theorem aggT_93 : aggT Go.Proofs.Try.prog 93 = some false := by kernel_rfl
@[simp] theorem tsz_94 : tsz Go.Proofs.Try.prog 94 = some 1 := by kernel_rfl
@[simp] theorem aggT_94 : aggT Go.Proofs.Try.prog 94 = some false := by kernel_rfl
@[simp] theorem tsz_95 : tsz Go.Proofs.Try.prog 95 = some 11 := by kernel_rfl
@[simp] theorem aggT_95 : aggT Go.Proofs.Try.prog 95 = some true := by kernel_rfl
@[simp] theorem tsz_96 : tsz Go.Proofs.Try.prog 96 = some 11 := by kernel_rfl
@[simp] theorem aggT_96 : aggT Go.Proofs.Try.prog 96 = some true := by kernel_rfl
@[simp] theorem tsz_97 : tsz Go.Proofs.Try.prog 97 = some 4 := by kernel_rfl
@[simp] theorem aggT_97 : aggT Go.Proofs.Try.prog 97 = some true := by kernel_rfl
@[simp] theorem tby_97 : tby Go.Proofs.Try.prog 97 = some 48 := by kernel_rfl
@[simp] theorem tz_97 : tzero Go.Proofs.Try.prog 97 = some (.agg #[(.int .i64 0), (.string ⟨#[]⟩), (.string ⟨#[]⟩), (.int .i64 0)]) := by kernel_rfl
@[simp] theorem fld_97_0 : fld Go.Proofs.Try.prog 97 0 = some (0, 3) := by kernel_rfl
@[simp] theorem fld_97_1 : fld Go.Proofs.Try.prog 97 1 = some (1, 9) := by kernel_rfl
@[simp] theorem fld_97_2 : fld Go.Proofs.Try.prog 97 2 = some (2, 9) := by kernel_rfl
@[simp] theorem fld_97_3 : fld Go.Proofs.Try.prog 97 3 = some (3, 3) := by kernel_rfl
@[simp] theorem pl_97 : placesP Go.Proofs.Try.prog 97 = some [(0, 1), (1, 1), (2, 1), (3, 1)] := by kernel_rfl
@[simp] theorem tsz_98 : tsz Go.Proofs.Try.prog 98 = some 4 := by kernel_rfl
@[simp] theorem aggT_98 : aggT Go.Proofs.Try.prog 98 = some true := by kernel_rfl
@[simp] theorem tby_98 : tby Go.Proofs.Try.prog 98 = some 48 := by kernel_rfl
@[simp] theorem tz_98 : tzero Go.Proofs.Try.prog 98 = some (.agg #[(.int .i64 0), (.string ⟨#[]⟩), (.string ⟨#[]⟩), (.int .i64 0)]) := by kernel_rfl
@[simp] theorem fld_98_0 : fld Go.Proofs.Try.prog 98 0 = some (0, 3) := by kernel_rfl
@[simp] theorem fld_98_1 : fld Go.Proofs.Try.prog 98 1 = some (1, 9) := by kernel_rfl
@[simp] theorem fld_98_2 : fld Go.Proofs.Try.prog 98 2 = some (2, 9) := by kernel_rfl
@[simp] theorem fld_98_3 : fld Go.Proofs.Try.prog 98 3 = some (3, 3) := by kernel_rfl
@[simp] theorem flat_98 : flatT Go.Proofs.Try.prog 98 = some [0, 1, 1, 0] := by kernel_rfl
@[simp] theorem pl_98 : placesP Go.Proofs.Try.prog 98 = some [(0, 1), (1, 1), (2, 1), (3, 1)] := by kernel_rfl
@[simp] theorem mixed_ : Go.Proofs.Try.prog.follows .mixedOrders = true := by kernel_rfl
end Go.Pv

/- A logic over plain values: what a law is given reads as plain data. -/
namespace Go.Pv
open Go.RowKit Go.ChangeShapes Go.WideShapes
set_option linter.unusedVariables false
set_option linter.unusedSimpArgs false
/-- Before the call all of memory is frozen. -/
def g0 (w : World) : G := ⟨fun k => k < w.heap.size, fun k => ⟨k, 0, 0⟩, 64, fun k hk => ⟨hk, rfl⟩⟩
theorem holds0 (w : World) : Holds (g0 w) St.empty w := ⟨fun _ _ => rfl, fun _ h => h, fun i b h => by (cases h), fun i j h => absurd rfl h, fun i b h => (by cases h)⟩
theorem PCalls.below {P : Program} {f : FuncId} {args : List PV} {R : Res → St → Prop} (h : PCalls P f args St.empty R) (he : enters P f = true) {w : World} {vs : Array Value} (hA : Args w (g0 w) args vs) :
    Calls P f vs w fun e w' => Below w.heap.size w w' ∧ ∃ res s' g', RR w' g' res e ∧ R res s' := by
  rcases h with h | h
  · exact (h.2 (g0 w) w vs (holds0 w) hA).mono fun e w' ⟨res, s', g', h1, h2, h3, h4⟩ => ⟨⟨h1.os, h1.tape, h1.output, h1.size, fun k hk => h1.block k hk⟩, res, s', g', h3, h4⟩
  · obtain ⟨p, v, s', g', w', h1, _⟩ := h (g0 w) w vs (holds0 w) hA
    rw [run_enters he] at h1
    cases h1
/-- For a law: it answers true. -/
theorem PCalls.law {P : Program} {f : FuncId} {args : List PV} (h : PCalls P f args St.empty fun r s' => s' = St.empty ∧ r = .ret (.lit (.bool true))) (he : enters P f = true) {w : World} {vs : Array Value} (hA : Args w (g0 w) args vs) :
    Calls P f vs w fun e w' => e = .returned (.bool true) ∧ Below w.heap.size w w' :=
  (h.below he hA).mono fun e w' ⟨h1, res, s', g', h2, h3, h4⟩ => by
    subst h4
    cases h2 with
    | ret p v hv => obtain ⟨rfl, _⟩ := hv.lit_inv; exact ⟨rfl, h1⟩
theorem cell_lt {w : World} {a : Addr} {v : Value} (h : w.cell? a = some v) : a.block < w.heap.size := by
  rcases Nat.lt_or_ge a.block w.heap.size with hl | hl
  · exact hl
  · unfold World.cell? at h
    rw [Array.getElem?_eq_none hl] at h
    cases h
/-- Cells that read as the cells of a plain value. -/
def CRd (w : World) (p : PV) (cs : List Value) : Prop := p.cells.length = cs.length ∧ ∀ (i : Nat) (c : PV) (v : Value), p.cells[i]? = some c → cs[i]? = some v → VR w (g0 w) c v ∧ Value.oneCell' v = true
section
variable {H : Type} {enc : TypeId × Value → H} {w : World} {base : Nat} {spare : Nat → Bool} {held : Bool} {P : Program}
theorem list_of {α : Type} [Inhabited α] {p : Nat → α → Prop} : ∀ {n : Nat}, (∀ i, i < n → ∃ x, p i x) → ∃ l : List α, l.length = n ∧ ∀ i x, l[i]? = some x → p i x := by
  intro n h
  obtain ⟨f, hf⟩ := Go.Deep.choose_lt h
  refine ⟨(List.range n).map f, by simp, fun i x hx => ?_⟩
  obtain ⟨hl, hx⟩ := List.getElem?_eq_some_iff.1 hx
  have hi : i < n := by simpa using hl
  have he : f i = x := by simpa using hx
  rw [← he]
  exact hf i hi
theorem CRd.one {p : PV} {v : Value} (hp : p.cells = [p]) (hv : VR w (g0 w) p v) (h1 : Value.oneCell' v = true) : CRd w p [v] := by
  refine ⟨by rw [hp]; rfl, fun i c u hc hu => ?_⟩
  rw [hp] at hc
  cases i with
  | zero => cases hc; cases hu; exact ⟨hv, h1⟩
  | succ i => simp at hc
theorem CRd.agg {cs : List PV} {vs : List Value} (h : CRd w (.agg cs) vs) : VR w (g0 w) (.agg cs) (.agg vs.toArray) := by
  refine .agg cs _ (by simpa using h.1.symm) (fun i v hv => ?_) (fun i c v hc hv => (h.2 i c v hc (by simpa using hv)).1)
  have hv' : vs[i]? = some v := by simpa using hv
  have hlt : i < cs.length := by rw [show cs.length = vs.length from h.1]; exact (List.getElem?_eq_some_iff.1 hv').1
  exact (h.2 i _ v (List.getElem?_eq_getElem hlt) hv').2
/-- A struct's cells, one behind the other. -/
theorem CRd.cons {c : PV} {cs : List PV} {v : Value} {vs : List Value} (hv : VR w (g0 w) c v) (h1 : Value.oneCell' v = true) (h : CRd w (.agg cs) vs) : CRd w (.agg (c :: cs)) (v :: vs) := by
  refine ⟨by simpa [PV.cells] using h.1, fun i d u hd hu => ?_⟩
  cases i with
  | zero => cases hd; cases hu; exact ⟨hv, h1⟩
  | succ i => exact h.2 i d u hd hu
theorem CRd.nil : CRd w (.agg []) [] := ⟨rfl, fun i c v hc => by simp [PV.cells] at hc⟩
/-- A slice of whatever elements. -/
theorem rows_cr {α : Type} [Inhabited α] {t e sz : Nat} (encA : α → PV) (G : α → Prop) (hsz : ∀ x, (encA x).width = sz) {fuel : Nat} {cs : List Value} {x : DataW H × List MemPlace} (ht : P.underlying t = some (.slice e)) (hc : P.cellsOf e = sz)
    (ih : ∀ m, m < fuel → ∀ cs x, DataW.trod enc P w base spare held m e cs = some x → ∃ y, CRd w (encA y) cs ∧ G y)
    (h : DataW.trod enc P w base spare held fuel t cs = some x) : ∃ (v : Value) (l : List α), cs = [v] ∧ VR w (g0 w) (.vec .any (l.map encA)) v ∧ Value.oneCell' v = true ∧ l.length ≤ maxLen ∧ ∀ y ∈ l, G y := by
  rcases DataW.trod_slice ht h with ⟨rfl, _⟩ | ⟨a, len, cap, elems, rest, n, hf, rfl, _, hb, hl, hm, hlen, hel, _, _⟩
  · exact ⟨_, [], rfl, .vec .any [] none 0 0 (fun _ _ => undef) (Nat.le_refl _) (fun h => absurd rfl h) (fun h => by cases h) (fun _ => rfl) (by simp) (by simp) (by simp), rfl, Nat.zero_le _, fun y hy => by cases hy⟩
  · have hall : ∀ i, i < len → ∃ y : α, (∃ c, CRd w (encA y) c ∧ c.length = sz ∧ ∀ j u, c[j]? = some u → w.cell? (a.add (i * sz + j)) = some u) ∧ G y := by
      intro i hi
      have h1 := hel i hi
      rw [List.getElem?_eq_getElem (by omega)] at h1
      obtain ⟨c, hcc, ht2⟩ := Option.bind_eq_some_iff.1 h1
      obtain ⟨y, hK, hG⟩ := ih n (by omega) c _ ht2
      rw [hc] at hcc
      obtain ⟨_, hcl, hat⟩ := World.cells?_some hcc
      refine ⟨y, ⟨c, hK, hcl, fun j u hu => ?_⟩, hG⟩
      have hj : j < sz := by rw [← hcl]; exact (List.getElem?_eq_some_iff.1 hu).1
      rw [← Go.Deep.add_add, hat j hj]
      exact hu
    obtain ⟨l, hll, hp⟩ := list_of hall
    subst hll
    have key : ∀ (i : Nat) (p : PV) (j : Nat) (c : PV), (l.map encA)[i]? = some p → p.cells[j]? = some c → ∃ v, w.cell? (a.add (i * sz + j)) = some v ∧ Value.oneCell' v = true ∧ VR w (g0 w) c v := by
      intro i p j c hp' hcj
      rw [List.getElem?_map] at hp'
      obtain ⟨y, hy, rfl⟩ := Option.map_eq_some_iff.1 hp'
      obtain ⟨⟨cc, hCR, hcl, hcell⟩, _⟩ := hp i y hy
      have hj : j < cc.length := by rw [← hCR.1]; exact (List.getElem?_eq_some_iff.1 hcj).1
      have h2 := hCR.2 j c cc[j] hcj (List.getElem?_eq_getElem hj)
      exact ⟨cc[j], hcell j _ (List.getElem?_eq_getElem hj), h2.2, h2.1⟩
    refine ⟨_, l, rfl, ?_, rfl, Nat.le_trans hl hm, fun y hy => ?_⟩
    · have := VR.vec (w := w) (g := g0 w) .any (l.map encA) (some a) cap sz (fun i j => (w.cell? (a.add (i * sz + j))).getD undef) (by simpa using hl) (fun h => absurd rfl h) (fun h => by cases h) (fun h => by cases h) (fun i p hp' => by
          rw [List.getElem?_map] at hp'
          obtain ⟨y, hy, rfl⟩ := Option.map_eq_some_iff.1 hp'
          exact hsz y) (fun i p j c hp' hcj => by
          obtain ⟨v, h1, h2, h3⟩ := key i p j c hp' hcj
          refine ⟨a, rfl, ?_, by rw [h1]; rfl, by rw [h1]; exact h2⟩
          have := cell_lt h1
          rwa [add_zero_add] at this) (fun i p j c hp' hcj => by
          obtain ⟨v, h1, h2, h3⟩ := key i p j c hp' hcj
          rw [h1]; exact h3)
      rw [List.length_map] at this
      exact this
    · obtain ⟨i, hi⟩ := List.getElem?_of_mem hy
      exact (hp i y hi).2
theorem int_cr {t : TypeId} {k : IntKind} {fuel : Nat} {cs : List Value} {x : DataW H × List MemPlace} (ht : P.underlying t = some (.int k)) (h : DataW.trod enc P w base spare held fuel t cs = some x) :
    ∃ n : Int, cs = [.int k n] ∧ VR w (g0 w) (.lit (.int k n)) (.int k n) ∧ (Lit.int k n).wf = true := by
  obtain ⟨a, e, _, hw⟩ := DataW.trod_int ht h
  exact ⟨a, e, .lit _ rfl, hw⟩
theorem str_cr {t : TypeId} {fuel : Nat} {cs : List Value} {x : DataW H × List MemPlace} (ht : P.underlying t = some .string) (h : DataW.trod enc P w base spare held fuel t cs = some x) :
    ∃ s : ByteArray, cs = [.string s] ∧ VR w (g0 w) (.lit (.string s)) (.string s) ∧ s.size ≤ maxLen := by
  obtain ⟨a, e, _, hw⟩ := DataW.trod_string ht h
  exact ⟨a, e, .lit _ rfl, hw⟩
end
/-- Arguments, one behind the other. -/
theorem Args.nil {w : World} {g : G} : Args w g [] #[] := ⟨rfl, fun i p v hp => by simp at hp⟩
theorem Args.mk {w : World} {g : G} {ps : List PV} {vs : List Value} (hl : vs.length = ps.length) (h : ∀ (i : Nat) (p : PV) (v : Value), ps[i]? = some p → vs[i]? = some v → VR w g p v) : Args w g ps vs.toArray := ⟨by simpa using hl, fun i p v hp hv => h i p v hp (by simpa using hv)⟩
theorem Args.cons {w : World} {g : G} {p : PV} {v : Value} {ps : List PV} {vs : List Value} (h : VR w g p v) (t : Args w g ps vs.toArray) : Args w g (p :: ps) (v :: vs).toArray := by
  refine Args.mk (by have := t.1; simp at this; simp [this]) (fun i q u hq hu => ?_)
  cases i with
  | zero => cases hq; cases hu; exact h
  | succ i => exact t.2 i q u (by simpa using hq) (by simpa using hu)
end Go.Pv

/-! tree.Size. -/
namespace Go.Pv
open Go.Proofs
set_option linter.unusedVariables false
set_option linter.unusedSimpArgs false
set_option maxRecDepth 100000
set_option maxHeartbeats 1000000
theorem size_c (x : Nd) (hx : x.size ≤ 1000000) (s : St) : PCalls Try.prog 6 [encU x] s (fun r s' => s' = s ∧ r = .ret (.lit (.int .i64 x.size))) := by
  refine PCalls.of Try.func6 rfl (by rfl) (by simp [Try.ntmps6]) ?_
  refine pwC_sound _ _ _ _ ?_
  simp [Try.ntmps6]
  intro i hi
  refine PW.loop (fun n e s' => ∃ k : Nat, k + n = x.l.length ∧ e 3 = .lit (.int .i64 ((1 + ((x.l.map Nd.size).take k).sum : Nat) : Int)) ∧ e 7 = .vec .any (x.l.map enc) ∧ e 8 = .lit (.int .i64 x.l.length) ∧ e 9 = .lit (.int .i64 k) ∧ ∃ t, s' = t ∧ s.sub t) x.l.length ⟨0, by simp, by simp, by simp, by simp, by simp, _, rfl, by simp [hi]⟩ ?_
  rintro n e s' ⟨k, hk, h3, h7, h8, h9, t, rfl, hsub⟩
  refine pwC_sound _ _ _ _ ?_
  have hsz := x.size_eq
  by_cases hlt : k < x.l.length
  · have hget : x.l[k]? = some x.l[k] := List.getElem?_eq_getElem hlt
    have hs := sum_take_succ (l := x.l.map Nd.size) (k := k) (by simpa using hlt)
    have hle := sum_take_le (x.l.map Nd.size) (k + 1)
    rw [List.getElem_map] at hs
    simp [h3, h7, h8, h9, hlt, hget]
    intro j hj
    have hmm := Nd.mem_lt (List.getElem_mem hlt)
    refine (size_c x.l[k] (by omega) _).mono ?_
    rintro _ _ ⟨rfl, rfl⟩
    have hn := x.len_lt
    simp [h3, h7, h8, h9]
    rw [wrap_i64 (by omega) (by omega), wrap_i64 (by omega) (by omega)]
    exact ⟨n - 1, by omega, k + 1, by omega, by rw [hs]; push_cast; omega, rfl, hsub.upd hj⟩
  · have hkl : k = x.l.length := by omega
    subst hkl
    simp [h3, h7, h8, h9, hlt]
    refine ⟨_, hsub, rfl, ?_⟩
    rw [hsz, List.take_of_length_le (by simp)]; push_cast; rfl
termination_by x.size
decreasing_by exact Nd.mem_lt (List.getElem_mem _)
end Go.Pv

/- tree.bare, and tree.Alike at trees whose bare forms have no parts. -/
namespace Go.Pv
open Go.Proofs
set_option linter.unusedVariables false
set_option linter.unusedSimpArgs false
set_option maxRecDepth 100000
set_option maxHeartbeats 1000000
/-- A node without the parentheses around it, m levels deep at most. -/
def bareN : Nat → Nd → Nd
  | 0, x => x
  | m + 1, x => if x.op = 54 then (match x.l with | [y] => bareN m y | _ => x) else x
theorem bareN_size (m : Nat) (x : Nd) : (bareN m x).size ≤ x.size := by
  induction m generalizing x with
  | zero => exact Nat.le_refl _
  | succ m ih =>
    unfold bareN
    split
    · split
      · rename_i y hy
        exact Nat.le_trans (ih y) (Nat.le_of_lt (Nd.mem_lt (by rw [hy]; simp)))
      · exact Nat.le_refl _
    · exact Nat.le_refl _
theorem bare_c (x : Nd) (hx : x.size ≤ 1000000) (s : St) : PCalls Try.prog 26 [encU x] s (fun r s' => s' = s ∧ r = .ret (encU (bareN x.size x))) := by
  refine PCalls.of Try.func26 rfl (by rfl) (by simp [Try.ntmps26]) ?_
  refine pwC_sound _ _ _ _ ?_
  simp [Try.ntmps26]
  intro i1 h1 i2 h21 h12 h2
  refine PW.loop (fun n e s' => ∃ (c : Nd) (m : Nat), c.size ≤ m ∧ c.size ≤ 1000000 ∧ m = n ∧ bareN m c = bareN x.size x ∧ e 1 = .pt i1 0 0 ∧ e 2 = .pt i2 0 0 ∧ s.sub s' ∧ s' i1 = some (.row 24 6 [encC c]) ∧ s' i2 = some (.row 24 6 [[.lit (.int .i64 0), .lit (.string ⟨#[]⟩), .lit (.int .i64 0), .lit (.int .i64 0), .lit (.int .i64 0), .vec .nil []]])) x.size
    ⟨x, x.size, by omega, hx, rfl, rfl, by simp, by simp, by simp [h1, h2], by simp [h12], by simp⟩ ?_
  rintro n e s' ⟨c, m, hm, hc, rfl, hb, e1, e2, hsub, b1, b2⟩
  refine pwC_sound _ _ _ _ ?_
  have hcl := c.len_lt
  have hpos := c.size_pos
  obtain ⟨m', rfl⟩ : ∃ m', m = m' + 1 := ⟨m - 1, by omega⟩
  by_cases hop : c.op = 54
  · by_cases hl : c.l.length = 1
    · obtain ⟨y, hy⟩ := List.length_eq_one_iff.1 hl
      have hms := Nd.mem_lt (x := c) (y := y) (by rw [hy]; simp)
      have : bareN (m' + 1) c = bareN m' y := by simp [bareN, hop, hy]
      simp [e1, e2, b1, b2, hop, hl, hy]
      exact ⟨m', by omega, y, m', by omega, by omega, rfl, by rw [← this, hb], hsub.set h1, by simp [h21]⟩
    · have hl' : ¬ (c.l.length : Int) = 1 := by omega
      have : bareN (m' + 1) c = c := by
        unfold bareN
        rw [if_pos hop]
        split
        · rename_i y hy; rw [hy] at hl; exact absurd rfl hl
        · rfl
      rw [this] at hb
      simp [e1, e2, b1, b2, hop, hl, hl', h12, h21]
      rw [← hb]
      exact ⟨_, hsub.set h2, rfl, by simp [hop]⟩
  · have : bareN (m' + 1) c = c := by unfold bareN; rw [if_neg hop]
    rw [this] at hb
    simp [e1, e2, b1, b2, hop, h12, h21]
    rw [← hb]
    exact ⟨_, hsub.set h2, rfl, by simp⟩
theorem eqf_nil_c (k k2 : VK) (s : St) : PCalls Try.prog 27 [.vec k [], .vec k2 [], .fn 16 [] []] s (fun r s' => s' = s ∧ r = .ret (.lit (.bool true))) := by
  refine PCalls.of Try.func27 rfl (by rfl) (by simp [Try.ntmps27]) ?_
  refine pwC_sound _ _ _ _ ?_
  simp [Try.ntmps27]
  refine PW.loop (fun n e s' => e 16 = .lit (.int .i64 0) ∧ e 17 = .lit (.int .i64 0) ∧ s' = s) 0 (by simp) ?_
  rintro n e s' ⟨h1, h2, rfl⟩
  refine pwC_sound _ _ _ _ ?_
  simp [h1, h2]
theorem alike_leaf_c (x y : Nd) (hx : x.size ≤ 1000000) (hy : y.size ≤ 1000000) (hxl : (bareN x.size x).l = []) (hyl : (bareN y.size y).l = []) (s : St) :
    PCalls Try.prog 16 [encU x, encU y] s (fun r s' => s' = s ∧ ∃ b, r = .ret (.lit (.bool b)) ∧ (b = true ↔ (bareN x.size x).op = (bareN y.size y).op ∧ (bareN x.size x).n = (bareN y.size y).n ∧ (bareN x.size x).s = (bareN y.size y).s)) := by
  refine PCalls.of Try.func16 rfl (by rfl) (by simp [Try.ntmps16]) ?_
  refine pwC_sound _ _ _ _ ?_
  simp [Try.ntmps16]
  intro i2 h2 i3 h32 h23 h3
  refine PW.drawn (fun i => if i = 1 ∨ i = 3 then 1 else 0) [0, 1, 2, 3, 4, 5] mixed_ (fun _ _ _ _ h => h) (by kernel_rfl) ?_
  simp [h32, h23]
  refine quiet_of (bare_c x hx _) ?_
  simp [h32, h23]
  refine quiet_of (bare_c y hy _) ?_
  simp [h32, h23]
  generalize hσ : St.upd (St.upd (St.upd (St.upd s i2 _) i3 _) i2 _) i3 _ = σ
  have b2 : σ i2 = some (.row 24 6 [encC (bareN x.size x)]) := by rw [← hσ]; simp [h32, h23]
  have b3 : σ i3 = some (.row 24 6 [encC (bareN y.size y)]) := by rw [← hσ]; simp [h32, h23]
  have hs : s.sub σ := by rw [← hσ]; simp [h32, h23, h2, h3]
  clear hσ
  refine PW.drawnA σ (fun i => 3) [0, 1, 2, 3, 4, 5, 6, 7, 8, 9, 10, 11, 12, 13, 14, 15, 16, 17, 18, 19, 20, 21, 22, 23] mixed_ (fun _ _ _ _ h => h) (by kernel_rfl) sub_refl ?_
  simp [b2, b3, h32, h23, hxl, hyl]
  intro i5 h5 i6 h56 h65 h6
  simp [b2, b3, h32, h23, hxl, hyl, h56, h65, h5, h6, fresh_ne h5 b2, fresh_ne h5 b3, fresh_ne h6 b2, fresh_ne h6 b3, Ne.symm (fresh_ne h5 b2), Ne.symm (fresh_ne h5 b3), Ne.symm (fresh_ne h6 b2), Ne.symm (fresh_ne h6 b3)]
  have f5 := hs.fresh h5
  have f6 := hs.fresh h6
  by_cases hc : (bareN x.size x).op = (bareN y.size y).op ∧ (bareN x.size x).n = (bareN y.size y).n ∧ (bareN x.size x).s = (bareN y.size y).s
  · obtain ⟨c1, c2, c3⟩ := hc
    simp [c1, c2, c3]
    refine (eqf_nil_c _ _ _).mono ?_
    rintro _ _ ⟨rfl, rfl⟩
    simp [c1, c2, c3, h56, h65, h5, h6]
    exact (((hs.set f5).set f6).set f5).set f6
  · simp [hc]
    exact ⟨fun a b c => hc ⟨a, b, c⟩, s, (((hs.set f5).set f6).set f5).set f6, rfl, fun a b c => hc ⟨a, b, c⟩⟩
end Go.Pv

/- The reference's Deep, Nodes, Texts and Heavy. -/
namespace Go.Pv
open Go.Proofs
set_option linter.unusedVariables false
set_option linter.unusedSimpArgs false
set_option maxRecDepth 100000
set_option maxHeartbeats 1000000
/-- All rows and texts in it are of a length that an int bears. -/
def Gd (x : Nd) : Prop := ∀ p y, atN x p = some y → y.l.length ≤ 2 ^ 63 - 1 ∧ y.s.size ≤ 2 ^ 63 - 1
theorem Gd.len {x : Nd} (h : Gd x) : x.l.length ≤ 2 ^ 63 - 1 ∧ x.s.size ≤ 2 ^ 63 - 1 := h [] x rfl
theorem Gd.sub {x y : Nd} (h : Gd x) (hy : y ∈ x.l) : Gd y := by
  obtain ⟨k, hk⟩ := List.getElem?_of_mem hy
  intro p z hz
  exact h ((k : Int) :: p) z (by simp [atN, hk, hz])
/-- No deeper than k rows. -/
def sh : Nat → List Nd → Prop
  | 0, l => l = []
  | k + 1, l => ∀ y ∈ l, sh k y.l
theorem deep_c : ∀ (k : Nat), k ≤ 300 → ∀ (l : List Nd), l.length ≤ 2 ^ 63 - 1 → (∀ y ∈ l, Gd y) → ∀ s : St, PCalls Try.prog 23 [.vec .any (l.map enc), .lit (.int .i64 k)] s (fun r s' => s' = s ∧ ∃ b, r = .ret (.lit (.bool b)) ∧ (b = false → sh k l))
  | k, hk, l, hl, hG, s => by
    refine PCalls.of Try.func23 rfl (by rfl) (by simp [Try.ntmps23]) ?_
    refine pwC_sound _ _ _ _ ?_
    simp [Try.ntmps23]
    refine PW.loop (fun n e s' => ∃ j : Nat, j + n = l.length ∧ (∀ i y, i < j → l[i]? = some y → ∃ k', k = k' + 1 ∧ sh k' y.l) ∧ e 0 = .vec .any (l.map enc) ∧ e 1 = .lit (.int .i64 k) ∧ e 5 = .lit (.int .i64 j) ∧ s = s') l.length ⟨0, by simp, by simp, by simp, by simp, by simp, rfl⟩ ?_
    rintro n e s' ⟨j, hj, hA, e0, e1, e5, rfl⟩
    refine pwC_sound _ _ _ _ ?_
    by_cases hlt : j < l.length
    · have hg : l[j]? = some l[j] := List.getElem?_eq_getElem hlt
      have hm := List.getElem_mem hlt
      cases k with
      | zero => simp [e0, e1, e5, hlt, hg]
      | succ k =>
        have hk1 : ¬ ((k : Int) + 1 = 0) := by omega
        have hk2 : IntKind.i64.wrap k = k := wrap_i64 (by omega) (by omega)
        simp [e0, e1, e5, hlt, hg, hk1, hk2]
        refine (deep_c k (by omega) l[j].l (hG _ hm).len.1 (fun y hy => (hG _ hm).sub hy) s).mono ?_
        rintro _ s2 ⟨h2, b, rfl, hb⟩
        rw [h2]
        clear h2 s2
        cases b
        · simp [e0, e1, e5]
          rw [wrap_i64 (by omega) (by omega)]
          refine ⟨n - 1, by omega, j + 1, by omega, fun i y hi hy => ?_, rfl⟩
          rcases Nat.lt_succ_iff_lt_or_eq.1 hi with hi | rfl
          · obtain ⟨k', h, hs⟩ := hA i y hi hy
            cases h
            exact hs
          · rw [hg] at hy; cases hy; exact hb rfl
        · simp [e0, e1, e5]
    · have hjl : j = l.length := by omega
      subst hjl
      simp [e0, e1, e5]
      refine ⟨s, sub_refl, rfl, ?_⟩
      cases k with
      | zero =>
        cases l with
        | nil => rfl
        | cons a l => obtain ⟨k', h, _⟩ := hA 0 a (by simp) rfl; omega
      | succ k =>
        intro y hy
        obtain ⟨i, hi⟩ := List.getElem?_of_mem hy
        obtain ⟨k', h, hs⟩ := hA i y (List.getElem?_eq_some_iff.1 hi).1 hi
        cases h
        exact hs
theorem sh_mem {k : Nat} {l : List Nd} {y : Nd} (h : sh k l) (hy : y ∈ l) : ∃ k', k = k' + 1 ∧ sh k' y.l := by
  cases k with
  | zero => rw [show l = [] from h] at hy; cases hy
  | succ k => exact ⟨k, rfl, h y hy⟩
theorem nodes_c : ∀ (k : Nat), k ≤ 300 → ∀ (l : List Nd), sh k l → l.length ≤ 2 ^ 63 - 1 → (∀ y ∈ l, Gd y) → ∀ m : Nat, m ≤ 3000 → ∀ s : St, PCalls Try.prog 24 [.vec .any (l.map enc), .lit (.int .i64 m)] s
    (fun r s' => s' = s ∧ ∃ n : Nat, r = .ret (.lit (.int .i64 n)) ∧ n ≤ m + k + 1 ∧ (n ≤ m → n = (l.map Nd.size).sum))
  | k, hk, l, hs, hl, hG, m, hm, s => by
    refine PCalls.of Try.func24 rfl (by rfl) (by simp [Try.ntmps24]) ?_
    refine pwC_sound _ _ _ _ ?_
    simp [Try.ntmps24]
    refine PW.loop (fun n e s' => ∃ j c : Nat, j + n = l.length ∧ c ≤ m + k + 1 ∧ (c ≤ m → c = ((l.map Nd.size).take j).sum) ∧ e 0 = .vec .any (l.map enc) ∧ e 1 = .lit (.int .i64 m) ∧ e 5 = .lit (.int .i64 c) ∧ e 6 = .lit (.int .i64 j) ∧ s = s') l.length ⟨0, 0, by simp, by omega, by simp, by simp, by simp, by simp, by simp, rfl⟩ ?_
    rintro n e s' ⟨j, c, hj, hc, hA, e0, e1, e5, e6, rfl⟩
    refine pwC_sound _ _ _ _ ?_
    by_cases hlt : j < l.length
    · have hg : l[j]? = some l[j] := List.getElem?_eq_getElem hlt
      have hme := List.getElem_mem hlt
      obtain ⟨k', rfl, hs'⟩ := sh_mem hs hme
      by_cases hcm : c ≤ m
      · have hcm' : (c : Int) ≤ (m : Int) := by omega
        have hk2 : IntKind.i64.wrap ((m : Int) - c) = ((m - c : Nat) : Int) := by rw [wrap_i64 (by omega) (by omega)]; omega
        simp [e0, e1, e5, e6, hlt, hg, hcm, hcm', hk2]
        refine (nodes_c k' (by omega) l[j].l hs' (hG _ hme).len.1 (fun y hy => (hG _ hme).sub hy) (m - c) (by omega) s).mono ?_
        rintro _ s2 ⟨h2, u, rfl, hu1, hu2⟩
        rw [h2]
        clear h2 s2
        have hss := sum_take_succ (l := l.map Nd.size) (k := j) (by simpa using hlt)
        have hsz := l[j].size_eq
        rw [List.getElem_map] at hss
        have hA' := hA hcm
        simp [e0, e1, e5, e6]
        rw [wrap_i64 (n := (c : Int) + 1) (by omega) (by omega), wrap_i64 (n := (j : Int) + 1) (by omega) (by omega), wrap_i64 (by omega) (by omega)]
        exact ⟨n - 1, by omega, j + 1, by omega, c + 1 + u, by omega, fun h => by have := hu2 (by omega); omega, by push_cast; omega, by omega⟩
      · have hcm' : ¬ (c : Int) ≤ (m : Int) := by omega
        simp [e0, e1, e5, e6, hlt, hg, hcm, hcm']
        exact ⟨s, sub_refl, rfl, c, rfl, by omega, fun h => absurd h hcm⟩
    · have hjl : j = l.length := by omega
      subst hjl
      simp [e0, e1, e5, e6]
      exact ⟨s, sub_refl, rfl, c, rfl, by omega, fun h => by rw [hA h, List.take_of_length_le (by simp)]⟩
theorem texts_c : ∀ (k : Nat) (l : List Nd), sh k l → l.length ≤ 2 ^ 63 - 1 → (∀ y ∈ l, Gd y) → ∀ (m : Int) (s : St), PCalls Try.prog 25 [.vec .any (l.map enc), .lit (.int .i64 m)] s (fun r s' => s' = s ∧ ∃ n : Int, r = .ret (.lit (.int .i64 n)))
  | k, l, hs, hl, hG, m, s => by
    refine PCalls.of Try.func25 rfl (by rfl) (by simp [Try.ntmps25]) ?_
    refine pwC_sound _ _ _ _ ?_
    simp [Try.ntmps25]
    refine PW.loop (fun n e s' => ∃ (j : Nat) (c : Int), j + n = l.length ∧ e 0 = .vec .any (l.map enc) ∧ e 1 = .lit (.int .i64 m) ∧ e 5 = .lit (.int .i64 c) ∧ e 6 = .lit (.int .i64 j) ∧ s = s') l.length ⟨0, 0, by simp, by simp, by simp, by simp, by simp, rfl⟩ ?_
    rintro n e s' ⟨j, c, hj, e0, e1, e5, e6, rfl⟩
    refine pwC_sound _ _ _ _ ?_
    by_cases hlt : j < l.length
    · have hg : l[j]? = some l[j] := List.getElem?_eq_getElem hlt
      have hme := List.getElem_mem hlt
      obtain ⟨k', rfl, hs'⟩ := sh_mem hs hme
      have hj1 : IntKind.i64.wrap ((j : Int) + 1) = ((j + 1 : Nat) : Int) := by rw [wrap_i64 (by omega) (by omega)]; omega
      by_cases hcm : c ≤ m
      · by_cases hcm2 : IntKind.i64.wrap (c + l[j].s.size) ≤ m
        · simp [e0, e1, e5, e6, hlt, hg, hcm, hcm2, hj1]
          refine (texts_c k' l[j].l hs' (hG _ hme).len.1 (fun y hy => (hG _ hme).sub hy) _ s).mono ?_
          rintro _ s2 ⟨h2, u, rfl⟩
          rw [h2]
          clear h2 s2
          simp [e0, e1, e5, e6, hj1]
          exact ⟨n - 1, by omega, j + 1, by omega, by omega⟩
        · simp [e0, e1, e5, e6, hlt, hg, hcm, hcm2, hj1]
          exact ⟨n - 1, by omega, j + 1, by omega, by omega⟩
      · simp [e0, e1, e5, e6, hlt, hg, hcm]
    · have hjl : j = l.length := by omega
      subst hjl
      by_cases hcm : m < c
      all_goals
        simp [e0, e1, e5, e6, hcm]
end Go.Pv

/- The reference's Heavy and the laws' heavy. -/
namespace Go.Pv
open Go.Proofs
set_option linter.unusedVariables false
set_option linter.unusedSimpArgs false
set_option maxRecDepth 100000
set_option maxHeartbeats 1000000
theorem heavy_c (l : List Nd) (hl : l.length ≤ 2 ^ 63 - 1) (hG : ∀ y ∈ l, Gd y) (s : St) : PCalls Try.prog 15 [.vec .any (l.map enc), .lit (.int .i64 3000)] s (fun r s' => s' = s ∧ ∃ b, r = .ret (.lit (.bool b)) ∧ (b = false → (l.map Nd.size).sum ≤ 3000)) := by
  refine PCalls.of Try.func15 rfl (by rfl) (by simp [Try.ntmps15]) ?_
  refine pwC_sound _ _ _ _ ?_
  simp [Try.ntmps15]
  refine (deep_c 300 (by omega) l hl hG s).mono ?_
  rintro _ s2 ⟨h2, b, rfl, hb⟩
  rw [h2]
  clear h2 s2
  cases b
  · simp
    refine (nodes_c 300 (by omega) l (hb rfl) hl hG 3000 (by omega) s).mono ?_
    rintro _ s2 ⟨h2, n, rfl, hn1, hn2⟩
    rw [h2]
    clear h2 s2
    by_cases h3 : 3000 < n
    · have h3' : (3000 : Int) < n := by omega
      simp [h3, h3']
    · have h3' : ¬ (3000 : Int) < n := by omega
      simp [h3, h3']
      refine (texts_c 300 l (hb rfl) hl hG 20000 s).mono ?_
      rintro _ s2 ⟨h2, u, rfl⟩
      rw [h2]
      clear h2 s2
      have := hn2 (by omega)
      simp
      exact ⟨s, sub_refl, rfl, by omega⟩
  · simp
end Go.Pv

/- The laws' heavy. -/
namespace Go.Pv
open Go.Proofs
set_option linter.unusedVariables false
set_option linter.unusedSimpArgs false
set_option maxRecDepth 100000
set_option maxHeartbeats 1000000
theorem PCalls.args' {P : Program} {s s' : St} {f : FuncId} {ps ps' : List PV} {R : Res → St → Prop} (h : PCalls P f ps' s' R) (hc : Conv s ps s' ps') : PCalls P f ps s R := PCalls.args hc h
theorem heavy11_c (kl kv : VK) (l v : List PV) (hl : l.length ≤ 2 ^ 63 - 1) (hv : v.length ≤ 2 ^ 63 - 1) (x : Nd) (hG : Gd x) (s : St) : PCalls Try.prog 4 [.vec kl l, .vec kv v, encU x] s (fun r s' => s' = s ∧ ∃ b, r = .ret (.lit (.bool b)) ∧ (b = false → l.length ≤ 3000 ∧ v.length ≤ 3000 ∧ x.size ≤ 3000)) := by
  refine PCalls.of Try.func4 rfl (by rfl) (by simp [Try.ntmps4]) ?_
  refine pwC_sound _ _ _ _ ?_
  by_cases h1 : l.length ≤ 3000
  · have h1' : ¬ (3000 : Int) < l.length := by omega
    by_cases h2 : v.length ≤ 3000
    · have h2' : ¬ (3000 : Int) < v.length := by omega
      simp +contextual [Try.ntmps4, h1, h1', h2, h2']
      intro i5 h5
      have := (heavy_c [x] (by simp) (by simpa using hG) (s.upd i5 (some (Blk.row 24 6 [encC x])))).args' (Conv.wk (ps := [.vec .tight ([x].map enc), .lit (.int .i64 3000)]) (.cons (.any _ _) (.cons (.refl _) .nil)))
      simp only [List.map_cons, List.map_nil, enc_eq, encU] at this
      refine this.mono ?_
      rintro _ _ ⟨rfl, b, rfl, hb⟩
      cases b
      · have := hb rfl
        simp at this
        simp [this, h1, h2]
        exact sub_upd sub_refl h5
      · simp
        exact sub_upd sub_refl h5
    · have h2' : (3000 : Int) < v.length := by omega
      simp +contextual [Try.ntmps4, h1, h1', h2, h2']
      try exact fun i5 h5 => sub_upd sub_refl h5
  · have h1' : (3000 : Int) < l.length := by omega
    simp +contextual [Try.ntmps4, h1, h1']
    try exact fun i5 h5 => sub_upd sub_refl h5
end Go.Pv

/- The laws' awake holds. -/
namespace Go.Pv
open Go.Proofs
set_option linter.unusedVariables false
set_option linter.unusedSimpArgs false
set_option maxRecDepth 100000
set_option maxHeartbeats 1000000
def nA : Nd := ⟨50, ⟨#[97]⟩, 0, 0, 0, []⟩
def nB : Nd := ⟨50, ⟨#[98]⟩, 0, 0, 0, []⟩
def nP : Nd := ⟨54, ⟨#[]⟩, 0, 0, 0, [nA]⟩
theorem awake_c (s : St) : PCalls Try.prog 5 [] s (fun r s' => s' = s ∧ r = .ret (.lit (.bool true))) := by
  refine PCalls.of Try.func5 rfl (by rfl) (by simp [Try.ntmps5]) ?_
  refine pwC_sound _ _ _ _ ?_
  simp [Try.ntmps5]
  intro i1 h1
  refine (PCalls.wk (alike_leaf_c nP nA (by simp [Nd.size_eq, nP, nA]) (by simp [Nd.size_eq, nA]) (by simp [bareN, Nd.size_eq, nP, nA]) (by simp [bareN, Nd.size_eq, nA]) _) ?_).mono ?_
  · simp [nP, nA, nB]
    repeat' (first | exact Wk.refl _ | rw [enc_eq] | apply Wks.nil | apply Wks.cons | apply Wk.aggs | apply Wk.elemsL)
  rintro _ _ ⟨rfl, b, rfl, hb⟩
  have : b = true := by rw [hb]; simp [bareN, Nd.size_eq, nP, nA]
  subst this
  clear hb
  simp
  refine (PCalls.wk (alike_leaf_c nA nB (by simp [Nd.size_eq, nA]) (by simp [Nd.size_eq, nB]) (by simp [bareN, Nd.size_eq, nA]) (by simp [bareN, Nd.size_eq, nB]) _) ?_).mono ?_
  · simp [nP, nA, nB]
    repeat' (first | exact Wk.refl _ | rw [enc_eq] | apply Wks.nil | apply Wks.cons | apply Wk.aggs | apply Wk.elemsL)
  rintro _ _ ⟨rfl, b, rfl, hb⟩
  have : b = false := by
    cases b
    · rfl
    · have := hb.1 rfl; simp [bareN, Nd.size_eq, nA, nB] at this
  subst this
  clear hb
  simp
  refine (PCalls.wk (size_c nA (by simp [Nd.size_eq, nA]) _) ?_).mono ?_
  · simp [nP, nA, nB]
    repeat' (first | exact Wk.refl _ | rw [enc_eq] | apply Wks.nil | apply Wks.cons | apply Wk.aggs | apply Wk.elemsL)
  rintro _ _ ⟨rfl, rfl⟩
  simp [Nd.size_eq, nA]
  exact sub_refl.upd h1
end Go.Pv

/- slices.Clone of numbers: the caller's own copy, and the copy as a list. -/
namespace Go.Pv
open Go.Proofs
set_option linter.unusedVariables false
set_option linter.unusedSimpArgs false
set_option maxRecDepth 100000
set_option maxHeartbeats 1000000
@[reducible] def rowI (l : List Int) : List (List PV) := l.map fun n => [.lit (.int .i64 n)]
theorem elems_ints (s : St) (k : VK) (l : List Int) : elemsOf s 1 (ints k l) = some (rowI l) := by
  unfold elemsOf
  have : (l.map fun n => PV.lit (.int .i64 n)).all (fun y => y.width == 1 && y.solid) = true := by
    rw [List.all_eq_true]
    intro y hy
    obtain ⟨x, _, rfl⟩ := List.mem_map.1 hy
    simp
  simp only [this, if_true, List.map_map]
  congr 1
theorem iclone_c (k : VK) (l : List Int) (hk : l = [] → k = .nil) (hl : l.length ≤ 1000000) (s : St) : PCalls Try.prog 30 [ints k l] s fun r s' => ∃ v, r = .ret v ∧ OwnL 3 1 s (rowI l) v s' := by
  refine PCalls.of Try.func30 rfl (by rfl) (by simp [Try.ntmps30]) ?_
  refine pwC_sound _ _ _ _ ?_
  by_cases h0 : l = []
  · have hk0 := hk h0
    subst h0
    subst hk0
    simp [Try.ntmps30]
    exact ⟨_, sub_refl, .nil _ _ _⟩
  · simp [Try.ntmps30, h0]
    simp [appW, elems_ints, elemsOf, h0]
    exact fun _ => ⟨by omega, fun i hi => ⟨_, sub_refl, .inr ⟨by simpa using h0, i, hi, by simp, rfl⟩⟩⟩
theorem cells_ints (l : List Int) : (l.map fun n => PV.lit (.int .i64 n)).map PV.cells = rowI l := by
  rw [List.map_map]; rfl
theorem icloneQ_c (k : VK) (l : List Int) (hk : l = [] → k = .nil) (hl : l.length ≤ 1000000) (s : St) : PCalls Try.prog 30 [ints k l] s fun r s' => s' = s ∧ r = .ret (ints .any l) := by
  refine PCalls.conv (iclone_c k l hk hl s) ?_ ?_
  · rintro p s' ⟨v, hv, hO⟩
    cases hv
    exact ⟨_, _, Conv.own hO (cells_ints l) [], rfl, rfl⟩
  · rintro c s' ⟨v, hv, _⟩
    cases hv
end Go.Pv

/- A walk through a tree, as a function that is ranged over. -/
namespace Go.Pv
open Go.Proofs
set_option linter.unusedVariables false
set_option linter.unusedSimpArgs false
set_option maxRecDepth 100000
set_option maxHeartbeats 1000000
theorem walkL_length (p : List Int) : ∀ (l : List Nd) (i : Nat), (∀ y ∈ l, ∀ p, (walkN y p).length = y.size) → (walkL p (l.zipIdx i)).length = (l.map Nd.size).sum
  | [], i, h => rfl
  | y :: l, i, h => by
    have h1 := walkL_length p l (i + 1) (fun z hz => h z (List.mem_cons_of_mem _ hz))
    have h2 := h y List.mem_cons_self (p ++ [(i : Int)])
    unfold walkL at h1 ⊢
    rw [List.zipIdx_cons, List.flatMap_cons, List.length_append, List.map_cons, List.sum_cons]
    simp only at h2 ⊢
    omega
theorem walkN_length (x : Nd) (p : List Int) : (walkN x p).length = x.size := by
  rw [walkN_eq, x.size_eq, List.length_cons, walkL_length p x.l 0 (fun y hy q => walkN_length y q)]
  omega
termination_by x.size
decreasing_by exact Nd.mem_lt hy
/-- What a round of a walk's loop does: from what there is so far to the next. -/
def Rounds (P : Program) (i : Nat) (B0 : St) (I : List (List Int × Nd) → St → Prop) (M : Nat) : Prop :=
  ∀ (pre : List (List Int × Nd)) (p : List Int) (x : Nd) (base own : St), pre.length < M → I pre own → Disj base own → B0.sub base →
    PYld P i [ints .any p, encU x] (join base own) (fun v s' => v = .lit (.bool true) ∧ ∃ own', I (pre ++ [(p, x)]) own' ∧ Disj base own' ∧ s' = join base own')
theorem down_c {i b2 b3 M : Nat} {B0 : St} {I : List (List Int × Nd) → St → Prop} (hR : Rounds Try.prog i B0 I M) (x : Nd) (k : VK) (p : List Int) (hk : p = [] → k = .nil) (hsz : x.size + p.length ≤ 1000000) (pre : List (List Int × Nd)) (base own : St) (hM : pre.length + x.size ≤ M)
    (hI : I pre own) (hd : Disj base own) (hB : B0.sub base) (hb2 : base b2 = some (.row 51 1 [[.yld i]])) (hb3 : base b3 = some (.row 51 1 [[.fn 29 [] [.pt b2 0 0, .pt b3 0 0]]])) :
    PCalls Try.prog 29 [ints k p, encU x, .pt b2 0 0, .pt b3 0 0] (join base own) (fun r s' => r = .ret (.lit (.bool true)) ∧ ∃ own', I (pre ++ walkN x p) own' ∧ Disj base own' ∧ s' = join base own') := by
  refine PCalls.of Try.func29 rfl (by rfl) (by simp [Try.ntmps29]) ?_
  refine pwC_sound _ _ _ _ ?_
  have hxs := x.size_eq
  have hxp := x.len_lt
  refine pwC_cut fun K hK => ?_
  simp [Try.ntmps29]
  intro i5 h5
  obtain ⟨h5b, h5o⟩ := join_none h5
  refine hK _ _ ?_
  clear hK K
  rw [join_upd _ h5o]
  have hd1 := hd.upd (x := some (.row 24 6 [encC x])) h5o
  have hs1 : base.sub (base.upd i5 (some (.row 24 6 [encC x]))) := sub_refl.upd_of h5b
  have c5 : (base.upd i5 (some (.row 24 6 [encC x]))) i5 = some (.row 24 6 [encC x]) := St.upd_same _ _ _
  generalize base.upd i5 (some (.row 24 6 [encC x])) = base1 at *
  have c2 := hs1 _ _ hb2
  have c3 := hs1 _ _ hb3
  refine pwC_cut fun K hK => ?_
  refine PW.drawn (fun i => match i with | 2 => 1 | _ => 0) [0, 1, 2, 3, 4, 5] mixed_ (fun _ _ _ _ h => h) (by kernel_rfl) ?_
  have j2 := join_base (o := own) c2
  have j3 := join_base (o := own) c3
  have j5 := join_base (o := own) c5
  simp [j2, j3, j5]
  refine quiet_of (icloneQ_c k p hk (by omega) _) ?_
  simp [j2, j3, j5]
  refine (hR pre p x base1 own (by have := x.size_pos; omega) hI hd1 (hB.trans hs1)).mono ?_
  rintro _ _ ⟨rfl, own1, hI1, hd2, rfl⟩
  simp
  refine hK _ _ ?_
  clear hK K
  have j5 := join_base (o := own1) c5
  refine pwC_cut fun K hK => ?_
  simp [j5]
  refine PW.loop (fun n e s' => ∃ (j : Nat) (own' base' : St), j + n = x.l.length ∧ e 0 = ints k p ∧ e 2 = .pt b2 0 0 ∧ e 3 = .pt b3 0 0 ∧ e 16 = .vec .any (x.l.map enc) ∧ e 17 = .lit (.int .i64 x.l.length) ∧ e 18 = .lit (.int .i64 j) ∧
    I (pre ++ (p, x) :: walkL p (x.l.take j).zipIdx) own' ∧ Disj base' own' ∧ base.sub base' ∧ s' = join base' own') x.l.length ⟨0, own1, base1, by omega, by simp, by simp, by simp, by simp, by simp, by simp, by simpa [walkL] using hI1, hd2, hs1, rfl⟩ ?_
  clear hI1 hd2 hd1 hI hd j2 j3 j5 c2 c3 c5 hs1 own1
  rintro n e s' ⟨j, own', base', hj, e0, e2, e3, e16, e17, e18, hI', hd', hs', rfl⟩
  refine pwC_sound _ _ _ _ ?_
  by_cases hlt : j < x.l.length
  · have hlt' : (j : Int) < x.l.length := by omega
    have hg : x.l[j]? = some x.l[j] := List.getElem?_eq_getElem hlt
    have hm := Nd.mem_lt (List.getElem_mem hlt)
    have w1 : IntKind.i64.wrap ((j : Int) + 1) = ((j + 1 : Nat) : Int) := by rw [wrap_i64 (by omega) (by omega)]; omega
    have hss := sum_take_succ (l := x.l.map Nd.size) (k := j) (by simpa using hlt)
    have hsl := sum_take_le (x.l.map Nd.size) (j + 1)
    rw [List.getElem_map] at hss
    simp [e0, e2, e3, e16, e17, e18, hlt, hlt', hg]
    intro i8 h8
    obtain ⟨h8b, h8o⟩ := join_none h8
    rw [join_upd _ h8o]
    have hd2 := hd'.upd (x := some (.row 24 6 [encC x.l[j]])) h8o
    have hs2 : base.sub (base'.upd i8 (some (.row 24 6 [encC x.l[j]]))) := hs'.trans (sub_refl.upd_of h8b)
    have c8 : (base'.upd i8 (some (.row 24 6 [encC x.l[j]]))) i8 = some (.row 24 6 [encC x.l[j]]) := St.upd_same _ _ _
    generalize base'.upd i8 (some (.row 24 6 [encC x.l[j]])) = base2 at *
    have c2 := hs2 _ _ hb2
    have c3 := hs2 _ _ hb3
    refine PW.drawnA base2 (fun i => match i with | 0 => 3 | 6 => 3 | 2 => 2 | _ => 0) [0, 1, 3, 4, 6, 2, 5, 7, 8] mixed_ (fun _ _ _ _ h => h) (by kernel_rfl) (join_sub _ _) ?_
    simp [e0, e2, e3, e16, e17, e18, c2, c3, c8]
    refine (iclone_c k p hk (by omega) _).mono ?_
    rintro _ _ ⟨v, rfl, hO⟩
    refine ⟨hO.sub, ?_⟩
    simp [e0, e2, e3, e16, e17, e18, c2, c3, c8]
    refine appOwn (b := 8) (z := .int .i64 0) (ys := [[.lit (.int .i64 j)]]) hO (by simp) (by simp) (by simp) (by simp) rfl (by omega) (by simp) (fun s => by simp [elemsOf]) (by simp; omega) (fun v1 s1 hO1 => ?_)
    refine ⟨(join_sub base2 own').trans hO1.sub, ?_⟩
    have hrow : rowI p ++ [[PV.lit (.int .i64 j)]] = rowI (p ++ [(j : Int)]) := by simp
    rw [hrow] at hO1
    refine PCalls.args (Conv.own hO1 (cells_ints _) _) ?_
    refine (down_c hR x.l[j] .any (p ++ [(j : Int)]) (by simp) (by simp; omega) (pre ++ (p, x) :: walkL p (x.l.take j).zipIdx) base2 own' ?_ hI' hd2 (hB.trans hs2) c2 c3).mono ?_
    · have := walkL_length p (x.l.take j) 0 (fun y _ q => walkN_length y q)
      rw [List.length_append, List.length_cons, this, List.map_take]
      omega
    rintro _ _ ⟨rfl, own3, hI3, hd3, rfl⟩
    simp [e0, e2, e3, e16, e17, e18, c2, c3, c8]
    refine ⟨join_sub base2 own3, ?_⟩
    simp [e0, e2, e3, e16, e17, e18, c2, c3, c8, w1]
    refine ⟨n - 1, by omega, j + 1, by omega, by omega, own3, ?_, base2, hd3, hs2, rfl⟩
    rw [zipIdx_take _ _ hlt, walkL_snoc]
    simpa using hI3
  · have hjl : j = x.l.length := by omega
    subst hjl
    simp [e0, e2, e3, e16, e17, e18]
    refine hK _ _ ?_
    simp
    refine ⟨_, join_mono hs' hd', own', ?_, hd'.sub hs', rfl⟩
    rw [walkN_eq]
    simpa using hI'
termination_by x.size
decreasing_by exact Nd.mem_lt (List.getElem_mem _)
end Go.Pv

/- A walk through a tree: the function that is ranged over. -/
namespace Go.Pv
open Go.Proofs
set_option linter.unusedVariables false
set_option linter.unusedSimpArgs false
set_option maxRecDepth 100000
set_option maxHeartbeats 1000000
theorem walk1_c {i b1 M : Nat} {B0 : St} {I : List (List Int × Nd) → St → Prop} (hR : Rounds Try.prog i B0 I M) (x : Nd) (hsz : x.size ≤ 1000000) (base own : St) (hM : x.size ≤ M)
    (hI : I [] own) (hd : Disj base own) (hB : B0.sub base) (hb1 : base b1 = some (.row 24 6 [encC x])) :
    PCalls Try.prog 28 [.yld i, .pt b1 0 0] (join base own) (fun r s' => r = .ret (.tup []) ∧ ∃ own', I (walkN x []) own' ∧ Disj base own' ∧ s' = join base own') := by
  refine PCalls.of Try.func28 rfl (by rfl) (by simp [Try.ntmps28]) ?_
  refine pwC_sound _ _ _ _ ?_
  have j1 := join_base (o := own) hb1
  simp +contextual [Try.ntmps28, j1]
  intro i2 h2 i3 h32 h23 h3
  obtain ⟨h2b, h2o⟩ := join_none h2
  obtain ⟨h3b, h3o⟩ := join_none h3
  have hn1 : b1 ≠ i2 := fun e => by subst e; rw [show base b1 = none from h2b] at hb1; cases hb1
  have hn2 : b1 ≠ i3 := fun e => by subst e; rw [show base b1 = none from h3b] at hb1; cases hb1
  simp [j1, hn1, hn2, h32, h23]
  rw [join_upd _ h2o, join_upd _ h3o]
  have hs : base.sub ((base.upd i2 (some (.row 51 1 [[.yld i]]))).upd i3 (some (.row 51 1 [[.fn 29 [] [.pt i2 0 0, .pt i3 0 0]]]))) := (sub_refl.upd_of h2b).upd_of h3b
  have hdd := (hd.upd (x := some (.row 51 1 [[.yld i]])) h2o).upd (x := some (.row 51 1 [[.fn 29 [] [.pt i2 0 0, .pt i3 0 0]]])) h3o
  refine (down_c hR x .nil [] (by simp) (by simpa using hsz) [] _ own (by simpa using hM) hI hdd (hB.trans hs) (b2 := i2) (b3 := i3) (by simp [h23, h32]) (by simp [h23, h32])).mono ?_
  rintro _ _ ⟨rfl, own', hI', hd', rfl⟩
  simp
  exact ⟨_, join_mono hs hd', own', by simpa using hI', hd'.sub hs, rfl⟩
theorem walk_c (x : Nd) (s : St) : PCalls Try.prog 18 [encU x] s (fun r s' => ∃ b, Fresh s b ∧ r = .ret (.fn 28 [] [.pt b 0 0]) ∧ s' = s.upd b (some (.row 24 6 [encC x]))) := by
  refine PCalls.of Try.func18 rfl (by rfl) (by simp [Try.ntmps18]) ?_
  refine pwC_sound _ _ _ _ ?_
  simp +contextual [Try.ntmps18]
  intro b hb
  exact ⟨_, sub_refl, b, hb, rfl, rfl⟩
end Go.Pv
