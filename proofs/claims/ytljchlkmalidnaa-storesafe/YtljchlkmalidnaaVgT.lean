/- The closed facts of this seat's types and functions that the abstract machine asks for. Written by a program (facts.py). -/
import Derived.Test.YtljchlkmalidnaaProg
import Derived.Test.YtljchlkmalidnaaVgZ
set_option linter.all false
namespace Go.Proofs.Try
open Go.Vg
theorem uk_1 : uk Try.prog 1 = .func := by kernel_rfl
theorem tsz_1 : tsz Try.prog 1 = some 1 := by kernel_rfl
theorem agg_1 : agg? Try.prog 1 = some false := by kernel_rfl
theorem uk_2 : uk Try.prog 2 = .int .i64 := by kernel_rfl
theorem tsz_2 : tsz Try.prog 2 = some 1 := by kernel_rfl
theorem agg_2 : agg? Try.prog 2 = some false := by kernel_rfl
theorem uk_3 : uk Try.prog 3 = .int .i64 := by kernel_rfl
theorem tsz_3 : tsz Try.prog 3 = some 1 := by kernel_rfl
theorem agg_3 : agg? Try.prog 3 = some false := by kernel_rfl
theorem uk_4 : uk Try.prog 4 = .bool := by kernel_rfl
theorem tsz_4 : tsz Try.prog 4 = some 1 := by kernel_rfl
theorem agg_4 : agg? Try.prog 4 = some false := by kernel_rfl
theorem uk_5 : uk Try.prog 5 = .int .u8 := by kernel_rfl
theorem tsz_5 : tsz Try.prog 5 = some 1 := by kernel_rfl
theorem agg_5 : agg? Try.prog 5 = some false := by kernel_rfl
theorem uk_6 : uk Try.prog 6 = .int .u8 := by kernel_rfl
theorem tsz_6 : tsz Try.prog 6 = some 1 := by kernel_rfl
theorem agg_6 : agg? Try.prog 6 = some false := by kernel_rfl
theorem uk_7 : uk Try.prog 7 = .struct := by kernel_rfl
theorem tsz_7 : tsz Try.prog 7 = some 4 := by kernel_rfl
theorem agg_7 : agg? Try.prog 7 = some true := by kernel_rfl
theorem fOff_7_0 : fOff Try.prog 7 0 = some (0, 2) := by kernel_rfl
theorem fOff_7_1 : fOff Try.prog 7 1 = some (1, 3) := by kernel_rfl
theorem fOff_7_2 : fOff Try.prog 7 2 = some (2, 4) := by kernel_rfl
theorem fOff_7_3 : fOff Try.prog 7 3 = some (3, 6) := by kernel_rfl
theorem uk_8 : uk Try.prog 8 = .struct := by kernel_rfl
theorem tsz_8 : tsz Try.prog 8 = some 4 := by kernel_rfl
theorem agg_8 : agg? Try.prog 8 = some true := by kernel_rfl
theorem fOff_8_0 : fOff Try.prog 8 0 = some (0, 2) := by kernel_rfl
theorem fOff_8_1 : fOff Try.prog 8 1 = some (1, 3) := by kernel_rfl
theorem fOff_8_2 : fOff Try.prog 8 2 = some (2, 4) := by kernel_rfl
theorem fOff_8_3 : fOff Try.prog 8 3 = some (3, 6) := by kernel_rfl
theorem uk_9 : uk Try.prog 9 = .string := by kernel_rfl
theorem tsz_9 : tsz Try.prog 9 = some 1 := by kernel_rfl
theorem agg_9 : agg? Try.prog 9 = some false := by kernel_rfl
theorem uk_10 : uk Try.prog 10 = .string := by kernel_rfl
theorem tsz_10 : tsz Try.prog 10 = some 1 := by kernel_rfl
theorem agg_10 : agg? Try.prog 10 = some false := by kernel_rfl
theorem uk_11 : uk Try.prog 11 = .string := by kernel_rfl
theorem tsz_11 : tsz Try.prog 11 = some 1 := by kernel_rfl
theorem agg_11 : agg? Try.prog 11 = some false := by kernel_rfl
theorem uk_12 : uk Try.prog 12 = .int .u64 := by kernel_rfl
theorem tsz_12 : tsz Try.prog 12 = some 1 := by kernel_rfl
theorem agg_12 : agg? Try.prog 12 = some false := by kernel_rfl
theorem uk_13 : uk Try.prog 13 = .struct := by kernel_rfl
theorem tsz_13 : tsz Try.prog 13 = some 2 := by kernel_rfl
theorem agg_13 : agg? Try.prog 13 = some true := by kernel_rfl
theorem fOff_13_0 : fOff Try.prog 13 0 = some (0, 9) := by kernel_rfl
theorem fOff_13_1 : fOff Try.prog 13 1 = some (1, 12) := by kernel_rfl
theorem uk_14 : uk Try.prog 14 = .struct := by kernel_rfl
theorem tsz_14 : tsz Try.prog 14 = some 2 := by kernel_rfl
theorem agg_14 : agg? Try.prog 14 = some true := by kernel_rfl
theorem fOff_14_0 : fOff Try.prog 14 0 = some (0, 9) := by kernel_rfl
theorem fOff_14_1 : fOff Try.prog 14 1 = some (1, 12) := by kernel_rfl
theorem uk_15 : uk Try.prog 15 = .pointer 148 := by kernel_rfl
theorem tsz_15 : tsz Try.prog 15 = some 1 := by kernel_rfl
theorem agg_15 : agg? Try.prog 15 = some false := by kernel_rfl
theorem uk_16 : uk Try.prog 16 = .pointer 151 := by kernel_rfl
theorem tsz_16 : tsz Try.prog 16 = some 1 := by kernel_rfl
theorem agg_16 : agg? Try.prog 16 = some false := by kernel_rfl
theorem uk_17 : uk Try.prog 17 = .pointer 160 := by kernel_rfl
theorem tsz_17 : tsz Try.prog 17 = some 1 := by kernel_rfl
theorem agg_17 : agg? Try.prog 17 = some false := by kernel_rfl
theorem uk_18 : uk Try.prog 18 = .struct := by kernel_rfl
theorem tsz_18 : tsz Try.prog 18 = some 1 := by kernel_rfl
theorem agg_18 : agg? Try.prog 18 = some true := by kernel_rfl
theorem fOff_18_0 : fOff Try.prog 18 0 = some (0, 17) := by kernel_rfl
theorem uk_19 : uk Try.prog 19 = .struct := by kernel_rfl
theorem tsz_19 : tsz Try.prog 19 = some 1 := by kernel_rfl
theorem agg_19 : agg? Try.prog 19 = some true := by kernel_rfl
theorem fOff_19_0 : fOff Try.prog 19 0 = some (0, 17) := by kernel_rfl
theorem uk_20 : uk Try.prog 20 = .other := by kernel_rfl
theorem tsz_20 : tsz Try.prog 20 = some 1 := by kernel_rfl
theorem agg_20 : agg? Try.prog 20 = some false := by kernel_rfl
theorem uk_21 : uk Try.prog 21 = .int .i32 := by kernel_rfl
theorem tsz_21 : tsz Try.prog 21 = some 1 := by kernel_rfl
theorem agg_21 : agg? Try.prog 21 = some false := by kernel_rfl
theorem uk_22 : uk Try.prog 22 = .slice 37 := by kernel_rfl
theorem tsz_22 : tsz Try.prog 22 = some 1 := by kernel_rfl
theorem agg_22 : agg? Try.prog 22 = some false := by kernel_rfl
theorem uk_23 : uk Try.prog 23 = .slice 39 := by kernel_rfl
theorem tsz_23 : tsz Try.prog 23 = some 1 := by kernel_rfl
theorem agg_23 : agg? Try.prog 23 = some false := by kernel_rfl
theorem uk_24 : uk Try.prog 24 = .struct := by kernel_rfl
theorem tsz_24 : tsz Try.prog 24 = some 2 := by kernel_rfl
theorem agg_24 : agg? Try.prog 24 = some true := by kernel_rfl
theorem fOff_24_0 : fOff Try.prog 24 0 = some (0, 22) := by kernel_rfl
theorem fOff_24_1 : fOff Try.prog 24 1 = some (1, 23) := by kernel_rfl
theorem uk_25 : uk Try.prog 25 = .struct := by kernel_rfl
theorem tsz_25 : tsz Try.prog 25 = some 2 := by kernel_rfl
theorem agg_25 : agg? Try.prog 25 = some true := by kernel_rfl
theorem fOff_25_0 : fOff Try.prog 25 0 = some (0, 22) := by kernel_rfl
theorem fOff_25_1 : fOff Try.prog 25 1 = some (1, 23) := by kernel_rfl
theorem uk_26 : uk Try.prog 26 = .func := by kernel_rfl
theorem tsz_26 : tsz Try.prog 26 = some 1 := by kernel_rfl
theorem agg_26 : agg? Try.prog 26 = some false := by kernel_rfl
theorem uk_27 : uk Try.prog 27 = .func := by kernel_rfl
theorem tsz_27 : tsz Try.prog 27 = some 1 := by kernel_rfl
theorem agg_27 : agg? Try.prog 27 = some false := by kernel_rfl
theorem uk_28 : uk Try.prog 28 = .int .i64 := by kernel_rfl
theorem tsz_28 : tsz Try.prog 28 = some 1 := by kernel_rfl
theorem agg_28 : agg? Try.prog 28 = some false := by kernel_rfl
theorem uk_30 : uk Try.prog 30 = .func := by kernel_rfl
theorem tsz_30 : tsz Try.prog 30 = some 1 := by kernel_rfl
theorem agg_30 : agg? Try.prog 30 = some false := by kernel_rfl
theorem uk_31 : uk Try.prog 31 = .slice 3 := by kernel_rfl
theorem tsz_31 : tsz Try.prog 31 = some 1 := by kernel_rfl
theorem agg_31 : agg? Try.prog 31 = some false := by kernel_rfl
theorem uk_33 : uk Try.prog 33 = .func := by kernel_rfl
theorem tsz_33 : tsz Try.prog 33 = some 1 := by kernel_rfl
theorem agg_33 : agg? Try.prog 33 = some false := by kernel_rfl
theorem uk_34 : uk Try.prog 34 = .func := by kernel_rfl
theorem tsz_34 : tsz Try.prog 34 = some 1 := by kernel_rfl
theorem agg_34 : agg? Try.prog 34 = some false := by kernel_rfl
theorem uk_35 : uk Try.prog 35 = .func := by kernel_rfl
theorem tsz_35 : tsz Try.prog 35 = some 1 := by kernel_rfl
theorem agg_35 : agg? Try.prog 35 = some false := by kernel_rfl
theorem uk_36 : uk Try.prog 36 = .struct := by kernel_rfl
theorem tsz_36 : tsz Try.prog 36 = some 2 := by kernel_rfl
theorem agg_36 : agg? Try.prog 36 = some true := by kernel_rfl
theorem fOff_36_0 : fOff Try.prog 36 0 = some (0, 3) := by kernel_rfl
theorem fOff_36_1 : fOff Try.prog 36 1 = some (1, 3) := by kernel_rfl
theorem uk_37 : uk Try.prog 37 = .struct := by kernel_rfl
theorem tsz_37 : tsz Try.prog 37 = some 2 := by kernel_rfl
theorem agg_37 : agg? Try.prog 37 = some true := by kernel_rfl
theorem fOff_37_0 : fOff Try.prog 37 0 = some (0, 3) := by kernel_rfl
theorem fOff_37_1 : fOff Try.prog 37 1 = some (1, 3) := by kernel_rfl
theorem uk_38 : uk Try.prog 38 = .struct := by kernel_rfl
theorem tsz_38 : tsz Try.prog 38 = some 5 := by kernel_rfl
theorem agg_38 : agg? Try.prog 38 = some true := by kernel_rfl
theorem fOff_38_0 : fOff Try.prog 38 0 = some (0, 3) := by kernel_rfl
theorem fOff_38_1 : fOff Try.prog 38 1 = some (1, 3) := by kernel_rfl
theorem fOff_38_2 : fOff Try.prog 38 2 = some (2, 3) := by kernel_rfl
theorem fOff_38_3 : fOff Try.prog 38 3 = some (3, 3) := by kernel_rfl
theorem fOff_38_4 : fOff Try.prog 38 4 = some (4, 3) := by kernel_rfl
theorem uk_39 : uk Try.prog 39 = .struct := by kernel_rfl
theorem tsz_39 : tsz Try.prog 39 = some 5 := by kernel_rfl
theorem agg_39 : agg? Try.prog 39 = some true := by kernel_rfl
theorem fOff_39_0 : fOff Try.prog 39 0 = some (0, 3) := by kernel_rfl
theorem fOff_39_1 : fOff Try.prog 39 1 = some (1, 3) := by kernel_rfl
theorem fOff_39_2 : fOff Try.prog 39 2 = some (2, 3) := by kernel_rfl
theorem fOff_39_3 : fOff Try.prog 39 3 = some (3, 3) := by kernel_rfl
theorem fOff_39_4 : fOff Try.prog 39 4 = some (4, 3) := by kernel_rfl
theorem uk_40 : uk Try.prog 40 = .func := by kernel_rfl
theorem tsz_40 : tsz Try.prog 40 = some 1 := by kernel_rfl
theorem agg_40 : agg? Try.prog 40 = some false := by kernel_rfl
theorem uk_41 : uk Try.prog 41 = .struct := by kernel_rfl
theorem tsz_41 : tsz Try.prog 41 = some 3 := by kernel_rfl
theorem agg_41 : agg? Try.prog 41 = some true := by kernel_rfl
theorem fOff_41_0 : fOff Try.prog 41 0 = some (0, 3) := by kernel_rfl
theorem fOff_41_1 : fOff Try.prog 41 1 = some (1, 3) := by kernel_rfl
theorem fOff_41_2 : fOff Try.prog 41 2 = some (2, 3) := by kernel_rfl
theorem uk_42 : uk Try.prog 42 = .struct := by kernel_rfl
theorem tsz_42 : tsz Try.prog 42 = some 3 := by kernel_rfl
theorem agg_42 : agg? Try.prog 42 = some true := by kernel_rfl
theorem fOff_42_0 : fOff Try.prog 42 0 = some (0, 3) := by kernel_rfl
theorem fOff_42_1 : fOff Try.prog 42 1 = some (1, 3) := by kernel_rfl
theorem fOff_42_2 : fOff Try.prog 42 2 = some (2, 3) := by kernel_rfl
theorem uk_43 : uk Try.prog 43 = .func := by kernel_rfl
theorem tsz_43 : tsz Try.prog 43 = some 1 := by kernel_rfl
theorem agg_43 : agg? Try.prog 43 = some false := by kernel_rfl
theorem uk_44 : uk Try.prog 44 = .func := by kernel_rfl
theorem tsz_44 : tsz Try.prog 44 = some 1 := by kernel_rfl
theorem agg_44 : agg? Try.prog 44 = some false := by kernel_rfl
theorem uk_45 : uk Try.prog 45 = .func := by kernel_rfl
theorem tsz_45 : tsz Try.prog 45 = some 1 := by kernel_rfl
theorem agg_45 : agg? Try.prog 45 = some false := by kernel_rfl
theorem uk_46 : uk Try.prog 46 = .slice 55 := by kernel_rfl
theorem tsz_46 : tsz Try.prog 46 = some 1 := by kernel_rfl
theorem agg_46 : agg? Try.prog 46 = some false := by kernel_rfl
theorem uk_48 : uk Try.prog 48 = .func := by kernel_rfl
theorem tsz_48 : tsz Try.prog 48 = some 1 := by kernel_rfl
theorem agg_48 : agg? Try.prog 48 = some false := by kernel_rfl
theorem uk_49 : uk Try.prog 49 = .func := by kernel_rfl
theorem tsz_49 : tsz Try.prog 49 = some 1 := by kernel_rfl
theorem agg_49 : agg? Try.prog 49 = some false := by kernel_rfl
theorem uk_50 : uk Try.prog 50 = .func := by kernel_rfl
theorem tsz_50 : tsz Try.prog 50 = some 1 := by kernel_rfl
theorem agg_50 : agg? Try.prog 50 = some false := by kernel_rfl
theorem uk_51 : uk Try.prog 51 = .func := by kernel_rfl
theorem tsz_51 : tsz Try.prog 51 = some 1 := by kernel_rfl
theorem agg_51 : agg? Try.prog 51 = some false := by kernel_rfl
theorem uk_52 : uk Try.prog 52 = .func := by kernel_rfl
theorem tsz_52 : tsz Try.prog 52 = some 1 := by kernel_rfl
theorem agg_52 : agg? Try.prog 52 = some false := by kernel_rfl
theorem uk_53 : uk Try.prog 53 = .func := by kernel_rfl
theorem tsz_53 : tsz Try.prog 53 = some 1 := by kernel_rfl
theorem agg_53 : agg? Try.prog 53 = some false := by kernel_rfl
theorem uk_54 : uk Try.prog 54 = .func := by kernel_rfl
theorem tsz_54 : tsz Try.prog 54 = some 1 := by kernel_rfl
theorem agg_54 : agg? Try.prog 54 = some false := by kernel_rfl
theorem uk_55 : uk Try.prog 55 = .other := by kernel_rfl
theorem arT_55 : arT Try.prog 55 = some (2, 3) := by kernel_rfl
theorem tsz_55 : tsz Try.prog 55 = some 2 := by kernel_rfl
theorem agg_55 : agg? Try.prog 55 = some true := by kernel_rfl
theorem uk_56 : uk Try.prog 56 = .struct := by kernel_rfl
theorem tsz_56 : tsz Try.prog 56 = some 2 := by kernel_rfl
theorem agg_56 : agg? Try.prog 56 = some true := by kernel_rfl
theorem fOff_56_0 : fOff Try.prog 56 0 = some (0, 3) := by kernel_rfl
theorem fOff_56_1 : fOff Try.prog 56 1 = some (1, 3) := by kernel_rfl
theorem uk_57 : uk Try.prog 57 = .struct := by kernel_rfl
theorem tsz_57 : tsz Try.prog 57 = some 2 := by kernel_rfl
theorem agg_57 : agg? Try.prog 57 = some true := by kernel_rfl
theorem fOff_57_0 : fOff Try.prog 57 0 = some (0, 3) := by kernel_rfl
theorem fOff_57_1 : fOff Try.prog 57 1 = some (1, 3) := by kernel_rfl
theorem uk_58 : uk Try.prog 58 = .func := by kernel_rfl
theorem tsz_58 : tsz Try.prog 58 = some 1 := by kernel_rfl
theorem agg_58 : agg? Try.prog 58 = some false := by kernel_rfl
theorem uk_59 : uk Try.prog 59 = .func := by kernel_rfl
theorem tsz_59 : tsz Try.prog 59 = some 1 := by kernel_rfl
theorem agg_59 : agg? Try.prog 59 = some false := by kernel_rfl
theorem uk_60 : uk Try.prog 60 = .struct := by kernel_rfl
theorem tsz_60 : tsz Try.prog 60 = some 2 := by kernel_rfl
theorem agg_60 : agg? Try.prog 60 = some true := by kernel_rfl
theorem fOff_60_0 : fOff Try.prog 60 0 = some (0, 3) := by kernel_rfl
theorem fOff_60_1 : fOff Try.prog 60 1 = some (1, 3) := by kernel_rfl
theorem uk_61 : uk Try.prog 61 = .struct := by kernel_rfl
theorem tsz_61 : tsz Try.prog 61 = some 2 := by kernel_rfl
theorem agg_61 : agg? Try.prog 61 = some true := by kernel_rfl
theorem fOff_61_0 : fOff Try.prog 61 0 = some (0, 3) := by kernel_rfl
theorem fOff_61_1 : fOff Try.prog 61 1 = some (1, 3) := by kernel_rfl
theorem uk_63 : uk Try.prog 63 = .func := by kernel_rfl
theorem tsz_63 : tsz Try.prog 63 = some 1 := by kernel_rfl
theorem agg_63 : agg? Try.prog 63 = some false := by kernel_rfl
theorem uk_64 : uk Try.prog 64 = .func := by kernel_rfl
theorem tsz_64 : tsz Try.prog 64 = some 1 := by kernel_rfl
theorem agg_64 : agg? Try.prog 64 = some false := by kernel_rfl
theorem uk_65 : uk Try.prog 65 = .struct := by kernel_rfl
theorem tsz_65 : tsz Try.prog 65 = some 2 := by kernel_rfl
theorem agg_65 : agg? Try.prog 65 = some true := by kernel_rfl
theorem fOff_65_0 : fOff Try.prog 65 0 = some (0, 31) := by kernel_rfl
theorem fOff_65_1 : fOff Try.prog 65 1 = some (1, 31) := by kernel_rfl
theorem uk_66 : uk Try.prog 66 = .struct := by kernel_rfl
theorem tsz_66 : tsz Try.prog 66 = some 2 := by kernel_rfl
theorem agg_66 : agg? Try.prog 66 = some true := by kernel_rfl
theorem fOff_66_0 : fOff Try.prog 66 0 = some (0, 31) := by kernel_rfl
theorem fOff_66_1 : fOff Try.prog 66 1 = some (1, 31) := by kernel_rfl
theorem uk_67 : uk Try.prog 67 = .func := by kernel_rfl
theorem tsz_67 : tsz Try.prog 67 = some 1 := by kernel_rfl
theorem agg_67 : agg? Try.prog 67 = some false := by kernel_rfl
theorem uk_68 : uk Try.prog 68 = .func := by kernel_rfl
theorem tsz_68 : tsz Try.prog 68 = some 1 := by kernel_rfl
theorem agg_68 : agg? Try.prog 68 = some false := by kernel_rfl
theorem uk_69 : uk Try.prog 69 = .func := by kernel_rfl
theorem tsz_69 : tsz Try.prog 69 = some 1 := by kernel_rfl
theorem agg_69 : agg? Try.prog 69 = some false := by kernel_rfl
theorem uk_70 : uk Try.prog 70 = .func := by kernel_rfl
theorem tsz_70 : tsz Try.prog 70 = some 1 := by kernel_rfl
theorem agg_70 : agg? Try.prog 70 = some false := by kernel_rfl
theorem uk_71 : uk Try.prog 71 = .func := by kernel_rfl
theorem tsz_71 : tsz Try.prog 71 = some 1 := by kernel_rfl
theorem agg_71 : agg? Try.prog 71 = some false := by kernel_rfl
theorem uk_72 : uk Try.prog 72 = .func := by kernel_rfl
theorem tsz_72 : tsz Try.prog 72 = some 1 := by kernel_rfl
theorem agg_72 : agg? Try.prog 72 = some false := by kernel_rfl
theorem uk_73 : uk Try.prog 73 = .func := by kernel_rfl
theorem tsz_73 : tsz Try.prog 73 = some 1 := by kernel_rfl
theorem agg_73 : agg? Try.prog 73 = some false := by kernel_rfl
theorem uk_75 : uk Try.prog 75 = .func := by kernel_rfl
theorem tsz_75 : tsz Try.prog 75 = some 1 := by kernel_rfl
theorem agg_75 : agg? Try.prog 75 = some false := by kernel_rfl
theorem uk_76 : uk Try.prog 76 = .func := by kernel_rfl
theorem tsz_76 : tsz Try.prog 76 = some 1 := by kernel_rfl
theorem agg_76 : agg? Try.prog 76 = some false := by kernel_rfl
theorem uk_77 : uk Try.prog 77 = .pointer 81 := by kernel_rfl
theorem tsz_77 : tsz Try.prog 77 = some 1 := by kernel_rfl
theorem agg_77 : agg? Try.prog 77 = some false := by kernel_rfl
theorem uk_78 : uk Try.prog 78 = .func := by kernel_rfl
theorem tsz_78 : tsz Try.prog 78 = some 1 := by kernel_rfl
theorem agg_78 : agg? Try.prog 78 = some false := by kernel_rfl
theorem uk_79 : uk Try.prog 79 = .slice 31 := by kernel_rfl
theorem tsz_79 : tsz Try.prog 79 = some 1 := by kernel_rfl
theorem agg_79 : agg? Try.prog 79 = some false := by kernel_rfl
theorem uk_80 : uk Try.prog 80 = .struct := by kernel_rfl
theorem tsz_80 : tsz Try.prog 80 = some 7 := by kernel_rfl
theorem agg_80 : agg? Try.prog 80 = some true := by kernel_rfl
theorem fOff_80_0 : fOff Try.prog 80 0 = some (0, 25) := by kernel_rfl
theorem fOff_80_1 : fOff Try.prog 80 1 = some (2, 3) := by kernel_rfl
theorem fOff_80_2 : fOff Try.prog 80 2 = some (3, 31) := by kernel_rfl
theorem fOff_80_3 : fOff Try.prog 80 3 = some (4, 31) := by kernel_rfl
theorem fOff_80_4 : fOff Try.prog 80 4 = some (5, 31) := by kernel_rfl
theorem fOff_80_5 : fOff Try.prog 80 5 = some (6, 79) := by kernel_rfl
theorem uk_81 : uk Try.prog 81 = .struct := by kernel_rfl
theorem tsz_81 : tsz Try.prog 81 = some 7 := by kernel_rfl
theorem agg_81 : agg? Try.prog 81 = some true := by kernel_rfl
theorem fOff_81_0 : fOff Try.prog 81 0 = some (0, 25) := by kernel_rfl
theorem fOff_81_1 : fOff Try.prog 81 1 = some (2, 3) := by kernel_rfl
theorem fOff_81_2 : fOff Try.prog 81 2 = some (3, 31) := by kernel_rfl
theorem fOff_81_3 : fOff Try.prog 81 3 = some (4, 31) := by kernel_rfl
theorem fOff_81_4 : fOff Try.prog 81 4 = some (5, 31) := by kernel_rfl
theorem fOff_81_5 : fOff Try.prog 81 5 = some (6, 79) := by kernel_rfl
theorem uk_82 : uk Try.prog 82 = .func := by kernel_rfl
theorem tsz_82 : tsz Try.prog 82 = some 1 := by kernel_rfl
theorem agg_82 : agg? Try.prog 82 = some false := by kernel_rfl
theorem uk_83 : uk Try.prog 83 = .func := by kernel_rfl
theorem tsz_83 : tsz Try.prog 83 = some 1 := by kernel_rfl
theorem agg_83 : agg? Try.prog 83 = some false := by kernel_rfl
theorem uk_84 : uk Try.prog 84 = .func := by kernel_rfl
theorem tsz_84 : tsz Try.prog 84 = some 1 := by kernel_rfl
theorem agg_84 : agg? Try.prog 84 = some false := by kernel_rfl
theorem uk_85 : uk Try.prog 85 = .func := by kernel_rfl
theorem tsz_85 : tsz Try.prog 85 = some 1 := by kernel_rfl
theorem agg_85 : agg? Try.prog 85 = some false := by kernel_rfl
theorem uk_86 : uk Try.prog 86 = .func := by kernel_rfl
theorem tsz_86 : tsz Try.prog 86 = some 1 := by kernel_rfl
theorem agg_86 : agg? Try.prog 86 = some false := by kernel_rfl
theorem uk_87 : uk Try.prog 87 = .slice 77 := by kernel_rfl
theorem tsz_87 : tsz Try.prog 87 = some 1 := by kernel_rfl
theorem agg_87 : agg? Try.prog 87 = some false := by kernel_rfl
theorem uk_88 : uk Try.prog 88 = .func := by kernel_rfl
theorem tsz_88 : tsz Try.prog 88 = some 1 := by kernel_rfl
theorem agg_88 : agg? Try.prog 88 = some false := by kernel_rfl
theorem uk_89 : uk Try.prog 89 = .func := by kernel_rfl
theorem tsz_89 : tsz Try.prog 89 = some 1 := by kernel_rfl
theorem agg_89 : agg? Try.prog 89 = some false := by kernel_rfl
theorem uk_90 : uk Try.prog 90 = .func := by kernel_rfl
theorem tsz_90 : tsz Try.prog 90 = some 1 := by kernel_rfl
theorem agg_90 : agg? Try.prog 90 = some false := by kernel_rfl
theorem uk_91 : uk Try.prog 91 = .func := by kernel_rfl
theorem tsz_91 : tsz Try.prog 91 = some 1 := by kernel_rfl
theorem agg_91 : agg? Try.prog 91 = some false := by kernel_rfl
theorem uk_92 : uk Try.prog 92 = .pointer 94 := by kernel_rfl
theorem tsz_92 : tsz Try.prog 92 = some 1 := by kernel_rfl
theorem agg_92 : agg? Try.prog 92 = some false := by kernel_rfl
theorem uk_93 : uk Try.prog 93 = .struct := by kernel_rfl
theorem tsz_93 : tsz Try.prog 93 = some 5 := by kernel_rfl
theorem agg_93 : agg? Try.prog 93 = some true := by kernel_rfl
theorem fOff_93_0 : fOff Try.prog 93 0 = some (0, 77) := by kernel_rfl
theorem fOff_93_1 : fOff Try.prog 93 1 = some (1, 31) := by kernel_rfl
theorem fOff_93_2 : fOff Try.prog 93 2 = some (2, 3) := by kernel_rfl
theorem fOff_93_3 : fOff Try.prog 93 3 = some (3, 31) := by kernel_rfl
theorem fOff_93_4 : fOff Try.prog 93 4 = some (4, 3) := by kernel_rfl
theorem uk_94 : uk Try.prog 94 = .struct := by kernel_rfl
theorem tsz_94 : tsz Try.prog 94 = some 5 := by kernel_rfl
theorem agg_94 : agg? Try.prog 94 = some true := by kernel_rfl
theorem fOff_94_0 : fOff Try.prog 94 0 = some (0, 77) := by kernel_rfl
theorem fOff_94_1 : fOff Try.prog 94 1 = some (1, 31) := by kernel_rfl
theorem fOff_94_2 : fOff Try.prog 94 2 = some (2, 3) := by kernel_rfl
theorem fOff_94_3 : fOff Try.prog 94 3 = some (3, 31) := by kernel_rfl
theorem fOff_94_4 : fOff Try.prog 94 4 = some (4, 3) := by kernel_rfl
theorem uk_95 : uk Try.prog 95 = .func := by kernel_rfl
theorem tsz_95 : tsz Try.prog 95 = some 1 := by kernel_rfl
theorem agg_95 : agg? Try.prog 95 = some false := by kernel_rfl
theorem uk_96 : uk Try.prog 96 = .func := by kernel_rfl
theorem tsz_96 : tsz Try.prog 96 = some 1 := by kernel_rfl
theorem agg_96 : agg? Try.prog 96 = some false := by kernel_rfl
theorem uk_97 : uk Try.prog 97 = .func := by kernel_rfl
theorem tsz_97 : tsz Try.prog 97 = some 1 := by kernel_rfl
theorem agg_97 : agg? Try.prog 97 = some false := by kernel_rfl
theorem uk_98 : uk Try.prog 98 = .pointer 101 := by kernel_rfl
theorem tsz_98 : tsz Try.prog 98 = some 1 := by kernel_rfl
theorem agg_98 : agg? Try.prog 98 = some false := by kernel_rfl
theorem uk_99 : uk Try.prog 99 = .slice 102 := by kernel_rfl
theorem tsz_99 : tsz Try.prog 99 = some 1 := by kernel_rfl
theorem agg_99 : agg? Try.prog 99 = some false := by kernel_rfl
theorem uk_100 : uk Try.prog 100 = .struct := by kernel_rfl
theorem tsz_100 : tsz Try.prog 100 = some 4 := by kernel_rfl
theorem agg_100 : agg? Try.prog 100 = some true := by kernel_rfl
theorem fOff_100_0 : fOff Try.prog 100 0 = some (0, 23) := by kernel_rfl
theorem fOff_100_1 : fOff Try.prog 100 1 = some (1, 3) := by kernel_rfl
theorem fOff_100_2 : fOff Try.prog 100 2 = some (2, 3) := by kernel_rfl
theorem fOff_100_3 : fOff Try.prog 100 3 = some (3, 99) := by kernel_rfl
theorem uk_101 : uk Try.prog 101 = .struct := by kernel_rfl
theorem tsz_101 : tsz Try.prog 101 = some 4 := by kernel_rfl
theorem agg_101 : agg? Try.prog 101 = some true := by kernel_rfl
theorem fOff_101_0 : fOff Try.prog 101 0 = some (0, 23) := by kernel_rfl
theorem fOff_101_1 : fOff Try.prog 101 1 = some (1, 3) := by kernel_rfl
theorem fOff_101_2 : fOff Try.prog 101 2 = some (2, 3) := by kernel_rfl
theorem fOff_101_3 : fOff Try.prog 101 3 = some (3, 99) := by kernel_rfl
theorem uk_102 : uk Try.prog 102 = .map 109 3 := by kernel_rfl
theorem tsz_102 : tsz Try.prog 102 = some 1 := by kernel_rfl
theorem agg_102 : agg? Try.prog 102 = some false := by kernel_rfl
theorem uk_103 : uk Try.prog 103 = .func := by kernel_rfl
theorem tsz_103 : tsz Try.prog 103 = some 1 := by kernel_rfl
theorem agg_103 : agg? Try.prog 103 = some false := by kernel_rfl
theorem uk_104 : uk Try.prog 104 = .func := by kernel_rfl
theorem tsz_104 : tsz Try.prog 104 = some 1 := by kernel_rfl
theorem agg_104 : agg? Try.prog 104 = some false := by kernel_rfl
theorem uk_105 : uk Try.prog 105 = .func := by kernel_rfl
theorem tsz_105 : tsz Try.prog 105 = some 1 := by kernel_rfl
theorem agg_105 : agg? Try.prog 105 = some false := by kernel_rfl
theorem uk_106 : uk Try.prog 106 = .struct := by kernel_rfl
theorem tsz_106 : tsz Try.prog 106 = some 2 := by kernel_rfl
theorem agg_106 : agg? Try.prog 106 = some true := by kernel_rfl
theorem fOff_106_0 : fOff Try.prog 106 0 = some (0, 3) := by kernel_rfl
theorem fOff_106_1 : fOff Try.prog 106 1 = some (1, 3) := by kernel_rfl
theorem uk_107 : uk Try.prog 107 = .struct := by kernel_rfl
theorem tsz_107 : tsz Try.prog 107 = some 2 := by kernel_rfl
theorem agg_107 : agg? Try.prog 107 = some true := by kernel_rfl
theorem fOff_107_0 : fOff Try.prog 107 0 = some (0, 3) := by kernel_rfl
theorem fOff_107_1 : fOff Try.prog 107 1 = some (1, 3) := by kernel_rfl
theorem uk_108 : uk Try.prog 108 = .other := by kernel_rfl
theorem arT_108 : arT Try.prog 108 = some (8, 107) := by kernel_rfl
theorem tsz_108 : tsz Try.prog 108 = some 16 := by kernel_rfl
theorem agg_108 : agg? Try.prog 108 = some true := by kernel_rfl
theorem uk_109 : uk Try.prog 109 = .other := by kernel_rfl
theorem arT_109 : arT Try.prog 109 = some (8, 107) := by kernel_rfl
theorem tsz_109 : tsz Try.prog 109 = some 16 := by kernel_rfl
theorem agg_109 : agg? Try.prog 109 = some true := by kernel_rfl
theorem uk_110 : uk Try.prog 110 = .func := by kernel_rfl
theorem tsz_110 : tsz Try.prog 110 = some 1 := by kernel_rfl
theorem agg_110 : agg? Try.prog 110 = some false := by kernel_rfl
theorem uk_111 : uk Try.prog 111 = .func := by kernel_rfl
theorem tsz_111 : tsz Try.prog 111 = some 1 := by kernel_rfl
theorem agg_111 : agg? Try.prog 111 = some false := by kernel_rfl
theorem uk_112 : uk Try.prog 112 = .func := by kernel_rfl
theorem tsz_112 : tsz Try.prog 112 = some 1 := by kernel_rfl
theorem agg_112 : agg? Try.prog 112 = some false := by kernel_rfl
theorem uk_113 : uk Try.prog 113 = .func := by kernel_rfl
theorem tsz_113 : tsz Try.prog 113 = some 1 := by kernel_rfl
theorem agg_113 : agg? Try.prog 113 = some false := by kernel_rfl
theorem uk_114 : uk Try.prog 114 = .func := by kernel_rfl
theorem tsz_114 : tsz Try.prog 114 = some 1 := by kernel_rfl
theorem agg_114 : agg? Try.prog 114 = some false := by kernel_rfl
theorem uk_115 : uk Try.prog 115 = .func := by kernel_rfl
theorem tsz_115 : tsz Try.prog 115 = some 1 := by kernel_rfl
theorem agg_115 : agg? Try.prog 115 = some false := by kernel_rfl
theorem uk_116 : uk Try.prog 116 = .func := by kernel_rfl
theorem tsz_116 : tsz Try.prog 116 = some 1 := by kernel_rfl
theorem agg_116 : agg? Try.prog 116 = some false := by kernel_rfl
theorem uk_117 : uk Try.prog 117 = .slice 107 := by kernel_rfl
theorem tsz_117 : tsz Try.prog 117 = some 1 := by kernel_rfl
theorem agg_117 : agg? Try.prog 117 = some false := by kernel_rfl
theorem uk_118 : uk Try.prog 118 = .func := by kernel_rfl
theorem tsz_118 : tsz Try.prog 118 = some 1 := by kernel_rfl
theorem agg_118 : agg? Try.prog 118 = some false := by kernel_rfl
theorem uk_119 : uk Try.prog 119 = .func := by kernel_rfl
theorem tsz_119 : tsz Try.prog 119 = some 1 := by kernel_rfl
theorem agg_119 : agg? Try.prog 119 = some false := by kernel_rfl
theorem uk_120 : uk Try.prog 120 = .func := by kernel_rfl
theorem tsz_120 : tsz Try.prog 120 = some 1 := by kernel_rfl
theorem agg_120 : agg? Try.prog 120 = some false := by kernel_rfl
theorem uk_121 : uk Try.prog 121 = .func := by kernel_rfl
theorem tsz_121 : tsz Try.prog 121 = some 1 := by kernel_rfl
theorem agg_121 : agg? Try.prog 121 = some false := by kernel_rfl
theorem uk_122 : uk Try.prog 122 = .func := by kernel_rfl
theorem tsz_122 : tsz Try.prog 122 = some 1 := by kernel_rfl
theorem agg_122 : agg? Try.prog 122 = some false := by kernel_rfl
theorem uk_123 : uk Try.prog 123 = .func := by kernel_rfl
theorem tsz_123 : tsz Try.prog 123 = some 1 := by kernel_rfl
theorem agg_123 : agg? Try.prog 123 = some false := by kernel_rfl
theorem uk_124 : uk Try.prog 124 = .func := by kernel_rfl
theorem tsz_124 : tsz Try.prog 124 = some 1 := by kernel_rfl
theorem agg_124 : agg? Try.prog 124 = some false := by kernel_rfl
theorem uk_125 : uk Try.prog 125 = .int .u64 := by kernel_rfl
theorem tsz_125 : tsz Try.prog 125 = some 1 := by kernel_rfl
theorem agg_125 : agg? Try.prog 125 = some false := by kernel_rfl
theorem uk_126 : uk Try.prog 126 = .func := by kernel_rfl
theorem tsz_126 : tsz Try.prog 126 = some 1 := by kernel_rfl
theorem agg_126 : agg? Try.prog 126 = some false := by kernel_rfl
theorem uk_127 : uk Try.prog 127 = .int .i64 := by kernel_rfl
theorem tsz_127 : tsz Try.prog 127 = some 1 := by kernel_rfl
theorem agg_127 : agg? Try.prog 127 = some false := by kernel_rfl
theorem uk_129 : uk Try.prog 129 = .func := by kernel_rfl
theorem tsz_129 : tsz Try.prog 129 = some 1 := by kernel_rfl
theorem agg_129 : agg? Try.prog 129 = some false := by kernel_rfl
theorem uk_130 : uk Try.prog 130 = .func := by kernel_rfl
theorem tsz_130 : tsz Try.prog 130 = some 1 := by kernel_rfl
theorem agg_130 : agg? Try.prog 130 = some false := by kernel_rfl
theorem uk_131 : uk Try.prog 131 = .func := by kernel_rfl
theorem tsz_131 : tsz Try.prog 131 = some 1 := by kernel_rfl
theorem agg_131 : agg? Try.prog 131 = some false := by kernel_rfl
theorem uk_132 : uk Try.prog 132 = .func := by kernel_rfl
theorem tsz_132 : tsz Try.prog 132 = some 1 := by kernel_rfl
theorem agg_132 : agg? Try.prog 132 = some false := by kernel_rfl
theorem uk_133 : uk Try.prog 133 = .func := by kernel_rfl
theorem tsz_133 : tsz Try.prog 133 = some 1 := by kernel_rfl
theorem agg_133 : agg? Try.prog 133 = some false := by kernel_rfl
theorem uk_134 : uk Try.prog 134 = .int .u32 := by kernel_rfl
theorem tsz_134 : tsz Try.prog 134 = some 1 := by kernel_rfl
theorem agg_134 : agg? Try.prog 134 = some false := by kernel_rfl
theorem uk_135 : uk Try.prog 135 = .func := by kernel_rfl
theorem tsz_135 : tsz Try.prog 135 = some 1 := by kernel_rfl
theorem agg_135 : agg? Try.prog 135 = some false := by kernel_rfl
theorem uk_136 : uk Try.prog 136 = .int .u64 := by kernel_rfl
theorem tsz_136 : tsz Try.prog 136 = some 1 := by kernel_rfl
theorem agg_136 : agg? Try.prog 136 = some false := by kernel_rfl
theorem uk_137 : uk Try.prog 137 = .int .u64 := by kernel_rfl
theorem tsz_137 : tsz Try.prog 137 = some 1 := by kernel_rfl
theorem agg_137 : agg? Try.prog 137 = some false := by kernel_rfl
theorem uk_138 : uk Try.prog 138 = .func := by kernel_rfl
theorem tsz_138 : tsz Try.prog 138 = some 1 := by kernel_rfl
theorem agg_138 : agg? Try.prog 138 = some false := by kernel_rfl
theorem uk_139 : uk Try.prog 139 = .func := by kernel_rfl
theorem tsz_139 : tsz Try.prog 139 = some 1 := by kernel_rfl
theorem agg_139 : agg? Try.prog 139 = some false := by kernel_rfl
theorem uk_140 : uk Try.prog 140 = .func := by kernel_rfl
theorem tsz_140 : tsz Try.prog 140 = some 1 := by kernel_rfl
theorem agg_140 : agg? Try.prog 140 = some false := by kernel_rfl
theorem uk_141 : uk Try.prog 141 = .pointer 3 := by kernel_rfl
theorem tsz_141 : tsz Try.prog 141 = some 1 := by kernel_rfl
theorem agg_141 : agg? Try.prog 141 = some false := by kernel_rfl
theorem uk_142 : uk Try.prog 142 = .func := by kernel_rfl
theorem tsz_142 : tsz Try.prog 142 = some 1 := by kernel_rfl
theorem agg_142 : agg? Try.prog 142 = some false := by kernel_rfl
theorem uk_143 : uk Try.prog 143 = .pointer 137 := by kernel_rfl
theorem tsz_143 : tsz Try.prog 143 = some 1 := by kernel_rfl
theorem agg_143 : agg? Try.prog 143 = some false := by kernel_rfl
theorem uk_145 : uk Try.prog 145 = .func := by kernel_rfl
theorem tsz_145 : tsz Try.prog 145 = some 1 := by kernel_rfl
theorem agg_145 : agg? Try.prog 145 = some false := by kernel_rfl
theorem uk_146 : uk Try.prog 146 = .func := by kernel_rfl
theorem tsz_146 : tsz Try.prog 146 = some 1 := by kernel_rfl
theorem agg_146 : agg? Try.prog 146 = some false := by kernel_rfl
theorem uk_147 : uk Try.prog 147 = .struct := by kernel_rfl
theorem tsz_147 : tsz Try.prog 147 = some 4 := by kernel_rfl
theorem agg_147 : agg? Try.prog 147 = some true := by kernel_rfl
theorem fOff_147_0 : fOff Try.prog 147 0 = some (0, 17) := by kernel_rfl
theorem fOff_147_1 : fOff Try.prog 147 1 = some (1, 17) := by kernel_rfl
theorem fOff_147_2 : fOff Try.prog 147 2 = some (2, 17) := by kernel_rfl
theorem fOff_147_3 : fOff Try.prog 147 3 = some (3, 9) := by kernel_rfl
theorem uk_148 : uk Try.prog 148 = .struct := by kernel_rfl
theorem tsz_148 : tsz Try.prog 148 = some 4 := by kernel_rfl
theorem agg_148 : agg? Try.prog 148 = some true := by kernel_rfl
theorem fOff_148_0 : fOff Try.prog 148 0 = some (0, 17) := by kernel_rfl
theorem fOff_148_1 : fOff Try.prog 148 1 = some (1, 17) := by kernel_rfl
theorem fOff_148_2 : fOff Try.prog 148 2 = some (2, 17) := by kernel_rfl
theorem fOff_148_3 : fOff Try.prog 148 3 = some (3, 9) := by kernel_rfl
theorem uk_149 : uk Try.prog 149 = .other := by kernel_rfl
theorem arT_149 : arT Try.prog 149 = some (0, 16) := by kernel_rfl
theorem tsz_149 : tsz Try.prog 149 = some 0 := by kernel_rfl
theorem agg_149 : agg? Try.prog 149 = some true := by kernel_rfl
theorem uk_150 : uk Try.prog 150 = .struct := by kernel_rfl
theorem tsz_150 : tsz Try.prog 150 = some 0 := by kernel_rfl
theorem agg_150 : agg? Try.prog 150 = some true := by kernel_rfl
theorem fOff_150_0 : fOff Try.prog 150 0 = some (0, 149) := by kernel_rfl
theorem uk_151 : uk Try.prog 151 = .struct := by kernel_rfl
theorem tsz_151 : tsz Try.prog 151 = some 0 := by kernel_rfl
theorem agg_151 : agg? Try.prog 151 = some true := by kernel_rfl
theorem fOff_151_0 : fOff Try.prog 151 0 = some (0, 149) := by kernel_rfl
theorem uk_152 : uk Try.prog 152 = .func := by kernel_rfl
theorem tsz_152 : tsz Try.prog 152 = some 1 := by kernel_rfl
theorem agg_152 : agg? Try.prog 152 = some false := by kernel_rfl
theorem uk_153 : uk Try.prog 153 = .int .u8 := by kernel_rfl
theorem tsz_153 : tsz Try.prog 153 = some 1 := by kernel_rfl
theorem agg_153 : agg? Try.prog 153 = some false := by kernel_rfl
theorem uk_154 : uk Try.prog 154 = .int .u8 := by kernel_rfl
theorem tsz_154 : tsz Try.prog 154 = some 1 := by kernel_rfl
theorem agg_154 : agg? Try.prog 154 = some false := by kernel_rfl
theorem uk_155 : uk Try.prog 155 = .func := by kernel_rfl
theorem tsz_155 : tsz Try.prog 155 = some 1 := by kernel_rfl
theorem agg_155 : agg? Try.prog 155 = some false := by kernel_rfl
theorem uk_156 : uk Try.prog 156 = .pointer 5 := by kernel_rfl
theorem tsz_156 : tsz Try.prog 156 = some 1 := by kernel_rfl
theorem agg_156 : agg? Try.prog 156 = some false := by kernel_rfl
theorem uk_157 : uk Try.prog 157 = .int .i32 := by kernel_rfl
theorem tsz_157 : tsz Try.prog 157 = some 1 := by kernel_rfl
theorem agg_157 : agg? Try.prog 157 = some false := by kernel_rfl
theorem uk_158 : uk Try.prog 158 = .int .i32 := by kernel_rfl
theorem tsz_158 : tsz Try.prog 158 = some 1 := by kernel_rfl
theorem agg_158 : agg? Try.prog 158 = some false := by kernel_rfl
theorem uk_159 : uk Try.prog 159 = .struct := by kernel_rfl
theorem tsz_159 : tsz Try.prog 159 = some 11 := by kernel_rfl
theorem agg_159 : agg? Try.prog 159 = some true := by kernel_rfl
theorem fOff_159_0 : fOff Try.prog 159 0 = some (0, 12) := by kernel_rfl
theorem fOff_159_1 : fOff Try.prog 159 1 = some (1, 12) := by kernel_rfl
theorem fOff_159_2 : fOff Try.prog 159 2 = some (2, 134) := by kernel_rfl
theorem fOff_159_3 : fOff Try.prog 159 3 = some (3, 153) := by kernel_rfl
theorem fOff_159_4 : fOff Try.prog 159 4 = some (4, 5) := by kernel_rfl
theorem fOff_159_5 : fOff Try.prog 159 5 = some (5, 5) := by kernel_rfl
theorem fOff_159_6 : fOff Try.prog 159 6 = some (6, 154) := by kernel_rfl
theorem fOff_159_7 : fOff Try.prog 159 7 = some (7, 155) := by kernel_rfl
theorem fOff_159_8 : fOff Try.prog 159 8 = some (8, 156) := by kernel_rfl
theorem fOff_159_9 : fOff Try.prog 159 9 = some (9, 157) := by kernel_rfl
theorem fOff_159_10 : fOff Try.prog 159 10 = some (10, 158) := by kernel_rfl
theorem uk_160 : uk Try.prog 160 = .struct := by kernel_rfl
theorem tsz_160 : tsz Try.prog 160 = some 11 := by kernel_rfl
theorem agg_160 : agg? Try.prog 160 = some true := by kernel_rfl
theorem fOff_160_0 : fOff Try.prog 160 0 = some (0, 12) := by kernel_rfl
theorem fOff_160_1 : fOff Try.prog 160 1 = some (1, 12) := by kernel_rfl
theorem fOff_160_2 : fOff Try.prog 160 2 = some (2, 134) := by kernel_rfl
theorem fOff_160_3 : fOff Try.prog 160 3 = some (3, 153) := by kernel_rfl
theorem fOff_160_4 : fOff Try.prog 160 4 = some (4, 5) := by kernel_rfl
theorem fOff_160_5 : fOff Try.prog 160 5 = some (5, 5) := by kernel_rfl
theorem fOff_160_6 : fOff Try.prog 160 6 = some (6, 154) := by kernel_rfl
theorem fOff_160_7 : fOff Try.prog 160 7 = some (7, 155) := by kernel_rfl
theorem fOff_160_8 : fOff Try.prog 160 8 = some (8, 156) := by kernel_rfl
theorem fOff_160_9 : fOff Try.prog 160 9 = some (9, 157) := by kernel_rfl
theorem fOff_160_10 : fOff Try.prog 160 10 = some (10, 158) := by kernel_rfl
theorem uk_161 : uk Try.prog 161 = .other := by kernel_rfl
theorem tsz_161 : tsz Try.prog 161 = some 1 := by kernel_rfl
theorem agg_161 : agg? Try.prog 161 = some false := by kernel_rfl
theorem fplaces_7 : fplaces Try.prog 7 = some [(0, 1), (1, 1), (2, 1), (3, 1)] := by kernel_rfl
theorem fplaces_8 : fplaces Try.prog 8 = some [(0, 1), (1, 1), (2, 1), (3, 1)] := by kernel_rfl
theorem fplaces_13 : fplaces Try.prog 13 = some [(0, 1), (1, 1)] := by kernel_rfl
theorem fplaces_14 : fplaces Try.prog 14 = some [(0, 1), (1, 1)] := by kernel_rfl
theorem fplaces_18 : fplaces Try.prog 18 = some [(0, 1)] := by kernel_rfl
theorem fplaces_19 : fplaces Try.prog 19 = some [(0, 1)] := by kernel_rfl
theorem fplaces_24 : fplaces Try.prog 24 = some [(0, 1), (1, 1)] := by kernel_rfl
theorem fplaces_25 : fplaces Try.prog 25 = some [(0, 1), (1, 1)] := by kernel_rfl
theorem fplaces_36 : fplaces Try.prog 36 = some [(0, 1), (1, 1)] := by kernel_rfl
theorem fplaces_37 : fplaces Try.prog 37 = some [(0, 1), (1, 1)] := by kernel_rfl
theorem fplaces_38 : fplaces Try.prog 38 = some [(0, 1), (1, 1), (2, 1), (3, 1), (4, 1)] := by kernel_rfl
theorem fplaces_39 : fplaces Try.prog 39 = some [(0, 1), (1, 1), (2, 1), (3, 1), (4, 1)] := by kernel_rfl
theorem fplaces_41 : fplaces Try.prog 41 = some [(0, 1), (1, 1), (2, 1)] := by kernel_rfl
theorem fplaces_42 : fplaces Try.prog 42 = some [(0, 1), (1, 1), (2, 1)] := by kernel_rfl
theorem fplaces_55 : fplaces Try.prog 55 = some [(0, 1), (1, 1)] := by kernel_rfl
theorem fplaces_56 : fplaces Try.prog 56 = some [(0, 1), (1, 1)] := by kernel_rfl
theorem fplaces_57 : fplaces Try.prog 57 = some [(0, 1), (1, 1)] := by kernel_rfl
theorem fplaces_60 : fplaces Try.prog 60 = some [(0, 1), (1, 1)] := by kernel_rfl
theorem fplaces_61 : fplaces Try.prog 61 = some [(0, 1), (1, 1)] := by kernel_rfl
theorem fplaces_65 : fplaces Try.prog 65 = some [(0, 1), (1, 1)] := by kernel_rfl
theorem fplaces_66 : fplaces Try.prog 66 = some [(0, 1), (1, 1)] := by kernel_rfl
theorem fplaces_80 : fplaces Try.prog 80 = some [(0, 2), (2, 1), (3, 1), (4, 1), (5, 1), (6, 1)] := by kernel_rfl
theorem fplaces_81 : fplaces Try.prog 81 = some [(0, 2), (2, 1), (3, 1), (4, 1), (5, 1), (6, 1)] := by kernel_rfl
theorem fplaces_93 : fplaces Try.prog 93 = some [(0, 1), (1, 1), (2, 1), (3, 1), (4, 1)] := by kernel_rfl
theorem fplaces_94 : fplaces Try.prog 94 = some [(0, 1), (1, 1), (2, 1), (3, 1), (4, 1)] := by kernel_rfl
theorem fplaces_100 : fplaces Try.prog 100 = some [(0, 1), (1, 1), (2, 1), (3, 1)] := by kernel_rfl
theorem fplaces_101 : fplaces Try.prog 101 = some [(0, 1), (1, 1), (2, 1), (3, 1)] := by kernel_rfl
theorem fplaces_106 : fplaces Try.prog 106 = some [(0, 1), (1, 1)] := by kernel_rfl
theorem fplaces_107 : fplaces Try.prog 107 = some [(0, 1), (1, 1)] := by kernel_rfl
theorem fplaces_108 : fplaces Try.prog 108 = some [(0, 2), (2, 2), (4, 2), (6, 2), (8, 2), (10, 2), (12, 2), (14, 2)] := by kernel_rfl
theorem fplaces_109 : fplaces Try.prog 109 = some [(0, 2), (2, 2), (4, 2), (6, 2), (8, 2), (10, 2), (12, 2), (14, 2)] := by kernel_rfl
theorem fplaces_147 : fplaces Try.prog 147 = some [(0, 1), (1, 1), (2, 1), (3, 1)] := by kernel_rfl
theorem fplaces_148 : fplaces Try.prog 148 = some [(0, 1), (1, 1), (2, 1), (3, 1)] := by kernel_rfl
theorem fplaces_149 : fplaces Try.prog 149 = some [] := by kernel_rfl
theorem fplaces_150 : fplaces Try.prog 150 = some [(0, 0)] := by kernel_rfl
theorem fplaces_151 : fplaces Try.prog 151 = some [(0, 0)] := by kernel_rfl
theorem fplaces_159 : fplaces Try.prog 159 = some [(0, 1), (1, 1), (2, 1), (3, 1), (4, 1), (5, 1), (6, 1), (7, 1), (8, 1), (9, 1), (10, 1)] := by kernel_rfl
theorem fplaces_160 : fplaces Try.prog 160 = some [(0, 1), (1, 1), (2, 1), (3, 1), (4, 1), (5, 1), (6, 1), (7, 1), (8, 1), (9, 1), (10, 1)] := by kernel_rfl
theorem tby_3 : tby Try.prog 3 = some 8 := by kernel_rfl
theorem tby_31 : tby Try.prog 31 = some 24 := by kernel_rfl
theorem tby_37 : tby Try.prog 37 = some 16 := by kernel_rfl
theorem tby_39 : tby Try.prog 39 = some 40 := by kernel_rfl
theorem tby_55 : tby Try.prog 55 = some 16 := by kernel_rfl
theorem tby_77 : tby Try.prog 77 = some 8 := by kernel_rfl
theorem tby_102 : tby Try.prog 102 = some 8 := by kernel_rfl
theorem tby_107 : tby Try.prog 107 = some 16 := by kernel_rfl
theorem zAV_1 : zAV Try.prog 1 = some (.val .nilFunc) := by kernel_rfl
theorem zAV_2 : zAV Try.prog 2 = some (.val (.int .i64 0)) := by kernel_rfl
theorem zAV_3 : zAV Try.prog 3 = some (.val (.int .i64 0)) := by kernel_rfl
theorem zAV_4 : zAV Try.prog 4 = some (.val (.bool false)) := by kernel_rfl
theorem zAV_5 : zAV Try.prog 5 = some (.val (.int .u8 0)) := by kernel_rfl
theorem zAV_6 : zAV Try.prog 6 = some (.val (.int .u8 0)) := by kernel_rfl
theorem zAV_7 : zAV Try.prog 7 = some (.agg [.val (.int .i64 0), .val (.int .i64 0), .val (.bool false), .val (.int .u8 0)]) := by kernel_rfl
theorem zAV_8 : zAV Try.prog 8 = some (.agg [.val (.int .i64 0), .val (.int .i64 0), .val (.bool false), .val (.int .u8 0)]) := by kernel_rfl
theorem zAV_9 : zAV Try.prog 9 = some (.val (.string .empty)) := by kernel_rfl
theorem zAV_10 : zAV Try.prog 10 = some (.val (.string .empty)) := by kernel_rfl
theorem zAV_11 : zAV Try.prog 11 = some (.val (.string .empty)) := by kernel_rfl
theorem zAV_12 : zAV Try.prog 12 = some (.val (.int .u64 0)) := by kernel_rfl
theorem zAV_13 : zAV Try.prog 13 = some (.agg [.val (.string .empty), .val (.int .u64 0)]) := by kernel_rfl
theorem zAV_14 : zAV Try.prog 14 = some (.agg [.val (.string .empty), .val (.int .u64 0)]) := by kernel_rfl
theorem zAV_15 : zAV Try.prog 15 = some (.val (.pointer none)) := by kernel_rfl
theorem zAV_16 : zAV Try.prog 16 = some (.val (.pointer none)) := by kernel_rfl
theorem zAV_17 : zAV Try.prog 17 = some (.val (.pointer none)) := by kernel_rfl
theorem zAV_18 : zAV Try.prog 18 = some (.agg [.val (.pointer none)]) := by kernel_rfl
theorem zAV_19 : zAV Try.prog 19 = some (.agg [.val (.pointer none)]) := by kernel_rfl
theorem zAV_21 : zAV Try.prog 21 = some (.val (.int .i32 0)) := by kernel_rfl
theorem zAV_22 : zAV Try.prog 22 = some (.emp) := by kernel_rfl
theorem zAV_23 : zAV Try.prog 23 = some (.emp) := by kernel_rfl
theorem zAV_24 : zAV Try.prog 24 = some (.agg [.emp, .emp]) := by kernel_rfl
theorem zAV_25 : zAV Try.prog 25 = some (.agg [.emp, .emp]) := by kernel_rfl
theorem zAV_26 : zAV Try.prog 26 = some (.val .nilFunc) := by kernel_rfl
theorem zAV_27 : zAV Try.prog 27 = some (.val .nilFunc) := by kernel_rfl
theorem zAV_28 : zAV Try.prog 28 = some (.val (.int .i64 0)) := by kernel_rfl
theorem zAV_30 : zAV Try.prog 30 = some (.val .nilFunc) := by kernel_rfl
theorem zAV_31 : zAV Try.prog 31 = some (.emp) := by kernel_rfl
theorem zAV_33 : zAV Try.prog 33 = some (.val .nilFunc) := by kernel_rfl
theorem zAV_34 : zAV Try.prog 34 = some (.val .nilFunc) := by kernel_rfl
theorem zAV_35 : zAV Try.prog 35 = some (.val .nilFunc) := by kernel_rfl
theorem zAV_36 : zAV Try.prog 36 = some (.agg [.val (.int .i64 0), .val (.int .i64 0)]) := by kernel_rfl
theorem zAV_37 : zAV Try.prog 37 = some (.agg [.val (.int .i64 0), .val (.int .i64 0)]) := by kernel_rfl
theorem zAV_38 : zAV Try.prog 38 = some (.agg [.val (.int .i64 0), .val (.int .i64 0), .val (.int .i64 0), .val (.int .i64 0), .val (.int .i64 0)]) := by kernel_rfl
theorem zAV_39 : zAV Try.prog 39 = some (.agg [.val (.int .i64 0), .val (.int .i64 0), .val (.int .i64 0), .val (.int .i64 0), .val (.int .i64 0)]) := by kernel_rfl
theorem zAV_40 : zAV Try.prog 40 = some (.val .nilFunc) := by kernel_rfl
theorem zAV_41 : zAV Try.prog 41 = some (.agg [.val (.int .i64 0), .val (.int .i64 0), .val (.int .i64 0)]) := by kernel_rfl
theorem zAV_42 : zAV Try.prog 42 = some (.agg [.val (.int .i64 0), .val (.int .i64 0), .val (.int .i64 0)]) := by kernel_rfl
theorem zAV_43 : zAV Try.prog 43 = some (.val .nilFunc) := by kernel_rfl
theorem zAV_44 : zAV Try.prog 44 = some (.val .nilFunc) := by kernel_rfl
theorem zAV_45 : zAV Try.prog 45 = some (.val .nilFunc) := by kernel_rfl
theorem zAV_46 : zAV Try.prog 46 = some (.emp) := by kernel_rfl
theorem zAV_48 : zAV Try.prog 48 = some (.val .nilFunc) := by kernel_rfl
theorem zAV_49 : zAV Try.prog 49 = some (.val .nilFunc) := by kernel_rfl
theorem zAV_50 : zAV Try.prog 50 = some (.val .nilFunc) := by kernel_rfl
theorem zAV_51 : zAV Try.prog 51 = some (.val .nilFunc) := by kernel_rfl
theorem zAV_52 : zAV Try.prog 52 = some (.val .nilFunc) := by kernel_rfl
theorem zAV_53 : zAV Try.prog 53 = some (.val .nilFunc) := by kernel_rfl
theorem zAV_54 : zAV Try.prog 54 = some (.val .nilFunc) := by kernel_rfl
theorem zAV_55 : zAV Try.prog 55 = some (.agg [.val (.int .i64 0), .val (.int .i64 0)]) := by kernel_rfl
theorem zAV_56 : zAV Try.prog 56 = some (.agg [.val (.int .i64 0), .val (.int .i64 0)]) := by kernel_rfl
theorem zAV_57 : zAV Try.prog 57 = some (.agg [.val (.int .i64 0), .val (.int .i64 0)]) := by kernel_rfl
theorem zAV_58 : zAV Try.prog 58 = some (.val .nilFunc) := by kernel_rfl
theorem zAV_59 : zAV Try.prog 59 = some (.val .nilFunc) := by kernel_rfl
theorem zAV_60 : zAV Try.prog 60 = some (.agg [.val (.int .i64 0), .val (.int .i64 0)]) := by kernel_rfl
theorem zAV_61 : zAV Try.prog 61 = some (.agg [.val (.int .i64 0), .val (.int .i64 0)]) := by kernel_rfl
theorem zAV_63 : zAV Try.prog 63 = some (.val .nilFunc) := by kernel_rfl
theorem zAV_64 : zAV Try.prog 64 = some (.val .nilFunc) := by kernel_rfl
theorem zAV_65 : zAV Try.prog 65 = some (.agg [.emp, .emp]) := by kernel_rfl
theorem zAV_66 : zAV Try.prog 66 = some (.agg [.emp, .emp]) := by kernel_rfl
theorem zAV_67 : zAV Try.prog 67 = some (.val .nilFunc) := by kernel_rfl
theorem zAV_68 : zAV Try.prog 68 = some (.val .nilFunc) := by kernel_rfl
theorem zAV_69 : zAV Try.prog 69 = some (.val .nilFunc) := by kernel_rfl
theorem zAV_70 : zAV Try.prog 70 = some (.val .nilFunc) := by kernel_rfl
theorem zAV_71 : zAV Try.prog 71 = some (.val .nilFunc) := by kernel_rfl
theorem zAV_72 : zAV Try.prog 72 = some (.val .nilFunc) := by kernel_rfl
theorem zAV_73 : zAV Try.prog 73 = some (.val .nilFunc) := by kernel_rfl
theorem zAV_75 : zAV Try.prog 75 = some (.val .nilFunc) := by kernel_rfl
theorem zAV_76 : zAV Try.prog 76 = some (.val .nilFunc) := by kernel_rfl
theorem zAV_77 : zAV Try.prog 77 = some (.val (.pointer none)) := by kernel_rfl
theorem zAV_78 : zAV Try.prog 78 = some (.val .nilFunc) := by kernel_rfl
theorem zAV_79 : zAV Try.prog 79 = some (.emp) := by kernel_rfl
theorem zAV_80 : zAV Try.prog 80 = some (.agg [.emp, .emp, .val (.int .i64 0), .emp, .emp, .emp, .emp]) := by kernel_rfl
theorem zAV_81 : zAV Try.prog 81 = some (.agg [.emp, .emp, .val (.int .i64 0), .emp, .emp, .emp, .emp]) := by kernel_rfl
theorem zAV_82 : zAV Try.prog 82 = some (.val .nilFunc) := by kernel_rfl
theorem zAV_83 : zAV Try.prog 83 = some (.val .nilFunc) := by kernel_rfl
theorem zAV_84 : zAV Try.prog 84 = some (.val .nilFunc) := by kernel_rfl
theorem zAV_85 : zAV Try.prog 85 = some (.val .nilFunc) := by kernel_rfl
theorem zAV_86 : zAV Try.prog 86 = some (.val .nilFunc) := by kernel_rfl
theorem zAV_87 : zAV Try.prog 87 = some (.emp) := by kernel_rfl
theorem zAV_88 : zAV Try.prog 88 = some (.val .nilFunc) := by kernel_rfl
theorem zAV_89 : zAV Try.prog 89 = some (.val .nilFunc) := by kernel_rfl
theorem zAV_90 : zAV Try.prog 90 = some (.val .nilFunc) := by kernel_rfl
theorem zAV_91 : zAV Try.prog 91 = some (.val .nilFunc) := by kernel_rfl
theorem zAV_92 : zAV Try.prog 92 = some (.val (.pointer none)) := by kernel_rfl
theorem zAV_93 : zAV Try.prog 93 = some (.agg [.val (.pointer none), .emp, .val (.int .i64 0), .emp, .val (.int .i64 0)]) := by kernel_rfl
theorem zAV_94 : zAV Try.prog 94 = some (.agg [.val (.pointer none), .emp, .val (.int .i64 0), .emp, .val (.int .i64 0)]) := by kernel_rfl
theorem zAV_95 : zAV Try.prog 95 = some (.val .nilFunc) := by kernel_rfl
theorem zAV_96 : zAV Try.prog 96 = some (.val .nilFunc) := by kernel_rfl
theorem zAV_97 : zAV Try.prog 97 = some (.val .nilFunc) := by kernel_rfl
theorem zAV_98 : zAV Try.prog 98 = some (.val (.pointer none)) := by kernel_rfl
theorem zAV_99 : zAV Try.prog 99 = some (.emp) := by kernel_rfl
theorem zAV_100 : zAV Try.prog 100 = some (.agg [.emp, .val (.int .i64 0), .val (.int .i64 0), .emp]) := by kernel_rfl
theorem zAV_101 : zAV Try.prog 101 = some (.agg [.emp, .val (.int .i64 0), .val (.int .i64 0), .emp]) := by kernel_rfl
theorem zAV_102 : zAV Try.prog 102 = some (.val (.map none)) := by kernel_rfl
theorem zAV_103 : zAV Try.prog 103 = some (.val .nilFunc) := by kernel_rfl
theorem zAV_104 : zAV Try.prog 104 = some (.val .nilFunc) := by kernel_rfl
theorem zAV_105 : zAV Try.prog 105 = some (.val .nilFunc) := by kernel_rfl
theorem zAV_106 : zAV Try.prog 106 = some (.agg [.val (.int .i64 0), .val (.int .i64 0)]) := by kernel_rfl
theorem zAV_107 : zAV Try.prog 107 = some (.agg [.val (.int .i64 0), .val (.int .i64 0)]) := by kernel_rfl
theorem zAV_108 : zAV Try.prog 108 = some (.agg [.val (.int .i64 0), .val (.int .i64 0), .val (.int .i64 0), .val (.int .i64 0), .val (.int .i64 0), .val (.int .i64 0), .val (.int .i64 0), .val (.int .i64 0), .val (.int .i64 0), .val (.int .i64 0), .val (.int .i64 0), .val (.int .i64 0), .val (.int .i64 0), .val (.int .i64 0), .val (.int .i64 0), .val (.int .i64 0)]) := by kernel_rfl
theorem zAV_109 : zAV Try.prog 109 = some (.agg [.val (.int .i64 0), .val (.int .i64 0), .val (.int .i64 0), .val (.int .i64 0), .val (.int .i64 0), .val (.int .i64 0), .val (.int .i64 0), .val (.int .i64 0), .val (.int .i64 0), .val (.int .i64 0), .val (.int .i64 0), .val (.int .i64 0), .val (.int .i64 0), .val (.int .i64 0), .val (.int .i64 0), .val (.int .i64 0)]) := by kernel_rfl
theorem zAV_110 : zAV Try.prog 110 = some (.val .nilFunc) := by kernel_rfl
theorem zAV_111 : zAV Try.prog 111 = some (.val .nilFunc) := by kernel_rfl
theorem zAV_112 : zAV Try.prog 112 = some (.val .nilFunc) := by kernel_rfl
theorem zAV_113 : zAV Try.prog 113 = some (.val .nilFunc) := by kernel_rfl
theorem zAV_114 : zAV Try.prog 114 = some (.val .nilFunc) := by kernel_rfl
theorem zAV_115 : zAV Try.prog 115 = some (.val .nilFunc) := by kernel_rfl
theorem zAV_116 : zAV Try.prog 116 = some (.val .nilFunc) := by kernel_rfl
theorem zAV_117 : zAV Try.prog 117 = some (.emp) := by kernel_rfl
theorem zAV_118 : zAV Try.prog 118 = some (.val .nilFunc) := by kernel_rfl
theorem zAV_119 : zAV Try.prog 119 = some (.val .nilFunc) := by kernel_rfl
theorem zAV_120 : zAV Try.prog 120 = some (.val .nilFunc) := by kernel_rfl
theorem zAV_121 : zAV Try.prog 121 = some (.val .nilFunc) := by kernel_rfl
theorem zAV_122 : zAV Try.prog 122 = some (.val .nilFunc) := by kernel_rfl
theorem zAV_123 : zAV Try.prog 123 = some (.val .nilFunc) := by kernel_rfl
theorem zAV_124 : zAV Try.prog 124 = some (.val .nilFunc) := by kernel_rfl
theorem zAV_125 : zAV Try.prog 125 = some (.val (.int .u64 0)) := by kernel_rfl
theorem zAV_126 : zAV Try.prog 126 = some (.val .nilFunc) := by kernel_rfl
theorem zAV_127 : zAV Try.prog 127 = some (.val (.int .i64 0)) := by kernel_rfl
theorem zAV_129 : zAV Try.prog 129 = some (.val .nilFunc) := by kernel_rfl
theorem zAV_130 : zAV Try.prog 130 = some (.val .nilFunc) := by kernel_rfl
theorem zAV_131 : zAV Try.prog 131 = some (.val .nilFunc) := by kernel_rfl
theorem zAV_132 : zAV Try.prog 132 = some (.val .nilFunc) := by kernel_rfl
theorem zAV_133 : zAV Try.prog 133 = some (.val .nilFunc) := by kernel_rfl
theorem zAV_134 : zAV Try.prog 134 = some (.val (.int .u32 0)) := by kernel_rfl
theorem zAV_135 : zAV Try.prog 135 = some (.val .nilFunc) := by kernel_rfl
theorem zAV_136 : zAV Try.prog 136 = some (.val (.int .u64 0)) := by kernel_rfl
theorem zAV_137 : zAV Try.prog 137 = some (.val (.int .u64 0)) := by kernel_rfl
theorem zAV_138 : zAV Try.prog 138 = some (.val .nilFunc) := by kernel_rfl
theorem zAV_139 : zAV Try.prog 139 = some (.val .nilFunc) := by kernel_rfl
theorem zAV_140 : zAV Try.prog 140 = some (.val .nilFunc) := by kernel_rfl
theorem zAV_141 : zAV Try.prog 141 = some (.val (.pointer none)) := by kernel_rfl
theorem zAV_142 : zAV Try.prog 142 = some (.val .nilFunc) := by kernel_rfl
theorem zAV_143 : zAV Try.prog 143 = some (.val (.pointer none)) := by kernel_rfl
theorem zAV_145 : zAV Try.prog 145 = some (.val .nilFunc) := by kernel_rfl
theorem zAV_146 : zAV Try.prog 146 = some (.val .nilFunc) := by kernel_rfl
theorem zAV_147 : zAV Try.prog 147 = some (.agg [.val (.pointer none), .val (.pointer none), .val (.pointer none), .val (.string .empty)]) := by kernel_rfl
theorem zAV_148 : zAV Try.prog 148 = some (.agg [.val (.pointer none), .val (.pointer none), .val (.pointer none), .val (.string .empty)]) := by kernel_rfl
theorem zAV_149 : zAV Try.prog 149 = some (.agg []) := by kernel_rfl
theorem zAV_150 : zAV Try.prog 150 = some (.agg []) := by kernel_rfl
theorem zAV_151 : zAV Try.prog 151 = some (.agg []) := by kernel_rfl
theorem zAV_152 : zAV Try.prog 152 = some (.val .nilFunc) := by kernel_rfl
theorem zAV_153 : zAV Try.prog 153 = some (.val (.int .u8 0)) := by kernel_rfl
theorem zAV_154 : zAV Try.prog 154 = some (.val (.int .u8 0)) := by kernel_rfl
theorem zAV_155 : zAV Try.prog 155 = some (.val .nilFunc) := by kernel_rfl
theorem zAV_156 : zAV Try.prog 156 = some (.val (.pointer none)) := by kernel_rfl
theorem zAV_157 : zAV Try.prog 157 = some (.val (.int .i32 0)) := by kernel_rfl
theorem zAV_158 : zAV Try.prog 158 = some (.val (.int .i32 0)) := by kernel_rfl
theorem zAV_159 : zAV Try.prog 159 = some (.agg [.val (.int .u64 0), .val (.int .u64 0), .val (.int .u32 0), .val (.int .u8 0), .val (.int .u8 0), .val (.int .u8 0), .val (.int .u8 0), .val .nilFunc, .val (.pointer none), .val (.int .i32 0), .val (.int .i32 0)]) := by kernel_rfl
theorem zAV_160 : zAV Try.prog 160 = some (.agg [.val (.int .u64 0), .val (.int .u64 0), .val (.int .u32 0), .val (.int .u8 0), .val (.int .u8 0), .val (.int .u8 0), .val (.int .u8 0), .val .nilFunc, .val (.pointer none), .val (.int .i32 0), .val (.int .i32 0)]) := by kernel_rfl
theorem zav_1 : zav Try.prog 1 = .any := by kernel_rfl
theorem zav_2 : zav Try.prog 2 = .val (.int .i64 0) := by kernel_rfl
theorem zav_3 : zav Try.prog 3 = .val (.int .i64 0) := by kernel_rfl
theorem zav_4 : zav Try.prog 4 = .val (.bool false) := by kernel_rfl
theorem zav_5 : zav Try.prog 5 = .val (.int .u8 0) := by kernel_rfl
theorem zav_6 : zav Try.prog 6 = .val (.int .u8 0) := by kernel_rfl
theorem zav_7 : zav Try.prog 7 = .agg [.val (.int .i64 0), .val (.int .i64 0), .val (.bool false), .val (.int .u8 0)] := by kernel_rfl
theorem zav_8 : zav Try.prog 8 = .agg [.val (.int .i64 0), .val (.int .i64 0), .val (.bool false), .val (.int .u8 0)] := by kernel_rfl
theorem zav_9 : zav Try.prog 9 = .val (.string .empty) := by kernel_rfl
theorem zav_10 : zav Try.prog 10 = .val (.string .empty) := by kernel_rfl
theorem zav_11 : zav Try.prog 11 = .val (.string .empty) := by kernel_rfl
theorem zav_12 : zav Try.prog 12 = .val (.int .u64 0) := by kernel_rfl
theorem zav_13 : zav Try.prog 13 = .agg [.val (.string .empty), .val (.int .u64 0)] := by kernel_rfl
theorem zav_14 : zav Try.prog 14 = .agg [.val (.string .empty), .val (.int .u64 0)] := by kernel_rfl
theorem zav_15 : zav Try.prog 15 = .any := by kernel_rfl
theorem zav_16 : zav Try.prog 16 = .any := by kernel_rfl
theorem zav_17 : zav Try.prog 17 = .any := by kernel_rfl
theorem zav_18 : zav Try.prog 18 = .agg [.val (.pointer none)] := by kernel_rfl
theorem zav_19 : zav Try.prog 19 = .agg [.val (.pointer none)] := by kernel_rfl
theorem zav_20 : zav Try.prog 20 = .any := by kernel_rfl
theorem zav_21 : zav Try.prog 21 = .val (.int .i32 0) := by kernel_rfl
theorem zav_22 : zav Try.prog 22 = .lst 1 [] := by kernel_rfl
theorem zav_23 : zav Try.prog 23 = .lst 1 [] := by kernel_rfl
theorem zav_24 : zav Try.prog 24 = .agg [.emp, .emp] := by kernel_rfl
theorem zav_25 : zav Try.prog 25 = .agg [.emp, .emp] := by kernel_rfl
theorem zav_26 : zav Try.prog 26 = .any := by kernel_rfl
theorem zav_27 : zav Try.prog 27 = .any := by kernel_rfl
theorem zav_28 : zav Try.prog 28 = .val (.int .i64 0) := by kernel_rfl
theorem zav_30 : zav Try.prog 30 = .any := by kernel_rfl
theorem zav_31 : zav Try.prog 31 = .lst 1 [] := by kernel_rfl
theorem zav_33 : zav Try.prog 33 = .any := by kernel_rfl
theorem zav_34 : zav Try.prog 34 = .any := by kernel_rfl
theorem zav_35 : zav Try.prog 35 = .any := by kernel_rfl
theorem zav_36 : zav Try.prog 36 = .agg [.val (.int .i64 0), .val (.int .i64 0)] := by kernel_rfl
theorem zav_37 : zav Try.prog 37 = .agg [.val (.int .i64 0), .val (.int .i64 0)] := by kernel_rfl
theorem zav_38 : zav Try.prog 38 = .agg [.val (.int .i64 0), .val (.int .i64 0), .val (.int .i64 0), .val (.int .i64 0), .val (.int .i64 0)] := by kernel_rfl
theorem zav_39 : zav Try.prog 39 = .agg [.val (.int .i64 0), .val (.int .i64 0), .val (.int .i64 0), .val (.int .i64 0), .val (.int .i64 0)] := by kernel_rfl
theorem zav_40 : zav Try.prog 40 = .any := by kernel_rfl
theorem zav_41 : zav Try.prog 41 = .agg [.val (.int .i64 0), .val (.int .i64 0), .val (.int .i64 0)] := by kernel_rfl
theorem zav_42 : zav Try.prog 42 = .agg [.val (.int .i64 0), .val (.int .i64 0), .val (.int .i64 0)] := by kernel_rfl
theorem zav_43 : zav Try.prog 43 = .any := by kernel_rfl
theorem zav_44 : zav Try.prog 44 = .any := by kernel_rfl
theorem zav_45 : zav Try.prog 45 = .any := by kernel_rfl
theorem zav_46 : zav Try.prog 46 = .lst 1 [] := by kernel_rfl
theorem zav_48 : zav Try.prog 48 = .any := by kernel_rfl
theorem zav_49 : zav Try.prog 49 = .any := by kernel_rfl
theorem zav_50 : zav Try.prog 50 = .any := by kernel_rfl
theorem zav_51 : zav Try.prog 51 = .any := by kernel_rfl
theorem zav_52 : zav Try.prog 52 = .any := by kernel_rfl
theorem zav_53 : zav Try.prog 53 = .any := by kernel_rfl
theorem zav_54 : zav Try.prog 54 = .any := by kernel_rfl
theorem zav_55 : zav Try.prog 55 = .agg [.val (.int .i64 0), .val (.int .i64 0)] := by kernel_rfl
theorem zav_56 : zav Try.prog 56 = .agg [.val (.int .i64 0), .val (.int .i64 0)] := by kernel_rfl
theorem zav_57 : zav Try.prog 57 = .agg [.val (.int .i64 0), .val (.int .i64 0)] := by kernel_rfl
theorem zav_58 : zav Try.prog 58 = .any := by kernel_rfl
theorem zav_59 : zav Try.prog 59 = .any := by kernel_rfl
theorem zav_60 : zav Try.prog 60 = .agg [.val (.int .i64 0), .val (.int .i64 0)] := by kernel_rfl
theorem zav_61 : zav Try.prog 61 = .agg [.val (.int .i64 0), .val (.int .i64 0)] := by kernel_rfl
theorem zav_63 : zav Try.prog 63 = .any := by kernel_rfl
theorem zav_64 : zav Try.prog 64 = .any := by kernel_rfl
theorem zav_65 : zav Try.prog 65 = .agg [.emp, .emp] := by kernel_rfl
theorem zav_66 : zav Try.prog 66 = .agg [.emp, .emp] := by kernel_rfl
theorem zav_67 : zav Try.prog 67 = .any := by kernel_rfl
theorem zav_68 : zav Try.prog 68 = .any := by kernel_rfl
theorem zav_69 : zav Try.prog 69 = .any := by kernel_rfl
theorem zav_70 : zav Try.prog 70 = .any := by kernel_rfl
theorem zav_71 : zav Try.prog 71 = .any := by kernel_rfl
theorem zav_72 : zav Try.prog 72 = .any := by kernel_rfl
theorem zav_73 : zav Try.prog 73 = .any := by kernel_rfl
theorem zav_75 : zav Try.prog 75 = .any := by kernel_rfl
theorem zav_76 : zav Try.prog 76 = .any := by kernel_rfl
theorem zav_77 : zav Try.prog 77 = .any := by kernel_rfl
theorem zav_78 : zav Try.prog 78 = .any := by kernel_rfl
theorem zav_79 : zav Try.prog 79 = .lst 1 [] := by kernel_rfl
theorem zav_80 : zav Try.prog 80 = .agg [.emp, .emp, .val (.int .i64 0), .emp, .emp, .emp, .emp] := by kernel_rfl
theorem zav_81 : zav Try.prog 81 = .agg [.emp, .emp, .val (.int .i64 0), .emp, .emp, .emp, .emp] := by kernel_rfl
theorem zav_82 : zav Try.prog 82 = .any := by kernel_rfl
theorem zav_83 : zav Try.prog 83 = .any := by kernel_rfl
theorem zav_84 : zav Try.prog 84 = .any := by kernel_rfl
theorem zav_85 : zav Try.prog 85 = .any := by kernel_rfl
theorem zav_86 : zav Try.prog 86 = .any := by kernel_rfl
theorem zav_87 : zav Try.prog 87 = .lst 1 [] := by kernel_rfl
theorem zav_88 : zav Try.prog 88 = .any := by kernel_rfl
theorem zav_89 : zav Try.prog 89 = .any := by kernel_rfl
theorem zav_90 : zav Try.prog 90 = .any := by kernel_rfl
theorem zav_91 : zav Try.prog 91 = .any := by kernel_rfl
theorem zav_92 : zav Try.prog 92 = .any := by kernel_rfl
theorem zav_93 : zav Try.prog 93 = .agg [.val (.pointer none), .emp, .val (.int .i64 0), .emp, .val (.int .i64 0)] := by kernel_rfl
theorem zav_94 : zav Try.prog 94 = .agg [.val (.pointer none), .emp, .val (.int .i64 0), .emp, .val (.int .i64 0)] := by kernel_rfl
theorem zav_95 : zav Try.prog 95 = .any := by kernel_rfl
theorem zav_96 : zav Try.prog 96 = .any := by kernel_rfl
theorem zav_97 : zav Try.prog 97 = .any := by kernel_rfl
theorem zav_98 : zav Try.prog 98 = .any := by kernel_rfl
theorem zav_99 : zav Try.prog 99 = .lst 1 [] := by kernel_rfl
theorem zav_100 : zav Try.prog 100 = .agg [.emp, .val (.int .i64 0), .val (.int .i64 0), .emp] := by kernel_rfl
theorem zav_101 : zav Try.prog 101 = .agg [.emp, .val (.int .i64 0), .val (.int .i64 0), .emp] := by kernel_rfl
theorem zav_102 : zav Try.prog 102 = .any := by kernel_rfl
theorem zav_103 : zav Try.prog 103 = .any := by kernel_rfl
theorem zav_104 : zav Try.prog 104 = .any := by kernel_rfl
theorem zav_105 : zav Try.prog 105 = .any := by kernel_rfl
theorem zav_106 : zav Try.prog 106 = .agg [.val (.int .i64 0), .val (.int .i64 0)] := by kernel_rfl
theorem zav_107 : zav Try.prog 107 = .agg [.val (.int .i64 0), .val (.int .i64 0)] := by kernel_rfl
theorem zav_108 : zav Try.prog 108 = .agg [.val (.int .i64 0), .val (.int .i64 0), .val (.int .i64 0), .val (.int .i64 0), .val (.int .i64 0), .val (.int .i64 0), .val (.int .i64 0), .val (.int .i64 0), .val (.int .i64 0), .val (.int .i64 0), .val (.int .i64 0), .val (.int .i64 0), .val (.int .i64 0), .val (.int .i64 0), .val (.int .i64 0), .val (.int .i64 0)] := by kernel_rfl
theorem zav_109 : zav Try.prog 109 = .agg [.val (.int .i64 0), .val (.int .i64 0), .val (.int .i64 0), .val (.int .i64 0), .val (.int .i64 0), .val (.int .i64 0), .val (.int .i64 0), .val (.int .i64 0), .val (.int .i64 0), .val (.int .i64 0), .val (.int .i64 0), .val (.int .i64 0), .val (.int .i64 0), .val (.int .i64 0), .val (.int .i64 0), .val (.int .i64 0)] := by kernel_rfl
theorem zav_110 : zav Try.prog 110 = .any := by kernel_rfl
theorem zav_111 : zav Try.prog 111 = .any := by kernel_rfl
theorem zav_112 : zav Try.prog 112 = .any := by kernel_rfl
theorem zav_113 : zav Try.prog 113 = .any := by kernel_rfl
theorem zav_114 : zav Try.prog 114 = .any := by kernel_rfl
theorem zav_115 : zav Try.prog 115 = .any := by kernel_rfl
theorem zav_116 : zav Try.prog 116 = .any := by kernel_rfl
theorem zav_117 : zav Try.prog 117 = .lst 1 [] := by kernel_rfl
theorem zav_118 : zav Try.prog 118 = .any := by kernel_rfl
theorem zav_119 : zav Try.prog 119 = .any := by kernel_rfl
theorem zav_120 : zav Try.prog 120 = .any := by kernel_rfl
theorem zav_121 : zav Try.prog 121 = .any := by kernel_rfl
theorem zav_122 : zav Try.prog 122 = .any := by kernel_rfl
theorem zav_123 : zav Try.prog 123 = .any := by kernel_rfl
theorem zav_124 : zav Try.prog 124 = .any := by kernel_rfl
theorem zav_125 : zav Try.prog 125 = .val (.int .u64 0) := by kernel_rfl
theorem zav_126 : zav Try.prog 126 = .any := by kernel_rfl
theorem zav_127 : zav Try.prog 127 = .val (.int .i64 0) := by kernel_rfl
theorem zav_129 : zav Try.prog 129 = .any := by kernel_rfl
theorem zav_130 : zav Try.prog 130 = .any := by kernel_rfl
theorem zav_131 : zav Try.prog 131 = .any := by kernel_rfl
theorem zav_132 : zav Try.prog 132 = .any := by kernel_rfl
theorem zav_133 : zav Try.prog 133 = .any := by kernel_rfl
theorem zav_134 : zav Try.prog 134 = .val (.int .u32 0) := by kernel_rfl
theorem zav_135 : zav Try.prog 135 = .any := by kernel_rfl
theorem zav_136 : zav Try.prog 136 = .val (.int .u64 0) := by kernel_rfl
theorem zav_137 : zav Try.prog 137 = .val (.int .u64 0) := by kernel_rfl
theorem zav_138 : zav Try.prog 138 = .any := by kernel_rfl
theorem zav_139 : zav Try.prog 139 = .any := by kernel_rfl
theorem zav_140 : zav Try.prog 140 = .any := by kernel_rfl
theorem zav_141 : zav Try.prog 141 = .any := by kernel_rfl
theorem zav_142 : zav Try.prog 142 = .any := by kernel_rfl
theorem zav_143 : zav Try.prog 143 = .any := by kernel_rfl
theorem zav_145 : zav Try.prog 145 = .any := by kernel_rfl
theorem zav_146 : zav Try.prog 146 = .any := by kernel_rfl
theorem zav_147 : zav Try.prog 147 = .agg [.val (.pointer none), .val (.pointer none), .val (.pointer none), .val (.string .empty)] := by kernel_rfl
theorem zav_148 : zav Try.prog 148 = .agg [.val (.pointer none), .val (.pointer none), .val (.pointer none), .val (.string .empty)] := by kernel_rfl
theorem zav_149 : zav Try.prog 149 = .agg [] := by kernel_rfl
theorem zav_150 : zav Try.prog 150 = .agg [] := by kernel_rfl
theorem zav_151 : zav Try.prog 151 = .agg [] := by kernel_rfl
theorem zav_152 : zav Try.prog 152 = .any := by kernel_rfl
theorem zav_153 : zav Try.prog 153 = .val (.int .u8 0) := by kernel_rfl
theorem zav_154 : zav Try.prog 154 = .val (.int .u8 0) := by kernel_rfl
theorem zav_155 : zav Try.prog 155 = .any := by kernel_rfl
theorem zav_156 : zav Try.prog 156 = .any := by kernel_rfl
theorem zav_157 : zav Try.prog 157 = .val (.int .i32 0) := by kernel_rfl
theorem zav_158 : zav Try.prog 158 = .val (.int .i32 0) := by kernel_rfl
theorem zav_159 : zav Try.prog 159 = .agg [.val (.int .u64 0), .val (.int .u64 0), .val (.int .u32 0), .val (.int .u8 0), .val (.int .u8 0), .val (.int .u8 0), .val (.int .u8 0), .val .nilFunc, .val (.pointer none), .val (.int .i32 0), .val (.int .i32 0)] := by kernel_rfl
theorem zav_160 : zav Try.prog 160 = .agg [.val (.int .u64 0), .val (.int .u64 0), .val (.int .u32 0), .val (.int .u8 0), .val (.int .u8 0), .val (.int .u8 0), .val (.int .u8 0), .val .nilFunc, .val (.pointer none), .val (.int .i32 0), .val (.int .i32 0)] := by kernel_rfl
theorem zav_161 : zav Try.prog 161 = .any := by kernel_rfl
theorem elB_3 : elB Try.prog 3 = true := by kernel_rfl
theorem elB_31 : elB Try.prog 31 = true := by kernel_rfl
theorem elB_37 : elB Try.prog 37 = true := by kernel_rfl
theorem elB_39 : elB Try.prog 39 = true := by kernel_rfl
theorem elB_55 : elB Try.prog 55 = true := by kernel_rfl
theorem elB_77 : elB Try.prog 77 = true := by kernel_rfl
theorem elB_102 : elB Try.prog 102 = true := by kernel_rfl
theorem elB_107 : elB Try.prog 107 = true := by kernel_rfl
theorem cmpT_37 : cmpT Try.prog 37 = some [0, 0] := by kernel_rfl
theorem cmpT_39 : cmpT Try.prog 39 = some [0, 0, 0, 0, 0] := by kernel_rfl
theorem cmpT_42 : cmpT Try.prog 42 = some [0, 0, 0] := by kernel_rfl
theorem cmpT_55 : cmpT Try.prog 55 = some [0, 0] := by kernel_rfl
theorem cmpT_57 : cmpT Try.prog 57 = some [0, 0] := by kernel_rfl
theorem cmpT_61 : cmpT Try.prog 61 = some [0, 0] := by kernel_rfl
theorem cmpT_107 : cmpT Try.prog 107 = some [0, 0] := by kernel_rfl
theorem cmpT_108 : cmpT Try.prog 108 = some [0, 0, 0, 0, 0, 0, 0, 0, 0, 0, 0, 0, 0, 0, 0, 0] := by kernel_rfl
theorem cmpT_109 : cmpT Try.prog 109 = some [0, 0, 0, 0, 0, 0, 0, 0, 0, 0, 0, 0, 0, 0, 0, 0] := by kernel_rfl
attribute [push_cast] uk_1 uk_2 uk_3 uk_4 uk_5 uk_6 uk_7 uk_8 uk_9 uk_10 uk_11 uk_12 uk_13 uk_14 uk_15 uk_16 uk_17 uk_18 uk_19 uk_20 uk_21 uk_22 uk_23 uk_24 uk_25 uk_26 uk_27 uk_28 uk_30 uk_31 uk_33 uk_34 uk_35 uk_36 uk_37 uk_38 uk_39 uk_40 uk_41 uk_42
attribute [push_cast] uk_43 uk_44 uk_45 uk_46 uk_48 uk_49 uk_50 uk_51 uk_52 uk_53 uk_54 uk_55 uk_56 uk_57 uk_58 uk_59 uk_60 uk_61 uk_63 uk_64 uk_65 uk_66 uk_67 uk_68 uk_69 uk_70 uk_71 uk_72 uk_73 uk_75 uk_76 uk_77 uk_78 uk_79 uk_80 uk_81 uk_82 uk_83 uk_84 uk_85
attribute [push_cast] uk_86 uk_87 uk_88 uk_89 uk_90 uk_91 uk_92 uk_93 uk_94 uk_95 uk_96 uk_97 uk_98 uk_99 uk_100 uk_101 uk_102 uk_103 uk_104 uk_105 uk_106 uk_107 uk_108 uk_109 uk_110 uk_111 uk_112 uk_113 uk_114 uk_115 uk_116 uk_117 uk_118 uk_119 uk_120 uk_121 uk_122 uk_123 uk_124 uk_125
attribute [push_cast] uk_126 uk_127 uk_129 uk_130 uk_131 uk_132 uk_133 uk_134 uk_135 uk_136 uk_137 uk_138 uk_139 uk_140 uk_141 uk_142 uk_143 uk_145 uk_146 uk_147 uk_148 uk_149 uk_150 uk_151 uk_152 uk_153 uk_154 uk_155 uk_156 uk_157 uk_158 uk_159 uk_160 uk_161
attribute [push_cast] arT_55 arT_108 arT_109 arT_149
attribute [push_cast] tsz_1 tsz_2 tsz_3 tsz_4 tsz_5 tsz_6 tsz_7 tsz_8 tsz_9 tsz_10 tsz_11 tsz_12 tsz_13 tsz_14 tsz_15 tsz_16 tsz_17 tsz_18 tsz_19 tsz_20 tsz_21 tsz_22 tsz_23 tsz_24 tsz_25 tsz_26 tsz_27 tsz_28 tsz_30 tsz_31 tsz_33 tsz_34 tsz_35 tsz_36 tsz_37 tsz_38 tsz_39 tsz_40 tsz_41 tsz_42
attribute [push_cast] tsz_43 tsz_44 tsz_45 tsz_46 tsz_48 tsz_49 tsz_50 tsz_51 tsz_52 tsz_53 tsz_54 tsz_55 tsz_56 tsz_57 tsz_58 tsz_59 tsz_60 tsz_61 tsz_63 tsz_64 tsz_65 tsz_66 tsz_67 tsz_68 tsz_69 tsz_70 tsz_71 tsz_72 tsz_73 tsz_75 tsz_76 tsz_77 tsz_78 tsz_79 tsz_80 tsz_81 tsz_82 tsz_83 tsz_84 tsz_85
attribute [push_cast] tsz_86 tsz_87 tsz_88 tsz_89 tsz_90 tsz_91 tsz_92 tsz_93 tsz_94 tsz_95 tsz_96 tsz_97 tsz_98 tsz_99 tsz_100 tsz_101 tsz_102 tsz_103 tsz_104 tsz_105 tsz_106 tsz_107 tsz_108 tsz_109 tsz_110 tsz_111 tsz_112 tsz_113 tsz_114 tsz_115 tsz_116 tsz_117 tsz_118 tsz_119 tsz_120 tsz_121 tsz_122 tsz_123 tsz_124 tsz_125
attribute [push_cast] tsz_126 tsz_127 tsz_129 tsz_130 tsz_131 tsz_132 tsz_133 tsz_134 tsz_135 tsz_136 tsz_137 tsz_138 tsz_139 tsz_140 tsz_141 tsz_142 tsz_143 tsz_145 tsz_146 tsz_147 tsz_148 tsz_149 tsz_150 tsz_151 tsz_152 tsz_153 tsz_154 tsz_155 tsz_156 tsz_157 tsz_158 tsz_159 tsz_160 tsz_161
attribute [push_cast] agg_1 agg_2 agg_3 agg_4 agg_5 agg_6 agg_7 agg_8 agg_9 agg_10 agg_11 agg_12 agg_13 agg_14 agg_15 agg_16 agg_17 agg_18 agg_19 agg_20 agg_21 agg_22 agg_23 agg_24 agg_25 agg_26 agg_27 agg_28 agg_30 agg_31 agg_33 agg_34 agg_35 agg_36 agg_37 agg_38 agg_39 agg_40 agg_41 agg_42
attribute [push_cast] agg_43 agg_44 agg_45 agg_46 agg_48 agg_49 agg_50 agg_51 agg_52 agg_53 agg_54 agg_55 agg_56 agg_57 agg_58 agg_59 agg_60 agg_61 agg_63 agg_64 agg_65 agg_66 agg_67 agg_68 agg_69 agg_70 agg_71 agg_72 agg_73 agg_75 agg_76 agg_77 agg_78 agg_79 agg_80 agg_81 agg_82 agg_83 agg_84 agg_85
attribute [push_cast] agg_86 agg_87 agg_88 agg_89 agg_90 agg_91 agg_92 agg_93 agg_94 agg_95 agg_96 agg_97 agg_98 agg_99 agg_100 agg_101 agg_102 agg_103 agg_104 agg_105 agg_106 agg_107 agg_108 agg_109 agg_110 agg_111 agg_112 agg_113 agg_114 agg_115 agg_116 agg_117 agg_118 agg_119 agg_120 agg_121 agg_122 agg_123 agg_124 agg_125
attribute [push_cast] agg_126 agg_127 agg_129 agg_130 agg_131 agg_132 agg_133 agg_134 agg_135 agg_136 agg_137 agg_138 agg_139 agg_140 agg_141 agg_142 agg_143 agg_145 agg_146 agg_147 agg_148 agg_149 agg_150 agg_151 agg_152 agg_153 agg_154 agg_155 agg_156 agg_157 agg_158 agg_159 agg_160 agg_161
attribute [push_cast] fOff_7_0 fOff_7_1 fOff_7_2 fOff_7_3 fOff_8_0 fOff_8_1 fOff_8_2 fOff_8_3 fOff_13_0 fOff_13_1 fOff_14_0 fOff_14_1 fOff_18_0 fOff_19_0 fOff_24_0 fOff_24_1 fOff_25_0 fOff_25_1 fOff_36_0 fOff_36_1 fOff_37_0 fOff_37_1 fOff_38_0 fOff_38_1 fOff_38_2 fOff_38_3 fOff_38_4 fOff_39_0 fOff_39_1 fOff_39_2 fOff_39_3 fOff_39_4 fOff_41_0 fOff_41_1 fOff_41_2 fOff_42_0 fOff_42_1 fOff_42_2 fOff_56_0 fOff_56_1
attribute [push_cast] fOff_57_0 fOff_57_1 fOff_60_0 fOff_60_1 fOff_61_0 fOff_61_1 fOff_65_0 fOff_65_1 fOff_66_0 fOff_66_1 fOff_80_0 fOff_80_1 fOff_80_2 fOff_80_3 fOff_80_4 fOff_80_5 fOff_81_0 fOff_81_1 fOff_81_2 fOff_81_3 fOff_81_4 fOff_81_5 fOff_93_0 fOff_93_1 fOff_93_2 fOff_93_3 fOff_93_4 fOff_94_0 fOff_94_1 fOff_94_2 fOff_94_3 fOff_94_4 fOff_100_0 fOff_100_1 fOff_100_2 fOff_100_3 fOff_101_0 fOff_101_1 fOff_101_2 fOff_101_3
attribute [push_cast] fOff_106_0 fOff_106_1 fOff_107_0 fOff_107_1 fOff_147_0 fOff_147_1 fOff_147_2 fOff_147_3 fOff_148_0 fOff_148_1 fOff_148_2 fOff_148_3 fOff_150_0 fOff_151_0 fOff_159_0 fOff_159_1 fOff_159_2 fOff_159_3 fOff_159_4 fOff_159_5 fOff_159_6 fOff_159_7 fOff_159_8 fOff_159_9 fOff_159_10 fOff_160_0 fOff_160_1 fOff_160_2 fOff_160_3 fOff_160_4 fOff_160_5 fOff_160_6 fOff_160_7 fOff_160_8 fOff_160_9 fOff_160_10
attribute [push_cast] tby_3 tby_31 tby_37 tby_39 tby_55 tby_77 tby_102 tby_107
attribute [push_cast] zAV_1 zAV_2 zAV_3 zAV_4 zAV_5 zAV_6 zAV_7 zAV_8 zAV_9 zAV_10 zAV_11 zAV_12 zAV_13 zAV_14 zAV_15 zAV_16 zAV_17 zAV_18 zAV_19 zAV_21 zAV_22 zAV_23 zAV_24 zAV_25 zAV_26 zAV_27 zAV_28 zAV_30 zAV_31 zAV_33 zAV_34 zAV_35 zAV_36 zAV_37 zAV_38 zAV_39 zAV_40 zAV_41 zAV_42 zAV_43
attribute [push_cast] zAV_44 zAV_45 zAV_46 zAV_48 zAV_49 zAV_50 zAV_51 zAV_52 zAV_53 zAV_54 zAV_55 zAV_56 zAV_57 zAV_58 zAV_59 zAV_60 zAV_61 zAV_63 zAV_64 zAV_65 zAV_66 zAV_67 zAV_68 zAV_69 zAV_70 zAV_71 zAV_72 zAV_73 zAV_75 zAV_76 zAV_77 zAV_78 zAV_79 zAV_80 zAV_81 zAV_82 zAV_83 zAV_84 zAV_85 zAV_86
attribute [push_cast] zAV_87 zAV_88 zAV_89 zAV_90 zAV_91 zAV_92 zAV_93 zAV_94 zAV_95 zAV_96 zAV_97 zAV_98 zAV_99 zAV_100 zAV_101 zAV_102 zAV_103 zAV_104 zAV_105 zAV_106 zAV_107 zAV_108 zAV_109 zAV_110 zAV_111 zAV_112 zAV_113 zAV_114 zAV_115 zAV_116 zAV_117 zAV_118 zAV_119 zAV_120 zAV_121 zAV_122 zAV_123 zAV_124 zAV_125 zAV_126
attribute [push_cast] zAV_127 zAV_129 zAV_130 zAV_131 zAV_132 zAV_133 zAV_134 zAV_135 zAV_136 zAV_137 zAV_138 zAV_139 zAV_140 zAV_141 zAV_142 zAV_143 zAV_145 zAV_146 zAV_147 zAV_148 zAV_149 zAV_150 zAV_151 zAV_152 zAV_153 zAV_154 zAV_155 zAV_156 zAV_157 zAV_158 zAV_159 zAV_160
attribute [push_cast] elB_3 elB_31 elB_37 elB_39 elB_55 elB_77 elB_102 elB_107
attribute [push_cast] fplaces_7 fplaces_8 fplaces_13 fplaces_14 fplaces_18 fplaces_19 fplaces_24 fplaces_25 fplaces_36 fplaces_37 fplaces_38 fplaces_39 fplaces_41 fplaces_42 fplaces_55 fplaces_56 fplaces_57 fplaces_60 fplaces_61 fplaces_65 fplaces_66 fplaces_80 fplaces_81 fplaces_93 fplaces_94 fplaces_100 fplaces_101 fplaces_106 fplaces_107 fplaces_108 fplaces_109 fplaces_147 fplaces_148 fplaces_149 fplaces_150 fplaces_151 fplaces_159 fplaces_160
attribute [push_cast] zav_1 zav_2 zav_3 zav_4 zav_5 zav_6 zav_7 zav_8 zav_9 zav_10 zav_11 zav_12 zav_13 zav_14 zav_15 zav_16 zav_17 zav_18 zav_19 zav_20 zav_21 zav_22 zav_23 zav_24 zav_25 zav_26 zav_27 zav_28 zav_30 zav_31 zav_33 zav_34 zav_35 zav_36 zav_37 zav_38 zav_39 zav_40 zav_41 zav_42
attribute [push_cast] zav_43 zav_44 zav_45 zav_46 zav_48 zav_49 zav_50 zav_51 zav_52 zav_53 zav_54 zav_55 zav_56 zav_57 zav_58 zav_59 zav_60 zav_61 zav_63 zav_64 zav_65 zav_66 zav_67 zav_68 zav_69 zav_70 zav_71 zav_72 zav_73 zav_75 zav_76 zav_77 zav_78 zav_79 zav_80 zav_81 zav_82 zav_83 zav_84 zav_85
attribute [push_cast] zav_86 zav_87 zav_88 zav_89 zav_90 zav_91 zav_92 zav_93 zav_94 zav_95 zav_96 zav_97 zav_98 zav_99 zav_100 zav_101 zav_102 zav_103 zav_104 zav_105 zav_106 zav_107 zav_108 zav_109 zav_110 zav_111 zav_112 zav_113 zav_114 zav_115 zav_116 zav_117 zav_118 zav_119 zav_120 zav_121 zav_122 zav_123 zav_124 zav_125
attribute [push_cast] zav_126 zav_127 zav_129 zav_130 zav_131 zav_132 zav_133 zav_134 zav_135 zav_136 zav_137 zav_138 zav_139 zav_140 zav_141 zav_142 zav_143 zav_145 zav_146 zav_147 zav_148 zav_149 zav_150 zav_151 zav_152 zav_153 zav_154 zav_155 zav_156 zav_157 zav_158 zav_159 zav_160 zav_161
attribute [push_cast] cmpT_37 cmpT_39 cmpT_42 cmpT_55 cmpT_57 cmpT_61 cmpT_107 cmpT_108 cmpT_109
theorem mixed : Try.prog.follows .mixedOrders = true := by kernel_rfl
end Go.Proofs.Try
