/- The closed facts of this seat's types and functions that the abstract machine asks for. Written by a program (facts.py). -/
import Derived.Test.YtcpmcebdolcldaaProg
import Derived.Test.YtcpmcebdolcldaaVgZ
set_option linter.all false
namespace Go.Proofs.Try
open Go.Vg
theorem uk_1 : uk Try.prog 1 = .func := by kernel_rfl
theorem tsz_1 : tsz Try.prog 1 = some 1 := by kernel_rfl
theorem agg_1 : agg? Try.prog 1 = some false := by kernel_rfl
theorem uk_2 : uk Try.prog 2 = .int .i64 := by kernel_rfl
theorem tsz_2 : tsz Try.prog 2 = some 1 := by kernel_rfl
theorem agg_2 : agg? Try.prog 2 = some false := by kernel_rfl
theorem uk_3 : uk Try.prog 3 = .int .i64 := by kernel_rfl
theorem tsz_3 : tsz Try.prog 3 = some 1 := by kernel_rfl
theorem agg_3 : agg? Try.prog 3 = some false := by kernel_rfl
theorem uk_4 : uk Try.prog 4 = .bool := by kernel_rfl
theorem tsz_4 : tsz Try.prog 4 = some 1 := by kernel_rfl
theorem agg_4 : agg? Try.prog 4 = some false := by kernel_rfl
theorem uk_5 : uk Try.prog 5 = .int .u8 := by kernel_rfl
theorem tsz_5 : tsz Try.prog 5 = some 1 := by kernel_rfl
theorem agg_5 : agg? Try.prog 5 = some false := by kernel_rfl
theorem uk_6 : uk Try.prog 6 = .int .u8 := by kernel_rfl
theorem tsz_6 : tsz Try.prog 6 = some 1 := by kernel_rfl
theorem agg_6 : agg? Try.prog 6 = some false := by kernel_rfl
theorem uk_7 : uk Try.prog 7 = .struct := by kernel_rfl
theorem tsz_7 : tsz Try.prog 7 = some 4 := by kernel_rfl
theorem agg_7 : agg? Try.prog 7 = some true := by kernel_rfl
theorem fOff_7_0 : fOff Try.prog 7 0 = some (0, 2) := by kernel_rfl
theorem fOff_7_1 : fOff Try.prog 7 1 = some (1, 3) := by kernel_rfl
theorem fOff_7_2 : fOff Try.prog 7 2 = some (2, 4) := by kernel_rfl
theorem fOff_7_3 : fOff Try.prog 7 3 = some (3, 6) := by kernel_rfl
theorem uk_8 : uk Try.prog 8 = .struct := by kernel_rfl
theorem tsz_8 : tsz Try.prog 8 = some 4 := by kernel_rfl
theorem agg_8 : agg? Try.prog 8 = some true := by kernel_rfl
theorem fOff_8_0 : fOff Try.prog 8 0 = some (0, 2) := by kernel_rfl
theorem fOff_8_1 : fOff Try.prog 8 1 = some (1, 3) := by kernel_rfl
theorem fOff_8_2 : fOff Try.prog 8 2 = some (2, 4) := by kernel_rfl
theorem fOff_8_3 : fOff Try.prog 8 3 = some (3, 6) := by kernel_rfl
theorem uk_9 : uk Try.prog 9 = .string := by kernel_rfl
theorem tsz_9 : tsz Try.prog 9 = some 1 := by kernel_rfl
theorem agg_9 : agg? Try.prog 9 = some false := by kernel_rfl
theorem uk_10 : uk Try.prog 10 = .string := by kernel_rfl
theorem tsz_10 : tsz Try.prog 10 = some 1 := by kernel_rfl
theorem agg_10 : agg? Try.prog 10 = some false := by kernel_rfl
theorem uk_11 : uk Try.prog 11 = .string := by kernel_rfl
theorem tsz_11 : tsz Try.prog 11 = some 1 := by kernel_rfl
theorem agg_11 : agg? Try.prog 11 = some false := by kernel_rfl
theorem uk_12 : uk Try.prog 12 = .int .u64 := by kernel_rfl
theorem tsz_12 : tsz Try.prog 12 = some 1 := by kernel_rfl
theorem agg_12 : agg? Try.prog 12 = some false := by kernel_rfl
theorem uk_13 : uk Try.prog 13 = .struct := by kernel_rfl
theorem tsz_13 : tsz Try.prog 13 = some 2 := by kernel_rfl
theorem agg_13 : agg? Try.prog 13 = some true := by kernel_rfl
theorem fOff_13_0 : fOff Try.prog 13 0 = some (0, 9) := by kernel_rfl
theorem fOff_13_1 : fOff Try.prog 13 1 = some (1, 12) := by kernel_rfl
theorem uk_14 : uk Try.prog 14 = .struct := by kernel_rfl
theorem tsz_14 : tsz Try.prog 14 = some 2 := by kernel_rfl
theorem agg_14 : agg? Try.prog 14 = some true := by kernel_rfl
theorem fOff_14_0 : fOff Try.prog 14 0 = some (0, 9) := by kernel_rfl
theorem fOff_14_1 : fOff Try.prog 14 1 = some (1, 12) := by kernel_rfl
theorem uk_15 : uk Try.prog 15 = .pointer 126 := by kernel_rfl
theorem tsz_15 : tsz Try.prog 15 = some 1 := by kernel_rfl
theorem agg_15 : agg? Try.prog 15 = some false := by kernel_rfl
theorem uk_16 : uk Try.prog 16 = .pointer 129 := by kernel_rfl
theorem tsz_16 : tsz Try.prog 16 = some 1 := by kernel_rfl
theorem agg_16 : agg? Try.prog 16 = some false := by kernel_rfl
theorem uk_17 : uk Try.prog 17 = .pointer 138 := by kernel_rfl
theorem tsz_17 : tsz Try.prog 17 = some 1 := by kernel_rfl
theorem agg_17 : agg? Try.prog 17 = some false := by kernel_rfl
theorem uk_18 : uk Try.prog 18 = .struct := by kernel_rfl
theorem tsz_18 : tsz Try.prog 18 = some 1 := by kernel_rfl
theorem agg_18 : agg? Try.prog 18 = some true := by kernel_rfl
theorem fOff_18_0 : fOff Try.prog 18 0 = some (0, 17) := by kernel_rfl
theorem uk_19 : uk Try.prog 19 = .struct := by kernel_rfl
theorem tsz_19 : tsz Try.prog 19 = some 1 := by kernel_rfl
theorem agg_19 : agg? Try.prog 19 = some true := by kernel_rfl
theorem fOff_19_0 : fOff Try.prog 19 0 = some (0, 17) := by kernel_rfl
theorem uk_20 : uk Try.prog 20 = .other := by kernel_rfl
theorem tsz_20 : tsz Try.prog 20 = some 1 := by kernel_rfl
theorem agg_20 : agg? Try.prog 20 = some false := by kernel_rfl
theorem uk_21 : uk Try.prog 21 = .int .i32 := by kernel_rfl
theorem tsz_21 : tsz Try.prog 21 = some 1 := by kernel_rfl
theorem agg_21 : agg? Try.prog 21 = some false := by kernel_rfl
theorem uk_22 : uk Try.prog 22 = .slice 34 := by kernel_rfl
theorem tsz_22 : tsz Try.prog 22 = some 1 := by kernel_rfl
theorem agg_22 : agg? Try.prog 22 = some false := by kernel_rfl
theorem uk_23 : uk Try.prog 23 = .slice 28 := by kernel_rfl
theorem tsz_23 : tsz Try.prog 23 = some 1 := by kernel_rfl
theorem agg_23 : agg? Try.prog 23 = some false := by kernel_rfl
theorem uk_24 : uk Try.prog 24 = .int .i64 := by kernel_rfl
theorem tsz_24 : tsz Try.prog 24 = some 1 := by kernel_rfl
theorem agg_24 : agg? Try.prog 24 = some false := by kernel_rfl
theorem uk_26 : uk Try.prog 26 = .func := by kernel_rfl
theorem tsz_26 : tsz Try.prog 26 = some 1 := by kernel_rfl
theorem agg_26 : agg? Try.prog 26 = some false := by kernel_rfl
theorem uk_27 : uk Try.prog 27 = .func := by kernel_rfl
theorem tsz_27 : tsz Try.prog 27 = some 1 := by kernel_rfl
theorem agg_27 : agg? Try.prog 27 = some false := by kernel_rfl
theorem uk_28 : uk Try.prog 28 = .slice 3 := by kernel_rfl
theorem tsz_28 : tsz Try.prog 28 = some 1 := by kernel_rfl
theorem agg_28 : agg? Try.prog 28 = some false := by kernel_rfl
theorem uk_30 : uk Try.prog 30 = .func := by kernel_rfl
theorem tsz_30 : tsz Try.prog 30 = some 1 := by kernel_rfl
theorem agg_30 : agg? Try.prog 30 = some false := by kernel_rfl
theorem uk_31 : uk Try.prog 31 = .func := by kernel_rfl
theorem tsz_31 : tsz Try.prog 31 = some 1 := by kernel_rfl
theorem agg_31 : agg? Try.prog 31 = some false := by kernel_rfl
theorem uk_32 : uk Try.prog 32 = .func := by kernel_rfl
theorem tsz_32 : tsz Try.prog 32 = some 1 := by kernel_rfl
theorem agg_32 : agg? Try.prog 32 = some false := by kernel_rfl
theorem uk_33 : uk Try.prog 33 = .struct := by kernel_rfl
theorem tsz_33 : tsz Try.prog 33 = some 5 := by kernel_rfl
theorem agg_33 : agg? Try.prog 33 = some true := by kernel_rfl
theorem fOff_33_0 : fOff Try.prog 33 0 = some (0, 3) := by kernel_rfl
theorem fOff_33_1 : fOff Try.prog 33 1 = some (1, 3) := by kernel_rfl
theorem fOff_33_2 : fOff Try.prog 33 2 = some (2, 3) := by kernel_rfl
theorem fOff_33_3 : fOff Try.prog 33 3 = some (3, 3) := by kernel_rfl
theorem fOff_33_4 : fOff Try.prog 33 4 = some (4, 4) := by kernel_rfl
theorem uk_34 : uk Try.prog 34 = .struct := by kernel_rfl
theorem tsz_34 : tsz Try.prog 34 = some 5 := by kernel_rfl
theorem agg_34 : agg? Try.prog 34 = some true := by kernel_rfl
theorem fOff_34_0 : fOff Try.prog 34 0 = some (0, 3) := by kernel_rfl
theorem fOff_34_1 : fOff Try.prog 34 1 = some (1, 3) := by kernel_rfl
theorem fOff_34_2 : fOff Try.prog 34 2 = some (2, 3) := by kernel_rfl
theorem fOff_34_3 : fOff Try.prog 34 3 = some (3, 3) := by kernel_rfl
theorem fOff_34_4 : fOff Try.prog 34 4 = some (4, 4) := by kernel_rfl
theorem uk_35 : uk Try.prog 35 = .func := by kernel_rfl
theorem tsz_35 : tsz Try.prog 35 = some 1 := by kernel_rfl
theorem agg_35 : agg? Try.prog 35 = some false := by kernel_rfl
theorem uk_36 : uk Try.prog 36 = .func := by kernel_rfl
theorem tsz_36 : tsz Try.prog 36 = some 1 := by kernel_rfl
theorem agg_36 : agg? Try.prog 36 = some false := by kernel_rfl
theorem uk_37 : uk Try.prog 37 = .func := by kernel_rfl
theorem tsz_37 : tsz Try.prog 37 = some 1 := by kernel_rfl
theorem agg_37 : agg? Try.prog 37 = some false := by kernel_rfl
theorem uk_38 : uk Try.prog 38 = .func := by kernel_rfl
theorem tsz_38 : tsz Try.prog 38 = some 1 := by kernel_rfl
theorem agg_38 : agg? Try.prog 38 = some false := by kernel_rfl
theorem uk_39 : uk Try.prog 39 = .slice 4 := by kernel_rfl
theorem tsz_39 : tsz Try.prog 39 = some 1 := by kernel_rfl
theorem agg_39 : agg? Try.prog 39 = some false := by kernel_rfl
theorem uk_40 : uk Try.prog 40 = .struct := by kernel_rfl
theorem tsz_40 : tsz Try.prog 40 = some 5 := by kernel_rfl
theorem agg_40 : agg? Try.prog 40 = some true := by kernel_rfl
theorem fOff_40_0 : fOff Try.prog 40 0 = some (0, 3) := by kernel_rfl
theorem fOff_40_1 : fOff Try.prog 40 1 = some (1, 3) := by kernel_rfl
theorem fOff_40_2 : fOff Try.prog 40 2 = some (2, 39) := by kernel_rfl
theorem fOff_40_3 : fOff Try.prog 40 3 = some (3, 3) := by kernel_rfl
theorem fOff_40_4 : fOff Try.prog 40 4 = some (4, 3) := by kernel_rfl
theorem uk_41 : uk Try.prog 41 = .struct := by kernel_rfl
theorem tsz_41 : tsz Try.prog 41 = some 5 := by kernel_rfl
theorem agg_41 : agg? Try.prog 41 = some true := by kernel_rfl
theorem fOff_41_0 : fOff Try.prog 41 0 = some (0, 3) := by kernel_rfl
theorem fOff_41_1 : fOff Try.prog 41 1 = some (1, 3) := by kernel_rfl
theorem fOff_41_2 : fOff Try.prog 41 2 = some (2, 39) := by kernel_rfl
theorem fOff_41_3 : fOff Try.prog 41 3 = some (3, 3) := by kernel_rfl
theorem fOff_41_4 : fOff Try.prog 41 4 = some (4, 3) := by kernel_rfl
theorem uk_42 : uk Try.prog 42 = .func := by kernel_rfl
theorem tsz_42 : tsz Try.prog 42 = some 1 := by kernel_rfl
theorem agg_42 : agg? Try.prog 42 = some false := by kernel_rfl
theorem uk_44 : uk Try.prog 44 = .func := by kernel_rfl
theorem tsz_44 : tsz Try.prog 44 = some 1 := by kernel_rfl
theorem agg_44 : agg? Try.prog 44 = some false := by kernel_rfl
theorem uk_45 : uk Try.prog 45 = .func := by kernel_rfl
theorem tsz_45 : tsz Try.prog 45 = some 1 := by kernel_rfl
theorem agg_45 : agg? Try.prog 45 = some false := by kernel_rfl
theorem uk_46 : uk Try.prog 46 = .func := by kernel_rfl
theorem tsz_46 : tsz Try.prog 46 = some 1 := by kernel_rfl
theorem agg_46 : agg? Try.prog 46 = some false := by kernel_rfl
theorem uk_47 : uk Try.prog 47 = .func := by kernel_rfl
theorem tsz_47 : tsz Try.prog 47 = some 1 := by kernel_rfl
theorem agg_47 : agg? Try.prog 47 = some false := by kernel_rfl
theorem uk_48 : uk Try.prog 48 = .func := by kernel_rfl
theorem tsz_48 : tsz Try.prog 48 = some 1 := by kernel_rfl
theorem agg_48 : agg? Try.prog 48 = some false := by kernel_rfl
theorem uk_49 : uk Try.prog 49 = .func := by kernel_rfl
theorem tsz_49 : tsz Try.prog 49 = some 1 := by kernel_rfl
theorem agg_49 : agg? Try.prog 49 = some false := by kernel_rfl
theorem uk_50 : uk Try.prog 50 = .func := by kernel_rfl
theorem tsz_50 : tsz Try.prog 50 = some 1 := by kernel_rfl
theorem agg_50 : agg? Try.prog 50 = some false := by kernel_rfl
theorem uk_52 : uk Try.prog 52 = .func := by kernel_rfl
theorem tsz_52 : tsz Try.prog 52 = some 1 := by kernel_rfl
theorem agg_52 : agg? Try.prog 52 = some false := by kernel_rfl
theorem uk_53 : uk Try.prog 53 = .func := by kernel_rfl
theorem tsz_53 : tsz Try.prog 53 = some 1 := by kernel_rfl
theorem agg_53 : agg? Try.prog 53 = some false := by kernel_rfl
theorem uk_55 : uk Try.prog 55 = .func := by kernel_rfl
theorem tsz_55 : tsz Try.prog 55 = some 1 := by kernel_rfl
theorem agg_55 : agg? Try.prog 55 = some false := by kernel_rfl
theorem uk_56 : uk Try.prog 56 = .func := by kernel_rfl
theorem tsz_56 : tsz Try.prog 56 = some 1 := by kernel_rfl
theorem agg_56 : agg? Try.prog 56 = some false := by kernel_rfl
theorem uk_57 : uk Try.prog 57 = .struct := by kernel_rfl
theorem tsz_57 : tsz Try.prog 57 = some 2 := by kernel_rfl
theorem agg_57 : agg? Try.prog 57 = some true := by kernel_rfl
theorem fOff_57_0 : fOff Try.prog 57 0 = some (0, 3) := by kernel_rfl
theorem fOff_57_1 : fOff Try.prog 57 1 = some (1, 3) := by kernel_rfl
theorem uk_58 : uk Try.prog 58 = .struct := by kernel_rfl
theorem tsz_58 : tsz Try.prog 58 = some 2 := by kernel_rfl
theorem agg_58 : agg? Try.prog 58 = some true := by kernel_rfl
theorem fOff_58_0 : fOff Try.prog 58 0 = some (0, 3) := by kernel_rfl
theorem fOff_58_1 : fOff Try.prog 58 1 = some (1, 3) := by kernel_rfl
theorem uk_59 : uk Try.prog 59 = .struct := by kernel_rfl
theorem tsz_59 : tsz Try.prog 59 = some 7 := by kernel_rfl
theorem agg_59 : agg? Try.prog 59 = some true := by kernel_rfl
theorem fOff_59_0 : fOff Try.prog 59 0 = some (0, 58) := by kernel_rfl
theorem fOff_59_1 : fOff Try.prog 59 1 = some (2, 41) := by kernel_rfl
theorem uk_60 : uk Try.prog 60 = .struct := by kernel_rfl
theorem tsz_60 : tsz Try.prog 60 = some 7 := by kernel_rfl
theorem agg_60 : agg? Try.prog 60 = some true := by kernel_rfl
theorem fOff_60_0 : fOff Try.prog 60 0 = some (0, 58) := by kernel_rfl
theorem fOff_60_1 : fOff Try.prog 60 1 = some (2, 41) := by kernel_rfl
theorem uk_62 : uk Try.prog 62 = .func := by kernel_rfl
theorem tsz_62 : tsz Try.prog 62 = some 1 := by kernel_rfl
theorem agg_62 : agg? Try.prog 62 = some false := by kernel_rfl
theorem uk_63 : uk Try.prog 63 = .func := by kernel_rfl
theorem tsz_63 : tsz Try.prog 63 = some 1 := by kernel_rfl
theorem agg_63 : agg? Try.prog 63 = some false := by kernel_rfl
theorem uk_64 : uk Try.prog 64 = .func := by kernel_rfl
theorem tsz_64 : tsz Try.prog 64 = some 1 := by kernel_rfl
theorem agg_64 : agg? Try.prog 64 = some false := by kernel_rfl
theorem uk_65 : uk Try.prog 65 = .func := by kernel_rfl
theorem tsz_65 : tsz Try.prog 65 = some 1 := by kernel_rfl
theorem agg_65 : agg? Try.prog 65 = some false := by kernel_rfl
theorem uk_66 : uk Try.prog 66 = .func := by kernel_rfl
theorem tsz_66 : tsz Try.prog 66 = some 1 := by kernel_rfl
theorem agg_66 : agg? Try.prog 66 = some false := by kernel_rfl
theorem uk_67 : uk Try.prog 67 = .func := by kernel_rfl
theorem tsz_67 : tsz Try.prog 67 = some 1 := by kernel_rfl
theorem agg_67 : agg? Try.prog 67 = some false := by kernel_rfl
theorem uk_68 : uk Try.prog 68 = .map 3 28 := by kernel_rfl
theorem tsz_68 : tsz Try.prog 68 = some 1 := by kernel_rfl
theorem agg_68 : agg? Try.prog 68 = some false := by kernel_rfl
theorem uk_70 : uk Try.prog 70 = .func := by kernel_rfl
theorem tsz_70 : tsz Try.prog 70 = some 1 := by kernel_rfl
theorem agg_70 : agg? Try.prog 70 = some false := by kernel_rfl
theorem uk_72 : uk Try.prog 72 = .func := by kernel_rfl
theorem tsz_72 : tsz Try.prog 72 = some 1 := by kernel_rfl
theorem agg_72 : agg? Try.prog 72 = some false := by kernel_rfl
theorem uk_73 : uk Try.prog 73 = .func := by kernel_rfl
theorem tsz_73 : tsz Try.prog 73 = some 1 := by kernel_rfl
theorem agg_73 : agg? Try.prog 73 = some false := by kernel_rfl
theorem uk_74 : uk Try.prog 74 = .func := by kernel_rfl
theorem tsz_74 : tsz Try.prog 74 = some 1 := by kernel_rfl
theorem agg_74 : agg? Try.prog 74 = some false := by kernel_rfl
theorem uk_75 : uk Try.prog 75 = .func := by kernel_rfl
theorem tsz_75 : tsz Try.prog 75 = some 1 := by kernel_rfl
theorem agg_75 : agg? Try.prog 75 = some false := by kernel_rfl
theorem uk_76 : uk Try.prog 76 = .func := by kernel_rfl
theorem tsz_76 : tsz Try.prog 76 = some 1 := by kernel_rfl
theorem agg_76 : agg? Try.prog 76 = some false := by kernel_rfl
theorem uk_77 : uk Try.prog 77 = .func := by kernel_rfl
theorem tsz_77 : tsz Try.prog 77 = some 1 := by kernel_rfl
theorem agg_77 : agg? Try.prog 77 = some false := by kernel_rfl
theorem uk_78 : uk Try.prog 78 = .func := by kernel_rfl
theorem tsz_78 : tsz Try.prog 78 = some 1 := by kernel_rfl
theorem agg_78 : agg? Try.prog 78 = some false := by kernel_rfl
theorem uk_79 : uk Try.prog 79 = .func := by kernel_rfl
theorem tsz_79 : tsz Try.prog 79 = some 1 := by kernel_rfl
theorem agg_79 : agg? Try.prog 79 = some false := by kernel_rfl
theorem uk_80 : uk Try.prog 80 = .func := by kernel_rfl
theorem tsz_80 : tsz Try.prog 80 = some 1 := by kernel_rfl
theorem agg_80 : agg? Try.prog 80 = some false := by kernel_rfl
theorem uk_81 : uk Try.prog 81 = .func := by kernel_rfl
theorem tsz_81 : tsz Try.prog 81 = some 1 := by kernel_rfl
theorem agg_81 : agg? Try.prog 81 = some false := by kernel_rfl
theorem uk_82 : uk Try.prog 82 = .func := by kernel_rfl
theorem tsz_82 : tsz Try.prog 82 = some 1 := by kernel_rfl
theorem agg_82 : agg? Try.prog 82 = some false := by kernel_rfl
theorem uk_83 : uk Try.prog 83 = .func := by kernel_rfl
theorem tsz_83 : tsz Try.prog 83 = some 1 := by kernel_rfl
theorem agg_83 : agg? Try.prog 83 = some false := by kernel_rfl
theorem uk_84 : uk Try.prog 84 = .func := by kernel_rfl
theorem tsz_84 : tsz Try.prog 84 = some 1 := by kernel_rfl
theorem agg_84 : agg? Try.prog 84 = some false := by kernel_rfl
theorem uk_86 : uk Try.prog 86 = .func := by kernel_rfl
theorem tsz_86 : tsz Try.prog 86 = some 1 := by kernel_rfl
theorem agg_86 : agg? Try.prog 86 = some false := by kernel_rfl
theorem uk_87 : uk Try.prog 87 = .func := by kernel_rfl
theorem tsz_87 : tsz Try.prog 87 = some 1 := by kernel_rfl
theorem agg_87 : agg? Try.prog 87 = some false := by kernel_rfl
theorem uk_88 : uk Try.prog 88 = .func := by kernel_rfl
theorem tsz_88 : tsz Try.prog 88 = some 1 := by kernel_rfl
theorem agg_88 : agg? Try.prog 88 = some false := by kernel_rfl
theorem uk_89 : uk Try.prog 89 = .func := by kernel_rfl
theorem tsz_89 : tsz Try.prog 89 = some 1 := by kernel_rfl
theorem agg_89 : agg? Try.prog 89 = some false := by kernel_rfl
theorem uk_90 : uk Try.prog 90 = .int .u64 := by kernel_rfl
theorem tsz_90 : tsz Try.prog 90 = some 1 := by kernel_rfl
theorem agg_90 : agg? Try.prog 90 = some false := by kernel_rfl
theorem uk_91 : uk Try.prog 91 = .func := by kernel_rfl
theorem tsz_91 : tsz Try.prog 91 = some 1 := by kernel_rfl
theorem agg_91 : agg? Try.prog 91 = some false := by kernel_rfl
theorem uk_93 : uk Try.prog 93 = .func := by kernel_rfl
theorem tsz_93 : tsz Try.prog 93 = some 1 := by kernel_rfl
theorem agg_93 : agg? Try.prog 93 = some false := by kernel_rfl
theorem uk_94 : uk Try.prog 94 = .func := by kernel_rfl
theorem tsz_94 : tsz Try.prog 94 = some 1 := by kernel_rfl
theorem agg_94 : agg? Try.prog 94 = some false := by kernel_rfl
theorem uk_95 : uk Try.prog 95 = .func := by kernel_rfl
theorem tsz_95 : tsz Try.prog 95 = some 1 := by kernel_rfl
theorem agg_95 : agg? Try.prog 95 = some false := by kernel_rfl
theorem uk_96 : uk Try.prog 96 = .func := by kernel_rfl
theorem tsz_96 : tsz Try.prog 96 = some 1 := by kernel_rfl
theorem agg_96 : agg? Try.prog 96 = some false := by kernel_rfl
theorem uk_97 : uk Try.prog 97 = .int .i64 := by kernel_rfl
theorem tsz_97 : tsz Try.prog 97 = some 1 := by kernel_rfl
theorem agg_97 : agg? Try.prog 97 = some false := by kernel_rfl
theorem uk_99 : uk Try.prog 99 = .func := by kernel_rfl
theorem tsz_99 : tsz Try.prog 99 = some 1 := by kernel_rfl
theorem agg_99 : agg? Try.prog 99 = some false := by kernel_rfl
theorem uk_100 : uk Try.prog 100 = .func := by kernel_rfl
theorem tsz_100 : tsz Try.prog 100 = some 1 := by kernel_rfl
theorem agg_100 : agg? Try.prog 100 = some false := by kernel_rfl
theorem uk_101 : uk Try.prog 101 = .func := by kernel_rfl
theorem tsz_101 : tsz Try.prog 101 = some 1 := by kernel_rfl
theorem agg_101 : agg? Try.prog 101 = some false := by kernel_rfl
theorem uk_102 : uk Try.prog 102 = .func := by kernel_rfl
theorem tsz_102 : tsz Try.prog 102 = some 1 := by kernel_rfl
theorem agg_102 : agg? Try.prog 102 = some false := by kernel_rfl
theorem uk_103 : uk Try.prog 103 = .func := by kernel_rfl
theorem tsz_103 : tsz Try.prog 103 = some 1 := by kernel_rfl
theorem agg_103 : agg? Try.prog 103 = some false := by kernel_rfl
theorem uk_104 : uk Try.prog 104 = .func := by kernel_rfl
theorem tsz_104 : tsz Try.prog 104 = some 1 := by kernel_rfl
theorem agg_104 : agg? Try.prog 104 = some false := by kernel_rfl
theorem uk_105 : uk Try.prog 105 = .int .u32 := by kernel_rfl
theorem tsz_105 : tsz Try.prog 105 = some 1 := by kernel_rfl
theorem agg_105 : agg? Try.prog 105 = some false := by kernel_rfl
theorem uk_106 : uk Try.prog 106 = .func := by kernel_rfl
theorem tsz_106 : tsz Try.prog 106 = some 1 := by kernel_rfl
theorem agg_106 : agg? Try.prog 106 = some false := by kernel_rfl
theorem uk_107 : uk Try.prog 107 = .int .u64 := by kernel_rfl
theorem tsz_107 : tsz Try.prog 107 = some 1 := by kernel_rfl
theorem agg_107 : agg? Try.prog 107 = some false := by kernel_rfl
theorem uk_109 : uk Try.prog 109 = .func := by kernel_rfl
theorem tsz_109 : tsz Try.prog 109 = some 1 := by kernel_rfl
theorem agg_109 : agg? Try.prog 109 = some false := by kernel_rfl
theorem uk_111 : uk Try.prog 111 = .func := by kernel_rfl
theorem tsz_111 : tsz Try.prog 111 = some 1 := by kernel_rfl
theorem agg_111 : agg? Try.prog 111 = some false := by kernel_rfl
theorem uk_112 : uk Try.prog 112 = .slice 5 := by kernel_rfl
theorem tsz_112 : tsz Try.prog 112 = some 1 := by kernel_rfl
theorem agg_112 : agg? Try.prog 112 = some false := by kernel_rfl
theorem uk_113 : uk Try.prog 113 = .func := by kernel_rfl
theorem tsz_113 : tsz Try.prog 113 = some 1 := by kernel_rfl
theorem agg_113 : agg? Try.prog 113 = some false := by kernel_rfl
theorem uk_114 : uk Try.prog 114 = .func := by kernel_rfl
theorem tsz_114 : tsz Try.prog 114 = some 1 := by kernel_rfl
theorem agg_114 : agg? Try.prog 114 = some false := by kernel_rfl
theorem uk_115 : uk Try.prog 115 = .int .u64 := by kernel_rfl
theorem tsz_115 : tsz Try.prog 115 = some 1 := by kernel_rfl
theorem agg_115 : agg? Try.prog 115 = some false := by kernel_rfl
theorem uk_116 : uk Try.prog 116 = .func := by kernel_rfl
theorem tsz_116 : tsz Try.prog 116 = some 1 := by kernel_rfl
theorem agg_116 : agg? Try.prog 116 = some false := by kernel_rfl
theorem uk_117 : uk Try.prog 117 = .func := by kernel_rfl
theorem tsz_117 : tsz Try.prog 117 = some 1 := by kernel_rfl
theorem agg_117 : agg? Try.prog 117 = some false := by kernel_rfl
theorem uk_118 : uk Try.prog 118 = .func := by kernel_rfl
theorem tsz_118 : tsz Try.prog 118 = some 1 := by kernel_rfl
theorem agg_118 : agg? Try.prog 118 = some false := by kernel_rfl
theorem uk_119 : uk Try.prog 119 = .pointer 3 := by kernel_rfl
theorem tsz_119 : tsz Try.prog 119 = some 1 := by kernel_rfl
theorem agg_119 : agg? Try.prog 119 = some false := by kernel_rfl
theorem uk_120 : uk Try.prog 120 = .func := by kernel_rfl
theorem tsz_120 : tsz Try.prog 120 = some 1 := by kernel_rfl
theorem agg_120 : agg? Try.prog 120 = some false := by kernel_rfl
theorem uk_121 : uk Try.prog 121 = .pointer 115 := by kernel_rfl
theorem tsz_121 : tsz Try.prog 121 = some 1 := by kernel_rfl
theorem agg_121 : agg? Try.prog 121 = some false := by kernel_rfl
theorem uk_123 : uk Try.prog 123 = .func := by kernel_rfl
theorem tsz_123 : tsz Try.prog 123 = some 1 := by kernel_rfl
theorem agg_123 : agg? Try.prog 123 = some false := by kernel_rfl
theorem uk_124 : uk Try.prog 124 = .func := by kernel_rfl
theorem tsz_124 : tsz Try.prog 124 = some 1 := by kernel_rfl
theorem agg_124 : agg? Try.prog 124 = some false := by kernel_rfl
theorem uk_125 : uk Try.prog 125 = .struct := by kernel_rfl
theorem tsz_125 : tsz Try.prog 125 = some 4 := by kernel_rfl
theorem agg_125 : agg? Try.prog 125 = some true := by kernel_rfl
theorem fOff_125_0 : fOff Try.prog 125 0 = some (0, 17) := by kernel_rfl
theorem fOff_125_1 : fOff Try.prog 125 1 = some (1, 17) := by kernel_rfl
theorem fOff_125_2 : fOff Try.prog 125 2 = some (2, 17) := by kernel_rfl
theorem fOff_125_3 : fOff Try.prog 125 3 = some (3, 9) := by kernel_rfl
theorem uk_126 : uk Try.prog 126 = .struct := by kernel_rfl
theorem tsz_126 : tsz Try.prog 126 = some 4 := by kernel_rfl
theorem agg_126 : agg? Try.prog 126 = some true := by kernel_rfl
theorem fOff_126_0 : fOff Try.prog 126 0 = some (0, 17) := by kernel_rfl
theorem fOff_126_1 : fOff Try.prog 126 1 = some (1, 17) := by kernel_rfl
theorem fOff_126_2 : fOff Try.prog 126 2 = some (2, 17) := by kernel_rfl
theorem fOff_126_3 : fOff Try.prog 126 3 = some (3, 9) := by kernel_rfl
theorem uk_127 : uk Try.prog 127 = .other := by kernel_rfl
theorem arT_127 : arT Try.prog 127 = some (0, 16) := by kernel_rfl
theorem tsz_127 : tsz Try.prog 127 = some 0 := by kernel_rfl
theorem agg_127 : agg? Try.prog 127 = some true := by kernel_rfl
theorem uk_128 : uk Try.prog 128 = .struct := by kernel_rfl
theorem tsz_128 : tsz Try.prog 128 = some 0 := by kernel_rfl
theorem agg_128 : agg? Try.prog 128 = some true := by kernel_rfl
theorem fOff_128_0 : fOff Try.prog 128 0 = some (0, 127) := by kernel_rfl
theorem uk_129 : uk Try.prog 129 = .struct := by kernel_rfl
theorem tsz_129 : tsz Try.prog 129 = some 0 := by kernel_rfl
theorem agg_129 : agg? Try.prog 129 = some true := by kernel_rfl
theorem fOff_129_0 : fOff Try.prog 129 0 = some (0, 127) := by kernel_rfl
theorem uk_130 : uk Try.prog 130 = .func := by kernel_rfl
theorem tsz_130 : tsz Try.prog 130 = some 1 := by kernel_rfl
theorem agg_130 : agg? Try.prog 130 = some false := by kernel_rfl
theorem uk_131 : uk Try.prog 131 = .int .u8 := by kernel_rfl
theorem tsz_131 : tsz Try.prog 131 = some 1 := by kernel_rfl
theorem agg_131 : agg? Try.prog 131 = some false := by kernel_rfl
theorem uk_132 : uk Try.prog 132 = .int .u8 := by kernel_rfl
theorem tsz_132 : tsz Try.prog 132 = some 1 := by kernel_rfl
theorem agg_132 : agg? Try.prog 132 = some false := by kernel_rfl
theorem uk_133 : uk Try.prog 133 = .func := by kernel_rfl
theorem tsz_133 : tsz Try.prog 133 = some 1 := by kernel_rfl
theorem agg_133 : agg? Try.prog 133 = some false := by kernel_rfl
theorem uk_134 : uk Try.prog 134 = .pointer 5 := by kernel_rfl
theorem tsz_134 : tsz Try.prog 134 = some 1 := by kernel_rfl
theorem agg_134 : agg? Try.prog 134 = some false := by kernel_rfl
theorem uk_135 : uk Try.prog 135 = .int .i32 := by kernel_rfl
theorem tsz_135 : tsz Try.prog 135 = some 1 := by kernel_rfl
theorem agg_135 : agg? Try.prog 135 = some false := by kernel_rfl
theorem uk_136 : uk Try.prog 136 = .int .i32 := by kernel_rfl
theorem tsz_136 : tsz Try.prog 136 = some 1 := by kernel_rfl
theorem agg_136 : agg? Try.prog 136 = some false := by kernel_rfl
theorem uk_137 : uk Try.prog 137 = .struct := by kernel_rfl
theorem tsz_137 : tsz Try.prog 137 = some 11 := by kernel_rfl
theorem agg_137 : agg? Try.prog 137 = some true := by kernel_rfl
theorem fOff_137_0 : fOff Try.prog 137 0 = some (0, 12) := by kernel_rfl
theorem fOff_137_1 : fOff Try.prog 137 1 = some (1, 12) := by kernel_rfl
theorem fOff_137_2 : fOff Try.prog 137 2 = some (2, 105) := by kernel_rfl
theorem fOff_137_3 : fOff Try.prog 137 3 = some (3, 131) := by kernel_rfl
theorem fOff_137_4 : fOff Try.prog 137 4 = some (4, 5) := by kernel_rfl
theorem fOff_137_5 : fOff Try.prog 137 5 = some (5, 5) := by kernel_rfl
theorem fOff_137_6 : fOff Try.prog 137 6 = some (6, 132) := by kernel_rfl
theorem fOff_137_7 : fOff Try.prog 137 7 = some (7, 133) := by kernel_rfl
theorem fOff_137_8 : fOff Try.prog 137 8 = some (8, 134) := by kernel_rfl
theorem fOff_137_9 : fOff Try.prog 137 9 = some (9, 135) := by kernel_rfl
theorem fOff_137_10 : fOff Try.prog 137 10 = some (10, 136) := by kernel_rfl
theorem uk_138 : uk Try.prog 138 = .struct := by kernel_rfl
theorem tsz_138 : tsz Try.prog 138 = some 11 := by kernel_rfl
theorem agg_138 : agg? Try.prog 138 = some true := by kernel_rfl
theorem fOff_138_0 : fOff Try.prog 138 0 = some (0, 12) := by kernel_rfl
theorem fOff_138_1 : fOff Try.prog 138 1 = some (1, 12) := by kernel_rfl
theorem fOff_138_2 : fOff Try.prog 138 2 = some (2, 105) := by kernel_rfl
theorem fOff_138_3 : fOff Try.prog 138 3 = some (3, 131) := by kernel_rfl
theorem fOff_138_4 : fOff Try.prog 138 4 = some (4, 5) := by kernel_rfl
theorem fOff_138_5 : fOff Try.prog 138 5 = some (5, 5) := by kernel_rfl
theorem fOff_138_6 : fOff Try.prog 138 6 = some (6, 132) := by kernel_rfl
theorem fOff_138_7 : fOff Try.prog 138 7 = some (7, 133) := by kernel_rfl
theorem fOff_138_8 : fOff Try.prog 138 8 = some (8, 134) := by kernel_rfl
theorem fOff_138_9 : fOff Try.prog 138 9 = some (9, 135) := by kernel_rfl
theorem fOff_138_10 : fOff Try.prog 138 10 = some (10, 136) := by kernel_rfl
theorem uk_139 : uk Try.prog 139 = .other := by kernel_rfl
theorem tsz_139 : tsz Try.prog 139 = some 1 := by kernel_rfl
theorem agg_139 : agg? Try.prog 139 = some false := by kernel_rfl
theorem fplaces_7 : fplaces Try.prog 7 = some [(0, 1), (1, 1), (2, 1), (3, 1)] := by kernel_rfl
theorem fplaces_8 : fplaces Try.prog 8 = some [(0, 1), (1, 1), (2, 1), (3, 1)] := by kernel_rfl
theorem fplaces_13 : fplaces Try.prog 13 = some [(0, 1), (1, 1)] := by kernel_rfl
theorem fplaces_14 : fplaces Try.prog 14 = some [(0, 1), (1, 1)] := by kernel_rfl
theorem fplaces_18 : fplaces Try.prog 18 = some [(0, 1)] := by kernel_rfl
theorem fplaces_19 : fplaces Try.prog 19 = some [(0, 1)] := by kernel_rfl
theorem fplaces_33 : fplaces Try.prog 33 = some [(0, 1), (1, 1), (2, 1), (3, 1), (4, 1)] := by kernel_rfl
theorem fplaces_34 : fplaces Try.prog 34 = some [(0, 1), (1, 1), (2, 1), (3, 1), (4, 1)] := by kernel_rfl
theorem fplaces_40 : fplaces Try.prog 40 = some [(0, 1), (1, 1), (2, 1), (3, 1), (4, 1)] := by kernel_rfl
theorem fplaces_41 : fplaces Try.prog 41 = some [(0, 1), (1, 1), (2, 1), (3, 1), (4, 1)] := by kernel_rfl
theorem fplaces_57 : fplaces Try.prog 57 = some [(0, 1), (1, 1)] := by kernel_rfl
theorem fplaces_58 : fplaces Try.prog 58 = some [(0, 1), (1, 1)] := by kernel_rfl
theorem fplaces_59 : fplaces Try.prog 59 = some [(0, 2), (2, 5)] := by kernel_rfl
theorem fplaces_60 : fplaces Try.prog 60 = some [(0, 2), (2, 5)] := by kernel_rfl
theorem fplaces_125 : fplaces Try.prog 125 = some [(0, 1), (1, 1), (2, 1), (3, 1)] := by kernel_rfl
theorem fplaces_126 : fplaces Try.prog 126 = some [(0, 1), (1, 1), (2, 1), (3, 1)] := by kernel_rfl
theorem fplaces_127 : fplaces Try.prog 127 = some [] := by kernel_rfl
theorem fplaces_128 : fplaces Try.prog 128 = some [(0, 0)] := by kernel_rfl
theorem fplaces_129 : fplaces Try.prog 129 = some [(0, 0)] := by kernel_rfl
theorem fplaces_137 : fplaces Try.prog 137 = some [(0, 1), (1, 1), (2, 1), (3, 1), (4, 1), (5, 1), (6, 1), (7, 1), (8, 1), (9, 1), (10, 1)] := by kernel_rfl
theorem fplaces_138 : fplaces Try.prog 138 = some [(0, 1), (1, 1), (2, 1), (3, 1), (4, 1), (5, 1), (6, 1), (7, 1), (8, 1), (9, 1), (10, 1)] := by kernel_rfl
theorem tby_3 : tby Try.prog 3 = some 8 := by kernel_rfl
theorem tby_4 : tby Try.prog 4 = some 1 := by kernel_rfl
theorem tby_5 : tby Try.prog 5 = some 1 := by kernel_rfl
theorem tby_28 : tby Try.prog 28 = some 24 := by kernel_rfl
theorem tby_34 : tby Try.prog 34 = some 40 := by kernel_rfl
theorem zAV_1 : zAV Try.prog 1 = some (.val .nilFunc) := by kernel_rfl
theorem zAV_2 : zAV Try.prog 2 = some (.val (.int .i64 0)) := by kernel_rfl
theorem zAV_3 : zAV Try.prog 3 = some (.val (.int .i64 0)) := by kernel_rfl
theorem zAV_4 : zAV Try.prog 4 = some (.val (.bool false)) := by kernel_rfl
theorem zAV_5 : zAV Try.prog 5 = some (.val (.int .u8 0)) := by kernel_rfl
theorem zAV_6 : zAV Try.prog 6 = some (.val (.int .u8 0)) := by kernel_rfl
theorem zAV_7 : zAV Try.prog 7 = some (.agg [.val (.int .i64 0), .val (.int .i64 0), .val (.bool false), .val (.int .u8 0)]) := by kernel_rfl
theorem zAV_8 : zAV Try.prog 8 = some (.agg [.val (.int .i64 0), .val (.int .i64 0), .val (.bool false), .val (.int .u8 0)]) := by kernel_rfl
theorem zAV_9 : zAV Try.prog 9 = some (.val (.string .empty)) := by kernel_rfl
theorem zAV_10 : zAV Try.prog 10 = some (.val (.string .empty)) := by kernel_rfl
theorem zAV_11 : zAV Try.prog 11 = some (.val (.string .empty)) := by kernel_rfl
theorem zAV_12 : zAV Try.prog 12 = some (.val (.int .u64 0)) := by kernel_rfl
theorem zAV_13 : zAV Try.prog 13 = some (.agg [.val (.string .empty), .val (.int .u64 0)]) := by kernel_rfl
theorem zAV_14 : zAV Try.prog 14 = some (.agg [.val (.string .empty), .val (.int .u64 0)]) := by kernel_rfl
theorem zAV_15 : zAV Try.prog 15 = some (.val (.pointer none)) := by kernel_rfl
theorem zAV_16 : zAV Try.prog 16 = some (.val (.pointer none)) := by kernel_rfl
theorem zAV_17 : zAV Try.prog 17 = some (.val (.pointer none)) := by kernel_rfl
theorem zAV_18 : zAV Try.prog 18 = some (.agg [.val (.pointer none)]) := by kernel_rfl
theorem zAV_19 : zAV Try.prog 19 = some (.agg [.val (.pointer none)]) := by kernel_rfl
theorem zAV_21 : zAV Try.prog 21 = some (.val (.int .i32 0)) := by kernel_rfl
theorem zAV_22 : zAV Try.prog 22 = some (.emp) := by kernel_rfl
theorem zAV_23 : zAV Try.prog 23 = some (.emp) := by kernel_rfl
theorem zAV_24 : zAV Try.prog 24 = some (.val (.int .i64 0)) := by kernel_rfl
theorem zAV_26 : zAV Try.prog 26 = some (.val .nilFunc) := by kernel_rfl
theorem zAV_27 : zAV Try.prog 27 = some (.val .nilFunc) := by kernel_rfl
theorem zAV_28 : zAV Try.prog 28 = some (.emp) := by kernel_rfl
theorem zAV_30 : zAV Try.prog 30 = some (.val .nilFunc) := by kernel_rfl
theorem zAV_31 : zAV Try.prog 31 = some (.val .nilFunc) := by kernel_rfl
theorem zAV_32 : zAV Try.prog 32 = some (.val .nilFunc) := by kernel_rfl
theorem zAV_33 : zAV Try.prog 33 = some (.agg [.val (.int .i64 0), .val (.int .i64 0), .val (.int .i64 0), .val (.int .i64 0), .val (.bool false)]) := by kernel_rfl
theorem zAV_34 : zAV Try.prog 34 = some (.agg [.val (.int .i64 0), .val (.int .i64 0), .val (.int .i64 0), .val (.int .i64 0), .val (.bool false)]) := by kernel_rfl
theorem zAV_35 : zAV Try.prog 35 = some (.val .nilFunc) := by kernel_rfl
theorem zAV_36 : zAV Try.prog 36 = some (.val .nilFunc) := by kernel_rfl
theorem zAV_37 : zAV Try.prog 37 = some (.val .nilFunc) := by kernel_rfl
theorem zAV_38 : zAV Try.prog 38 = some (.val .nilFunc) := by kernel_rfl
theorem zAV_39 : zAV Try.prog 39 = some (.emp) := by kernel_rfl
theorem zAV_40 : zAV Try.prog 40 = some (.agg [.val (.int .i64 0), .val (.int .i64 0), .emp, .val (.int .i64 0), .val (.int .i64 0)]) := by kernel_rfl
theorem zAV_41 : zAV Try.prog 41 = some (.agg [.val (.int .i64 0), .val (.int .i64 0), .emp, .val (.int .i64 0), .val (.int .i64 0)]) := by kernel_rfl
theorem zAV_42 : zAV Try.prog 42 = some (.val .nilFunc) := by kernel_rfl
theorem zAV_44 : zAV Try.prog 44 = some (.val .nilFunc) := by kernel_rfl
theorem zAV_45 : zAV Try.prog 45 = some (.val .nilFunc) := by kernel_rfl
theorem zAV_46 : zAV Try.prog 46 = some (.val .nilFunc) := by kernel_rfl
theorem zAV_47 : zAV Try.prog 47 = some (.val .nilFunc) := by kernel_rfl
theorem zAV_48 : zAV Try.prog 48 = some (.val .nilFunc) := by kernel_rfl
theorem zAV_49 : zAV Try.prog 49 = some (.val .nilFunc) := by kernel_rfl
theorem zAV_50 : zAV Try.prog 50 = some (.val .nilFunc) := by kernel_rfl
theorem zAV_52 : zAV Try.prog 52 = some (.val .nilFunc) := by kernel_rfl
theorem zAV_53 : zAV Try.prog 53 = some (.val .nilFunc) := by kernel_rfl
theorem zAV_55 : zAV Try.prog 55 = some (.val .nilFunc) := by kernel_rfl
theorem zAV_56 : zAV Try.prog 56 = some (.val .nilFunc) := by kernel_rfl
theorem zAV_57 : zAV Try.prog 57 = some (.agg [.val (.int .i64 0), .val (.int .i64 0)]) := by kernel_rfl
theorem zAV_58 : zAV Try.prog 58 = some (.agg [.val (.int .i64 0), .val (.int .i64 0)]) := by kernel_rfl
theorem zAV_59 : zAV Try.prog 59 = some (.agg [.val (.int .i64 0), .val (.int .i64 0), .val (.int .i64 0), .val (.int .i64 0), .emp, .val (.int .i64 0), .val (.int .i64 0)]) := by kernel_rfl
theorem zAV_60 : zAV Try.prog 60 = some (.agg [.val (.int .i64 0), .val (.int .i64 0), .val (.int .i64 0), .val (.int .i64 0), .emp, .val (.int .i64 0), .val (.int .i64 0)]) := by kernel_rfl
theorem zAV_62 : zAV Try.prog 62 = some (.val .nilFunc) := by kernel_rfl
theorem zAV_63 : zAV Try.prog 63 = some (.val .nilFunc) := by kernel_rfl
theorem zAV_64 : zAV Try.prog 64 = some (.val .nilFunc) := by kernel_rfl
theorem zAV_65 : zAV Try.prog 65 = some (.val .nilFunc) := by kernel_rfl
theorem zAV_66 : zAV Try.prog 66 = some (.val .nilFunc) := by kernel_rfl
theorem zAV_67 : zAV Try.prog 67 = some (.val .nilFunc) := by kernel_rfl
theorem zAV_68 : zAV Try.prog 68 = some (.val (.map none)) := by kernel_rfl
theorem zAV_70 : zAV Try.prog 70 = some (.val .nilFunc) := by kernel_rfl
theorem zAV_72 : zAV Try.prog 72 = some (.val .nilFunc) := by kernel_rfl
theorem zAV_73 : zAV Try.prog 73 = some (.val .nilFunc) := by kernel_rfl
theorem zAV_74 : zAV Try.prog 74 = some (.val .nilFunc) := by kernel_rfl
theorem zAV_75 : zAV Try.prog 75 = some (.val .nilFunc) := by kernel_rfl
theorem zAV_76 : zAV Try.prog 76 = some (.val .nilFunc) := by kernel_rfl
theorem zAV_77 : zAV Try.prog 77 = some (.val .nilFunc) := by kernel_rfl
theorem zAV_78 : zAV Try.prog 78 = some (.val .nilFunc) := by kernel_rfl
theorem zAV_79 : zAV Try.prog 79 = some (.val .nilFunc) := by kernel_rfl
theorem zAV_80 : zAV Try.prog 80 = some (.val .nilFunc) := by kernel_rfl
theorem zAV_81 : zAV Try.prog 81 = some (.val .nilFunc) := by kernel_rfl
theorem zAV_82 : zAV Try.prog 82 = some (.val .nilFunc) := by kernel_rfl
theorem zAV_83 : zAV Try.prog 83 = some (.val .nilFunc) := by kernel_rfl
theorem zAV_84 : zAV Try.prog 84 = some (.val .nilFunc) := by kernel_rfl
theorem zAV_86 : zAV Try.prog 86 = some (.val .nilFunc) := by kernel_rfl
theorem zAV_87 : zAV Try.prog 87 = some (.val .nilFunc) := by kernel_rfl
theorem zAV_88 : zAV Try.prog 88 = some (.val .nilFunc) := by kernel_rfl
theorem zAV_89 : zAV Try.prog 89 = some (.val .nilFunc) := by kernel_rfl
theorem zAV_90 : zAV Try.prog 90 = some (.val (.int .u64 0)) := by kernel_rfl
theorem zAV_91 : zAV Try.prog 91 = some (.val .nilFunc) := by kernel_rfl
theorem zAV_93 : zAV Try.prog 93 = some (.val .nilFunc) := by kernel_rfl
theorem zAV_94 : zAV Try.prog 94 = some (.val .nilFunc) := by kernel_rfl
theorem zAV_95 : zAV Try.prog 95 = some (.val .nilFunc) := by kernel_rfl
theorem zAV_96 : zAV Try.prog 96 = some (.val .nilFunc) := by kernel_rfl
theorem zAV_97 : zAV Try.prog 97 = some (.val (.int .i64 0)) := by kernel_rfl
theorem zAV_99 : zAV Try.prog 99 = some (.val .nilFunc) := by kernel_rfl
theorem zAV_100 : zAV Try.prog 100 = some (.val .nilFunc) := by kernel_rfl
theorem zAV_101 : zAV Try.prog 101 = some (.val .nilFunc) := by kernel_rfl
theorem zAV_102 : zAV Try.prog 102 = some (.val .nilFunc) := by kernel_rfl
theorem zAV_103 : zAV Try.prog 103 = some (.val .nilFunc) := by kernel_rfl
theorem zAV_104 : zAV Try.prog 104 = some (.val .nilFunc) := by kernel_rfl
theorem zAV_105 : zAV Try.prog 105 = some (.val (.int .u32 0)) := by kernel_rfl
theorem zAV_106 : zAV Try.prog 106 = some (.val .nilFunc) := by kernel_rfl
theorem zAV_107 : zAV Try.prog 107 = some (.val (.int .u64 0)) := by kernel_rfl
theorem zAV_109 : zAV Try.prog 109 = some (.val .nilFunc) := by kernel_rfl
theorem zAV_111 : zAV Try.prog 111 = some (.val .nilFunc) := by kernel_rfl
theorem zAV_112 : zAV Try.prog 112 = some (.emp) := by kernel_rfl
theorem zAV_113 : zAV Try.prog 113 = some (.val .nilFunc) := by kernel_rfl
theorem zAV_114 : zAV Try.prog 114 = some (.val .nilFunc) := by kernel_rfl
theorem zAV_115 : zAV Try.prog 115 = some (.val (.int .u64 0)) := by kernel_rfl
theorem zAV_116 : zAV Try.prog 116 = some (.val .nilFunc) := by kernel_rfl
theorem zAV_117 : zAV Try.prog 117 = some (.val .nilFunc) := by kernel_rfl
theorem zAV_118 : zAV Try.prog 118 = some (.val .nilFunc) := by kernel_rfl
theorem zAV_119 : zAV Try.prog 119 = some (.val (.pointer none)) := by kernel_rfl
theorem zAV_120 : zAV Try.prog 120 = some (.val .nilFunc) := by kernel_rfl
theorem zAV_121 : zAV Try.prog 121 = some (.val (.pointer none)) := by kernel_rfl
theorem zAV_123 : zAV Try.prog 123 = some (.val .nilFunc) := by kernel_rfl
theorem zAV_124 : zAV Try.prog 124 = some (.val .nilFunc) := by kernel_rfl
theorem zAV_125 : zAV Try.prog 125 = some (.agg [.val (.pointer none), .val (.pointer none), .val (.pointer none), .val (.string .empty)]) := by kernel_rfl
theorem zAV_126 : zAV Try.prog 126 = some (.agg [.val (.pointer none), .val (.pointer none), .val (.pointer none), .val (.string .empty)]) := by kernel_rfl
theorem zAV_127 : zAV Try.prog 127 = some (.agg []) := by kernel_rfl
theorem zAV_128 : zAV Try.prog 128 = some (.agg []) := by kernel_rfl
theorem zAV_129 : zAV Try.prog 129 = some (.agg []) := by kernel_rfl
theorem zAV_130 : zAV Try.prog 130 = some (.val .nilFunc) := by kernel_rfl
theorem zAV_131 : zAV Try.prog 131 = some (.val (.int .u8 0)) := by kernel_rfl
theorem zAV_132 : zAV Try.prog 132 = some (.val (.int .u8 0)) := by kernel_rfl
theorem zAV_133 : zAV Try.prog 133 = some (.val .nilFunc) := by kernel_rfl
theorem zAV_134 : zAV Try.prog 134 = some (.val (.pointer none)) := by kernel_rfl
theorem zAV_135 : zAV Try.prog 135 = some (.val (.int .i32 0)) := by kernel_rfl
theorem zAV_136 : zAV Try.prog 136 = some (.val (.int .i32 0)) := by kernel_rfl
theorem zAV_137 : zAV Try.prog 137 = some (.agg [.val (.int .u64 0), .val (.int .u64 0), .val (.int .u32 0), .val (.int .u8 0), .val (.int .u8 0), .val (.int .u8 0), .val (.int .u8 0), .val .nilFunc, .val (.pointer none), .val (.int .i32 0), .val (.int .i32 0)]) := by kernel_rfl
theorem zAV_138 : zAV Try.prog 138 = some (.agg [.val (.int .u64 0), .val (.int .u64 0), .val (.int .u32 0), .val (.int .u8 0), .val (.int .u8 0), .val (.int .u8 0), .val (.int .u8 0), .val .nilFunc, .val (.pointer none), .val (.int .i32 0), .val (.int .i32 0)]) := by kernel_rfl
theorem zav_1 : zav Try.prog 1 = .any := by kernel_rfl
theorem zav_2 : zav Try.prog 2 = .val (.int .i64 0) := by kernel_rfl
theorem zav_3 : zav Try.prog 3 = .val (.int .i64 0) := by kernel_rfl
theorem zav_4 : zav Try.prog 4 = .val (.bool false) := by kernel_rfl
theorem zav_5 : zav Try.prog 5 = .val (.int .u8 0) := by kernel_rfl
theorem zav_6 : zav Try.prog 6 = .val (.int .u8 0) := by kernel_rfl
theorem zav_7 : zav Try.prog 7 = .agg [.val (.int .i64 0), .val (.int .i64 0), .val (.bool false), .val (.int .u8 0)] := by kernel_rfl
theorem zav_8 : zav Try.prog 8 = .agg [.val (.int .i64 0), .val (.int .i64 0), .val (.bool false), .val (.int .u8 0)] := by kernel_rfl
theorem zav_9 : zav Try.prog 9 = .val (.string .empty) := by kernel_rfl
theorem zav_10 : zav Try.prog 10 = .val (.string .empty) := by kernel_rfl
theorem zav_11 : zav Try.prog 11 = .val (.string .empty) := by kernel_rfl
theorem zav_12 : zav Try.prog 12 = .val (.int .u64 0) := by kernel_rfl
theorem zav_13 : zav Try.prog 13 = .agg [.val (.string .empty), .val (.int .u64 0)] := by kernel_rfl
theorem zav_14 : zav Try.prog 14 = .agg [.val (.string .empty), .val (.int .u64 0)] := by kernel_rfl
theorem zav_15 : zav Try.prog 15 = .any := by kernel_rfl
theorem zav_16 : zav Try.prog 16 = .any := by kernel_rfl
theorem zav_17 : zav Try.prog 17 = .any := by kernel_rfl
theorem zav_18 : zav Try.prog 18 = .agg [.val (.pointer none)] := by kernel_rfl
theorem zav_19 : zav Try.prog 19 = .agg [.val (.pointer none)] := by kernel_rfl
theorem zav_20 : zav Try.prog 20 = .any := by kernel_rfl
theorem zav_21 : zav Try.prog 21 = .val (.int .i32 0) := by kernel_rfl
theorem zav_22 : zav Try.prog 22 = .lst 1 [] := by kernel_rfl
theorem zav_23 : zav Try.prog 23 = .lst 1 [] := by kernel_rfl
theorem zav_24 : zav Try.prog 24 = .val (.int .i64 0) := by kernel_rfl
theorem zav_26 : zav Try.prog 26 = .any := by kernel_rfl
theorem zav_27 : zav Try.prog 27 = .any := by kernel_rfl
theorem zav_28 : zav Try.prog 28 = .lst 1 [] := by kernel_rfl
theorem zav_30 : zav Try.prog 30 = .any := by kernel_rfl
theorem zav_31 : zav Try.prog 31 = .any := by kernel_rfl
theorem zav_32 : zav Try.prog 32 = .any := by kernel_rfl
theorem zav_33 : zav Try.prog 33 = .agg [.val (.int .i64 0), .val (.int .i64 0), .val (.int .i64 0), .val (.int .i64 0), .val (.bool false)] := by kernel_rfl
theorem zav_34 : zav Try.prog 34 = .agg [.val (.int .i64 0), .val (.int .i64 0), .val (.int .i64 0), .val (.int .i64 0), .val (.bool false)] := by kernel_rfl
theorem zav_35 : zav Try.prog 35 = .any := by kernel_rfl
theorem zav_36 : zav Try.prog 36 = .any := by kernel_rfl
theorem zav_37 : zav Try.prog 37 = .any := by kernel_rfl
theorem zav_38 : zav Try.prog 38 = .any := by kernel_rfl
theorem zav_39 : zav Try.prog 39 = .lst 1 [] := by kernel_rfl
theorem zav_40 : zav Try.prog 40 = .agg [.val (.int .i64 0), .val (.int .i64 0), .emp, .val (.int .i64 0), .val (.int .i64 0)] := by kernel_rfl
theorem zav_41 : zav Try.prog 41 = .agg [.val (.int .i64 0), .val (.int .i64 0), .emp, .val (.int .i64 0), .val (.int .i64 0)] := by kernel_rfl
theorem zav_42 : zav Try.prog 42 = .any := by kernel_rfl
theorem zav_44 : zav Try.prog 44 = .any := by kernel_rfl
theorem zav_45 : zav Try.prog 45 = .any := by kernel_rfl
theorem zav_46 : zav Try.prog 46 = .any := by kernel_rfl
theorem zav_47 : zav Try.prog 47 = .any := by kernel_rfl
theorem zav_48 : zav Try.prog 48 = .any := by kernel_rfl
theorem zav_49 : zav Try.prog 49 = .any := by kernel_rfl
theorem zav_50 : zav Try.prog 50 = .any := by kernel_rfl
theorem zav_52 : zav Try.prog 52 = .any := by kernel_rfl
theorem zav_53 : zav Try.prog 53 = .any := by kernel_rfl
theorem zav_55 : zav Try.prog 55 = .any := by kernel_rfl
theorem zav_56 : zav Try.prog 56 = .any := by kernel_rfl
theorem zav_57 : zav Try.prog 57 = .agg [.val (.int .i64 0), .val (.int .i64 0)] := by kernel_rfl
theorem zav_58 : zav Try.prog 58 = .agg [.val (.int .i64 0), .val (.int .i64 0)] := by kernel_rfl
theorem zav_59 : zav Try.prog 59 = .agg [.val (.int .i64 0), .val (.int .i64 0), .val (.int .i64 0), .val (.int .i64 0), .emp, .val (.int .i64 0), .val (.int .i64 0)] := by kernel_rfl
theorem zav_60 : zav Try.prog 60 = .agg [.val (.int .i64 0), .val (.int .i64 0), .val (.int .i64 0), .val (.int .i64 0), .emp, .val (.int .i64 0), .val (.int .i64 0)] := by kernel_rfl
theorem zav_62 : zav Try.prog 62 = .any := by kernel_rfl
theorem zav_63 : zav Try.prog 63 = .any := by kernel_rfl
theorem zav_64 : zav Try.prog 64 = .any := by kernel_rfl
theorem zav_65 : zav Try.prog 65 = .any := by kernel_rfl
theorem zav_66 : zav Try.prog 66 = .any := by kernel_rfl
theorem zav_67 : zav Try.prog 67 = .any := by kernel_rfl
theorem zav_68 : zav Try.prog 68 = .any := by kernel_rfl
theorem zav_70 : zav Try.prog 70 = .any := by kernel_rfl
theorem zav_72 : zav Try.prog 72 = .any := by kernel_rfl
theorem zav_73 : zav Try.prog 73 = .any := by kernel_rfl
theorem zav_74 : zav Try.prog 74 = .any := by kernel_rfl
theorem zav_75 : zav Try.prog 75 = .any := by kernel_rfl
theorem zav_76 : zav Try.prog 76 = .any := by kernel_rfl
theorem zav_77 : zav Try.prog 77 = .any := by kernel_rfl
theorem zav_78 : zav Try.prog 78 = .any := by kernel_rfl
theorem zav_79 : zav Try.prog 79 = .any := by kernel_rfl
theorem zav_80 : zav Try.prog 80 = .any := by kernel_rfl
theorem zav_81 : zav Try.prog 81 = .any := by kernel_rfl
theorem zav_82 : zav Try.prog 82 = .any := by kernel_rfl
theorem zav_83 : zav Try.prog 83 = .any := by kernel_rfl
theorem zav_84 : zav Try.prog 84 = .any := by kernel_rfl
theorem zav_86 : zav Try.prog 86 = .any := by kernel_rfl
theorem zav_87 : zav Try.prog 87 = .any := by kernel_rfl
theorem zav_88 : zav Try.prog 88 = .any := by kernel_rfl
theorem zav_89 : zav Try.prog 89 = .any := by kernel_rfl
theorem zav_90 : zav Try.prog 90 = .val (.int .u64 0) := by kernel_rfl
theorem zav_91 : zav Try.prog 91 = .any := by kernel_rfl
theorem zav_93 : zav Try.prog 93 = .any := by kernel_rfl
theorem zav_94 : zav Try.prog 94 = .any := by kernel_rfl
theorem zav_95 : zav Try.prog 95 = .any := by kernel_rfl
theorem zav_96 : zav Try.prog 96 = .any := by kernel_rfl
theorem zav_97 : zav Try.prog 97 = .val (.int .i64 0) := by kernel_rfl
theorem zav_99 : zav Try.prog 99 = .any := by kernel_rfl
theorem zav_100 : zav Try.prog 100 = .any := by kernel_rfl
theorem zav_101 : zav Try.prog 101 = .any := by kernel_rfl
theorem zav_102 : zav Try.prog 102 = .any := by kernel_rfl
theorem zav_103 : zav Try.prog 103 = .any := by kernel_rfl
theorem zav_104 : zav Try.prog 104 = .any := by kernel_rfl
theorem zav_105 : zav Try.prog 105 = .val (.int .u32 0) := by kernel_rfl
theorem zav_106 : zav Try.prog 106 = .any := by kernel_rfl
theorem zav_107 : zav Try.prog 107 = .val (.int .u64 0) := by kernel_rfl
theorem zav_109 : zav Try.prog 109 = .any := by kernel_rfl
theorem zav_111 : zav Try.prog 111 = .any := by kernel_rfl
theorem zav_112 : zav Try.prog 112 = .lst 1 [] := by kernel_rfl
theorem zav_113 : zav Try.prog 113 = .any := by kernel_rfl
theorem zav_114 : zav Try.prog 114 = .any := by kernel_rfl
theorem zav_115 : zav Try.prog 115 = .val (.int .u64 0) := by kernel_rfl
theorem zav_116 : zav Try.prog 116 = .any := by kernel_rfl
theorem zav_117 : zav Try.prog 117 = .any := by kernel_rfl
theorem zav_118 : zav Try.prog 118 = .any := by kernel_rfl
theorem zav_119 : zav Try.prog 119 = .any := by kernel_rfl
theorem zav_120 : zav Try.prog 120 = .any := by kernel_rfl
theorem zav_121 : zav Try.prog 121 = .any := by kernel_rfl
theorem zav_123 : zav Try.prog 123 = .any := by kernel_rfl
theorem zav_124 : zav Try.prog 124 = .any := by kernel_rfl
theorem zav_125 : zav Try.prog 125 = .agg [.val (.pointer none), .val (.pointer none), .val (.pointer none), .val (.string .empty)] := by kernel_rfl
theorem zav_126 : zav Try.prog 126 = .agg [.val (.pointer none), .val (.pointer none), .val (.pointer none), .val (.string .empty)] := by kernel_rfl
theorem zav_127 : zav Try.prog 127 = .agg [] := by kernel_rfl
theorem zav_128 : zav Try.prog 128 = .agg [] := by kernel_rfl
theorem zav_129 : zav Try.prog 129 = .agg [] := by kernel_rfl
theorem zav_130 : zav Try.prog 130 = .any := by kernel_rfl
theorem zav_131 : zav Try.prog 131 = .val (.int .u8 0) := by kernel_rfl
theorem zav_132 : zav Try.prog 132 = .val (.int .u8 0) := by kernel_rfl
theorem zav_133 : zav Try.prog 133 = .any := by kernel_rfl
theorem zav_134 : zav Try.prog 134 = .any := by kernel_rfl
theorem zav_135 : zav Try.prog 135 = .val (.int .i32 0) := by kernel_rfl
theorem zav_136 : zav Try.prog 136 = .val (.int .i32 0) := by kernel_rfl
theorem zav_137 : zav Try.prog 137 = .agg [.val (.int .u64 0), .val (.int .u64 0), .val (.int .u32 0), .val (.int .u8 0), .val (.int .u8 0), .val (.int .u8 0), .val (.int .u8 0), .val .nilFunc, .val (.pointer none), .val (.int .i32 0), .val (.int .i32 0)] := by kernel_rfl
theorem zav_138 : zav Try.prog 138 = .agg [.val (.int .u64 0), .val (.int .u64 0), .val (.int .u32 0), .val (.int .u8 0), .val (.int .u8 0), .val (.int .u8 0), .val (.int .u8 0), .val .nilFunc, .val (.pointer none), .val (.int .i32 0), .val (.int .i32 0)] := by kernel_rfl
theorem zav_139 : zav Try.prog 139 = .any := by kernel_rfl
theorem elB_3 : elB Try.prog 3 = true := by kernel_rfl
theorem elB_4 : elB Try.prog 4 = true := by kernel_rfl
theorem elB_5 : elB Try.prog 5 = true := by kernel_rfl
theorem elB_28 : elB Try.prog 28 = true := by kernel_rfl
theorem elB_34 : elB Try.prog 34 = true := by kernel_rfl
theorem cmpT_34 : cmpT Try.prog 34 = some [0, 0, 0, 0, 1] := by kernel_rfl
theorem cmpT_58 : cmpT Try.prog 58 = some [0, 0] := by kernel_rfl
attribute [push_cast] uk_1 uk_2 uk_3 uk_4 uk_5 uk_6 uk_7 uk_8 uk_9 uk_10 uk_11 uk_12 uk_13 uk_14 uk_15 uk_16 uk_17 uk_18 uk_19 uk_20 uk_21 uk_22 uk_23 uk_24 uk_26 uk_27 uk_28 uk_30 uk_31 uk_32 uk_33 uk_34 uk_35 uk_36 uk_37 uk_38 uk_39 uk_40 uk_41 uk_42
attribute [push_cast] uk_44 uk_45 uk_46 uk_47 uk_48 uk_49 uk_50 uk_52 uk_53 uk_55 uk_56 uk_57 uk_58 uk_59 uk_60 uk_62 uk_63 uk_64 uk_65 uk_66 uk_67 uk_68 uk_70 uk_72 uk_73 uk_74 uk_75 uk_76 uk_77 uk_78 uk_79 uk_80 uk_81 uk_82 uk_83 uk_84 uk_86 uk_87 uk_88 uk_89
attribute [push_cast] uk_90 uk_91 uk_93 uk_94 uk_95 uk_96 uk_97 uk_99 uk_100 uk_101 uk_102 uk_103 uk_104 uk_105 uk_106 uk_107 uk_109 uk_111 uk_112 uk_113 uk_114 uk_115 uk_116 uk_117 uk_118 uk_119 uk_120 uk_121 uk_123 uk_124 uk_125 uk_126 uk_127 uk_128 uk_129 uk_130 uk_131 uk_132 uk_133 uk_134
attribute [push_cast] uk_135 uk_136 uk_137 uk_138 uk_139
attribute [push_cast] arT_127
attribute [push_cast] tsz_1 tsz_2 tsz_3 tsz_4 tsz_5 tsz_6 tsz_7 tsz_8 tsz_9 tsz_10 tsz_11 tsz_12 tsz_13 tsz_14 tsz_15 tsz_16 tsz_17 tsz_18 tsz_19 tsz_20 tsz_21 tsz_22 tsz_23 tsz_24 tsz_26 tsz_27 tsz_28 tsz_30 tsz_31 tsz_32 tsz_33 tsz_34 tsz_35 tsz_36 tsz_37 tsz_38 tsz_39 tsz_40 tsz_41 tsz_42
attribute [push_cast] tsz_44 tsz_45 tsz_46 tsz_47 tsz_48 tsz_49 tsz_50 tsz_52 tsz_53 tsz_55 tsz_56 tsz_57 tsz_58 tsz_59 tsz_60 tsz_62 tsz_63 tsz_64 tsz_65 tsz_66 tsz_67 tsz_68 tsz_70 tsz_72 tsz_73 tsz_74 tsz_75 tsz_76 tsz_77 tsz_78 tsz_79 tsz_80 tsz_81 tsz_82 tsz_83 tsz_84 tsz_86 tsz_87 tsz_88 tsz_89
attribute [push_cast] tsz_90 tsz_91 tsz_93 tsz_94 tsz_95 tsz_96 tsz_97 tsz_99 tsz_100 tsz_101 tsz_102 tsz_103 tsz_104 tsz_105 tsz_106 tsz_107 tsz_109 tsz_111 tsz_112 tsz_113 tsz_114 tsz_115 tsz_116 tsz_117 tsz_118 tsz_119 tsz_120 tsz_121 tsz_123 tsz_124 tsz_125 tsz_126 tsz_127 tsz_128 tsz_129 tsz_130 tsz_131 tsz_132 tsz_133 tsz_134
attribute [push_cast] tsz_135 tsz_136 tsz_137 tsz_138 tsz_139
attribute [push_cast] agg_1 agg_2 agg_3 agg_4 agg_5 agg_6 agg_7 agg_8 agg_9 agg_10 agg_11 agg_12 agg_13 agg_14 agg_15 agg_16 agg_17 agg_18 agg_19 agg_20 agg_21 agg_22 agg_23 agg_24 agg_26 agg_27 agg_28 agg_30 agg_31 agg_32 agg_33 agg_34 agg_35 agg_36 agg_37 agg_38 agg_39 agg_40 agg_41 agg_42
attribute [push_cast] agg_44 agg_45 agg_46 agg_47 agg_48 agg_49 agg_50 agg_52 agg_53 agg_55 agg_56 agg_57 agg_58 agg_59 agg_60 agg_62 agg_63 agg_64 agg_65 agg_66 agg_67 agg_68 agg_70 agg_72 agg_73 agg_74 agg_75 agg_76 agg_77 agg_78 agg_79 agg_80 agg_81 agg_82 agg_83 agg_84 agg_86 agg_87 agg_88 agg_89
attribute [push_cast] agg_90 agg_91 agg_93 agg_94 agg_95 agg_96 agg_97 agg_99 agg_100 agg_101 agg_102 agg_103 agg_104 agg_105 agg_106 agg_107 agg_109 agg_111 agg_112 agg_113 agg_114 agg_115 agg_116 agg_117 agg_118 agg_119 agg_120 agg_121 agg_123 agg_124 agg_125 agg_126 agg_127 agg_128 agg_129 agg_130 agg_131 agg_132 agg_133 agg_134
attribute [push_cast] agg_135 agg_136 agg_137 agg_138 agg_139
attribute [push_cast] fOff_7_0 fOff_7_1 fOff_7_2 fOff_7_3 fOff_8_0 fOff_8_1 fOff_8_2 fOff_8_3 fOff_13_0 fOff_13_1 fOff_14_0 fOff_14_1 fOff_18_0 fOff_19_0 fOff_33_0 fOff_33_1 fOff_33_2 fOff_33_3 fOff_33_4 fOff_34_0 fOff_34_1 fOff_34_2 fOff_34_3 fOff_34_4 fOff_40_0 fOff_40_1 fOff_40_2 fOff_40_3 fOff_40_4 fOff_41_0 fOff_41_1 fOff_41_2 fOff_41_3 fOff_41_4 fOff_57_0 fOff_57_1 fOff_58_0 fOff_58_1 fOff_59_0 fOff_59_1
attribute [push_cast] fOff_60_0 fOff_60_1 fOff_125_0 fOff_125_1 fOff_125_2 fOff_125_3 fOff_126_0 fOff_126_1 fOff_126_2 fOff_126_3 fOff_128_0 fOff_129_0 fOff_137_0 fOff_137_1 fOff_137_2 fOff_137_3 fOff_137_4 fOff_137_5 fOff_137_6 fOff_137_7 fOff_137_8 fOff_137_9 fOff_137_10 fOff_138_0 fOff_138_1 fOff_138_2 fOff_138_3 fOff_138_4 fOff_138_5 fOff_138_6 fOff_138_7 fOff_138_8 fOff_138_9 fOff_138_10
attribute [push_cast] tby_3 tby_4 tby_5 tby_28 tby_34
attribute [push_cast] zAV_1 zAV_2 zAV_3 zAV_4 zAV_5 zAV_6 zAV_7 zAV_8 zAV_9 zAV_10 zAV_11 zAV_12 zAV_13 zAV_14 zAV_15 zAV_16 zAV_17 zAV_18 zAV_19 zAV_21 zAV_22 zAV_23 zAV_24 zAV_26 zAV_27 zAV_28 zAV_30 zAV_31 zAV_32 zAV_33 zAV_34 zAV_35 zAV_36 zAV_37 zAV_38 zAV_39 zAV_40 zAV_41 zAV_42 zAV_44
attribute [push_cast] zAV_45 zAV_46 zAV_47 zAV_48 zAV_49 zAV_50 zAV_52 zAV_53 zAV_55 zAV_56 zAV_57 zAV_58 zAV_59 zAV_60 zAV_62 zAV_63 zAV_64 zAV_65 zAV_66 zAV_67 zAV_68 zAV_70 zAV_72 zAV_73 zAV_74 zAV_75 zAV_76 zAV_77 zAV_78 zAV_79 zAV_80 zAV_81 zAV_82 zAV_83 zAV_84 zAV_86 zAV_87 zAV_88 zAV_89 zAV_90
attribute [push_cast] zAV_91 zAV_93 zAV_94 zAV_95 zAV_96 zAV_97 zAV_99 zAV_100 zAV_101 zAV_102 zAV_103 zAV_104 zAV_105 zAV_106 zAV_107 zAV_109 zAV_111 zAV_112 zAV_113 zAV_114 zAV_115 zAV_116 zAV_117 zAV_118 zAV_119 zAV_120 zAV_121 zAV_123 zAV_124 zAV_125 zAV_126 zAV_127 zAV_128 zAV_129 zAV_130 zAV_131 zAV_132 zAV_133 zAV_134 zAV_135
attribute [push_cast] zAV_136 zAV_137 zAV_138
attribute [push_cast] elB_3 elB_4 elB_5 elB_28 elB_34
attribute [push_cast] fplaces_7 fplaces_8 fplaces_13 fplaces_14 fplaces_18 fplaces_19 fplaces_33 fplaces_34 fplaces_40 fplaces_41 fplaces_57 fplaces_58 fplaces_59 fplaces_60 fplaces_125 fplaces_126 fplaces_127 fplaces_128 fplaces_129 fplaces_137 fplaces_138
attribute [push_cast] zav_1 zav_2 zav_3 zav_4 zav_5 zav_6 zav_7 zav_8 zav_9 zav_10 zav_11 zav_12 zav_13 zav_14 zav_15 zav_16 zav_17 zav_18 zav_19 zav_20 zav_21 zav_22 zav_23 zav_24 zav_26 zav_27 zav_28 zav_30 zav_31 zav_32 zav_33 zav_34 zav_35 zav_36 zav_37 zav_38 zav_39 zav_40 zav_41 zav_42
attribute [push_cast] zav_44 zav_45 zav_46 zav_47 zav_48 zav_49 zav_50 zav_52 zav_53 zav_55 zav_56 zav_57 zav_58 zav_59 zav_60 zav_62 zav_63 zav_64 zav_65 zav_66 zav_67 zav_68 zav_70 zav_72 zav_73 zav_74 zav_75 zav_76 zav_77 zav_78 zav_79 zav_80 zav_81 zav_82 zav_83 zav_84 zav_86 zav_87 zav_88 zav_89
attribute [push_cast] zav_90 zav_91 zav_93 zav_94 zav_95 zav_96 zav_97 zav_99 zav_100 zav_101 zav_102 zav_103 zav_104 zav_105 zav_106 zav_107 zav_109 zav_111 zav_112 zav_113 zav_114 zav_115 zav_116 zav_117 zav_118 zav_119 zav_120 zav_121 zav_123 zav_124 zav_125 zav_126 zav_127 zav_128 zav_129 zav_130 zav_131 zav_132 zav_133 zav_134
attribute [push_cast] zav_135 zav_136 zav_137 zav_138 zav_139
attribute [push_cast] cmpT_34 cmpT_58
theorem mixed : Try.prog.follows .mixedOrders = true := by kernel_rfl
end Go.Proofs.Try
