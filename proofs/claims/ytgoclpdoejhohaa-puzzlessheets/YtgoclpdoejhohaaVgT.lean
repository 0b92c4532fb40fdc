/- The closed facts of this seat's types and functions that the abstract machine asks for. Written by a program (facts.py). -/
import Derived.Test.YtgoclpdoejhohaaProg
import Derived.Test.YtgoclpdoejhohaaVgZ
set_option linter.all false
namespace Go.Proofs.Try
open Go.Vg
theorem uk_1 : uk Try.prog 1 = .func := by kernel_rfl
theorem tsz_1 : tsz Try.prog 1 = some 1 := by kernel_rfl
theorem agg_1 : agg? Try.prog 1 = some false := by kernel_rfl
theorem uk_2 : uk Try.prog 2 = .int .i64 := by kernel_rfl
theorem tsz_2 : tsz Try.prog 2 = some 1 := by kernel_rfl
theorem agg_2 : agg? Try.prog 2 = some false := by kernel_rfl
theorem uk_3 : uk Try.prog 3 = .int .i64 := by kernel_rfl
theorem tsz_3 : tsz Try.prog 3 = some 1 := by kernel_rfl
theorem agg_3 : agg? Try.prog 3 = some false := by kernel_rfl
theorem uk_4 : uk Try.prog 4 = .bool := by kernel_rfl
theorem tsz_4 : tsz Try.prog 4 = some 1 := by kernel_rfl
theorem agg_4 : agg? Try.prog 4 = some false := by kernel_rfl
theorem uk_5 : uk Try.prog 5 = .int .u8 := by kernel_rfl
theorem tsz_5 : tsz Try.prog 5 = some 1 := by kernel_rfl
theorem agg_5 : agg? Try.prog 5 = some false := by kernel_rfl
theorem uk_6 : uk Try.prog 6 = .int .u8 := by kernel_rfl
theorem tsz_6 : tsz Try.prog 6 = some 1 := by kernel_rfl
theorem agg_6 : agg? Try.prog 6 = some false := by kernel_rfl
theorem uk_7 : uk Try.prog 7 = .struct := by kernel_rfl
theorem tsz_7 : tsz Try.prog 7 = some 4 := by kernel_rfl
theorem agg_7 : agg? Try.prog 7 = some true := by kernel_rfl
theorem fOff_7_0 : fOff Try.prog 7 0 = some (0, 2) := by kernel_rfl
theorem fOff_7_1 : fOff Try.prog 7 1 = some (1, 3) := by kernel_rfl
theorem fOff_7_2 : fOff Try.prog 7 2 = some (2, 4) := by kernel_rfl
theorem fOff_7_3 : fOff Try.prog 7 3 = some (3, 6) := by kernel_rfl
theorem uk_8 : uk Try.prog 8 = .struct := by kernel_rfl
theorem tsz_8 : tsz Try.prog 8 = some 4 := by kernel_rfl
theorem agg_8 : agg? Try.prog 8 = some true := by kernel_rfl
theorem fOff_8_0 : fOff Try.prog 8 0 = some (0, 2) := by kernel_rfl
theorem fOff_8_1 : fOff Try.prog 8 1 = some (1, 3) := by kernel_rfl
theorem fOff_8_2 : fOff Try.prog 8 2 = some (2, 4) := by kernel_rfl
theorem fOff_8_3 : fOff Try.prog 8 3 = some (3, 6) := by kernel_rfl
theorem uk_9 : uk Try.prog 9 = .string := by kernel_rfl
theorem tsz_9 : tsz Try.prog 9 = some 1 := by kernel_rfl
theorem agg_9 : agg? Try.prog 9 = some false := by kernel_rfl
theorem uk_10 : uk Try.prog 10 = .string := by kernel_rfl
theorem tsz_10 : tsz Try.prog 10 = some 1 := by kernel_rfl
theorem agg_10 : agg? Try.prog 10 = some false := by kernel_rfl
theorem uk_11 : uk Try.prog 11 = .string := by kernel_rfl
theorem tsz_11 : tsz Try.prog 11 = some 1 := by kernel_rfl
theorem agg_11 : agg? Try.prog 11 = some false := by kernel_rfl
theorem uk_12 : uk Try.prog 12 = .int .u64 := by kernel_rfl
theorem tsz_12 : tsz Try.prog 12 = some 1 := by kernel_rfl
theorem agg_12 : agg? Try.prog 12 = some false := by kernel_rfl
theorem uk_13 : uk Try.prog 13 = .struct := by kernel_rfl
theorem tsz_13 : tsz Try.prog 13 = some 2 := by kernel_rfl
theorem agg_13 : agg? Try.prog 13 = some true := by kernel_rfl
theorem fOff_13_0 : fOff Try.prog 13 0 = some (0, 9) := by kernel_rfl
theorem fOff_13_1 : fOff Try.prog 13 1 = some (1, 12) := by kernel_rfl
theorem uk_14 : uk Try.prog 14 = .struct := by kernel_rfl
theorem tsz_14 : tsz Try.prog 14 = some 2 := by kernel_rfl
theorem agg_14 : agg? Try.prog 14 = some true := by kernel_rfl
theorem fOff_14_0 : fOff Try.prog 14 0 = some (0, 9) := by kernel_rfl
theorem fOff_14_1 : fOff Try.prog 14 1 = some (1, 12) := by kernel_rfl
theorem uk_15 : uk Try.prog 15 = .pointer 80 := by kernel_rfl
theorem tsz_15 : tsz Try.prog 15 = some 1 := by kernel_rfl
theorem agg_15 : agg? Try.prog 15 = some false := by kernel_rfl
theorem uk_16 : uk Try.prog 16 = .pointer 83 := by kernel_rfl
theorem tsz_16 : tsz Try.prog 16 = some 1 := by kernel_rfl
theorem agg_16 : agg? Try.prog 16 = some false := by kernel_rfl
theorem uk_17 : uk Try.prog 17 = .pointer 92 := by kernel_rfl
theorem tsz_17 : tsz Try.prog 17 = some 1 := by kernel_rfl
theorem agg_17 : agg? Try.prog 17 = some false := by kernel_rfl
theorem uk_18 : uk Try.prog 18 = .struct := by kernel_rfl
theorem tsz_18 : tsz Try.prog 18 = some 1 := by kernel_rfl
theorem agg_18 : agg? Try.prog 18 = some true := by kernel_rfl
theorem fOff_18_0 : fOff Try.prog 18 0 = some (0, 17) := by kernel_rfl
theorem uk_19 : uk Try.prog 19 = .struct := by kernel_rfl
theorem tsz_19 : tsz Try.prog 19 = some 1 := by kernel_rfl
theorem agg_19 : agg? Try.prog 19 = some true := by kernel_rfl
theorem fOff_19_0 : fOff Try.prog 19 0 = some (0, 17) := by kernel_rfl
theorem uk_20 : uk Try.prog 20 = .other := by kernel_rfl
theorem tsz_20 : tsz Try.prog 20 = some 1 := by kernel_rfl
theorem agg_20 : agg? Try.prog 20 = some false := by kernel_rfl
theorem uk_21 : uk Try.prog 21 = .int .i32 := by kernel_rfl
theorem tsz_21 : tsz Try.prog 21 = some 1 := by kernel_rfl
theorem agg_21 : agg? Try.prog 21 = some false := by kernel_rfl
theorem uk_22 : uk Try.prog 22 = .slice 9 := by kernel_rfl
theorem tsz_22 : tsz Try.prog 22 = some 1 := by kernel_rfl
theorem agg_22 : agg? Try.prog 22 = some false := by kernel_rfl
theorem uk_23 : uk Try.prog 23 = .slice 9 := by kernel_rfl
theorem tsz_23 : tsz Try.prog 23 = some 1 := by kernel_rfl
theorem agg_23 : agg? Try.prog 23 = some false := by kernel_rfl
theorem uk_24 : uk Try.prog 24 = .struct := by kernel_rfl
theorem tsz_24 : tsz Try.prog 24 = some 3 := by kernel_rfl
theorem agg_24 : agg? Try.prog 24 = some true := by kernel_rfl
theorem fOff_24_0 : fOff Try.prog 24 0 = some (0, 3) := by kernel_rfl
theorem fOff_24_1 : fOff Try.prog 24 1 = some (1, 3) := by kernel_rfl
theorem fOff_24_2 : fOff Try.prog 24 2 = some (2, 3) := by kernel_rfl
theorem uk_25 : uk Try.prog 25 = .struct := by kernel_rfl
theorem tsz_25 : tsz Try.prog 25 = some 3 := by kernel_rfl
theorem agg_25 : agg? Try.prog 25 = some true := by kernel_rfl
theorem fOff_25_0 : fOff Try.prog 25 0 = some (0, 3) := by kernel_rfl
theorem fOff_25_1 : fOff Try.prog 25 1 = some (1, 3) := by kernel_rfl
theorem fOff_25_2 : fOff Try.prog 25 2 = some (2, 3) := by kernel_rfl
theorem uk_26 : uk Try.prog 26 = .struct := by kernel_rfl
theorem tsz_26 : tsz Try.prog 26 = some 4 := by kernel_rfl
theorem agg_26 : agg? Try.prog 26 = some true := by kernel_rfl
theorem fOff_26_0 : fOff Try.prog 26 0 = some (0, 25) := by kernel_rfl
theorem fOff_26_1 : fOff Try.prog 26 1 = some (3, 9) := by kernel_rfl
theorem uk_27 : uk Try.prog 27 = .struct := by kernel_rfl
theorem tsz_27 : tsz Try.prog 27 = some 4 := by kernel_rfl
theorem agg_27 : agg? Try.prog 27 = some true := by kernel_rfl
theorem fOff_27_0 : fOff Try.prog 27 0 = some (0, 25) := by kernel_rfl
theorem fOff_27_1 : fOff Try.prog 27 1 = some (3, 9) := by kernel_rfl
theorem uk_28 : uk Try.prog 28 = .int .i64 := by kernel_rfl
theorem tsz_28 : tsz Try.prog 28 = some 1 := by kernel_rfl
theorem agg_28 : agg? Try.prog 28 = some false := by kernel_rfl
theorem uk_30 : uk Try.prog 30 = .func := by kernel_rfl
theorem tsz_30 : tsz Try.prog 30 = some 1 := by kernel_rfl
theorem agg_30 : agg? Try.prog 30 = some false := by kernel_rfl
theorem uk_31 : uk Try.prog 31 = .slice 25 := by kernel_rfl
theorem tsz_31 : tsz Try.prog 31 = some 1 := by kernel_rfl
theorem agg_31 : agg? Try.prog 31 = some false := by kernel_rfl
theorem uk_33 : uk Try.prog 33 = .func := by kernel_rfl
theorem tsz_33 : tsz Try.prog 33 = some 1 := by kernel_rfl
theorem agg_33 : agg? Try.prog 33 = some false := by kernel_rfl
theorem uk_34 : uk Try.prog 34 = .func := by kernel_rfl
theorem tsz_34 : tsz Try.prog 34 = some 1 := by kernel_rfl
theorem agg_34 : agg? Try.prog 34 = some false := by kernel_rfl
theorem uk_35 : uk Try.prog 35 = .func := by kernel_rfl
theorem tsz_35 : tsz Try.prog 35 = some 1 := by kernel_rfl
theorem agg_35 : agg? Try.prog 35 = some false := by kernel_rfl
theorem uk_36 : uk Try.prog 36 = .func := by kernel_rfl
theorem tsz_36 : tsz Try.prog 36 = some 1 := by kernel_rfl
theorem agg_36 : agg? Try.prog 36 = some false := by kernel_rfl
theorem uk_37 : uk Try.prog 37 = .func := by kernel_rfl
theorem tsz_37 : tsz Try.prog 37 = some 1 := by kernel_rfl
theorem agg_37 : agg? Try.prog 37 = some false := by kernel_rfl
theorem uk_38 : uk Try.prog 38 = .func := by kernel_rfl
theorem tsz_38 : tsz Try.prog 38 = some 1 := by kernel_rfl
theorem agg_38 : agg? Try.prog 38 = some false := by kernel_rfl
theorem uk_39 : uk Try.prog 39 = .func := by kernel_rfl
theorem tsz_39 : tsz Try.prog 39 = some 1 := by kernel_rfl
theorem agg_39 : agg? Try.prog 39 = some false := by kernel_rfl
theorem uk_40 : uk Try.prog 40 = .func := by kernel_rfl
theorem tsz_40 : tsz Try.prog 40 = some 1 := by kernel_rfl
theorem agg_40 : agg? Try.prog 40 = some false := by kernel_rfl
theorem uk_41 : uk Try.prog 41 = .func := by kernel_rfl
theorem tsz_41 : tsz Try.prog 41 = some 1 := by kernel_rfl
theorem agg_41 : agg? Try.prog 41 = some false := by kernel_rfl
theorem uk_42 : uk Try.prog 42 = .func := by kernel_rfl
theorem tsz_42 : tsz Try.prog 42 = some 1 := by kernel_rfl
theorem agg_42 : agg? Try.prog 42 = some false := by kernel_rfl
theorem uk_43 : uk Try.prog 43 = .func := by kernel_rfl
theorem tsz_43 : tsz Try.prog 43 = some 1 := by kernel_rfl
theorem agg_43 : agg? Try.prog 43 = some false := by kernel_rfl
theorem uk_44 : uk Try.prog 44 = .func := by kernel_rfl
theorem tsz_44 : tsz Try.prog 44 = some 1 := by kernel_rfl
theorem agg_44 : agg? Try.prog 44 = some false := by kernel_rfl
theorem uk_45 : uk Try.prog 45 = .func := by kernel_rfl
theorem tsz_45 : tsz Try.prog 45 = some 1 := by kernel_rfl
theorem agg_45 : agg? Try.prog 45 = some false := by kernel_rfl
theorem uk_46 : uk Try.prog 46 = .slice 3 := by kernel_rfl
theorem tsz_46 : tsz Try.prog 46 = some 1 := by kernel_rfl
theorem agg_46 : agg? Try.prog 46 = some false := by kernel_rfl
theorem uk_48 : uk Try.prog 48 = .func := by kernel_rfl
theorem tsz_48 : tsz Try.prog 48 = some 1 := by kernel_rfl
theorem agg_48 : agg? Try.prog 48 = some false := by kernel_rfl
theorem uk_50 : uk Try.prog 50 = .func := by kernel_rfl
theorem tsz_50 : tsz Try.prog 50 = some 1 := by kernel_rfl
theorem agg_50 : agg? Try.prog 50 = some false := by kernel_rfl
theorem uk_51 : uk Try.prog 51 = .func := by kernel_rfl
theorem tsz_51 : tsz Try.prog 51 = some 1 := by kernel_rfl
theorem agg_51 : agg? Try.prog 51 = some false := by kernel_rfl
theorem uk_52 : uk Try.prog 52 = .slice 5 := by kernel_rfl
theorem tsz_52 : tsz Try.prog 52 = some 1 := by kernel_rfl
theorem agg_52 : agg? Try.prog 52 = some false := by kernel_rfl
theorem uk_53 : uk Try.prog 53 = .pointer 55 := by kernel_rfl
theorem tsz_53 : tsz Try.prog 53 = some 1 := by kernel_rfl
theorem agg_53 : agg? Try.prog 53 = some false := by kernel_rfl
theorem uk_54 : uk Try.prog 54 = .struct := by kernel_rfl
theorem tsz_54 : tsz Try.prog 54 = some 2 := by kernel_rfl
theorem agg_54 : agg? Try.prog 54 = some true := by kernel_rfl
theorem fOff_54_0 : fOff Try.prog 54 0 = some (0, 53) := by kernel_rfl
theorem fOff_54_1 : fOff Try.prog 54 1 = some (1, 52) := by kernel_rfl
theorem uk_55 : uk Try.prog 55 = .struct := by kernel_rfl
theorem tsz_55 : tsz Try.prog 55 = some 2 := by kernel_rfl
theorem agg_55 : agg? Try.prog 55 = some true := by kernel_rfl
theorem fOff_55_0 : fOff Try.prog 55 0 = some (0, 53) := by kernel_rfl
theorem fOff_55_1 : fOff Try.prog 55 1 = some (1, 52) := by kernel_rfl
theorem uk_56 : uk Try.prog 56 = .other := by kernel_rfl
theorem tsz_56 : tsz Try.prog 56 = some 1 := by kernel_rfl
theorem agg_56 : agg? Try.prog 56 = some false := by kernel_rfl
theorem uk_57 : uk Try.prog 57 = .other := by kernel_rfl
theorem tsz_57 : tsz Try.prog 57 = some 1 := by kernel_rfl
theorem agg_57 : agg? Try.prog 57 = some false := by kernel_rfl
theorem uk_58 : uk Try.prog 58 = .func := by kernel_rfl
theorem tsz_58 : tsz Try.prog 58 = some 1 := by kernel_rfl
theorem agg_58 : agg? Try.prog 58 = some false := by kernel_rfl
theorem uk_59 : uk Try.prog 59 = .func := by kernel_rfl
theorem tsz_59 : tsz Try.prog 59 = some 1 := by kernel_rfl
theorem agg_59 : agg? Try.prog 59 = some false := by kernel_rfl
theorem uk_60 : uk Try.prog 60 = .func := by kernel_rfl
theorem tsz_60 : tsz Try.prog 60 = some 1 := by kernel_rfl
theorem agg_60 : agg? Try.prog 60 = some false := by kernel_rfl
theorem uk_61 : uk Try.prog 61 = .func := by kernel_rfl
theorem tsz_61 : tsz Try.prog 61 = some 1 := by kernel_rfl
theorem agg_61 : agg? Try.prog 61 = some false := by kernel_rfl
theorem uk_62 : uk Try.prog 62 = .func := by kernel_rfl
theorem tsz_62 : tsz Try.prog 62 = some 1 := by kernel_rfl
theorem agg_62 : agg? Try.prog 62 = some false := by kernel_rfl
theorem uk_63 : uk Try.prog 63 = .func := by kernel_rfl
theorem tsz_63 : tsz Try.prog 63 = some 1 := by kernel_rfl
theorem agg_63 : agg? Try.prog 63 = some false := by kernel_rfl
theorem uk_64 : uk Try.prog 64 = .func := by kernel_rfl
theorem tsz_64 : tsz Try.prog 64 = some 1 := by kernel_rfl
theorem agg_64 : agg? Try.prog 64 = some false := by kernel_rfl
theorem uk_65 : uk Try.prog 65 = .func := by kernel_rfl
theorem tsz_65 : tsz Try.prog 65 = some 1 := by kernel_rfl
theorem agg_65 : agg? Try.prog 65 = some false := by kernel_rfl
theorem uk_66 : uk Try.prog 66 = .func := by kernel_rfl
theorem tsz_66 : tsz Try.prog 66 = some 1 := by kernel_rfl
theorem agg_66 : agg? Try.prog 66 = some false := by kernel_rfl
theorem uk_67 : uk Try.prog 67 = .func := by kernel_rfl
theorem tsz_67 : tsz Try.prog 67 = some 1 := by kernel_rfl
theorem agg_67 : agg? Try.prog 67 = some false := by kernel_rfl
theorem uk_68 : uk Try.prog 68 = .func := by kernel_rfl
theorem tsz_68 : tsz Try.prog 68 = some 1 := by kernel_rfl
theorem agg_68 : agg? Try.prog 68 = some false := by kernel_rfl
theorem uk_69 : uk Try.prog 69 = .func := by kernel_rfl
theorem tsz_69 : tsz Try.prog 69 = some 1 := by kernel_rfl
theorem agg_69 : agg? Try.prog 69 = some false := by kernel_rfl
theorem uk_70 : uk Try.prog 70 = .func := by kernel_rfl
theorem tsz_70 : tsz Try.prog 70 = some 1 := by kernel_rfl
theorem agg_70 : agg? Try.prog 70 = some false := by kernel_rfl
theorem uk_71 : uk Try.prog 71 = .pointer 5 := by kernel_rfl
theorem tsz_71 : tsz Try.prog 71 = some 1 := by kernel_rfl
theorem agg_71 : agg? Try.prog 71 = some false := by kernel_rfl
theorem uk_72 : uk Try.prog 72 = .func := by kernel_rfl
theorem tsz_72 : tsz Try.prog 72 = some 1 := by kernel_rfl
theorem agg_72 : agg? Try.prog 72 = some false := by kernel_rfl
theorem uk_73 : uk Try.prog 73 = .func := by kernel_rfl
theorem tsz_73 : tsz Try.prog 73 = some 1 := by kernel_rfl
theorem agg_73 : agg? Try.prog 73 = some false := by kernel_rfl
theorem uk_74 : uk Try.prog 74 = .func := by kernel_rfl
theorem tsz_74 : tsz Try.prog 74 = some 1 := by kernel_rfl
theorem agg_74 : agg? Try.prog 74 = some false := by kernel_rfl
theorem uk_75 : uk Try.prog 75 = .func := by kernel_rfl
theorem tsz_75 : tsz Try.prog 75 = some 1 := by kernel_rfl
theorem agg_75 : agg? Try.prog 75 = some false := by kernel_rfl
theorem uk_76 : uk Try.prog 76 = .other := by kernel_rfl
theorem tsz_76 : tsz Try.prog 76 = some 1 := by kernel_rfl
theorem agg_76 : agg? Try.prog 76 = some false := by kernel_rfl
theorem uk_77 : uk Try.prog 77 = .func := by kernel_rfl
theorem tsz_77 : tsz Try.prog 77 = some 1 := by kernel_rfl
theorem agg_77 : agg? Try.prog 77 = some false := by kernel_rfl
theorem uk_78 : uk Try.prog 78 = .func := by kernel_rfl
theorem tsz_78 : tsz Try.prog 78 = some 1 := by kernel_rfl
theorem agg_78 : agg? Try.prog 78 = some false := by kernel_rfl
theorem uk_79 : uk Try.prog 79 = .struct := by kernel_rfl
theorem tsz_79 : tsz Try.prog 79 = some 4 := by kernel_rfl
theorem agg_79 : agg? Try.prog 79 = some true := by kernel_rfl
theorem fOff_79_0 : fOff Try.prog 79 0 = some (0, 17) := by kernel_rfl
theorem fOff_79_1 : fOff Try.prog 79 1 = some (1, 17) := by kernel_rfl
theorem fOff_79_2 : fOff Try.prog 79 2 = some (2, 17) := by kernel_rfl
theorem fOff_79_3 : fOff Try.prog 79 3 = some (3, 9) := by kernel_rfl
theorem uk_80 : uk Try.prog 80 = .struct := by kernel_rfl
theorem tsz_80 : tsz Try.prog 80 = some 4 := by kernel_rfl
theorem agg_80 : agg? Try.prog 80 = some true := by kernel_rfl
theorem fOff_80_0 : fOff Try.prog 80 0 = some (0, 17) := by kernel_rfl
theorem fOff_80_1 : fOff Try.prog 80 1 = some (1, 17) := by kernel_rfl
theorem fOff_80_2 : fOff Try.prog 80 2 = some (2, 17) := by kernel_rfl
theorem fOff_80_3 : fOff Try.prog 80 3 = some (3, 9) := by kernel_rfl
theorem uk_81 : uk Try.prog 81 = .other := by kernel_rfl
theorem arT_81 : arT Try.prog 81 = some (0, 16) := by kernel_rfl
theorem tsz_81 : tsz Try.prog 81 = some 0 := by kernel_rfl
theorem agg_81 : agg? Try.prog 81 = some true := by kernel_rfl
theorem uk_82 : uk Try.prog 82 = .struct := by kernel_rfl
theorem tsz_82 : tsz Try.prog 82 = some 0 := by kernel_rfl
theorem agg_82 : agg? Try.prog 82 = some true := by kernel_rfl
theorem fOff_82_0 : fOff Try.prog 82 0 = some (0, 81) := by kernel_rfl
theorem uk_83 : uk Try.prog 83 = .struct := by kernel_rfl
theorem tsz_83 : tsz Try.prog 83 = some 0 := by kernel_rfl
theorem agg_83 : agg? Try.prog 83 = some true := by kernel_rfl
theorem fOff_83_0 : fOff Try.prog 83 0 = some (0, 81) := by kernel_rfl
theorem uk_84 : uk Try.prog 84 = .func := by kernel_rfl
theorem tsz_84 : tsz Try.prog 84 = some 1 := by kernel_rfl
theorem agg_84 : agg? Try.prog 84 = some false := by kernel_rfl
theorem uk_85 : uk Try.prog 85 = .int .u32 := by kernel_rfl
theorem tsz_85 : tsz Try.prog 85 = some 1 := by kernel_rfl
theorem agg_85 : agg? Try.prog 85 = some false := by kernel_rfl
theorem uk_86 : uk Try.prog 86 = .int .u8 := by kernel_rfl
theorem tsz_86 : tsz Try.prog 86 = some 1 := by kernel_rfl
theorem agg_86 : agg? Try.prog 86 = some false := by kernel_rfl
theorem uk_87 : uk Try.prog 87 = .int .u8 := by kernel_rfl
theorem tsz_87 : tsz Try.prog 87 = some 1 := by kernel_rfl
theorem agg_87 : agg? Try.prog 87 = some false := by kernel_rfl
theorem uk_88 : uk Try.prog 88 = .func := by kernel_rfl
theorem tsz_88 : tsz Try.prog 88 = some 1 := by kernel_rfl
theorem agg_88 : agg? Try.prog 88 = some false := by kernel_rfl
theorem uk_89 : uk Try.prog 89 = .int .i32 := by kernel_rfl
theorem tsz_89 : tsz Try.prog 89 = some 1 := by kernel_rfl
theorem agg_89 : agg? Try.prog 89 = some false := by kernel_rfl
theorem uk_90 : uk Try.prog 90 = .int .i32 := by kernel_rfl
theorem tsz_90 : tsz Try.prog 90 = some 1 := by kernel_rfl
theorem agg_90 : agg? Try.prog 90 = some false := by kernel_rfl
theorem uk_91 : uk Try.prog 91 = .struct := by kernel_rfl
theorem tsz_91 : tsz Try.prog 91 = some 11 := by kernel_rfl
theorem agg_91 : agg? Try.prog 91 = some true := by kernel_rfl
theorem fOff_91_0 : fOff Try.prog 91 0 = some (0, 12) := by kernel_rfl
theorem fOff_91_1 : fOff Try.prog 91 1 = some (1, 12) := by kernel_rfl
theorem fOff_91_2 : fOff Try.prog 91 2 = some (2, 85) := by kernel_rfl
theorem fOff_91_3 : fOff Try.prog 91 3 = some (3, 86) := by kernel_rfl
theorem fOff_91_4 : fOff Try.prog 91 4 = some (4, 5) := by kernel_rfl
theorem fOff_91_5 : fOff Try.prog 91 5 = some (5, 5) := by kernel_rfl
theorem fOff_91_6 : fOff Try.prog 91 6 = some (6, 87) := by kernel_rfl
theorem fOff_91_7 : fOff Try.prog 91 7 = some (7, 88) := by kernel_rfl
theorem fOff_91_8 : fOff Try.prog 91 8 = some (8, 71) := by kernel_rfl
theorem fOff_91_9 : fOff Try.prog 91 9 = some (9, 89) := by kernel_rfl
theorem fOff_91_10 : fOff Try.prog 91 10 = some (10, 90) := by kernel_rfl
theorem uk_92 : uk Try.prog 92 = .struct := by kernel_rfl
theorem tsz_92 : tsz Try.prog 92 = some 11 := by kernel_rfl
theorem agg_92 : agg? Try.prog 92 = some true := by kernel_rfl
theorem fOff_92_0 : fOff Try.prog 92 0 = some (0, 12) := by kernel_rfl
theorem fOff_92_1 : fOff Try.prog 92 1 = some (1, 12) := by kernel_rfl
theorem fOff_92_2 : fOff Try.prog 92 2 = some (2, 85) := by kernel_rfl
theorem fOff_92_3 : fOff Try.prog 92 3 = some (3, 86) := by kernel_rfl
theorem fOff_92_4 : fOff Try.prog 92 4 = some (4, 5) := by kernel_rfl
theorem fOff_92_5 : fOff Try.prog 92 5 = some (5, 5) := by kernel_rfl
theorem fOff_92_6 : fOff Try.prog 92 6 = some (6, 87) := by kernel_rfl
theorem fOff_92_7 : fOff Try.prog 92 7 = some (7, 88) := by kernel_rfl
theorem fOff_92_8 : fOff Try.prog 92 8 = some (8, 71) := by kernel_rfl
theorem fOff_92_9 : fOff Try.prog 92 9 = some (9, 89) := by kernel_rfl
theorem fOff_92_10 : fOff Try.prog 92 10 = some (10, 90) := by kernel_rfl
theorem fplaces_7 : fplaces Try.prog 7 = some [(0, 1), (1, 1), (2, 1), (3, 1)] := by kernel_rfl
theorem fplaces_8 : fplaces Try.prog 8 = some [(0, 1), (1, 1), (2, 1), (3, 1)] := by kernel_rfl
theorem fplaces_13 : fplaces Try.prog 13 = some [(0, 1), (1, 1)] := by kernel_rfl
theorem fplaces_14 : fplaces Try.prog 14 = some [(0, 1), (1, 1)] := by kernel_rfl
theorem fplaces_18 : fplaces Try.prog 18 = some [(0, 1)] := by kernel_rfl
theorem fplaces_19 : fplaces Try.prog 19 = some [(0, 1)] := by kernel_rfl
theorem fplaces_24 : fplaces Try.prog 24 = some [(0, 1), (1, 1), (2, 1)] := by kernel_rfl
theorem fplaces_25 : fplaces Try.prog 25 = some [(0, 1), (1, 1), (2, 1)] := by kernel_rfl
theorem fplaces_26 : fplaces Try.prog 26 = some [(0, 3), (3, 1)] := by kernel_rfl
theorem fplaces_27 : fplaces Try.prog 27 = some [(0, 3), (3, 1)] := by kernel_rfl
theorem fplaces_54 : fplaces Try.prog 54 = some [(0, 1), (1, 1)] := by kernel_rfl
theorem fplaces_55 : fplaces Try.prog 55 = some [(0, 1), (1, 1)] := by kernel_rfl
theorem fplaces_79 : fplaces Try.prog 79 = some [(0, 1), (1, 1), (2, 1), (3, 1)] := by kernel_rfl
theorem fplaces_80 : fplaces Try.prog 80 = some [(0, 1), (1, 1), (2, 1), (3, 1)] := by kernel_rfl
theorem fplaces_81 : fplaces Try.prog 81 = some [] := by kernel_rfl
theorem fplaces_82 : fplaces Try.prog 82 = some [(0, 0)] := by kernel_rfl
theorem fplaces_83 : fplaces Try.prog 83 = some [(0, 0)] := by kernel_rfl
theorem fplaces_91 : fplaces Try.prog 91 = some [(0, 1), (1, 1), (2, 1), (3, 1), (4, 1), (5, 1), (6, 1), (7, 1), (8, 1), (9, 1), (10, 1)] := by kernel_rfl
theorem fplaces_92 : fplaces Try.prog 92 = some [(0, 1), (1, 1), (2, 1), (3, 1), (4, 1), (5, 1), (6, 1), (7, 1), (8, 1), (9, 1), (10, 1)] := by kernel_rfl
theorem tby_3 : tby Try.prog 3 = some 8 := by kernel_rfl
theorem tby_5 : tby Try.prog 5 = some 1 := by kernel_rfl
theorem tby_9 : tby Try.prog 9 = some 16 := by kernel_rfl
theorem tby_25 : tby Try.prog 25 = some 24 := by kernel_rfl
theorem zAV_1 : zAV Try.prog 1 = some (.val .nilFunc) := by kernel_rfl
theorem zAV_2 : zAV Try.prog 2 = some (.val (.int .i64 0)) := by kernel_rfl
theorem zAV_3 : zAV Try.prog 3 = some (.val (.int .i64 0)) := by kernel_rfl
theorem zAV_4 : zAV Try.prog 4 = some (.val (.bool false)) := by kernel_rfl
theorem zAV_5 : zAV Try.prog 5 = some (.val (.int .u8 0)) := by kernel_rfl
theorem zAV_6 : zAV Try.prog 6 = some (.val (.int .u8 0)) := by kernel_rfl
theorem zAV_7 : zAV Try.prog 7 = some (.agg [.val (.int .i64 0), .val (.int .i64 0), .val (.bool false), .val (.int .u8 0)]) := by kernel_rfl
theorem zAV_8 : zAV Try.prog 8 = some (.agg [.val (.int .i64 0), .val (.int .i64 0), .val (.bool false), .val (.int .u8 0)]) := by kernel_rfl
theorem zAV_9 : zAV Try.prog 9 = some (.val (.string .empty)) := by kernel_rfl
theorem zAV_10 : zAV Try.prog 10 = some (.val (.string .empty)) := by kernel_rfl
theorem zAV_11 : zAV Try.prog 11 = some (.val (.string .empty)) := by kernel_rfl
theorem zAV_12 : zAV Try.prog 12 = some (.val (.int .u64 0)) := by kernel_rfl
theorem zAV_13 : zAV Try.prog 13 = some (.agg [.val (.string .empty), .val (.int .u64 0)]) := by kernel_rfl
theorem zAV_14 : zAV Try.prog 14 = some (.agg [.val (.string .empty), .val (.int .u64 0)]) := by kernel_rfl
theorem zAV_15 : zAV Try.prog 15 = some (.val (.pointer none)) := by kernel_rfl
theorem zAV_16 : zAV Try.prog 16 = some (.val (.pointer none)) := by kernel_rfl
theorem zAV_17 : zAV Try.prog 17 = some (.val (.pointer none)) := by kernel_rfl
theorem zAV_18 : zAV Try.prog 18 = some (.agg [.val (.pointer none)]) := by kernel_rfl
theorem zAV_19 : zAV Try.prog 19 = some (.agg [.val (.pointer none)]) := by kernel_rfl
theorem zAV_21 : zAV Try.prog 21 = some (.val (.int .i32 0)) := by kernel_rfl
theorem zAV_22 : zAV Try.prog 22 = some (.emp) := by kernel_rfl
theorem zAV_23 : zAV Try.prog 23 = some (.emp) := by kernel_rfl
theorem zAV_24 : zAV Try.prog 24 = some (.agg [.val (.int .i64 0), .val (.int .i64 0), .val (.int .i64 0)]) := by kernel_rfl
theorem zAV_25 : zAV Try.prog 25 = some (.agg [.val (.int .i64 0), .val (.int .i64 0), .val (.int .i64 0)]) := by kernel_rfl
theorem zAV_26 : zAV Try.prog 26 = some (.agg [.val (.int .i64 0), .val (.int .i64 0), .val (.int .i64 0), .val (.string .empty)]) := by kernel_rfl
theorem zAV_27 : zAV Try.prog 27 = some (.agg [.val (.int .i64 0), .val (.int .i64 0), .val (.int .i64 0), .val (.string .empty)]) := by kernel_rfl
theorem zAV_28 : zAV Try.prog 28 = some (.val (.int .i64 0)) := by kernel_rfl
theorem zAV_30 : zAV Try.prog 30 = some (.val .nilFunc) := by kernel_rfl
theorem zAV_31 : zAV Try.prog 31 = some (.emp) := by kernel_rfl
theorem zAV_33 : zAV Try.prog 33 = some (.val .nilFunc) := by kernel_rfl
theorem zAV_34 : zAV Try.prog 34 = some (.val .nilFunc) := by kernel_rfl
theorem zAV_35 : zAV Try.prog 35 = some (.val .nilFunc) := by kernel_rfl
theorem zAV_36 : zAV Try.prog 36 = some (.val .nilFunc) := by kernel_rfl
theorem zAV_37 : zAV Try.prog 37 = some (.val .nilFunc) := by kernel_rfl
theorem zAV_38 : zAV Try.prog 38 = some (.val .nilFunc) := by kernel_rfl
theorem zAV_39 : zAV Try.prog 39 = some (.val .nilFunc) := by kernel_rfl
theorem zAV_40 : zAV Try.prog 40 = some (.val .nilFunc) := by kernel_rfl
theorem zAV_41 : zAV Try.prog 41 = some (.val .nilFunc) := by kernel_rfl
theorem zAV_42 : zAV Try.prog 42 = some (.val .nilFunc) := by kernel_rfl
theorem zAV_43 : zAV Try.prog 43 = some (.val .nilFunc) := by kernel_rfl
theorem zAV_44 : zAV Try.prog 44 = some (.val .nilFunc) := by kernel_rfl
theorem zAV_45 : zAV Try.prog 45 = some (.val .nilFunc) := by kernel_rfl
theorem zAV_46 : zAV Try.prog 46 = some (.emp) := by kernel_rfl
theorem zAV_48 : zAV Try.prog 48 = some (.val .nilFunc) := by kernel_rfl
theorem zAV_50 : zAV Try.prog 50 = some (.val .nilFunc) := by kernel_rfl
theorem zAV_51 : zAV Try.prog 51 = some (.val .nilFunc) := by kernel_rfl
theorem zAV_52 : zAV Try.prog 52 = some (.emp) := by kernel_rfl
theorem zAV_53 : zAV Try.prog 53 = some (.val (.pointer none)) := by kernel_rfl
theorem zAV_54 : zAV Try.prog 54 = some (.agg [.val (.pointer none), .emp]) := by kernel_rfl
theorem zAV_55 : zAV Try.prog 55 = some (.agg [.val (.pointer none), .emp]) := by kernel_rfl
theorem zAV_58 : zAV Try.prog 58 = some (.val .nilFunc) := by kernel_rfl
theorem zAV_59 : zAV Try.prog 59 = some (.val .nilFunc) := by kernel_rfl
theorem zAV_60 : zAV Try.prog 60 = some (.val .nilFunc) := by kernel_rfl
theorem zAV_61 : zAV Try.prog 61 = some (.val .nilFunc) := by kernel_rfl
theorem zAV_62 : zAV Try.prog 62 = some (.val .nilFunc) := by kernel_rfl
theorem zAV_63 : zAV Try.prog 63 = some (.val .nilFunc) := by kernel_rfl
theorem zAV_64 : zAV Try.prog 64 = some (.val .nilFunc) := by kernel_rfl
theorem zAV_65 : zAV Try.prog 65 = some (.val .nilFunc) := by kernel_rfl
theorem zAV_66 : zAV Try.prog 66 = some (.val .nilFunc) := by kernel_rfl
theorem zAV_67 : zAV Try.prog 67 = some (.val .nilFunc) := by kernel_rfl
theorem zAV_68 : zAV Try.prog 68 = some (.val .nilFunc) := by kernel_rfl
theorem zAV_69 : zAV Try.prog 69 = some (.val .nilFunc) := by kernel_rfl
theorem zAV_70 : zAV Try.prog 70 = some (.val .nilFunc) := by kernel_rfl
theorem zAV_71 : zAV Try.prog 71 = some (.val (.pointer none)) := by kernel_rfl
theorem zAV_72 : zAV Try.prog 72 = some (.val .nilFunc) := by kernel_rfl
theorem zAV_73 : zAV Try.prog 73 = some (.val .nilFunc) := by kernel_rfl
theorem zAV_74 : zAV Try.prog 74 = some (.val .nilFunc) := by kernel_rfl
theorem zAV_75 : zAV Try.prog 75 = some (.val .nilFunc) := by kernel_rfl
theorem zAV_77 : zAV Try.prog 77 = some (.val .nilFunc) := by kernel_rfl
theorem zAV_78 : zAV Try.prog 78 = some (.val .nilFunc) := by kernel_rfl
theorem zAV_79 : zAV Try.prog 79 = some (.agg [.val (.pointer none), .val (.pointer none), .val (.pointer none), .val (.string .empty)]) := by kernel_rfl
theorem zAV_80 : zAV Try.prog 80 = some (.agg [.val (.pointer none), .val (.pointer none), .val (.pointer none), .val (.string .empty)]) := by kernel_rfl
theorem zAV_81 : zAV Try.prog 81 = some (.agg []) := by kernel_rfl
theorem zAV_82 : zAV Try.prog 82 = some (.agg []) := by kernel_rfl
theorem zAV_83 : zAV Try.prog 83 = some (.agg []) := by kernel_rfl
theorem zAV_84 : zAV Try.prog 84 = some (.val .nilFunc) := by kernel_rfl
theorem zAV_85 : zAV Try.prog 85 = some (.val (.int .u32 0)) := by kernel_rfl
theorem zAV_86 : zAV Try.prog 86 = some (.val (.int .u8 0)) := by kernel_rfl
theorem zAV_87 : zAV Try.prog 87 = some (.val (.int .u8 0)) := by kernel_rfl
theorem zAV_88 : zAV Try.prog 88 = some (.val .nilFunc) := by kernel_rfl
theorem zAV_89 : zAV Try.prog 89 = some (.val (.int .i32 0)) := by kernel_rfl
theorem zAV_90 : zAV Try.prog 90 = some (.val (.int .i32 0)) := by kernel_rfl
theorem zAV_91 : zAV Try.prog 91 = some (.agg [.val (.int .u64 0), .val (.int .u64 0), .val (.int .u32 0), .val (.int .u8 0), .val (.int .u8 0), .val (.int .u8 0), .val (.int .u8 0), .val .nilFunc, .val (.pointer none), .val (.int .i32 0), .val (.int .i32 0)]) := by kernel_rfl
theorem zAV_92 : zAV Try.prog 92 = some (.agg [.val (.int .u64 0), .val (.int .u64 0), .val (.int .u32 0), .val (.int .u8 0), .val (.int .u8 0), .val (.int .u8 0), .val (.int .u8 0), .val .nilFunc, .val (.pointer none), .val (.int .i32 0), .val (.int .i32 0)]) := by kernel_rfl
theorem zav_1 : zav Try.prog 1 = .any := by kernel_rfl
theorem zav_2 : zav Try.prog 2 = .val (.int .i64 0) := by kernel_rfl
theorem zav_3 : zav Try.prog 3 = .val (.int .i64 0) := by kernel_rfl
theorem zav_4 : zav Try.prog 4 = .val (.bool false) := by kernel_rfl
theorem zav_5 : zav Try.prog 5 = .val (.int .u8 0) := by kernel_rfl
theorem zav_6 : zav Try.prog 6 = .val (.int .u8 0) := by kernel_rfl
theorem zav_7 : zav Try.prog 7 = .agg [.val (.int .i64 0), .val (.int .i64 0), .val (.bool false), .val (.int .u8 0)] := by kernel_rfl
theorem zav_8 : zav Try.prog 8 = .agg [.val (.int .i64 0), .val (.int .i64 0), .val (.bool false), .val (.int .u8 0)] := by kernel_rfl
theorem zav_9 : zav Try.prog 9 = .val (.string .empty) := by kernel_rfl
theorem zav_10 : zav Try.prog 10 = .val (.string .empty) := by kernel_rfl
theorem zav_11 : zav Try.prog 11 = .val (.string .empty) := by kernel_rfl
theorem zav_12 : zav Try.prog 12 = .val (.int .u64 0) := by kernel_rfl
theorem zav_13 : zav Try.prog 13 = .agg [.val (.string .empty), .val (.int .u64 0)] := by kernel_rfl
theorem zav_14 : zav Try.prog 14 = .agg [.val (.string .empty), .val (.int .u64 0)] := by kernel_rfl
theorem zav_15 : zav Try.prog 15 = .any := by kernel_rfl
theorem zav_16 : zav Try.prog 16 = .any := by kernel_rfl
theorem zav_17 : zav Try.prog 17 = .any := by kernel_rfl
theorem zav_18 : zav Try.prog 18 = .agg [.val (.pointer none)] := by kernel_rfl
theorem zav_19 : zav Try.prog 19 = .agg [.val (.pointer none)] := by kernel_rfl
theorem zav_20 : zav Try.prog 20 = .any := by kernel_rfl
theorem zav_21 : zav Try.prog 21 = .val (.int .i32 0) := by kernel_rfl
theorem zav_22 : zav Try.prog 22 = .lst 1 [] := by kernel_rfl
theorem zav_23 : zav Try.prog 23 = .lst 1 [] := by kernel_rfl
theorem zav_24 : zav Try.prog 24 = .agg [.val (.int .i64 0), .val (.int .i64 0), .val (.int .i64 0)] := by kernel_rfl
theorem zav_25 : zav Try.prog 25 = .agg [.val (.int .i64 0), .val (.int .i64 0), .val (.int .i64 0)] := by kernel_rfl
theorem zav_26 : zav Try.prog 26 = .agg [.val (.int .i64 0), .val (.int .i64 0), .val (.int .i64 0), .val (.string .empty)] := by kernel_rfl
theorem zav_27 : zav Try.prog 27 = .agg [.val (.int .i64 0), .val (.int .i64 0), .val (.int .i64 0), .val (.string .empty)] := by kernel_rfl
theorem zav_28 : zav Try.prog 28 = .val (.int .i64 0) := by kernel_rfl
theorem zav_30 : zav Try.prog 30 = .any := by kernel_rfl
theorem zav_31 : zav Try.prog 31 = .lst 1 [] := by kernel_rfl
theorem zav_33 : zav Try.prog 33 = .any := by kernel_rfl
theorem zav_34 : zav Try.prog 34 = .any := by kernel_rfl
theorem zav_35 : zav Try.prog 35 = .any := by kernel_rfl
theorem zav_36 : zav Try.prog 36 = .any := by kernel_rfl
theorem zav_37 : zav Try.prog 37 = .any := by kernel_rfl
theorem zav_38 : zav Try.prog 38 = .any := by kernel_rfl
theorem zav_39 : zav Try.prog 39 = .any := by kernel_rfl
theorem zav_40 : zav Try.prog 40 = .any := by kernel_rfl
theorem zav_41 : zav Try.prog 41 = .any := by kernel_rfl
theorem zav_42 : zav Try.prog 42 = .any := by kernel_rfl
theorem zav_43 : zav Try.prog 43 = .any := by kernel_rfl
theorem zav_44 : zav Try.prog 44 = .any := by kernel_rfl
theorem zav_45 : zav Try.prog 45 = .any := by kernel_rfl
theorem zav_46 : zav Try.prog 46 = .lst 1 [] := by kernel_rfl
theorem zav_48 : zav Try.prog 48 = .any := by kernel_rfl
theorem zav_50 : zav Try.prog 50 = .any := by kernel_rfl
theorem zav_51 : zav Try.prog 51 = .any := by kernel_rfl
theorem zav_52 : zav Try.prog 52 = .lst 1 [] := by kernel_rfl
theorem zav_53 : zav Try.prog 53 = .any := by kernel_rfl
theorem zav_54 : zav Try.prog 54 = .agg [.val (.pointer none), .emp] := by kernel_rfl
theorem zav_55 : zav Try.prog 55 = .agg [.val (.pointer none), .emp] := by kernel_rfl
theorem zav_56 : zav Try.prog 56 = .any := by kernel_rfl
theorem zav_57 : zav Try.prog 57 = .any := by kernel_rfl
theorem zav_58 : zav Try.prog 58 = .any := by kernel_rfl
theorem zav_59 : zav Try.prog 59 = .any := by kernel_rfl
theorem zav_60 : zav Try.prog 60 = .any := by kernel_rfl
theorem zav_61 : zav Try.prog 61 = .any := by kernel_rfl
theorem zav_62 : zav Try.prog 62 = .any := by kernel_rfl
theorem zav_63 : zav Try.prog 63 = .any := by kernel_rfl
theorem zav_64 : zav Try.prog 64 = .any := by kernel_rfl
theorem zav_65 : zav Try.prog 65 = .any := by kernel_rfl
theorem zav_66 : zav Try.prog 66 = .any := by kernel_rfl
theorem zav_67 : zav Try.prog 67 = .any := by kernel_rfl
theorem zav_68 : zav Try.prog 68 = .any := by kernel_rfl
theorem zav_69 : zav Try.prog 69 = .any := by kernel_rfl
theorem zav_70 : zav Try.prog 70 = .any := by kernel_rfl
theorem zav_71 : zav Try.prog 71 = .any := by kernel_rfl
theorem zav_72 : zav Try.prog 72 = .any := by kernel_rfl
theorem zav_73 : zav Try.prog 73 = .any := by kernel_rfl
theorem zav_74 : zav Try.prog 74 = .any := by kernel_rfl
theorem zav_75 : zav Try.prog 75 = .any := by kernel_rfl
theorem zav_76 : zav Try.prog 76 = .any := by kernel_rfl
theorem zav_77 : zav Try.prog 77 = .any := by kernel_rfl
theorem zav_78 : zav Try.prog 78 = .any := by kernel_rfl
theorem zav_79 : zav Try.prog 79 = .agg [.val (.pointer none), .val (.pointer none), .val (.pointer none), .val (.string .empty)] := by kernel_rfl
theorem zav_80 : zav Try.prog 80 = .agg [.val (.pointer none), .val (.pointer none), .val (.pointer none), .val (.string .empty)] := by kernel_rfl
theorem zav_81 : zav Try.prog 81 = .agg [] := by kernel_rfl
theorem zav_82 : zav Try.prog 82 = .agg [] := by kernel_rfl
theorem zav_83 : zav Try.prog 83 = .agg [] := by kernel_rfl
theorem zav_84 : zav Try.prog 84 = .any := by kernel_rfl
theorem zav_85 : zav Try.prog 85 = .val (.int .u32 0) := by kernel_rfl
theorem zav_86 : zav Try.prog 86 = .val (.int .u8 0) := by kernel_rfl
theorem zav_87 : zav Try.prog 87 = .val (.int .u8 0) := by kernel_rfl
theorem zav_88 : zav Try.prog 88 = .any := by kernel_rfl
theorem zav_89 : zav Try.prog 89 = .val (.int .i32 0) := by kernel_rfl
theorem zav_90 : zav Try.prog 90 = .val (.int .i32 0) := by kernel_rfl
theorem zav_91 : zav Try.prog 91 = .agg [.val (.int .u64 0), .val (.int .u64 0), .val (.int .u32 0), .val (.int .u8 0), .val (.int .u8 0), .val (.int .u8 0), .val (.int .u8 0), .val .nilFunc, .val (.pointer none), .val (.int .i32 0), .val (.int .i32 0)] := by kernel_rfl
theorem zav_92 : zav Try.prog 92 = .agg [.val (.int .u64 0), .val (.int .u64 0), .val (.int .u32 0), .val (.int .u8 0), .val (.int .u8 0), .val (.int .u8 0), .val (.int .u8 0), .val .nilFunc, .val (.pointer none), .val (.int .i32 0), .val (.int .i32 0)] := by kernel_rfl
theorem elB_3 : elB Try.prog 3 = true := by kernel_rfl
theorem elB_5 : elB Try.prog 5 = true := by kernel_rfl
theorem elB_9 : elB Try.prog 9 = true := by kernel_rfl
theorem elB_25 : elB Try.prog 25 = true := by kernel_rfl
theorem cmpT_25 : cmpT Try.prog 25 = some [0, 0, 0] := by kernel_rfl
theorem cmpT_27 : cmpT Try.prog 27 = some [0, 0, 0, 2] := by kernel_rfl
attribute [push_cast] uk_1 uk_2 uk_3 uk_4 uk_5 uk_6 uk_7 uk_8 uk_9 uk_10 uk_11 uk_12 uk_13 uk_14 uk_15 uk_16 uk_17 uk_18 uk_19 uk_20 uk_21 uk_22 uk_23 uk_24 uk_25 uk_26 uk_27 uk_28 uk_30 uk_31 uk_33 uk_34 uk_35 uk_36 uk_37 uk_38 uk_39 uk_40 uk_41 uk_42
attribute [push_cast] uk_43 uk_44 uk_45 uk_46 uk_48 uk_50 uk_51 uk_52 uk_53 uk_54 uk_55 uk_56 uk_57 uk_58 uk_59 uk_60 uk_61 uk_62 uk_63 uk_64 uk_65 uk_66 uk_67 uk_68 uk_69 uk_70 uk_71 uk_72 uk_73 uk_74 uk_75 uk_76 uk_77 uk_78 uk_79 uk_80 uk_81 uk_82 uk_83 uk_84
attribute [push_cast] uk_85 uk_86 uk_87 uk_88 uk_89 uk_90 uk_91 uk_92
attribute [push_cast] arT_81
attribute [push_cast] tsz_1 tsz_2 tsz_3 tsz_4 tsz_5 tsz_6 tsz_7 tsz_8 tsz_9 tsz_10 tsz_11 tsz_12 tsz_13 tsz_14 tsz_15 tsz_16 tsz_17 tsz_18 tsz_19 tsz_20 tsz_21 tsz_22 tsz_23 tsz_24 tsz_25 tsz_26 tsz_27 tsz_28 tsz_30 tsz_31 tsz_33 tsz_34 tsz_35 tsz_36 tsz_37 tsz_38 tsz_39 tsz_40 tsz_41 tsz_42
attribute [push_cast] tsz_43 tsz_44 tsz_45 tsz_46 tsz_48 tsz_50 tsz_51 tsz_52 tsz_53 tsz_54 tsz_55 tsz_56 tsz_57 tsz_58 tsz_59 tsz_60 tsz_61 tsz_62 tsz_63 tsz_64 tsz_65 tsz_66 tsz_67 tsz_68 tsz_69 tsz_70 tsz_71 tsz_72 tsz_73 tsz_74 tsz_75 tsz_76 tsz_77 tsz_78 tsz_79 tsz_80 tsz_81 tsz_82 tsz_83 tsz_84
attribute [push_cast] tsz_85 tsz_86 tsz_87 tsz_88 tsz_89 tsz_90 tsz_91 tsz_92
attribute [push_cast] agg_1 agg_2 agg_3 agg_4 agg_5 agg_6 agg_7 agg_8 agg_9 agg_10 agg_11 agg_12 agg_13 agg_14 agg_15 agg_16 agg_17 agg_18 agg_19 agg_20 agg_21 agg_22 agg_23 agg_24 agg_25 agg_26 agg_27 agg_28 agg_30 agg_31 agg_33 agg_34 agg_35 agg_36 agg_37 agg_38 agg_39 agg_40 agg_41 agg_42
attribute [push_cast] agg_43 agg_44 agg_45 agg_46 agg_48 agg_50 agg_51 agg_52 agg_53 agg_54 agg_55 agg_56 agg_57 agg_58 agg_59 agg_60 agg_61 agg_62 agg_63 agg_64 agg_65 agg_66 agg_67 agg_68 agg_69 agg_70 agg_71 agg_72 agg_73 agg_74 agg_75 agg_76 agg_77 agg_78 agg_79 agg_80 agg_81 agg_82 agg_83 agg_84
attribute [push_cast] agg_85 agg_86 agg_87 agg_88 agg_89 agg_90 agg_91 agg_92
attribute [push_cast] fOff_7_0 fOff_7_1 fOff_7_2 fOff_7_3 fOff_8_0 fOff_8_1 fOff_8_2 fOff_8_3 fOff_13_0 fOff_13_1 fOff_14_0 fOff_14_1 fOff_18_0 fOff_19_0 fOff_24_0 fOff_24_1 fOff_24_2 fOff_25_0 fOff_25_1 fOff_25_2 fOff_26_0 fOff_26_1 fOff_27_0 fOff_27_1 fOff_54_0 fOff_54_1 fOff_55_0 fOff_55_1 fOff_79_0 fOff_79_1 fOff_79_2 fOff_79_3 fOff_80_0 fOff_80_1 fOff_80_2 fOff_80_3 fOff_82_0 fOff_83_0 fOff_91_0 fOff_91_1
attribute [push_cast] fOff_91_2 fOff_91_3 fOff_91_4 fOff_91_5 fOff_91_6 fOff_91_7 fOff_91_8 fOff_91_9 fOff_91_10 fOff_92_0 fOff_92_1 fOff_92_2 fOff_92_3 fOff_92_4 fOff_92_5 fOff_92_6 fOff_92_7 fOff_92_8 fOff_92_9 fOff_92_10
attribute [push_cast] tby_3 tby_5 tby_9 tby_25
attribute [push_cast] zAV_1 zAV_2 zAV_3 zAV_4 zAV_5 zAV_6 zAV_7 zAV_8 zAV_9 zAV_10 zAV_11 zAV_12 zAV_13 zAV_14 zAV_15 zAV_16 zAV_17 zAV_18 zAV_19 zAV_21 zAV_22 zAV_23 zAV_24 zAV_25 zAV_26 zAV_27 zAV_28 zAV_30 zAV_31 zAV_33 zAV_34 zAV_35 zAV_36 zAV_37 zAV_38 zAV_39 zAV_40 zAV_41 zAV_42 zAV_43
attribute [push_cast] zAV_44 zAV_45 zAV_46 zAV_48 zAV_50 zAV_51 zAV_52 zAV_53 zAV_54 zAV_55 zAV_58 zAV_59 zAV_60 zAV_61 zAV_62 zAV_63 zAV_64 zAV_65 zAV_66 zAV_67 zAV_68 zAV_69 zAV_70 zAV_71 zAV_72 zAV_73 zAV_74 zAV_75 zAV_77 zAV_78 zAV_79 zAV_80 zAV_81 zAV_82 zAV_83 zAV_84 zAV_85 zAV_86 zAV_87 zAV_88
attribute [push_cast] zAV_89 zAV_90 zAV_91 zAV_92
attribute [push_cast] elB_3 elB_5 elB_9 elB_25
attribute [push_cast] fplaces_7 fplaces_8 fplaces_13 fplaces_14 fplaces_18 fplaces_19 fplaces_24 fplaces_25 fplaces_26 fplaces_27 fplaces_54 fplaces_55 fplaces_79 fplaces_80 fplaces_81 fplaces_82 fplaces_83 fplaces_91 fplaces_92
attribute [push_cast] zav_1 zav_2 zav_3 zav_4 zav_5 zav_6 zav_7 zav_8 zav_9 zav_10 zav_11 zav_12 zav_13 zav_14 zav_15 zav_16 zav_17 zav_18 zav_19 zav_20 zav_21 zav_22 zav_23 zav_24 zav_25 zav_26 zav_27 zav_28 zav_30 zav_31 zav_33 zav_34 zav_35 zav_36 zav_37 zav_38 zav_39 zav_40 zav_41 zav_42
attribute [push_cast] zav_43 zav_44 zav_45 zav_46 zav_48 zav_50 zav_51 zav_52 zav_53 zav_54 zav_55 zav_56 zav_57 zav_58 zav_59 zav_60 zav_61 zav_62 zav_63 zav_64 zav_65 zav_66 zav_67 zav_68 zav_69 zav_70 zav_71 zav_72 zav_73 zav_74 zav_75 zav_76 zav_77 zav_78 zav_79 zav_80 zav_81 zav_82 zav_83 zav_84
attribute [push_cast] zav_85 zav_86 zav_87 zav_88 zav_89 zav_90 zav_91 zav_92
attribute [push_cast] cmpT_25 cmpT_27
theorem mixed : Try.prog.follows .mixedOrders = true := by kernel_rfl
end Go.Proofs.Try
