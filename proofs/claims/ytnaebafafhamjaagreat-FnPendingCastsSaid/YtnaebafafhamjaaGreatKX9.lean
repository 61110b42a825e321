/- Texts of the proof, one behind another. -/
import Derived.Test.YtnaebafafhamjaaGreatProg
import Derived.Test.YtnaebafafhamjaaGreatKX7
import Derived.Test.YtnaebafafhamjaaGreatKX8
set_option linter.unusedSimpArgs false
set_option linter.unusedVariables false
/- What a run on shadows asks of this program's types and functions. -/
namespace Go.Proofs.YtnaebafafhamjaaGreat
open Go.RowKit Go.Proofs.Sh
@[go_sem] theorem ti_3 : tinfo Tryz.prog 3 = some { size := 1, agg := false, bytes := 8, zero := [Value.int IntKind.i64 0], fields := [], elem := 0, kind := 5 } := by kernel_rfl
@[go_sem] theorem tk_3 : tk Tryz.prog 3 = 5 := by kernel_rfl
@[go_sem] theorem tint_3 : tint Tryz.prog 3 = some IntKind.i64 := by kernel_rfl
@[go_sem] theorem ti_4 : tinfo Tryz.prog 4 = some { size := 1, agg := false, bytes := 1, zero := [Value.bool false], fields := [], elem := 0, kind := 6 } := by kernel_rfl
@[go_sem] theorem tk_4 : tk Tryz.prog 4 = 6 := by kernel_rfl
@[go_sem] theorem tint_4 : tint Tryz.prog 4 = none := by kernel_rfl
@[go_sem] theorem ti_5 : tinfo Tryz.prog 5 = some { size := 1, agg := false, bytes := 1, zero := [Value.int IntKind.u8 0], fields := [], elem := 0, kind := 5 } := by kernel_rfl
@[go_sem] theorem tk_5 : tk Tryz.prog 5 = 5 := by kernel_rfl
@[go_sem] theorem tint_5 : tint Tryz.prog 5 = some IntKind.u8 := by kernel_rfl
@[go_sem] theorem ti_9 : tinfo Tryz.prog 9 = some { size := 1, agg := false, bytes := 16, zero := [Value.string { data := { toList := [] } }], fields := [], elem := 0, kind := 4 } := by kernel_rfl
@[go_sem] theorem tk_9 : tk Tryz.prog 9 = 4 := by kernel_rfl
@[go_sem] theorem tint_9 : tint Tryz.prog 9 = none := by kernel_rfl
@[go_sem] theorem ti_22 : tinfo Tryz.prog 22 = some { size := 1, agg := false, bytes := 24, zero := [Value.slice none 0 0], fields := [], elem := 5, kind := 3 } := by kernel_rfl
@[go_sem] theorem tk_22 : tk Tryz.prog 22 = 3 := by kernel_rfl
@[go_sem] theorem tint_22 : tint Tryz.prog 22 = none := by kernel_rfl
@[go_sem] theorem es_22 : aesz Tryz.prog 22 = 1 := by kernel_rfl
@[go_sem] theorem ti_23 : tinfo Tryz.prog 23 = some { size := 1, agg := false, bytes := 24, zero := [Value.slice none 0 0], fields := [], elem := 25, kind := 3 } := by kernel_rfl
@[go_sem] theorem tk_23 : tk Tryz.prog 23 = 3 := by kernel_rfl
@[go_sem] theorem tint_23 : tint Tryz.prog 23 = none := by kernel_rfl
@[go_sem] theorem es_23 : aesz Tryz.prog 23 = 2 := by kernel_rfl
@[go_sem] theorem ti_25 : tinfo Tryz.prog 25 = some { size := 2, agg := true, bytes := 32, zero := [Value.int IntKind.i64 0, Value.slice none 0 0], fields := [(0, 1, false), (1, 1, false)], elem := 0, kind := 1 } := by kernel_rfl
@[go_sem] theorem tk_25 : tk Tryz.prog 25 = 1 := by kernel_rfl
@[go_sem] theorem tint_25 : tint Tryz.prog 25 = none := by kernel_rfl
@[go_sem] theorem ar_25 : aarr Tryz.prog 25 = none := by kernel_rfl
@[go_sem] theorem ti_26 : tinfo Tryz.prog 26 = some { size := 1, agg := false, bytes := 24, zero := [Value.slice none 0 0], fields := [], elem := 28, kind := 3 } := by kernel_rfl
@[go_sem] theorem tk_26 : tk Tryz.prog 26 = 3 := by kernel_rfl
@[go_sem] theorem tint_26 : tint Tryz.prog 26 = none := by kernel_rfl
@[go_sem] theorem es_26 : aesz Tryz.prog 26 = 9 := by kernel_rfl
@[go_sem] theorem ti_28 : tinfo Tryz.prog 28 = some { size := 9, agg := true, bytes := 128, zero := [Value.int IntKind.i64 0, Value.string { data := { toList := [] } }, Value.int IntKind.i64 0, Value.int IntKind.i64 0, Value.slice none 0 0, Value.int IntKind.i64 0, Value.slice none 0 0, Value.int IntKind.i64 0, Value.slice none 0 0], fields := [(0, 1, false), (1, 1, false), (2, 1, false), (3, 2, true), (5, 2, true), (7, 1, false), (8, 1, false)], elem := 0, kind := 1 } := by kernel_rfl
@[go_sem] theorem tk_28 : tk Tryz.prog 28 = 1 := by kernel_rfl
@[go_sem] theorem tint_28 : tint Tryz.prog 28 = none := by kernel_rfl
@[go_sem] theorem ar_28 : aarr Tryz.prog 28 = none := by kernel_rfl
@[go_sem] theorem ti_32 : tinfo Tryz.prog 32 = some { size := 1, agg := false, bytes := 24, zero := [Value.slice none 0 0], fields := [], elem := 3, kind := 3 } := by kernel_rfl
@[go_sem] theorem tk_32 : tk Tryz.prog 32 = 3 := by kernel_rfl
@[go_sem] theorem tint_32 : tint Tryz.prog 32 = none := by kernel_rfl
@[go_sem] theorem es_32 : aesz Tryz.prog 32 = 1 := by kernel_rfl
@[go_sem] theorem ti_35 : tinfo Tryz.prog 35 = some { size := 1, agg := false, bytes := 24, zero := [Value.slice none 0 0], fields := [], elem := 37, kind := 3 } := by kernel_rfl
@[go_sem] theorem tk_35 : tk Tryz.prog 35 = 3 := by kernel_rfl
@[go_sem] theorem tint_35 : tint Tryz.prog 35 = none := by kernel_rfl
@[go_sem] theorem es_35 : aesz Tryz.prog 35 = 2 := by kernel_rfl
@[go_sem] theorem ti_37 : tinfo Tryz.prog 37 = some { size := 2, agg := true, bytes := 32, zero := [Value.int IntKind.i64 0, Value.slice none 0 0], fields := [(0, 1, false), (1, 1, false)], elem := 0, kind := 1 } := by kernel_rfl
@[go_sem] theorem tk_37 : tk Tryz.prog 37 = 1 := by kernel_rfl
@[go_sem] theorem tint_37 : tint Tryz.prog 37 = none := by kernel_rfl
@[go_sem] theorem ar_37 : aarr Tryz.prog 37 = none := by kernel_rfl
@[go_sem] theorem ti_38 : tinfo Tryz.prog 38 = some { size := 1, agg := false, bytes := 24, zero := [Value.slice none 0 0], fields := [], elem := 40, kind := 3 } := by kernel_rfl
@[go_sem] theorem tk_38 : tk Tryz.prog 38 = 3 := by kernel_rfl
@[go_sem] theorem tint_38 : tint Tryz.prog 38 = none := by kernel_rfl
@[go_sem] theorem es_38 : aesz Tryz.prog 38 = 9 := by kernel_rfl
@[go_sem] theorem ti_40 : tinfo Tryz.prog 40 = some { size := 9, agg := true, bytes := 128, zero := [Value.int IntKind.i64 0, Value.string { data := { toList := [] } }, Value.int IntKind.i64 0, Value.int IntKind.i64 0, Value.slice none 0 0, Value.int IntKind.i64 0, Value.slice none 0 0, Value.int IntKind.i64 0, Value.slice none 0 0], fields := [(0, 1, false), (1, 1, false), (2, 1, false), (3, 2, true), (5, 2, true), (7, 1, false), (8, 1, false)], elem := 0, kind := 1 } := by kernel_rfl
@[go_sem] theorem tk_40 : tk Tryz.prog 40 = 1 := by kernel_rfl
@[go_sem] theorem tint_40 : tint Tryz.prog 40 = none := by kernel_rfl
@[go_sem] theorem ar_40 : aarr Tryz.prog 40 = none := by kernel_rfl
@[go_sem] theorem ti_51 : tinfo Tryz.prog 51 = some { size := 1, agg := false, bytes := 8, zero := [Value.nilFunc], fields := [], elem := 0, kind := 0 } := by kernel_rfl
@[go_sem] theorem tk_51 : tk Tryz.prog 51 = 0 := by kernel_rfl
@[go_sem] theorem tint_51 : tint Tryz.prog 51 = none := by kernel_rfl
@[go_sem] theorem ti_52 : tinfo Tryz.prog 52 = some { size := 1, agg := false, bytes := 24, zero := [Value.slice none 0 0], fields := [], elem := 54, kind := 3 } := by kernel_rfl
@[go_sem] theorem tk_52 : tk Tryz.prog 52 = 3 := by kernel_rfl
@[go_sem] theorem tint_52 : tint Tryz.prog 52 = none := by kernel_rfl
@[go_sem] theorem es_52 : aesz Tryz.prog 52 = 4 := by kernel_rfl
@[go_sem] theorem ti_54 : tinfo Tryz.prog 54 = some { size := 4, agg := true, bytes := 48, zero := [Value.int IntKind.i64 0, Value.int IntKind.i64 0, Value.int IntKind.i64 0, Value.slice none 0 0], fields := [(0, 1, false), (1, 1, false), (2, 1, false), (3, 1, false)], elem := 0, kind := 1 } := by kernel_rfl
@[go_sem] theorem tk_54 : tk Tryz.prog 54 = 1 := by kernel_rfl
@[go_sem] theorem tint_54 : tint Tryz.prog 54 = none := by kernel_rfl
@[go_sem] theorem ar_54 : aarr Tryz.prog 54 = none := by kernel_rfl
@[go_sem] theorem ti_64 : tinfo Tryz.prog 64 = some { size := 1, agg := false, bytes := 8, zero := [Value.nilFunc], fields := [], elem := 0, kind := 0 } := by kernel_rfl
@[go_sem] theorem tk_64 : tk Tryz.prog 64 = 0 := by kernel_rfl
@[go_sem] theorem tint_64 : tint Tryz.prog 64 = none := by kernel_rfl
@[go_sem] theorem ti_74 : tinfo Tryz.prog 74 = some { size := 1, agg := false, bytes := 8, zero := [Value.nilFunc], fields := [], elem := 0, kind := 0 } := by kernel_rfl
@[go_sem] theorem tk_74 : tk Tryz.prog 74 = 0 := by kernel_rfl
@[go_sem] theorem tint_74 : tint Tryz.prog 74 = none := by kernel_rfl
@[go_sem] theorem ti_78 : tinfo Tryz.prog 78 = some { size := 1, agg := false, bytes := 24, zero := [Value.slice none 0 0], fields := [], elem := 80, kind := 3 } := by kernel_rfl
@[go_sem] theorem tk_78 : tk Tryz.prog 78 = 3 := by kernel_rfl
@[go_sem] theorem tint_78 : tint Tryz.prog 78 = none := by kernel_rfl
@[go_sem] theorem es_78 : aesz Tryz.prog 78 = 14 := by kernel_rfl
@[go_sem] theorem ti_80 : tinfo Tryz.prog 80 = some { size := 14, agg := true, bytes := 200, zero := [Value.int IntKind.i64 0, Value.string { data := { toList := [] } }, Value.int IntKind.i64 0, Value.int IntKind.i64 0, Value.slice none 0 0, Value.int IntKind.i64 0, Value.slice none 0 0, Value.int IntKind.i64 0, Value.slice none 0 0, Value.int IntKind.i64 0, Value.int IntKind.i64 0, Value.int IntKind.i64 0, Value.slice none 0 0, Value.slice none 0 0], fields := [(0, 9, true), (9, 4, true), (13, 1, false)], elem := 0, kind := 1 } := by kernel_rfl
@[go_sem] theorem tk_80 : tk Tryz.prog 80 = 1 := by kernel_rfl
@[go_sem] theorem tint_80 : tint Tryz.prog 80 = none := by kernel_rfl
@[go_sem] theorem ar_80 : aarr Tryz.prog 80 = none := by kernel_rfl
@[go_sem] theorem ti_86 : tinfo Tryz.prog 86 = some { size := 1, agg := false, bytes := 8, zero := [Value.pointer none], fields := [], elem := 0, kind := 0 } := by kernel_rfl
@[go_sem] theorem tk_86 : tk Tryz.prog 86 = 0 := by kernel_rfl
@[go_sem] theorem tint_86 : tint Tryz.prog 86 = none := by kernel_rfl
@[go_sem] theorem ti_88 : tinfo Tryz.prog 88 = some { size := 1, agg := false, bytes := 8, zero := [Value.nilFunc], fields := [], elem := 0, kind := 0 } := by kernel_rfl
@[go_sem] theorem tk_88 : tk Tryz.prog 88 = 0 := by kernel_rfl
@[go_sem] theorem tint_88 : tint Tryz.prog 88 = none := by kernel_rfl
@[go_sem] theorem ti_89 : tinfo Tryz.prog 89 = some { size := 1, agg := false, bytes := 8, zero := [Value.nilFunc], fields := [], elem := 0, kind := 0 } := by kernel_rfl
@[go_sem] theorem tk_89 : tk Tryz.prog 89 = 0 := by kernel_rfl
@[go_sem] theorem tint_89 : tint Tryz.prog 89 = none := by kernel_rfl
@[go_sem] theorem ti_90 : tinfo Tryz.prog 90 = some { size := 1, agg := false, bytes := 8, zero := [Value.pointer none], fields := [], elem := 0, kind := 0 } := by kernel_rfl
@[go_sem] theorem tk_90 : tk Tryz.prog 90 = 0 := by kernel_rfl
@[go_sem] theorem tint_90 : tint Tryz.prog 90 = none := by kernel_rfl
@[go_sem] theorem ti_99 : tinfo Tryz.prog 99 = some { size := 1, agg := false, bytes := 8, zero := [Value.int IntKind.u64 0], fields := [], elem := 0, kind := 5 } := by kernel_rfl
@[go_sem] theorem tk_99 : tk Tryz.prog 99 = 5 := by kernel_rfl
@[go_sem] theorem tint_99 : tint Tryz.prog 99 = some IntKind.u64 := by kernel_rfl
@[go_sem] theorem ti_105 : tinfo Tryz.prog 105 = some { size := 1, agg := false, bytes := 24, zero := [Value.slice none 0 0], fields := [], elem := 108, kind := 3 } := by kernel_rfl
@[go_sem] theorem tk_105 : tk Tryz.prog 105 = 3 := by kernel_rfl
@[go_sem] theorem tint_105 : tint Tryz.prog 105 = none := by kernel_rfl
@[go_sem] theorem es_105 : aesz Tryz.prog 105 = 3 := by kernel_rfl
@[go_sem] theorem ti_108 : tinfo Tryz.prog 108 = some { size := 3, agg := true, bytes := 48, zero := [Value.string { data := { toList := [] } }, Value.int IntKind.i64 0, Value.slice none 0 0], fields := [(0, 1, false), (1, 2, true)], elem := 0, kind := 1 } := by kernel_rfl
@[go_sem] theorem tk_108 : tk Tryz.prog 108 = 1 := by kernel_rfl
@[go_sem] theorem tint_108 : tint Tryz.prog 108 = none := by kernel_rfl
@[go_sem] theorem ar_108 : aarr Tryz.prog 108 = none := by kernel_rfl
@[go_sem] theorem ti_111 : tinfo Tryz.prog 111 = some { size := 1, agg := false, bytes := 8, zero := [Value.nilFunc], fields := [], elem := 0, kind := 0 } := by kernel_rfl
@[go_sem] theorem tk_111 : tk Tryz.prog 111 = 0 := by kernel_rfl
@[go_sem] theorem tint_111 : tint Tryz.prog 111 = none := by kernel_rfl
@[go_sem] theorem ti_115 : tinfo Tryz.prog 115 = some { size := 2, agg := true, bytes := 32, zero := [Value.slice none 0 0, Value.int IntKind.i64 0], fields := [(0, 1, false), (1, 1, false)], elem := 0, kind := 1 } := by kernel_rfl
@[go_sem] theorem tk_115 : tk Tryz.prog 115 = 1 := by kernel_rfl
@[go_sem] theorem tint_115 : tint Tryz.prog 115 = none := by kernel_rfl
@[go_sem] theorem ar_115 : aarr Tryz.prog 115 = none := by kernel_rfl
@[go_sem] theorem ti_125 : tinfo Tryz.prog 125 = some { size := 1, agg := false, bytes := 8, zero := [Value.int IntKind.i64 0], fields := [], elem := 0, kind := 5 } := by kernel_rfl
@[go_sem] theorem tk_125 : tk Tryz.prog 125 = 5 := by kernel_rfl
@[go_sem] theorem tint_125 : tint Tryz.prog 125 = some IntKind.i64 := by kernel_rfl
@[go_sem] theorem ti_134 : tinfo Tryz.prog 134 = some { size := 1, agg := false, bytes := 4, zero := [Value.int IntKind.u32 0], fields := [], elem := 0, kind := 5 } := by kernel_rfl
@[go_sem] theorem tk_134 : tk Tryz.prog 134 = 5 := by kernel_rfl
@[go_sem] theorem tint_134 : tint Tryz.prog 134 = some IntKind.u32 := by kernel_rfl
@[go_sem] theorem ti_136 : tinfo Tryz.prog 136 = some { size := 1, agg := false, bytes := 8, zero := [Value.int IntKind.u64 0], fields := [], elem := 0, kind := 5 } := by kernel_rfl
@[go_sem] theorem tk_136 : tk Tryz.prog 136 = 5 := by kernel_rfl
@[go_sem] theorem tint_136 : tint Tryz.prog 136 = some IntKind.u64 := by kernel_rfl
@[go_sem] theorem ti_149 : tinfo Tryz.prog 149 = some { size := 1, agg := false, bytes := 24, zero := [Value.slice none 0 0], fields := [], elem := 9, kind := 3 } := by kernel_rfl
@[go_sem] theorem tk_149 : tk Tryz.prog 149 = 3 := by kernel_rfl
@[go_sem] theorem tint_149 : tint Tryz.prog 149 = none := by kernel_rfl
@[go_sem] theorem es_149 : aesz Tryz.prog 149 = 1 := by kernel_rfl
@[go_sem] theorem ti_161 : tinfo Tryz.prog 161 = some { size := 1, agg := false, bytes := 8, zero := [Value.int IntKind.u64 0], fields := [], elem := 0, kind := 5 } := by kernel_rfl
@[go_sem] theorem tk_161 : tk Tryz.prog 161 = 5 := by kernel_rfl
@[go_sem] theorem tint_161 : tint Tryz.prog 161 = some IntKind.u64 := by kernel_rfl
theorem follows : Tryz.prog.follows .mixedOrders = true := by kernel_rfl
theorem isfn_3 : IsFn Tryz.prog 3 := by intro args w; kernel_rfl
theorem isfn_6 : IsFn Tryz.prog 6 := by intro args w; kernel_rfl
theorem isfn_7 : IsFn Tryz.prog 7 := by intro args w; kernel_rfl
theorem isfn_8 : IsFn Tryz.prog 8 := by intro args w; kernel_rfl
theorem isfn_9 : IsFn Tryz.prog 9 := by intro args w; kernel_rfl
theorem isfn_10 : IsFn Tryz.prog 10 := by intro args w; kernel_rfl
theorem isfn_22 : IsFn Tryz.prog 22 := by intro args w; kernel_rfl
theorem isfn_25 : IsFn Tryz.prog 25 := by intro args w; kernel_rfl
theorem isfn_26 : IsFn Tryz.prog 26 := by intro args w; kernel_rfl
theorem isfn_27 : IsFn Tryz.prog 27 := by intro args w; kernel_rfl
theorem isfn_28 : IsFn Tryz.prog 28 := by intro args w; kernel_rfl
theorem isfn_29 : IsFn Tryz.prog 29 := by intro args w; kernel_rfl
theorem isfn_30 : IsFn Tryz.prog 30 := by intro args w; kernel_rfl
theorem isfn_31 : IsFn Tryz.prog 31 := by intro args w; kernel_rfl
theorem isfn_32 : IsFn Tryz.prog 32 := by intro args w; kernel_rfl
theorem isfn_33 : IsFn Tryz.prog 33 := by intro args w; kernel_rfl
theorem isfn_34 : IsFn Tryz.prog 34 := by intro args w; kernel_rfl
theorem isfn_35 : IsFn Tryz.prog 35 := by intro args w; kernel_rfl
theorem isfn_36 : IsFn Tryz.prog 36 := by intro args w; kernel_rfl
theorem isfn_37 : IsFn Tryz.prog 37 := by intro args w; kernel_rfl
theorem isfn_38 : IsFn Tryz.prog 38 := by intro args w; kernel_rfl
theorem isfn_39 : IsFn Tryz.prog 39 := by intro args w; kernel_rfl
theorem isfn_40 : IsFn Tryz.prog 40 := by intro args w; kernel_rfl
theorem isfn_53 : IsFn Tryz.prog 53 := by intro args w; kernel_rfl
theorem isfn_57 : IsFn Tryz.prog 57 := by intro args w; kernel_rfl
theorem isfn_59 : IsFn Tryz.prog 59 := by intro args w; kernel_rfl
theorem isfn_60 : IsFn Tryz.prog 60 := by intro args w; kernel_rfl
theorem isfn_61 : IsFn Tryz.prog 61 := by intro args w; kernel_rfl
theorem isfn_65 : IsFn Tryz.prog 65 := by intro args w; kernel_rfl
theorem isfn_66 : IsFn Tryz.prog 66 := by intro args w; kernel_rfl
theorem isfn_67 : IsFn Tryz.prog 67 := by intro args w; kernel_rfl
theorem isfn_68 : IsFn Tryz.prog 68 := by intro args w; kernel_rfl
theorem isfn_69 : IsFn Tryz.prog 69 := by intro args w; kernel_rfl
theorem isfn_70 : IsFn Tryz.prog 70 := by intro args w; kernel_rfl
theorem isfn_71 : IsFn Tryz.prog 71 := by intro args w; kernel_rfl
theorem isfn_72 : IsFn Tryz.prog 72 := by intro args w; kernel_rfl
theorem isfn_73 : IsFn Tryz.prog 73 := by intro args w; kernel_rfl
theorem isfn_74 : IsFn Tryz.prog 74 := by intro args w; kernel_rfl
theorem isfn_75 : IsFn Tryz.prog 75 := by intro args w; kernel_rfl
theorem isfn_76 : IsFn Tryz.prog 76 := by intro args w; kernel_rfl
theorem isfn_77 : IsFn Tryz.prog 77 := by intro args w; kernel_rfl
theorem isfn_78 : IsFn Tryz.prog 78 := by intro args w; kernel_rfl
theorem isfn_88 : IsFn Tryz.prog 88 := by intro args w; kernel_rfl
theorem isfn_90 : IsFn Tryz.prog 90 := by intro args w; kernel_rfl
theorem isfn_93 : IsFn Tryz.prog 93 := by intro args w; kernel_rfl
theorem isfn_94 : IsFn Tryz.prog 94 := by intro args w; kernel_rfl
theorem isfn_95 : IsFn Tryz.prog 95 := by intro args w; kernel_rfl
theorem isfn_97 : IsFn Tryz.prog 97 := by intro args w; kernel_rfl
theorem isfn_98 : IsFn Tryz.prog 98 := by intro args w; kernel_rfl
theorem isfn_99 : IsFn Tryz.prog 99 := by intro args w; kernel_rfl
theorem isfn_100 : IsFn Tryz.prog 100 := by intro args w; kernel_rfl
theorem isfn_101 : IsFn Tryz.prog 101 := by intro args w; kernel_rfl
theorem isfn_102 : IsFn Tryz.prog 102 := by intro args w; kernel_rfl
theorem isfn_103 : IsFn Tryz.prog 103 := by intro args w; kernel_rfl
theorem isfn_104 : IsFn Tryz.prog 104 := by intro args w; kernel_rfl
theorem isfn_105 : IsFn Tryz.prog 105 := by intro args w; kernel_rfl
theorem isfn_106 : IsFn Tryz.prog 106 := by intro args w; kernel_rfl
theorem isfn_107 : IsFn Tryz.prog 107 := by intro args w; kernel_rfl
theorem isfn_108 : IsFn Tryz.prog 108 := by intro args w; kernel_rfl
theorem isfn_109 : IsFn Tryz.prog 109 := by intro args w; kernel_rfl
theorem isfn_110 : IsFn Tryz.prog 110 := by intro args w; kernel_rfl
theorem isfn_111 : IsFn Tryz.prog 111 := by intro args w; kernel_rfl
theorem isfn_112 : IsFn Tryz.prog 112 := by intro args w; kernel_rfl
theorem isfn_113 : IsFn Tryz.prog 113 := by intro args w; kernel_rfl
theorem isfn_114 : IsFn Tryz.prog 114 := by intro args w; kernel_rfl
theorem isfn_115 : IsFn Tryz.prog 115 := by intro args w; kernel_rfl
theorem isfn_116 : IsFn Tryz.prog 116 := by intro args w; kernel_rfl
theorem isfn_117 : IsFn Tryz.prog 117 := by intro args w; kernel_rfl
theorem isfn_118 : IsFn Tryz.prog 118 := by intro args w; kernel_rfl
theorem isfn_119 : IsFn Tryz.prog 119 := by intro args w; kernel_rfl
theorem isfn_120 : IsFn Tryz.prog 120 := by intro args w; kernel_rfl
theorem isfn_132 : IsFn Tryz.prog 132 := by intro args w; kernel_rfl
theorem isfn_134 : IsFn Tryz.prog 134 := by intro args w; kernel_rfl
theorem isfn_137 : IsFn Tryz.prog 137 := by intro args w; kernel_rfl
theorem isfn_139 : IsFn Tryz.prog 139 := by intro args w; kernel_rfl
theorem isfn_140 : IsFn Tryz.prog 140 := by intro args w; kernel_rfl
theorem isfn_141 : IsFn Tryz.prog 141 := by intro args w; kernel_rfl
theorem isfn_142 : IsFn Tryz.prog 142 := by intro args w; kernel_rfl
theorem isfn_148 : IsFn Tryz.prog 148 := by intro args w; kernel_rfl
theorem isfn_149 : IsFn Tryz.prog 149 := by intro args w; kernel_rfl
theorem isfn_150 : IsFn Tryz.prog 150 := by intro args w; kernel_rfl
theorem isfn_151 : IsFn Tryz.prog 151 := by intro args w; kernel_rfl
theorem isfn_152 : IsFn Tryz.prog 152 := by intro args w; kernel_rfl
theorem isfn_153 : IsFn Tryz.prog 153 := by intro args w; kernel_rfl
theorem isfn_154 : IsFn Tryz.prog 154 := by intro args w; kernel_rfl
theorem isfn_155 : IsFn Tryz.prog 155 := by intro args w; kernel_rfl
theorem isfn_156 : IsFn Tryz.prog 156 := by intro args w; kernel_rfl
theorem isfn_157 : IsFn Tryz.prog 157 := by intro args w; kernel_rfl
theorem isfn_158 : IsFn Tryz.prog 158 := by intro args w; kernel_rfl
theorem isfn_159 : IsFn Tryz.prog 159 := by intro args w; kernel_rfl
theorem isfn_160 : IsFn Tryz.prog 160 := by intro args w; kernel_rfl
theorem isfn_161 : IsFn Tryz.prog 161 := by intro args w; kernel_rfl
theorem isfn_162 : IsFn Tryz.prog 162 := by intro args w; kernel_rfl
theorem isfn_163 : IsFn Tryz.prog 163 := by intro args w; kernel_rfl
theorem isfn_164 : IsFn Tryz.prog 164 := by intro args w; kernel_rfl
theorem isfn_165 : IsFn Tryz.prog 165 := by intro args w; kernel_rfl
theorem isfn_166 : IsFn Tryz.prog 166 := by intro args w; kernel_rfl
theorem isfn_167 : IsFn Tryz.prog 167 := by intro args w; kernel_rfl
theorem isfn_168 : IsFn Tryz.prog 168 := by intro args w; kernel_rfl
theorem isfn_169 : IsFn Tryz.prog 169 := by intro args w; kernel_rfl
theorem isfn_170 : IsFn Tryz.prog 170 := by intro args w; kernel_rfl
theorem isfn_171 : IsFn Tryz.prog 171 := by intro args w; kernel_rfl
theorem isfn_172 : IsFn Tryz.prog 172 := by intro args w; kernel_rfl
theorem isfn_173 : IsFn Tryz.prog 173 := by intro args w; kernel_rfl
theorem isfn_174 : IsFn Tryz.prog 174 := by intro args w; kernel_rfl
theorem isfn_181 : IsFn Tryz.prog 181 := by intro args w; kernel_rfl
theorem isfn_182 : IsFn Tryz.prog 182 := by intro args w; kernel_rfl
theorem isfn_184 : IsFn Tryz.prog 184 := by intro args w; kernel_rfl
theorem isfn_185 : IsFn Tryz.prog 185 := by intro args w; kernel_rfl
theorem isfn_186 : IsFn Tryz.prog 186 := by intro args w; kernel_rfl
theorem isfn_187 : IsFn Tryz.prog 187 := by intro args w; kernel_rfl
theorem isfn_188 : IsFn Tryz.prog 188 := by intro args w; kernel_rfl
theorem isfn_189 : IsFn Tryz.prog 189 := by intro args w; kernel_rfl
theorem isfn_190 : IsFn Tryz.prog 190 := by intro args w; kernel_rfl
theorem isfn_191 : IsFn Tryz.prog 191 := by intro args w; kernel_rfl
theorem isfn_192 : IsFn Tryz.prog 192 := by intro args w; kernel_rfl
theorem isfn_193 : IsFn Tryz.prog 193 := by intro args w; kernel_rfl
theorem isfn_194 : IsFn Tryz.prog 194 := by intro args w; kernel_rfl
theorem isfn_195 : IsFn Tryz.prog 195 := by intro args w; kernel_rfl
theorem isfn_196 : IsFn Tryz.prog 196 := by intro args w; kernel_rfl
theorem isfn_197 : IsFn Tryz.prog 197 := by intro args w; kernel_rfl
theorem isfn_198 : IsFn Tryz.prog 198 := by intro args w; kernel_rfl
theorem isfn_199 : IsFn Tryz.prog 199 := by intro args w; kernel_rfl
theorem isfn_200 : IsFn Tryz.prog 200 := by intro args w; kernel_rfl
theorem isfn_201 : IsFn Tryz.prog 201 := by intro args w; kernel_rfl
theorem isfn_202 : IsFn Tryz.prog 202 := by intro args w; kernel_rfl
theorem isfn_203 : IsFn Tryz.prog 203 := by intro args w; kernel_rfl
theorem isfn_204 : IsFn Tryz.prog 204 := by intro args w; kernel_rfl
theorem isfn_205 : IsFn Tryz.prog 205 := by intro args w; kernel_rfl
theorem isfn_207 : IsFn Tryz.prog 207 := by intro args w; kernel_rfl
theorem isfn_208 : IsFn Tryz.prog 208 := by intro args w; kernel_rfl
theorem isfn_209 : IsFn Tryz.prog 209 := by intro args w; kernel_rfl
theorem isfn_210 : IsFn Tryz.prog 210 := by intro args w; kernel_rfl
theorem isfn_211 : IsFn Tryz.prog 211 := by intro args w; kernel_rfl
theorem isfn_212 : IsFn Tryz.prog 212 := by intro args w; kernel_rfl
theorem isfn_213 : IsFn Tryz.prog 213 := by intro args w; kernel_rfl
theorem isfn_214 : IsFn Tryz.prog 214 := by intro args w; kernel_rfl
theorem isfn_215 : IsFn Tryz.prog 215 := by intro args w; kernel_rfl
theorem isfn_216 : IsFn Tryz.prog 216 := by intro args w; kernel_rfl
end Go.Proofs.YtnaebafafhamjaaGreat
namespace Go.Proofs.YtnaebafafhamjaaGreat
open Go.RowKit Go.Proofs.Sh
section
variable {N : Nat} {R : ASt → Prop}
theorem mxq0 {id : Nat} {l : List Oper} {k : List Sh.Item} {s : ASt} (ms : List Nat) (h : WM Tryz.prog N ⟨0, s.h, ms, l⟩ R k (mrun Tryz.prog ⟨0, s.h, ms, l⟩ l [] true s)) (hB : mixOK loudOp readOp 0 l.toArray = true := by decide +kernel) (hmut : ms.all (fun b => match s.h[b]? with | some k => k.st.isMut | none => false) = true := by simp only [go_sem]; first | done | rfl) : WD Tryz.prog N R (.drawn id l k s) :=
  wd_mix 0 ms follows hB hmut h
theorem mxq1 {id : Nat} {l : List Oper} {k : List Sh.Item} {s : ASt} (ms : List Nat) (h : WM Tryz.prog N ⟨1, s.h, ms, l⟩ R k (mrun Tryz.prog ⟨1, s.h, ms, l⟩ l [] true s)) (hB : mixOK loudOp readOp 1 l.toArray = true := by decide +kernel) (hmut : ms.all (fun b => match s.h[b]? with | some k => k.st.isMut | none => false) = true := by simp only [go_sem]; first | done | rfl) : WD Tryz.prog N R (.drawn id l k s) :=
  wd_mix 1 ms follows hB hmut h
theorem mxq2 {id : Nat} {l : List Oper} {k : List Sh.Item} {s : ASt} (ms : List Nat) (h : WM Tryz.prog N ⟨2, s.h, ms, l⟩ R k (mrun Tryz.prog ⟨2, s.h, ms, l⟩ l [] true s)) (hB : mixOK loudOp readOp 2 l.toArray = true := by decide +kernel) (hmut : ms.all (fun b => match s.h[b]? with | some k => k.st.isMut | none => false) = true := by simp only [go_sem]; first | done | rfl) : WD Tryz.prog N R (.drawn id l k s) :=
  wd_mix 2 ms follows hB hmut h
theorem mxq3 {id : Nat} {l : List Oper} {k : List Sh.Item} {s : ASt} (ms : List Nat) (h : WM Tryz.prog N ⟨3, s.h, ms, l⟩ R k (mrun Tryz.prog ⟨3, s.h, ms, l⟩ l [] true s)) (hB : mixOK loudOp readOp 3 l.toArray = true := by decide +kernel) (hmut : ms.all (fun b => match s.h[b]? with | some k => k.st.isMut | none => false) = true := by simp only [go_sem]; first | done | rfl) : WD Tryz.prog N R (.drawn id l k s) :=
  wd_mix 3 ms follows hB hmut h
theorem mxq4 {id : Nat} {l : List Oper} {k : List Sh.Item} {s : ASt} (ms : List Nat) (h : WM Tryz.prog N ⟨4, s.h, ms, l⟩ R k (mrun Tryz.prog ⟨4, s.h, ms, l⟩ l [] true s)) (hB : mixOK loudOp readOp 4 l.toArray = true := by decide +kernel) (hmut : ms.all (fun b => match s.h[b]? with | some k => k.st.isMut | none => false) = true := by simp only [go_sem]; first | done | rfl) : WD Tryz.prog N R (.drawn id l k s) :=
  wd_mix 4 ms follows hB hmut h
theorem mxq5 {id : Nat} {l : List Oper} {k : List Sh.Item} {s : ASt} (ms : List Nat) (h : WM Tryz.prog N ⟨5, s.h, ms, l⟩ R k (mrun Tryz.prog ⟨5, s.h, ms, l⟩ l [] true s)) (hB : mixOK loudOp readOp 5 l.toArray = true := by decide +kernel) (hmut : ms.all (fun b => match s.h[b]? with | some k => k.st.isMut | none => false) = true := by simp only [go_sem]; first | done | rfl) : WD Tryz.prog N R (.drawn id l k s) :=
  wd_mix 5 ms follows hB hmut h
theorem mxq6 {id : Nat} {l : List Oper} {k : List Sh.Item} {s : ASt} (ms : List Nat) (h : WM Tryz.prog N ⟨6, s.h, ms, l⟩ R k (mrun Tryz.prog ⟨6, s.h, ms, l⟩ l [] true s)) (hB : mixOK loudOp readOp 6 l.toArray = true := by decide +kernel) (hmut : ms.all (fun b => match s.h[b]? with | some k => k.st.isMut | none => false) = true := by simp only [go_sem]; first | done | rfl) : WD Tryz.prog N R (.drawn id l k s) :=
  wd_mix 6 ms follows hB hmut h
end
end Go.Proofs.YtnaebafafhamjaaGreat
/- Terms: equality and search of lists, on shadows. -/
namespace Go.Proofs.Sh
open Go.Proofs.Grad
/-- the index of the first one, -1 for none -/
def teidx (p : Tm → Bool) : Nat → List Tm → Int
  | _, [] => -1
  | k, t :: l => if p t then (k : Nat) else teidx p (k + 1) l
theorem teidx_any (p : Tm → Bool) : ∀ (l : List Tm) (k : Nat), decide (0 ≤ teidx p k l) = l.any p
  | [], k => by simp [teidx]
  | t :: l, k => by
    simp only [teidx, List.any_cons]
    split
    · rename_i h; simp [h]
    · rename_i h; rw [teidx_any p l (k + 1)]; simp [h]
end Go.Proofs.Sh
namespace Go.Proofs.YtnaebafafhamjaaGreat
open Go.RowKit Go.Proofs.Sh Go.Proofs.Grad
set_option maxRecDepth 100000
set_option maxHeartbeats 4000000
theorem teIndexFunc0 (g : FuncId) (p : Tm → Bool) (l : List Tm) (hl : l.length < 4611686018427387904)
    (hg : ∀ k, k < l.length → ACl Tryz.prog g [.agg (teC (teKid l k))] [] (fun r H' => r = .one (.sc (.bool (p (teKid l k)))) ∧ H' = [])) :
    ACl Tryz.prog 197 [.one (.sl (teR l)), .one (.fn g [])] [] (fun r H' => r = .one (.sc (.int .i64 (teidx p 0 l))) ∧ H' = []) := by
  refine acl_in Tryz.func197 rfl isfn_197 (Nat.le_of_ble_eq_true rfl) (fun R hR => ?_); rw [Tryz.results197] at hR; refine wg_run ?_; (simp only [Tryz.f197, go_sem])
  refine wd_for [0, 1, 7, 8] (fun k => [.one (.sl (teR l)), .one (.fn g []), .one (.sc (.int .i64 l.length)), .one (.sc (.int .i64 (k : Nat)))]) (fun k => [])
      (fun k => k ≤ l.length ∧ teidx p k (l.drop k) = teidx p 0 l) (fun k => l.length - k) 0 ⟨Nat.zero_le _, rfl⟩ (hat [] (hI := ⟨rfl, rfl⟩)) ?_
  rintro k ⟨hk, hs⟩ G hG
  refine wg_run ?_
  (simp only [go_sem])
  ((first | apply sp1 | apply sp2 | apply sp3 | apply sp4 | apply sp5 | apply sp6 | apply sp7) <;> intro hb) <;> (simp only [go_sem, hb])
  · have hk1 : k < l.length := by have := of_decide_eq_true hb; omega
    rw [tedrop_kid hk1, teidx] at hs
    have hw1 := wrap_succ hk1 (by omega)
    (first | refine kdq [] ?_ (hc := hg k hk1) | refine kmq [] ?_ (hc := hg k hk1) | refine ktq [] ?_ (hc := hg k hk1)); rintro _ _ ⟨rfl, rfl⟩; (simp only [go_sem])
    repeat' (first | (simp only [go_sem, hw1]) | (((first | apply sp1 | apply sp2 | apply sp3 | apply sp4 | apply sp5 | apply sp6 | apply sp7) <;> intro hb) <;> (simp only [go_sem, hb, hw1])) | ((first | apply wm_done | apply wt_done | apply wg_run | refine fk ?_ ?_) <;> (simp only [go_sem, hw1])))
    · (refine hR _ (rat [] (hK := ⟨?_, ?_⟩)))
      · simpa [hb] using hs
      · rfl
    · exact hG (k + 1) _ _ ⟨by omega, by simpa [hb] using hs⟩ (by omega) (hat [] (hI := ⟨rfl, rfl⟩))
  · have hk1 : ¬ k < l.length := by have := of_decide_eq_false hb; omega
    rw [List.drop_eq_nil_of_le (by omega), teidx] at hs
    (refine hR _ (rat [] (hK := ⟨?_, ?_⟩)))
    · rw [← hs]
    · rfl
theorem teContainsFunc0 (g : FuncId) (p : Tm → Bool) (l : List Tm) (hl : l.length < 4611686018427387904)
    (hg : ∀ k, k < l.length → ACl Tryz.prog g [.agg (teC (teKid l k))] [] (fun r H' => r = .one (.sc (.bool (p (teKid l k)))) ∧ H' = [])) :
    ACl Tryz.prog 158 [.one (.sl (teR l)), .one (.fn g [])] [] (fun r H' => r = .one (.sc (.bool (l.any p))) ∧ H' = []) := by
  have hi := teIndexFunc0 g p l hl hg
  refine acl_in Tryz.func158 rfl isfn_158 (Nat.le_of_ble_eq_true rfl) (fun R hR => ?_); rw [Tryz.results158] at hR; refine wg_run ?_; (simp only [Tryz.f158, go_sem])
  (first | refine kdq [] ?_ (hc := hi) | refine kmq [] ?_ (hc := hi) | refine ktq [] ?_ (hc := hi)); rintro _ _ ⟨rfl, rfl⟩; (simp only [go_sem])
  (refine hR _ (rat [] (hK := ⟨?_, ?_⟩)))
  · rw [← teidx_any p l 0]
  · rfl
end Go.Proofs.YtnaebafafhamjaaGreat
/- Types: the reference's functions, on shadows. -/
namespace Go.Proofs.YtnaebafafhamjaaGreat
open Go.RowKit Go.Proofs.Sh Go.Proofs.Grad
set_option maxRecDepth 100000
set_option maxHeartbeats 1000000
@[go_sem] theorem kind_mk (k : Int) (l : List Ty) : (Ty.mk k l).kind = k := rfl
@[go_sem] theorem kids_mk (k : Int) (l : List Ty) : (Ty.mk k l).kids = l := rfl
theorem l1Kids (k : Int) : AFn Tryz.prog 184 [.one (.sc (.int .i64 k))] (.one (.sc (.int .i64 (kidsN k)))) := by
  refine fn_in ?_; refine acl_in Tryz.func184 rfl isfn_184 (Nat.le_of_ble_eq_true rfl) (fun R hR => ?_); rw [Tryz.results184] at hR; refine wg_run ?_; (simp only [Tryz.f184, go_sem])
  repeat' (first | (((first | apply sp1 | apply sp2 | apply sp3 | apply sp4 | apply sp5 | apply sp6 | apply sp7) <;> intro hb) <;> (simp only [go_sem, hb])) | ((first | apply wm_done | apply wt_done | apply wg_run | refine fk ?_ ?_) <;> (simp only [go_sem])))
  all_goals (refine hR _ (rat [] (hK := ⟨?_, rfl⟩)))
  all_goals simp_all [kidsN]
@[go_sem] theorem kidsN_1 : kidsN 1 = 0 := rfl
@[go_sem] theorem kidsN_2 : kidsN 2 = 0 := rfl
@[go_sem] theorem kidsN_3 : kidsN 3 = 0 := rfl
@[go_sem] theorem kidsN_4 : kidsN 4 = 2 := rfl
@[go_sem] theorem kidsN_5 : kidsN 5 = 2 := rfl
theorem l1Shape (m : Nat) (hm : m ≤ 4) : ∀ t : Ty, AFn Tryz.prog 202 [.agg (tyC t), .one (.sc (.int .i64 m))] (.one (.sc (.bool (t.shape m)))) := by
  induction m with
  | zero =>
    intro t
    refine fn_in ?_; refine acl_in Tryz.func202 rfl isfn_202 (Nat.le_of_ble_eq_true rfl) (fun R hR => ?_); rw [Tryz.results202] at hR; refine wg_run ?_; (simp only [Tryz.f202, go_sem])
    (refine wd_mix 0 [] follows (by kernel_rfl) (by (simp only [go_sem]); first | done | rfl) ?_; (simp only [go_sem]))
    repeat' (first | (((first | apply sp1 | apply sp2 | apply sp3 | apply sp4 | apply sp5 | apply sp6 | apply sp7) <;> intro hb) <;> (simp only [go_sem, hb])) | ((first | apply wm_done | apply wt_done | apply wg_run | refine fk ?_ ?_) <;> (simp only [go_sem])))
    all_goals (refine hR _ (rat [] (hK := ⟨?_, rfl⟩)))
    all_goals rfl
  | succ m ih =>
    intro t
    have hd : decide ((((m + 1 : Nat) : Int) < 1)) = false := by simp; omega
    have hw : IntKind.i64.wrap (((m + 1 : Nat) : Int) - 1) = (m : Int) := by rw [IntWalk.i64_in _ (by omega)]; omega
    refine fn_in ?_; refine acl_in Tryz.func202 rfl isfn_202 (Nat.le_of_ble_eq_true rfl) (fun R hR => ?_); rw [Tryz.results202] at hR; refine wg_run ?_; (simp only [Tryz.f202, go_sem])
    (refine wd_mix 0 [] follows (by kernel_rfl) (by (simp only [go_sem]); first | done | rfl) ?_; (simp only [go_sem]))
    (simp only [go_sem, hd])
    (first | refine cdq ?_ (hc := l1Kids _) | refine cmq ?_ (hc := l1Kids _) | refine ctq ?_ (hc := l1Kids _)); (simp only [go_sem])
    repeat' (first | (((first | apply sp1 | apply sp2 | apply sp3 | apply sp4 | apply sp5 | apply sp6 | apply sp7) <;> intro hb) <;> (simp only [go_sem, hb])) | ((first | apply wm_done | apply wt_done | apply wg_run | refine fk ?_ ?_) <;> (simp only [go_sem])))
    · (refine hR _ (rat [] (hK := ⟨?_, rfl⟩)))
      simp_all [Ty.shape]
    · refine wd_for [1, 2, 5] (fun k => [.one (.sc (.int .i64 ((m + 1 : Nat) : Int))), .one (.ptr 2 0 0 0), .one (.sc (.int .i64 (k : Nat)))]) (fun k => [⟨2, 25, .mut, [tyC t]⟩])
        (fun k => k ≤ t.kids.length ∧ (t.kids.drop k).all (Ty.shape m) = t.shape (m + 1)) (fun k => t.kids.length - k) 0 ⟨Nat.zero_le _, ?_⟩ (hat [0] (hI := ⟨rfl, rfl⟩)) ?_
      · clear hR
        simp_all [Ty.shape]
      rintro k ⟨hk, hs⟩ G hG
      refine wg_run ?_
      (simp only [go_sem])
      have hl : t.kids.length < 3 := by simp [kidsN] at hb; split at hb <;> try split at hb
                                        all_goals omega
      ((first | apply sp1 | apply sp2 | apply sp3 | apply sp4 | apply sp5 | apply sp6 | apply sp7) <;> intro hb) <;> (simp only [go_sem, hb, hw])
      · have hk1 : k < t.kids.length := by have := of_decide_eq_true hb; omega
        rw [drop_kid hk1, List.all_cons] at hs
        have hw1 := wrap_succ hk1 (by omega)
        (first | refine cdq ?_ (hc := ih (by omega) _) | refine cmq ?_ (hc := ih (by omega) _) | refine ctq ?_ (hc := ih (by omega) _)); (simp only [go_sem])
        repeat' (first | (simp only [go_sem, hw1]) | (((first | apply sp1 | apply sp2 | apply sp3 | apply sp4 | apply sp5 | apply sp6 | apply sp7) <;> intro hb) <;> (simp only [go_sem, hb, hw1])) | ((first | apply wm_done | apply wt_done | apply wg_run | refine fk ?_ ?_) <;> (simp only [go_sem, hw1])))
        · exact hG (k + 1) _ _ ⟨by omega, by simpa [hb] using hs⟩ (by omega) (hat [0] (hI := ⟨rfl, rfl⟩))
        · (refine hR _ (rat [] (hK := ⟨?_, rfl⟩)))
          simpa [hb] using hs
      · have hk1 : ¬ k < t.kids.length := by have := of_decide_eq_false hb; omega
        rw [List.drop_eq_nil_of_le (by omega)] at hs
        (refine hR _ (rat [] (hK := ⟨?_, rfl⟩)))
        simpa using hs
theorem sValid (t : Ty) : AFn Tryz.prog 167 [.agg (tyC t)] (.one (.sc (.bool t.valid))) := by
  refine fn_in ?_; refine acl_in Tryz.func167 rfl isfn_167 (Nat.le_of_ble_eq_true rfl) (fun R hR => ?_); rw [Tryz.results167] at hR; refine wg_run ?_; (simp only [Tryz.f167, go_sem])
  repeat' (first | (first | (((first | apply sp1 | apply sp2 | apply sp3 | apply sp4 | apply sp5 | apply sp6 | apply sp7) <;> intro hb) <;> (simp only [go_sem, hb])) | ((first | apply wm_done | apply wt_done | apply wg_run | refine fk ?_ ?_) <;> (simp only [go_sem]))) | (first | refine cdq ?_ (hc := l1Shape 4 (by omega) _) | refine cmq ?_ (hc := l1Shape 4 (by omega) _) | refine ctq ?_ (hc := l1Shape 4 (by omega) _)); (simp only [go_sem]))
  (refine hR _ (rat [] (hK := ⟨?_, rfl⟩)))
  rfl
end Go.Proofs.YtnaebafafhamjaaGreat
/- Types: the program's checks, on shadows. -/
namespace Go.Proofs.Sh
open Go.Proofs.Grad
theorem all2_kid {f : Ty → Ty → Bool} {a b : List Ty} {i : Nat} (ha : i < a.length) (hb : i < b.length) : all2 f (a.drop i) (b.drop i) = (f (kid a i) (kid b i) && all2 f (a.drop (i + 1)) (b.drop (i + 1))) := by
  rw [all2_drop ha hb, kid_eq ha, kid_eq hb]
theorem all2_end {f : Ty → Ty → Bool} {a b : List Ty} {i : Nat} (ha : ¬ i < a.length) (hb : a.length = b.length) : all2 f (a.drop i) (b.drop i) = true := by
  rw [List.drop_eq_nil_of_le (by omega), List.drop_eq_nil_of_le (by omega)]; rfl
end Go.Proofs.Sh
namespace Go.Proofs.YtnaebafafhamjaaGreat
open Go.RowKit Go.Proofs.Sh Go.Proofs.Grad
set_option maxRecDepth 100000
set_option maxHeartbeats 4000000
theorem eqFunc (g : FuncId) (Q : Ty → Ty → Bool) (l m : List Ty) (hl : l.length < 4611686018427387904)
    (hg : ∀ k, k < l.length → k < m.length → AFn Tryz.prog g [.agg (tyC (kid l k)), .agg (tyC (kid m k))] (.one (.sc (.bool (Q (kid l k) (kid m k)))))) :
    AFn Tryz.prog 132 [.one (.sl (tyR l)), .one (.sl (tyR m)), .one (.fn g [])] (.one (.sc (.bool (all2 Q l m)))) := by
  refine fn_in ?_; refine acl_in Tryz.func132 rfl isfn_132 (Nat.le_of_ble_eq_true rfl) (fun R hR => ?_); rw [Tryz.results132] at hR; refine wg_run ?_; (simp only [Tryz.f132, go_sem])
  repeat' (first | (((first | apply sp1 | apply sp2 | apply sp3 | apply sp4 | apply sp5 | apply sp6 | apply sp7) <;> intro hb) <;> (simp only [go_sem, hb])) | ((first | apply wm_done | apply wt_done | apply wg_run | refine fk ?_ ?_) <;> (simp only [go_sem])))
  · (refine hR _ (rat [] (hK := ⟨?_, rfl⟩)))
    rw [all2_len]
    intro h; simp [h] at hb
  · have hlm : l.length = m.length := by simp at hb; omega
    clear hb
    refine wd_for [0, 1, 2, 15, 16, 17] (fun k => [.one (.sl (tyR l)), .one (.sl (tyR m)), .one (.fn g []), .one (.sl (tyR l)), .one (.sc (.int .i64 l.length)), .one (.sc (.int .i64 (k : Nat)))]) (fun k => [])
      (fun k => k ≤ l.length ∧ all2 Q (l.drop k) (m.drop k) = all2 Q l m) (fun k => l.length - k) 0 ⟨Nat.zero_le _, rfl⟩ (hat [] (hI := ⟨rfl, rfl⟩)) ?_
    rintro k ⟨hk, hs⟩ G hG
    refine wg_run ?_
    (simp only [go_sem])
    ((first | apply sp1 | apply sp2 | apply sp3 | apply sp4 | apply sp5 | apply sp6 | apply sp7) <;> intro hb) <;> (simp only [go_sem, hb])
    · have hk1 : k < l.length := by have := of_decide_eq_true hb; omega
      have hk2 : decide ((k : Int) < (m.length : Int)) = true := by simp; omega
      rw [all2_kid hk1 (by omega)] at hs
      have hw1 := wrap_succ hk1 (by omega)
      (simp only [go_sem, hk2])
      (first | refine cdq ?_ (hc := hg k hk1 (by omega)) | refine cmq ?_ (hc := hg k hk1 (by omega)) | refine ctq ?_ (hc := hg k hk1 (by omega))); (simp only [go_sem])
      repeat' (first | (simp only [go_sem, hw1]) | (((first | apply sp1 | apply sp2 | apply sp3 | apply sp4 | apply sp5 | apply sp6 | apply sp7) <;> intro hb) <;> (simp only [go_sem, hb, hw1])) | ((first | apply wm_done | apply wt_done | apply wg_run | refine fk ?_ ?_) <;> (simp only [go_sem, hw1])))
      · exact hG (k + 1) _ _ ⟨by omega, by simpa [hb] using hs⟩ (by omega) (hat [] (hI := ⟨rfl, rfl⟩))
      · (refine hR _ (rat [] (hK := ⟨?_, rfl⟩)))
        simpa [hb] using hs
    · have hk1 : ¬ k < l.length := by have := of_decide_eq_false hb; omega
      rw [all2_end hk1 hlm] at hs
      (refine hR _ (rat [] (hK := ⟨?_, rfl⟩)))
      simpa using hs
theorem iSame (n : Nat) (hn : n ≤ 4611686018427387904) : ∀ a b : Ty, a.size < n → AFn Tryz.prog 88 [.agg (tyC a), .agg (tyC b)] (.one (.sc (.bool (a.same b)))) := by
  induction n with
  | zero => intro a b h; omega
  | succ n ih =>
    intro a b h
    have hl : a.kids.length < 4611686018427387904 := by have := Ty.length_le_sizes a.kids; cases a; simp only [Ty.size, Ty.kids] at *; omega
    have hk : ∀ k, k < a.kids.length → k < b.kids.length → AFn Tryz.prog 88 [.agg (tyC (kid a.kids k)), .agg (tyC (kid b.kids k))] (.one (.sc (.bool ((kid a.kids k).same (kid b.kids k))))) := fun k h1 h2 => ih (by omega) _ _ (by have := kid_lt h1; omega)
    have hf := eqFunc _ Ty.same a.kids b.kids hl hk
    clear hk ih
    rw [Ty.same_eq, Ty.sames_all2]
    refine fn_in ?_; refine acl_in Tryz.func88 rfl isfn_88 (Nat.le_of_ble_eq_true rfl) (fun R hR => ?_); rw [Tryz.results88] at hR; refine wg_run ?_; (simp only [Tryz.f88, go_sem])
    repeat' (first | (first | (((first | apply sp1 | apply sp2 | apply sp3 | apply sp4 | apply sp5 | apply sp6 | apply sp7) <;> intro hb) <;> (simp only [go_sem, hb])) | ((first | apply wm_done | apply wt_done | apply wg_run | refine fk ?_ ?_) <;> (simp only [go_sem]))) | (first | refine cdq ?_ (hc := hf) | refine cmq ?_ (hc := hf) | refine ctq ?_ (hc := hf)); (simp only [go_sem]) | ((first | refine mxq6 [] ?_ | refine mxq5 [] ?_ | refine mxq4 [] ?_ | refine mxq3 [] ?_ | refine mxq2 [] ?_ | refine mxq1 [] ?_ | refine mxq0 [] ?_ | fail); (simp only [go_sem])))
    all_goals (refine hR _ (rat [] (hK := ⟨?_, rfl⟩)))
    all_goals simp_all
theorem iCons (n : Nat) (hn : n ≤ 4611686018427387904) : ∀ a b : Ty, a.size < n → AFn Tryz.prog 94 [.agg (tyC a), .agg (tyC b)] (.one (.sc (.bool (a.cons b)))) := by
  induction n with
  | zero => intro a b h; omega
  | succ n ih =>
    intro a b h
    have hl : a.kids.length < 4611686018427387904 := by have := Ty.length_le_sizes a.kids; cases a; simp only [Ty.size, Ty.kids] at *; omega
    have hk : ∀ k, k < a.kids.length → k < b.kids.length → AFn Tryz.prog 94 [.agg (tyC (kid a.kids k)), .agg (tyC (kid b.kids k))] (.one (.sc (.bool ((kid a.kids k).cons (kid b.kids k))))) := fun k h1 h2 => ih (by omega) _ _ (by have := kid_lt h1; omega)
    have hf := eqFunc _ Ty.cons a.kids b.kids hl hk
    clear hk ih
    rw [Ty.cons_eq]
    refine fn_in ?_; refine acl_in Tryz.func94 rfl isfn_94 (Nat.le_of_ble_eq_true rfl) (fun R hR => ?_); rw [Tryz.results94] at hR; refine wg_run ?_; (simp only [Tryz.f94, go_sem])
    repeat' (first | (first | (((first | apply sp1 | apply sp2 | apply sp3 | apply sp4 | apply sp5 | apply sp6 | apply sp7) <;> intro hb) <;> (simp only [go_sem, hb])) | ((first | apply wm_done | apply wt_done | apply wg_run | refine fk ?_ ?_) <;> (simp only [go_sem]))) | (first | refine cdq ?_ (hc := hf) | refine cmq ?_ (hc := hf) | refine ctq ?_ (hc := hf)); (simp only [go_sem]) | ((first | refine mxq6 [] ?_ | refine mxq5 [] ?_ | refine mxq4 [] ?_ | refine mxq3 [] ?_ | refine mxq2 [] ?_ | refine mxq1 [] ?_ | refine mxq0 [] ?_ | fail); (simp only [go_sem])))
    all_goals (refine hR _ (rat [] (hK := ⟨?_, rfl⟩)))
    all_goals simp_all
/-- the index of the first one, -1 for none -/
def idx (p : Ty → Bool) : Nat → List Ty → Int
  | _, [] => -1
  | k, t :: l => if p t then (k : Nat) else idx p (k + 1) l
theorem idx_any (p : Ty → Bool) : ∀ (l : List Ty) (k : Nat), decide (0 ≤ idx p k l) = l.any p
  | [], k => by simp [idx]
  | t :: l, k => by
    simp only [idx, List.any_cons]
    split
    · rename_i h; simp [h]
    · rename_i h; rw [idx_any p l (k + 1)]; simp [h]
theorem indexFunc1 (g : FuncId) (d : Int) (p : Ty → Bool) (l : List Ty) (hl : l.length < 4611686018427387904)
    (hg : ∀ k, k < l.length → ACl Tryz.prog g [.agg (tyC (kid l k)), .one (.ptr 1 0 0 0)] [⟨1, 3, .mut, [[.sc (.int .i64 d)]]⟩] (fun r H' => r = .one (.sc (.bool (p (kid l k)))) ∧ H' = [⟨1, 3, .mut, [[.sc (.int .i64 d)]]⟩])) :
    ACl Tryz.prog 207 [.one (.sl (tyR l)), .one (.fn g [.ptr 1 0 0 0])] [⟨1, 3, .mut, [[.sc (.int .i64 d)]]⟩] (fun r H' => r = .one (.sc (.int .i64 (idx p 0 l))) ∧ H' = [⟨1, 3, .mut, [[.sc (.int .i64 d)]]⟩]) := by
  refine acl_in Tryz.func207 rfl isfn_207 (Nat.le_of_ble_eq_true rfl) (fun R hR => ?_); rw [Tryz.results207] at hR; refine wg_run ?_; (simp only [Tryz.f207, go_sem])
  refine wd_for [0, 1, 7, 8] (fun k => [.one (.sl (tyR l)), .one (.fn g [.ptr 1 0 0 0]), .one (.sc (.int .i64 l.length)), .one (.sc (.int .i64 (k : Nat)))]) (fun k => [⟨1, 3, .mut, [[.sc (.int .i64 d)]]⟩])
      (fun k => k ≤ l.length ∧ idx p k (l.drop k) = idx p 0 l) (fun k => l.length - k) 0 ⟨Nat.zero_le _, rfl⟩ (hat [] (hI := ⟨rfl, rfl⟩)) ?_
  rintro k ⟨hk, hs⟩ G hG
  refine wg_run ?_
  (simp only [go_sem])
  ((first | apply sp1 | apply sp2 | apply sp3 | apply sp4 | apply sp5 | apply sp6 | apply sp7) <;> intro hb) <;> (simp only [go_sem, hb])
  · have hk1 : k < l.length := by have := of_decide_eq_true hb; omega
    rw [drop_kid hk1, idx] at hs
    have hw1 := wrap_succ hk1 (by omega)
    (first | refine kdq [0] ?_ (hc := hg k hk1) | refine kmq [0] ?_ (hc := hg k hk1) | refine ktq [0] ?_ (hc := hg k hk1)); rintro _ _ ⟨rfl, rfl⟩; (simp only [go_sem])
    repeat' (first | (simp only [go_sem, hw1]) | (((first | apply sp1 | apply sp2 | apply sp3 | apply sp4 | apply sp5 | apply sp6 | apply sp7) <;> intro hb) <;> (simp only [go_sem, hb, hw1])) | ((first | apply wm_done | apply wt_done | apply wg_run | refine fk ?_ ?_) <;> (simp only [go_sem, hw1])))
    · (refine hR _ (rat [] (hK := ⟨?_, ?_⟩)))
      · simpa [hb] using hs
      · rfl
    · exact hG (k + 1) _ _ ⟨by omega, by simpa [hb] using hs⟩ (by omega) (hat [] (hI := ⟨rfl, rfl⟩))
  · have hk1 : ¬ k < l.length := by have := of_decide_eq_false hb; omega
    rw [List.drop_eq_nil_of_le (by omega), idx] at hs
    (refine hR _ (rat [] (hK := ⟨?_, ?_⟩)))
    · rw [← hs]
    · rfl
theorem containsFunc1 (g : FuncId) (d : Int) (p : Ty → Bool) (l : List Ty) (hl : l.length < 4611686018427387904)
    (hg : ∀ k, k < l.length → ACl Tryz.prog g [.agg (tyC (kid l k)), .one (.ptr 1 0 0 0)] [⟨1, 3, .mut, [[.sc (.int .i64 d)]]⟩] (fun r H' => r = .one (.sc (.bool (p (kid l k)))) ∧ H' = [⟨1, 3, .mut, [[.sc (.int .i64 d)]]⟩])) :
    ACl Tryz.prog 181 [.one (.sl (tyR l)), .one (.fn g [.ptr 1 0 0 0])] [⟨1, 3, .mut, [[.sc (.int .i64 d)]]⟩] (fun r H' => r = .one (.sc (.bool (l.any p))) ∧ H' = [⟨1, 3, .mut, [[.sc (.int .i64 d)]]⟩]) := by
  have hi := indexFunc1 g d p l hl hg
  refine acl_in Tryz.func181 rfl isfn_181 (Nat.le_of_ble_eq_true rfl) (fun R hR => ?_); rw [Tryz.results181] at hR; refine wg_run ?_; (simp only [Tryz.f181, go_sem])
  (first | refine kdq [0] ?_ (hc := hi) | refine kmq [0] ?_ (hc := hi) | refine ktq [0] ?_ (hc := hi)); rintro _ _ ⟨rfl, rfl⟩; (simp only [go_sem])
  (refine hR _ (rat [] (hK := ⟨?_, ?_⟩)))
  · rw [← idx_any p l 0]
  · rfl
end Go.Proofs.YtnaebafafhamjaaGreat
