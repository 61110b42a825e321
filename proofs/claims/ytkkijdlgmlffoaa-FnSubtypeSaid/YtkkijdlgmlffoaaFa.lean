/- What a run on shadows asks of this program's types and functions. -/
import Derived.Test.YtkkijdlgmlffoaaShAx
import Derived.Test.YtkkijdlgmlffoaaProg
namespace Go.Proofs.Ytkkijdlgmlffoaa
open Go.RowKit Go.Proofs.Sh
@[go_sem] theorem ti_3 : tinfo Try.prog 3 = some { size := 1, agg := false, bytes := 8, zero := [Value.int IntKind.i64 0], fields := [], elem := 0, kind := 5 } := by kernel_rfl
@[go_sem] theorem tk_3 : tk Try.prog 3 = 5 := by kernel_rfl
@[go_sem] theorem tint_3 : tint Try.prog 3 = some IntKind.i64 := by kernel_rfl
@[go_sem] theorem ti_4 : tinfo Try.prog 4 = some { size := 1, agg := false, bytes := 1, zero := [Value.bool false], fields := [], elem := 0, kind := 6 } := by kernel_rfl
@[go_sem] theorem tk_4 : tk Try.prog 4 = 6 := by kernel_rfl
@[go_sem] theorem tint_4 : tint Try.prog 4 = none := by kernel_rfl
@[go_sem] theorem ti_5 : tinfo Try.prog 5 = some { size := 1, agg := false, bytes := 1, zero := [Value.int IntKind.u8 0], fields := [], elem := 0, kind := 5 } := by kernel_rfl
@[go_sem] theorem tk_5 : tk Try.prog 5 = 5 := by kernel_rfl
@[go_sem] theorem tint_5 : tint Try.prog 5 = some IntKind.u8 := by kernel_rfl
@[go_sem] theorem ti_22 : tinfo Try.prog 22 = some { size := 1, agg := false, bytes := 24, zero := [Value.slice none 0 0], fields := [], elem := 24, kind := 3 } := by kernel_rfl
@[go_sem] theorem tk_22 : tk Try.prog 22 = 3 := by kernel_rfl
@[go_sem] theorem tint_22 : tint Try.prog 22 = none := by kernel_rfl
@[go_sem] theorem es_22 : aesz Try.prog 22 = 2 := by kernel_rfl
@[go_sem] theorem ti_24 : tinfo Try.prog 24 = some { size := 2, agg := true, bytes := 32, zero := [Value.int IntKind.i64 0, Value.slice none 0 0], fields := [(0, 1, false), (1, 1, false)], elem := 0, kind := 1 } := by kernel_rfl
@[go_sem] theorem tk_24 : tk Try.prog 24 = 1 := by kernel_rfl
@[go_sem] theorem tint_24 : tint Try.prog 24 = none := by kernel_rfl
@[go_sem] theorem ti_26 : tinfo Try.prog 26 = some { size := 1, agg := false, bytes := 8, zero := [Value.nilFunc], fields := [], elem := 0, kind := 0 } := by kernel_rfl
@[go_sem] theorem tk_26 : tk Try.prog 26 = 0 := by kernel_rfl
@[go_sem] theorem tint_26 : tint Try.prog 26 = none := by kernel_rfl
@[go_sem] theorem ti_27 : tinfo Try.prog 27 = some { size := 1, agg := false, bytes := 24, zero := [Value.slice none 0 0], fields := [], elem := 29, kind := 3 } := by kernel_rfl
@[go_sem] theorem tk_27 : tk Try.prog 27 = 3 := by kernel_rfl
@[go_sem] theorem tint_27 : tint Try.prog 27 = none := by kernel_rfl
@[go_sem] theorem es_27 : aesz Try.prog 27 = 2 := by kernel_rfl
@[go_sem] theorem ti_29 : tinfo Try.prog 29 = some { size := 2, agg := true, bytes := 32, zero := [Value.int IntKind.i64 0, Value.slice none 0 0], fields := [(0, 1, false), (1, 1, false)], elem := 0, kind := 1 } := by kernel_rfl
@[go_sem] theorem tk_29 : tk Try.prog 29 = 1 := by kernel_rfl
@[go_sem] theorem tint_29 : tint Try.prog 29 = none := by kernel_rfl
@[go_sem] theorem ti_32 : tinfo Try.prog 32 = some { size := 1, agg := false, bytes := 24, zero := [Value.slice none 0 0], fields := [], elem := 5, kind := 3 } := by kernel_rfl
@[go_sem] theorem tk_32 : tk Try.prog 32 = 3 := by kernel_rfl
@[go_sem] theorem tint_32 : tint Try.prog 32 = none := by kernel_rfl
@[go_sem] theorem es_32 : aesz Try.prog 32 = 1 := by kernel_rfl
@[go_sem] theorem ti_37 : tinfo Try.prog 37 = some { size := 1, agg := false, bytes := 8, zero := [Value.nilFunc], fields := [], elem := 0, kind := 0 } := by kernel_rfl
@[go_sem] theorem tk_37 : tk Try.prog 37 = 0 := by kernel_rfl
@[go_sem] theorem tint_37 : tint Try.prog 37 = none := by kernel_rfl
@[go_sem] theorem ti_47 : tinfo Try.prog 47 = some { size := 1, agg := false, bytes := 8, zero := [Value.pointer none], fields := [], elem := 0, kind := 0 } := by kernel_rfl
@[go_sem] theorem tk_47 : tk Try.prog 47 = 0 := by kernel_rfl
@[go_sem] theorem tint_47 : tint Try.prog 47 = none := by kernel_rfl
@[go_sem] theorem ti_61 : tinfo Try.prog 61 = some { size := 2, agg := true, bytes := 32, zero := [Value.slice none 0 0, Value.int IntKind.i64 0], fields := [(0, 1, false), (1, 1, false)], elem := 0, kind := 1 } := by kernel_rfl
@[go_sem] theorem tk_61 : tk Try.prog 61 = 1 := by kernel_rfl
@[go_sem] theorem tint_61 : tint Try.prog 61 = none := by kernel_rfl
@[go_sem] theorem ti_64 : tinfo Try.prog 64 = some { size := 1, agg := false, bytes := 24, zero := [Value.slice none 0 0], fields := [], elem := 3, kind := 3 } := by kernel_rfl
@[go_sem] theorem tk_64 : tk Try.prog 64 = 3 := by kernel_rfl
@[go_sem] theorem tint_64 : tint Try.prog 64 = none := by kernel_rfl
@[go_sem] theorem es_64 : aesz Try.prog 64 = 1 := by kernel_rfl
theorem follows : Try.prog.follows .mixedOrders = true := by kernel_rfl
theorem isfn_3 : IsFn Try.prog 3 := by intro args w; kernel_rfl
theorem isfn_4 : IsFn Try.prog 4 := by intro args w; kernel_rfl
theorem isfn_5 : IsFn Try.prog 5 := by intro args w; kernel_rfl
theorem isfn_6 : IsFn Try.prog 6 := by intro args w; kernel_rfl
theorem isfn_7 : IsFn Try.prog 7 := by intro args w; kernel_rfl
theorem isfn_8 : IsFn Try.prog 8 := by intro args w; kernel_rfl
theorem isfn_9 : IsFn Try.prog 9 := by intro args w; kernel_rfl
theorem isfn_10 : IsFn Try.prog 10 := by intro args w; kernel_rfl
theorem isfn_11 : IsFn Try.prog 11 := by intro args w; kernel_rfl
theorem isfn_12 : IsFn Try.prog 12 := by intro args w; kernel_rfl
theorem isfn_13 : IsFn Try.prog 13 := by intro args w; kernel_rfl
theorem isfn_14 : IsFn Try.prog 14 := by intro args w; kernel_rfl
theorem isfn_15 : IsFn Try.prog 15 := by intro args w; kernel_rfl
theorem isfn_16 : IsFn Try.prog 16 := by intro args w; kernel_rfl
theorem isfn_17 : IsFn Try.prog 17 := by intro args w; kernel_rfl
theorem isfn_18 : IsFn Try.prog 18 := by intro args w; kernel_rfl
theorem isfn_19 : IsFn Try.prog 19 := by intro args w; kernel_rfl
theorem isfn_20 : IsFn Try.prog 20 := by intro args w; kernel_rfl
theorem isfn_21 : IsFn Try.prog 21 := by intro args w; kernel_rfl
theorem isfn_22 : IsFn Try.prog 22 := by intro args w; kernel_rfl
theorem isfn_23 : IsFn Try.prog 23 := by intro args w; kernel_rfl
theorem isfn_24 : IsFn Try.prog 24 := by intro args w; kernel_rfl
theorem isfn_25 : IsFn Try.prog 25 := by intro args w; kernel_rfl
theorem isfn_26 : IsFn Try.prog 26 := by intro args w; kernel_rfl
theorem isfn_27 : IsFn Try.prog 27 := by intro args w; kernel_rfl
theorem isfn_28 : IsFn Try.prog 28 := by intro args w; kernel_rfl
theorem isfn_29 : IsFn Try.prog 29 := by intro args w; kernel_rfl
theorem isfn_30 : IsFn Try.prog 30 := by intro args w; kernel_rfl
theorem isfn_31 : IsFn Try.prog 31 := by intro args w; kernel_rfl
theorem isfn_32 : IsFn Try.prog 32 := by intro args w; kernel_rfl
theorem isfn_33 : IsFn Try.prog 33 := by intro args w; kernel_rfl
theorem isfn_34 : IsFn Try.prog 34 := by intro args w; kernel_rfl
theorem isfn_35 : IsFn Try.prog 35 := by intro args w; kernel_rfl
theorem isfn_36 : IsFn Try.prog 36 := by intro args w; kernel_rfl
theorem isfn_37 : IsFn Try.prog 37 := by intro args w; kernel_rfl
theorem isfn_38 : IsFn Try.prog 38 := by intro args w; kernel_rfl
theorem isfn_39 : IsFn Try.prog 39 := by intro args w; kernel_rfl
theorem isfn_40 : IsFn Try.prog 40 := by intro args w; kernel_rfl
theorem isfn_41 : IsFn Try.prog 41 := by intro args w; kernel_rfl
theorem isfn_42 : IsFn Try.prog 42 := by intro args w; kernel_rfl
theorem isfn_43 : IsFn Try.prog 43 := by intro args w; kernel_rfl
theorem isfn_44 : IsFn Try.prog 44 := by intro args w; kernel_rfl
theorem isfn_45 : IsFn Try.prog 45 := by intro args w; kernel_rfl
theorem isfn_46 : IsFn Try.prog 46 := by intro args w; kernel_rfl
theorem isfn_47 : IsFn Try.prog 47 := by intro args w; kernel_rfl
theorem isfn_48 : IsFn Try.prog 48 := by intro args w; kernel_rfl
theorem isfn_49 : IsFn Try.prog 49 := by intro args w; kernel_rfl
theorem isfn_50 : IsFn Try.prog 50 := by intro args w; kernel_rfl
theorem isfn_51 : IsFn Try.prog 51 := by intro args w; kernel_rfl
theorem isfn_52 : IsFn Try.prog 52 := by intro args w; kernel_rfl
theorem isfn_53 : IsFn Try.prog 53 := by intro args w; kernel_rfl
theorem isfn_54 : IsFn Try.prog 54 := by intro args w; kernel_rfl
theorem isfn_55 : IsFn Try.prog 55 := by intro args w; kernel_rfl
theorem isfn_56 : IsFn Try.prog 56 := by intro args w; kernel_rfl
theorem isfn_57 : IsFn Try.prog 57 := by intro args w; kernel_rfl
theorem isfn_58 : IsFn Try.prog 58 := by intro args w; kernel_rfl
theorem isfn_59 : IsFn Try.prog 59 := by intro args w; kernel_rfl
theorem isfn_60 : IsFn Try.prog 60 := by intro args w; kernel_rfl
theorem isfn_61 : IsFn Try.prog 61 := by intro args w; kernel_rfl
theorem isfn_62 : IsFn Try.prog 62 := by intro args w; kernel_rfl
theorem isfn_63 : IsFn Try.prog 63 := by intro args w; kernel_rfl
theorem isfn_64 : IsFn Try.prog 64 := by intro args w; kernel_rfl
theorem isfn_65 : IsFn Try.prog 65 := by intro args w; kernel_rfl
theorem isfn_66 : IsFn Try.prog 66 := by intro args w; kernel_rfl
theorem isfn_67 : IsFn Try.prog 67 := by intro args w; kernel_rfl
theorem isfn_68 : IsFn Try.prog 68 := by intro args w; kernel_rfl
theorem isfn_69 : IsFn Try.prog 69 := by intro args w; kernel_rfl
theorem isfn_70 : IsFn Try.prog 70 := by intro args w; kernel_rfl
theorem isfn_71 : IsFn Try.prog 71 := by intro args w; kernel_rfl
theorem isfn_72 : IsFn Try.prog 72 := by intro args w; kernel_rfl
theorem isfn_73 : IsFn Try.prog 73 := by intro args w; kernel_rfl
theorem isfn_74 : IsFn Try.prog 74 := by intro args w; kernel_rfl
theorem isfn_75 : IsFn Try.prog 75 := by intro args w; kernel_rfl
theorem isfn_76 : IsFn Try.prog 76 := by intro args w; kernel_rfl
theorem isfn_77 : IsFn Try.prog 77 := by intro args w; kernel_rfl
theorem isfn_78 : IsFn Try.prog 78 := by intro args w; kernel_rfl
end Go.Proofs.Ytkkijdlgmlffoaa
