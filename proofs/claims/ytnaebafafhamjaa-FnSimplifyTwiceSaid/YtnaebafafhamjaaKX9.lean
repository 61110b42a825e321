/- Texts of the proof, one behind another. -/
import Derived.Test.YtnaebafafhamjaaProg
import Derived.Test.YtnaebafafhamjaaKX7
import Derived.Test.YtnaebafafhamjaaKX8
set_option linter.unusedSimpArgs false
set_option linter.unusedVariables false
/- What a run on shadows asks of this program's types and functions. -/
namespace Go.Proofs.Ytnaebafafhamjaa
open Go.RowKit Go.Proofs.Sh
@[go_sem] theorem ti_3 : tinfo Try.prog 3 = some { size := 1, agg := false, bytes := 8, zero := [Value.int IntKind.i64 0], fields := [], elem := 0, kind := 5 } := by kernel_rfl
@[go_sem] theorem tk_3 : tk Try.prog 3 = 5 := by kernel_rfl
@[go_sem] theorem tint_3 : tint Try.prog 3 = some IntKind.i64 := by kernel_rfl
@[go_sem] theorem ti_4 : tinfo Try.prog 4 = some { size := 1, agg := false, bytes := 1, zero := [Value.bool false], fields := [], elem := 0, kind := 6 } := by kernel_rfl
@[go_sem] theorem tk_4 : tk Try.prog 4 = 6 := by kernel_rfl
@[go_sem] theorem tint_4 : tint Try.prog 4 = none := by kernel_rfl
@[go_sem] theorem ti_5 : tinfo Try.prog 5 = some { size := 1, agg := false, bytes := 1, zero := [Value.int IntKind.u8 0], fields := [], elem := 0, kind := 5 } := by kernel_rfl
@[go_sem] theorem tk_5 : tk Try.prog 5 = 5 := by kernel_rfl
@[go_sem] theorem tint_5 : tint Try.prog 5 = some IntKind.u8 := by kernel_rfl
@[go_sem] theorem ti_9 : tinfo Try.prog 9 = some { size := 1, agg := false, bytes := 16, zero := [Value.string { data := { toList := [] } }], fields := [], elem := 0, kind := 4 } := by kernel_rfl
@[go_sem] theorem tk_9 : tk Try.prog 9 = 4 := by kernel_rfl
@[go_sem] theorem tint_9 : tint Try.prog 9 = none := by kernel_rfl
@[go_sem] theorem ti_22 : tinfo Try.prog 22 = some { size := 1, agg := false, bytes := 24, zero := [Value.slice none 0 0], fields := [], elem := 5, kind := 3 } := by kernel_rfl
@[go_sem] theorem tk_22 : tk Try.prog 22 = 3 := by kernel_rfl
@[go_sem] theorem tint_22 : tint Try.prog 22 = none := by kernel_rfl
@[go_sem] theorem es_22 : aesz Try.prog 22 = 1 := by kernel_rfl
@[go_sem] theorem ti_23 : tinfo Try.prog 23 = some { size := 1, agg := false, bytes := 24, zero := [Value.slice none 0 0], fields := [], elem := 25, kind := 3 } := by kernel_rfl
@[go_sem] theorem tk_23 : tk Try.prog 23 = 3 := by kernel_rfl
@[go_sem] theorem tint_23 : tint Try.prog 23 = none := by kernel_rfl
@[go_sem] theorem es_23 : aesz Try.prog 23 = 2 := by kernel_rfl
@[go_sem] theorem ti_25 : tinfo Try.prog 25 = some { size := 2, agg := true, bytes := 32, zero := [Value.int IntKind.i64 0, Value.slice none 0 0], fields := [(0, 1, false), (1, 1, false)], elem := 0, kind := 1 } := by kernel_rfl
@[go_sem] theorem tk_25 : tk Try.prog 25 = 1 := by kernel_rfl
@[go_sem] theorem tint_25 : tint Try.prog 25 = none := by kernel_rfl
@[go_sem] theorem ar_25 : aarr Try.prog 25 = none := by kernel_rfl
@[go_sem] theorem ti_26 : tinfo Try.prog 26 = some { size := 1, agg := false, bytes := 24, zero := [Value.slice none 0 0], fields := [], elem := 28, kind := 3 } := by kernel_rfl
@[go_sem] theorem tk_26 : tk Try.prog 26 = 3 := by kernel_rfl
@[go_sem] theorem tint_26 : tint Try.prog 26 = none := by kernel_rfl
@[go_sem] theorem es_26 : aesz Try.prog 26 = 9 := by kernel_rfl
@[go_sem] theorem ti_28 : tinfo Try.prog 28 = some { size := 9, agg := true, bytes := 128, zero := [Value.int IntKind.i64 0, Value.string { data := { toList := [] } }, Value.int IntKind.i64 0, Value.int IntKind.i64 0, Value.slice none 0 0, Value.int IntKind.i64 0, Value.slice none 0 0, Value.int IntKind.i64 0, Value.slice none 0 0], fields := [(0, 1, false), (1, 1, false), (2, 1, false), (3, 2, true), (5, 2, true), (7, 1, false), (8, 1, false)], elem := 0, kind := 1 } := by kernel_rfl
@[go_sem] theorem tk_28 : tk Try.prog 28 = 1 := by kernel_rfl
@[go_sem] theorem tint_28 : tint Try.prog 28 = none := by kernel_rfl
@[go_sem] theorem ar_28 : aarr Try.prog 28 = none := by kernel_rfl
@[go_sem] theorem ti_33 : tinfo Try.prog 33 = some { size := 1, agg := false, bytes := 8, zero := [Value.nilFunc], fields := [], elem := 0, kind := 0 } := by kernel_rfl
@[go_sem] theorem tk_33 : tk Try.prog 33 = 0 := by kernel_rfl
@[go_sem] theorem tint_33 : tint Try.prog 33 = none := by kernel_rfl
@[go_sem] theorem ti_35 : tinfo Try.prog 35 = some { size := 1, agg := false, bytes := 24, zero := [Value.slice none 0 0], fields := [], elem := 37, kind := 3 } := by kernel_rfl
@[go_sem] theorem tk_35 : tk Try.prog 35 = 3 := by kernel_rfl
@[go_sem] theorem tint_35 : tint Try.prog 35 = none := by kernel_rfl
@[go_sem] theorem es_35 : aesz Try.prog 35 = 2 := by kernel_rfl
@[go_sem] theorem ti_37 : tinfo Try.prog 37 = some { size := 2, agg := true, bytes := 32, zero := [Value.int IntKind.i64 0, Value.slice none 0 0], fields := [(0, 1, false), (1, 1, false)], elem := 0, kind := 1 } := by kernel_rfl
@[go_sem] theorem tk_37 : tk Try.prog 37 = 1 := by kernel_rfl
@[go_sem] theorem tint_37 : tint Try.prog 37 = none := by kernel_rfl
@[go_sem] theorem ar_37 : aarr Try.prog 37 = none := by kernel_rfl
@[go_sem] theorem ti_38 : tinfo Try.prog 38 = some { size := 1, agg := false, bytes := 24, zero := [Value.slice none 0 0], fields := [], elem := 40, kind := 3 } := by kernel_rfl
@[go_sem] theorem tk_38 : tk Try.prog 38 = 3 := by kernel_rfl
@[go_sem] theorem tint_38 : tint Try.prog 38 = none := by kernel_rfl
@[go_sem] theorem es_38 : aesz Try.prog 38 = 9 := by kernel_rfl
@[go_sem] theorem ti_40 : tinfo Try.prog 40 = some { size := 9, agg := true, bytes := 128, zero := [Value.int IntKind.i64 0, Value.string { data := { toList := [] } }, Value.int IntKind.i64 0, Value.int IntKind.i64 0, Value.slice none 0 0, Value.int IntKind.i64 0, Value.slice none 0 0, Value.int IntKind.i64 0, Value.slice none 0 0], fields := [(0, 1, false), (1, 1, false), (2, 1, false), (3, 2, true), (5, 2, true), (7, 1, false), (8, 1, false)], elem := 0, kind := 1 } := by kernel_rfl
@[go_sem] theorem tk_40 : tk Try.prog 40 = 1 := by kernel_rfl
@[go_sem] theorem tint_40 : tint Try.prog 40 = none := by kernel_rfl
@[go_sem] theorem ar_40 : aarr Try.prog 40 = none := by kernel_rfl
@[go_sem] theorem ti_48 : tinfo Try.prog 48 = some { size := 1, agg := false, bytes := 8, zero := [Value.nilFunc], fields := [], elem := 0, kind := 0 } := by kernel_rfl
@[go_sem] theorem tk_48 : tk Try.prog 48 = 0 := by kernel_rfl
@[go_sem] theorem tint_48 : tint Try.prog 48 = none := by kernel_rfl
@[go_sem] theorem ti_52 : tinfo Try.prog 52 = some { size := 1, agg := false, bytes := 8, zero := [Value.pointer none], fields := [], elem := 0, kind := 0 } := by kernel_rfl
@[go_sem] theorem tk_52 : tk Try.prog 52 = 0 := by kernel_rfl
@[go_sem] theorem tint_52 : tint Try.prog 52 = none := by kernel_rfl
@[go_sem] theorem ti_58 : tinfo Try.prog 58 = some { size := 1, agg := false, bytes := 8, zero := [Value.nilFunc], fields := [], elem := 0, kind := 0 } := by kernel_rfl
@[go_sem] theorem tk_58 : tk Try.prog 58 = 0 := by kernel_rfl
@[go_sem] theorem tint_58 : tint Try.prog 58 = none := by kernel_rfl
@[go_sem] theorem ti_63 : tinfo Try.prog 63 = some { size := 1, agg := false, bytes := 8, zero := [Value.nilFunc], fields := [], elem := 0, kind := 0 } := by kernel_rfl
@[go_sem] theorem tk_63 : tk Try.prog 63 = 0 := by kernel_rfl
@[go_sem] theorem tint_63 : tint Try.prog 63 = none := by kernel_rfl
@[go_sem] theorem ti_74 : tinfo Try.prog 74 = some { size := 1, agg := false, bytes := 8, zero := [Value.nilFunc], fields := [], elem := 0, kind := 0 } := by kernel_rfl
@[go_sem] theorem tk_74 : tk Try.prog 74 = 0 := by kernel_rfl
@[go_sem] theorem tint_74 : tint Try.prog 74 = none := by kernel_rfl
@[go_sem] theorem ti_79 : tinfo Try.prog 79 = some { size := 1, agg := false, bytes := 8, zero := [Value.pointer none], fields := [], elem := 0, kind := 0 } := by kernel_rfl
@[go_sem] theorem tk_79 : tk Try.prog 79 = 0 := by kernel_rfl
@[go_sem] theorem tint_79 : tint Try.prog 79 = none := by kernel_rfl
@[go_sem] theorem ti_83 : tinfo Try.prog 83 = some { size := 2, agg := true, bytes := 32, zero := [Value.slice none 0 0, Value.int IntKind.i64 0], fields := [(0, 1, false), (1, 1, false)], elem := 0, kind := 1 } := by kernel_rfl
@[go_sem] theorem tk_83 : tk Try.prog 83 = 1 := by kernel_rfl
@[go_sem] theorem tint_83 : tint Try.prog 83 = none := by kernel_rfl
@[go_sem] theorem ar_83 : aarr Try.prog 83 = none := by kernel_rfl
@[go_sem] theorem ti_87 : tinfo Try.prog 87 = some { size := 1, agg := false, bytes := 24, zero := [Value.slice none 0 0], fields := [], elem := 3, kind := 3 } := by kernel_rfl
@[go_sem] theorem tk_87 : tk Try.prog 87 = 3 := by kernel_rfl
@[go_sem] theorem tint_87 : tint Try.prog 87 = none := by kernel_rfl
@[go_sem] theorem es_87 : aesz Try.prog 87 = 1 := by kernel_rfl
@[go_sem] theorem ti_91 : tinfo Try.prog 91 = some { size := 1, agg := false, bytes := 24, zero := [Value.slice none 0 0], fields := [], elem := 9, kind := 3 } := by kernel_rfl
@[go_sem] theorem tk_91 : tk Try.prog 91 = 3 := by kernel_rfl
@[go_sem] theorem tint_91 : tint Try.prog 91 = none := by kernel_rfl
@[go_sem] theorem es_91 : aesz Try.prog 91 = 1 := by kernel_rfl
@[go_sem] theorem ti_99 : tinfo Try.prog 99 = some { size := 1, agg := false, bytes := 8, zero := [Value.nilFunc], fields := [], elem := 0, kind := 0 } := by kernel_rfl
@[go_sem] theorem tk_99 : tk Try.prog 99 = 0 := by kernel_rfl
@[go_sem] theorem tint_99 : tint Try.prog 99 = none := by kernel_rfl
@[go_sem] theorem ti_113 : tinfo Try.prog 113 = some { size := 1, agg := false, bytes := 24, zero := [Value.slice none 0 0], fields := [], elem := 116, kind := 3 } := by kernel_rfl
@[go_sem] theorem tk_113 : tk Try.prog 113 = 3 := by kernel_rfl
@[go_sem] theorem tint_113 : tint Try.prog 113 = none := by kernel_rfl
@[go_sem] theorem es_113 : aesz Try.prog 113 = 3 := by kernel_rfl
@[go_sem] theorem ti_116 : tinfo Try.prog 116 = some { size := 3, agg := true, bytes := 48, zero := [Value.string { data := { toList := [] } }, Value.int IntKind.i64 0, Value.slice none 0 0], fields := [(0, 1, false), (1, 2, true)], elem := 0, kind := 1 } := by kernel_rfl
@[go_sem] theorem tk_116 : tk Try.prog 116 = 1 := by kernel_rfl
@[go_sem] theorem tint_116 : tint Try.prog 116 = none := by kernel_rfl
@[go_sem] theorem ar_116 : aarr Try.prog 116 = none := by kernel_rfl
theorem follows : Try.prog.follows .mixedOrders = true := by kernel_rfl
theorem isfn_6 : IsFn Try.prog 6 := by intro args w; kernel_rfl
theorem isfn_11 : IsFn Try.prog 11 := by intro args w; kernel_rfl
theorem isfn_20 : IsFn Try.prog 20 := by intro args w; kernel_rfl
theorem isfn_21 : IsFn Try.prog 21 := by intro args w; kernel_rfl
theorem isfn_22 : IsFn Try.prog 22 := by intro args w; kernel_rfl
theorem isfn_23 : IsFn Try.prog 23 := by intro args w; kernel_rfl
theorem isfn_24 : IsFn Try.prog 24 := by intro args w; kernel_rfl
theorem isfn_29 : IsFn Try.prog 29 := by intro args w; kernel_rfl
theorem isfn_30 : IsFn Try.prog 30 := by intro args w; kernel_rfl
theorem isfn_31 : IsFn Try.prog 31 := by intro args w; kernel_rfl
theorem isfn_32 : IsFn Try.prog 32 := by intro args w; kernel_rfl
theorem isfn_36 : IsFn Try.prog 36 := by intro args w; kernel_rfl
theorem isfn_44 : IsFn Try.prog 44 := by intro args w; kernel_rfl
theorem isfn_45 : IsFn Try.prog 45 := by intro args w; kernel_rfl
theorem isfn_47 : IsFn Try.prog 47 := by intro args w; kernel_rfl
theorem isfn_48 : IsFn Try.prog 48 := by intro args w; kernel_rfl
theorem isfn_60 : IsFn Try.prog 60 := by intro args w; kernel_rfl
theorem isfn_64 : IsFn Try.prog 64 := by intro args w; kernel_rfl
theorem isfn_65 : IsFn Try.prog 65 := by intro args w; kernel_rfl
theorem isfn_66 : IsFn Try.prog 66 := by intro args w; kernel_rfl
theorem isfn_67 : IsFn Try.prog 67 := by intro args w; kernel_rfl
theorem isfn_68 : IsFn Try.prog 68 := by intro args w; kernel_rfl
theorem isfn_69 : IsFn Try.prog 69 := by intro args w; kernel_rfl
theorem isfn_71 : IsFn Try.prog 71 := by intro args w; kernel_rfl
theorem isfn_79 : IsFn Try.prog 79 := by intro args w; kernel_rfl
theorem isfn_80 : IsFn Try.prog 80 := by intro args w; kernel_rfl
theorem isfn_81 : IsFn Try.prog 81 := by intro args w; kernel_rfl
theorem isfn_82 : IsFn Try.prog 82 := by intro args w; kernel_rfl
theorem isfn_83 : IsFn Try.prog 83 := by intro args w; kernel_rfl
theorem isfn_84 : IsFn Try.prog 84 := by intro args w; kernel_rfl
theorem isfn_85 : IsFn Try.prog 85 := by intro args w; kernel_rfl
theorem isfn_86 : IsFn Try.prog 86 := by intro args w; kernel_rfl
theorem isfn_87 : IsFn Try.prog 87 := by intro args w; kernel_rfl
theorem isfn_88 : IsFn Try.prog 88 := by intro args w; kernel_rfl
theorem isfn_91 : IsFn Try.prog 91 := by intro args w; kernel_rfl
theorem isfn_92 : IsFn Try.prog 92 := by intro args w; kernel_rfl
theorem isfn_93 : IsFn Try.prog 93 := by intro args w; kernel_rfl
theorem isfn_95 : IsFn Try.prog 95 := by intro args w; kernel_rfl
theorem isfn_96 : IsFn Try.prog 96 := by intro args w; kernel_rfl
theorem isfn_98 : IsFn Try.prog 98 := by intro args w; kernel_rfl
theorem isfn_99 : IsFn Try.prog 99 := by intro args w; kernel_rfl
theorem isfn_103 : IsFn Try.prog 103 := by intro args w; kernel_rfl
theorem isfn_105 : IsFn Try.prog 105 := by intro args w; kernel_rfl
theorem isfn_106 : IsFn Try.prog 106 := by intro args w; kernel_rfl
theorem isfn_107 : IsFn Try.prog 107 := by intro args w; kernel_rfl
theorem isfn_108 : IsFn Try.prog 108 := by intro args w; kernel_rfl
theorem isfn_109 : IsFn Try.prog 109 := by intro args w; kernel_rfl
theorem isfn_110 : IsFn Try.prog 110 := by intro args w; kernel_rfl
theorem isfn_111 : IsFn Try.prog 111 := by intro args w; kernel_rfl
theorem isfn_112 : IsFn Try.prog 112 := by intro args w; kernel_rfl
theorem isfn_128 : IsFn Try.prog 128 := by intro args w; kernel_rfl
theorem isfn_129 : IsFn Try.prog 129 := by intro args w; kernel_rfl
theorem isfn_130 : IsFn Try.prog 130 := by intro args w; kernel_rfl
theorem isfn_131 : IsFn Try.prog 131 := by intro args w; kernel_rfl
theorem isfn_132 : IsFn Try.prog 132 := by intro args w; kernel_rfl
theorem isfn_133 : IsFn Try.prog 133 := by intro args w; kernel_rfl
theorem isfn_134 : IsFn Try.prog 134 := by intro args w; kernel_rfl
theorem isfn_135 : IsFn Try.prog 135 := by intro args w; kernel_rfl
theorem isfn_136 : IsFn Try.prog 136 := by intro args w; kernel_rfl
theorem isfn_137 : IsFn Try.prog 137 := by intro args w; kernel_rfl
theorem isfn_138 : IsFn Try.prog 138 := by intro args w; kernel_rfl
theorem isfn_139 : IsFn Try.prog 139 := by intro args w; kernel_rfl
theorem isfn_140 : IsFn Try.prog 140 := by intro args w; kernel_rfl
theorem isfn_141 : IsFn Try.prog 141 := by intro args w; kernel_rfl
theorem isfn_142 : IsFn Try.prog 142 := by intro args w; kernel_rfl
theorem isfn_143 : IsFn Try.prog 143 := by intro args w; kernel_rfl
theorem isfn_144 : IsFn Try.prog 144 := by intro args w; kernel_rfl
theorem isfn_145 : IsFn Try.prog 145 := by intro args w; kernel_rfl
theorem isfn_146 : IsFn Try.prog 146 := by intro args w; kernel_rfl
theorem isfn_147 : IsFn Try.prog 147 := by intro args w; kernel_rfl
theorem isfn_148 : IsFn Try.prog 148 := by intro args w; kernel_rfl
theorem isfn_149 : IsFn Try.prog 149 := by intro args w; kernel_rfl
theorem isfn_150 : IsFn Try.prog 150 := by intro args w; kernel_rfl
theorem isfn_151 : IsFn Try.prog 151 := by intro args w; kernel_rfl
theorem isfn_164 : IsFn Try.prog 164 := by intro args w; kernel_rfl
theorem isfn_165 : IsFn Try.prog 165 := by intro args w; kernel_rfl
theorem isfn_166 : IsFn Try.prog 166 := by intro args w; kernel_rfl
theorem isfn_167 : IsFn Try.prog 167 := by intro args w; kernel_rfl
theorem isfn_168 : IsFn Try.prog 168 := by intro args w; kernel_rfl
theorem isfn_169 : IsFn Try.prog 169 := by intro args w; kernel_rfl
theorem isfn_170 : IsFn Try.prog 170 := by intro args w; kernel_rfl
theorem isfn_171 : IsFn Try.prog 171 := by intro args w; kernel_rfl
theorem isfn_172 : IsFn Try.prog 172 := by intro args w; kernel_rfl
theorem isfn_173 : IsFn Try.prog 173 := by intro args w; kernel_rfl
theorem isfn_174 : IsFn Try.prog 174 := by intro args w; kernel_rfl
theorem isfn_175 : IsFn Try.prog 175 := by intro args w; kernel_rfl
theorem isfn_179 : IsFn Try.prog 179 := by intro args w; kernel_rfl
theorem isfn_180 : IsFn Try.prog 180 := by intro args w; kernel_rfl
theorem isfn_181 : IsFn Try.prog 181 := by intro args w; kernel_rfl
theorem isfn_182 : IsFn Try.prog 182 := by intro args w; kernel_rfl
theorem isfn_183 : IsFn Try.prog 183 := by intro args w; kernel_rfl
theorem isfn_184 : IsFn Try.prog 184 := by intro args w; kernel_rfl
theorem isfn_185 : IsFn Try.prog 185 := by intro args w; kernel_rfl
end Go.Proofs.Ytnaebafafhamjaa
namespace Go.Proofs.Ytnaebafafhamjaa
open Go.RowKit Go.Proofs.Sh
section
variable {N : Nat} {R : ASt → Prop}
theorem mxq0 {id : Nat} {l : List Oper} {k : List Sh.Item} {s : ASt} (ms : List Nat) (h : WM Try.prog N ⟨0, s.h, ms, l⟩ R k (mrun Try.prog ⟨0, s.h, ms, l⟩ l [] true s)) (hB : mixOK loudOp readOp 0 l.toArray = true := by decide +kernel) (hmut : ms.all (fun b => match s.h[b]? with | some k => k.st.isMut | none => false) = true := by simp only [go_sem]; first | done | rfl) : WD Try.prog N R (.drawn id l k s) :=
  wd_mix 0 ms follows hB hmut h
theorem mxq1 {id : Nat} {l : List Oper} {k : List Sh.Item} {s : ASt} (ms : List Nat) (h : WM Try.prog N ⟨1, s.h, ms, l⟩ R k (mrun Try.prog ⟨1, s.h, ms, l⟩ l [] true s)) (hB : mixOK loudOp readOp 1 l.toArray = true := by decide +kernel) (hmut : ms.all (fun b => match s.h[b]? with | some k => k.st.isMut | none => false) = true := by simp only [go_sem]; first | done | rfl) : WD Try.prog N R (.drawn id l k s) :=
  wd_mix 1 ms follows hB hmut h
theorem mxq2 {id : Nat} {l : List Oper} {k : List Sh.Item} {s : ASt} (ms : List Nat) (h : WM Try.prog N ⟨2, s.h, ms, l⟩ R k (mrun Try.prog ⟨2, s.h, ms, l⟩ l [] true s)) (hB : mixOK loudOp readOp 2 l.toArray = true := by decide +kernel) (hmut : ms.all (fun b => match s.h[b]? with | some k => k.st.isMut | none => false) = true := by simp only [go_sem]; first | done | rfl) : WD Try.prog N R (.drawn id l k s) :=
  wd_mix 2 ms follows hB hmut h
theorem mxq3 {id : Nat} {l : List Oper} {k : List Sh.Item} {s : ASt} (ms : List Nat) (h : WM Try.prog N ⟨3, s.h, ms, l⟩ R k (mrun Try.prog ⟨3, s.h, ms, l⟩ l [] true s)) (hB : mixOK loudOp readOp 3 l.toArray = true := by decide +kernel) (hmut : ms.all (fun b => match s.h[b]? with | some k => k.st.isMut | none => false) = true := by simp only [go_sem]; first | done | rfl) : WD Try.prog N R (.drawn id l k s) :=
  wd_mix 3 ms follows hB hmut h
theorem mxq4 {id : Nat} {l : List Oper} {k : List Sh.Item} {s : ASt} (ms : List Nat) (h : WM Try.prog N ⟨4, s.h, ms, l⟩ R k (mrun Try.prog ⟨4, s.h, ms, l⟩ l [] true s)) (hB : mixOK loudOp readOp 4 l.toArray = true := by decide +kernel) (hmut : ms.all (fun b => match s.h[b]? with | some k => k.st.isMut | none => false) = true := by simp only [go_sem]; first | done | rfl) : WD Try.prog N R (.drawn id l k s) :=
  wd_mix 4 ms follows hB hmut h
theorem mxq5 {id : Nat} {l : List Oper} {k : List Sh.Item} {s : ASt} (ms : List Nat) (h : WM Try.prog N ⟨5, s.h, ms, l⟩ R k (mrun Try.prog ⟨5, s.h, ms, l⟩ l [] true s)) (hB : mixOK loudOp readOp 5 l.toArray = true := by decide +kernel) (hmut : ms.all (fun b => match s.h[b]? with | some k => k.st.isMut | none => false) = true := by simp only [go_sem]; first | done | rfl) : WD Try.prog N R (.drawn id l k s) :=
  wd_mix 5 ms follows hB hmut h
theorem mxq6 {id : Nat} {l : List Oper} {k : List Sh.Item} {s : ASt} (ms : List Nat) (h : WM Try.prog N ⟨6, s.h, ms, l⟩ R k (mrun Try.prog ⟨6, s.h, ms, l⟩ l [] true s)) (hB : mixOK loudOp readOp 6 l.toArray = true := by decide +kernel) (hmut : ms.all (fun b => match s.h[b]? with | some k => k.st.isMut | none => false) = true := by simp only [go_sem]; first | done | rfl) : WD Try.prog N R (.drawn id l k s) :=
  wd_mix 6 ms follows hB hmut h
end
end Go.Proofs.Ytnaebafafhamjaa
/- Terms: equality and search of lists, on shadows. -/
namespace Go.Proofs.Sh
open Go.Proofs.Grad
def teall2 (f : Tm → Tm → Bool) : List Tm → List Tm → Bool
  | [], [] => true
  | a :: l, b :: m => f a b && teall2 f l m
  | _, _ => false
theorem teall2_kid {f : Tm → Tm → Bool} {a b : List Tm} {i : Nat} (ha : i < a.length) (hb : i < b.length) : teall2 f (a.drop i) (b.drop i) = (f (teKid a i) (teKid b i) && teall2 f (a.drop (i + 1)) (b.drop (i + 1))) := by
  rw [tedrop_kid ha, tedrop_kid hb]; rfl
theorem teall2_end {f : Tm → Tm → Bool} {a b : List Tm} {i : Nat} (ha : ¬ i < a.length) (hb : a.length = b.length) : teall2 f (a.drop i) (b.drop i) = true := by
  rw [List.drop_eq_nil_of_le (by omega), List.drop_eq_nil_of_le (by omega)]; rfl
theorem teall2_len {f : Tm → Tm → Bool} : ∀ {a b : List Tm}, a.length ≠ b.length → teall2 f a b = false
  | [], [], h => by simp at h
  | [], _ :: _, _ => rfl
  | _ :: _, [], _ => rfl
  | _ :: a, _ :: b, h => by simp only [teall2]; rw [teall2_len (by simpa using h)]; simp
theorem tesames_all2 : ∀ a b : List Tm, Tm.sames a b = teall2 Tm.same a b
  | [], [] => rfl
  | [], _ :: _ => rfl
  | _ :: _, [] => rfl
  | _ :: a, _ :: b => by simp only [Tm.sames, teall2, tesames_all2 a b]
end Go.Proofs.Sh
namespace Go.Proofs.Ytnaebafafhamjaa
open Go.RowKit Go.Proofs.Sh Go.Proofs.Grad
set_option maxRecDepth 100000
set_option maxHeartbeats 4000000
theorem teEqFunc (g : FuncId) (Q : Tm → Tm → Bool) (l m : List Tm) (hl : l.length < 4611686018427387904)
    (hg : ∀ k, k < l.length → k < m.length → AFn Try.prog g [.agg (teC (teKid l k)), .agg (teC (teKid m k))] (.one (.sc (.bool (Q (teKid l k) (teKid m k)))))) :
    AFn Try.prog 48 [.one (.sl (teR l)), .one (.sl (teR m)), .one (.fn g [])] (.one (.sc (.bool (teall2 Q l m)))) := by
  refine fn_in ?_; refine acl_in Try.func48 rfl isfn_48 (Nat.le_of_ble_eq_true rfl) (fun R hR => ?_); rw [Try.results48] at hR; refine wg_run ?_; (simp only [Try.f48, go_sem])
  repeat' (first | (((first | apply sp1 | apply sp2 | apply sp3 | apply sp4 | apply sp5 | apply sp6 | apply sp7) <;> intro hb) <;> (simp only [go_sem, hb])) | ((first | apply wm_done | apply wt_done | apply wg_run | refine fk ?_ ?_) <;> (simp only [go_sem])))
  · (refine hR _ (rat [] (hK := ⟨?_, rfl⟩)))
    rw [teall2_len]
    intro h; simp [h] at hb
  · have hlm : l.length = m.length := by simp at hb; omega
    clear hb
    refine wd_for [0, 1, 2, 15, 16, 17] (fun k => [.one (.sl (teR l)), .one (.sl (teR m)), .one (.fn g []), .one (.sl (teR l)), .one (.sc (.int .i64 l.length)), .one (.sc (.int .i64 (k : Nat)))]) (fun k => [])
      (fun k => k ≤ l.length ∧ teall2 Q (l.drop k) (m.drop k) = teall2 Q l m) (fun k => l.length - k) 0 ⟨Nat.zero_le _, rfl⟩ (hat [] (hI := ⟨rfl, rfl⟩)) ?_
    rintro k ⟨hk, hs⟩ G hG
    refine wg_run ?_
    (simp only [go_sem])
    ((first | apply sp1 | apply sp2 | apply sp3 | apply sp4 | apply sp5 | apply sp6 | apply sp7) <;> intro hb) <;> (simp only [go_sem, hb])
    · have hk1 : k < l.length := by have := of_decide_eq_true hb; omega
      have hk2 : decide ((k : Int) < (m.length : Int)) = true := by simp; omega
      rw [teall2_kid hk1 (by omega)] at hs
      have hw1 := wrap_succ hk1 (by omega)
      (simp only [go_sem, hk2])
      (first | refine cdq ?_ (hc := hg k hk1 (by omega)) | refine cmq ?_ (hc := hg k hk1 (by omega)) | refine ctq ?_ (hc := hg k hk1 (by omega))); (simp only [go_sem])
      repeat' (first | (simp only [go_sem, hw1]) | (((first | apply sp1 | apply sp2 | apply sp3 | apply sp4 | apply sp5 | apply sp6 | apply sp7) <;> intro hb) <;> (simp only [go_sem, hb, hw1])) | ((first | apply wm_done | apply wt_done | apply wg_run | refine fk ?_ ?_) <;> (simp only [go_sem, hw1])))
      · exact hG (k + 1) _ _ ⟨by omega, by simpa [hb] using hs⟩ (by omega) (hat [] (hI := ⟨rfl, rfl⟩))
      · (refine hR _ (rat [] (hK := ⟨?_, rfl⟩)))
        simpa [hb] using hs
    · have hk1 : ¬ k < l.length := by have := of_decide_eq_false hb; omega
      rw [teall2_end hk1 hlm] at hs
      (refine hR _ (rat [] (hK := ⟨?_, rfl⟩)))
      simpa using hs
end Go.Proofs.Ytnaebafafhamjaa
/- Types: the reference's functions, on shadows. -/
namespace Go.Proofs.Ytnaebafafhamjaa
open Go.RowKit Go.Proofs.Sh Go.Proofs.Grad
set_option maxRecDepth 100000
set_option maxHeartbeats 1000000
@[go_sem] theorem kind_mk (k : Int) (l : List Ty) : (Ty.mk k l).kind = k := rfl
@[go_sem] theorem kids_mk (k : Int) (l : List Ty) : (Ty.mk k l).kids = l := rfl
theorem l1Kids (k : Int) : AFn Try.prog 134 [.one (.sc (.int .i64 k))] (.one (.sc (.int .i64 (kidsN k)))) := by
  refine fn_in ?_; refine acl_in Try.func134 rfl isfn_134 (Nat.le_of_ble_eq_true rfl) (fun R hR => ?_); rw [Try.results134] at hR; refine wg_run ?_; (simp only [Try.f134, go_sem])
  repeat' (first | (((first | apply sp1 | apply sp2 | apply sp3 | apply sp4 | apply sp5 | apply sp6 | apply sp7) <;> intro hb) <;> (simp only [go_sem, hb])) | ((first | apply wm_done | apply wt_done | apply wg_run | refine fk ?_ ?_) <;> (simp only [go_sem])))
  all_goals (refine hR _ (rat [] (hK := ⟨?_, rfl⟩)))
  all_goals simp_all [kidsN]
@[go_sem] theorem kidsN_1 : kidsN 1 = 0 := rfl
@[go_sem] theorem kidsN_2 : kidsN 2 = 0 := rfl
@[go_sem] theorem kidsN_3 : kidsN 3 = 0 := rfl
@[go_sem] theorem kidsN_4 : kidsN 4 = 2 := rfl
@[go_sem] theorem kidsN_5 : kidsN 5 = 2 := rfl
theorem l1Shape (m : Nat) (hm : m ≤ 4) : ∀ t : Ty, AFn Try.prog 138 [.agg (tyC t), .one (.sc (.int .i64 m))] (.one (.sc (.bool (t.shape m)))) := by
  induction m with
  | zero =>
    intro t
    refine fn_in ?_; refine acl_in Try.func138 rfl isfn_138 (Nat.le_of_ble_eq_true rfl) (fun R hR => ?_); rw [Try.results138] at hR; refine wg_run ?_; (simp only [Try.f138, go_sem])
    (refine wd_mix 0 [] follows (by kernel_rfl) (by (simp only [go_sem]); first | done | rfl) ?_; (simp only [go_sem]))
    repeat' (first | (((first | apply sp1 | apply sp2 | apply sp3 | apply sp4 | apply sp5 | apply sp6 | apply sp7) <;> intro hb) <;> (simp only [go_sem, hb])) | ((first | apply wm_done | apply wt_done | apply wg_run | refine fk ?_ ?_) <;> (simp only [go_sem])))
    all_goals (refine hR _ (rat [] (hK := ⟨?_, rfl⟩)))
    all_goals rfl
  | succ m ih =>
    intro t
    have hd : decide ((((m + 1 : Nat) : Int) < 1)) = false := by simp; omega
    have hw : IntKind.i64.wrap (((m + 1 : Nat) : Int) - 1) = (m : Int) := by rw [IntWalk.i64_in _ (by omega)]; omega
    refine fn_in ?_; refine acl_in Try.func138 rfl isfn_138 (Nat.le_of_ble_eq_true rfl) (fun R hR => ?_); rw [Try.results138] at hR; refine wg_run ?_; (simp only [Try.f138, go_sem])
    (refine wd_mix 0 [] follows (by kernel_rfl) (by (simp only [go_sem]); first | done | rfl) ?_; (simp only [go_sem]))
    (simp only [go_sem, hd])
    (first | refine cdq ?_ (hc := l1Kids _) | refine cmq ?_ (hc := l1Kids _) | refine ctq ?_ (hc := l1Kids _)); (simp only [go_sem])
    repeat' (first | (((first | apply sp1 | apply sp2 | apply sp3 | apply sp4 | apply sp5 | apply sp6 | apply sp7) <;> intro hb) <;> (simp only [go_sem, hb])) | ((first | apply wm_done | apply wt_done | apply wg_run | refine fk ?_ ?_) <;> (simp only [go_sem])))
    · (refine hR _ (rat [] (hK := ⟨?_, rfl⟩)))
      simp_all [Ty.shape]
    · refine wd_for [1, 2, 5] (fun k => [.one (.sc (.int .i64 ((m + 1 : Nat) : Int))), .one (.ptr 2 0 0 0), .one (.sc (.int .i64 (k : Nat)))]) (fun k => [⟨2, 25, .mut, [tyC t]⟩])
        (fun k => k ≤ t.kids.length ∧ (t.kids.drop k).all (Ty.shape m) = t.shape (m + 1)) (fun k => t.kids.length - k) 0 ⟨Nat.zero_le _, ?_⟩ (hat [0] (hI := ⟨rfl, rfl⟩)) ?_
      · clear hR
        simp_all [Ty.shape]
      rintro k ⟨hk, hs⟩ G hG
      refine wg_run ?_
      (simp only [go_sem])
      have hl : t.kids.length < 3 := by simp [kidsN] at hb; split at hb <;> try split at hb
                                        all_goals omega
      ((first | apply sp1 | apply sp2 | apply sp3 | apply sp4 | apply sp5 | apply sp6 | apply sp7) <;> intro hb) <;> (simp only [go_sem, hb, hw])
      · have hk1 : k < t.kids.length := by have := of_decide_eq_true hb; omega
        rw [drop_kid hk1, List.all_cons] at hs
        have hw1 := wrap_succ hk1 (by omega)
        (first | refine cdq ?_ (hc := ih (by omega) _) | refine cmq ?_ (hc := ih (by omega) _) | refine ctq ?_ (hc := ih (by omega) _)); (simp only [go_sem])
        repeat' (first | (simp only [go_sem, hw1]) | (((first | apply sp1 | apply sp2 | apply sp3 | apply sp4 | apply sp5 | apply sp6 | apply sp7) <;> intro hb) <;> (simp only [go_sem, hb, hw1])) | ((first | apply wm_done | apply wt_done | apply wg_run | refine fk ?_ ?_) <;> (simp only [go_sem, hw1])))
        · exact hG (k + 1) _ _ ⟨by omega, by simpa [hb] using hs⟩ (by omega) (hat [0] (hI := ⟨rfl, rfl⟩))
        · (refine hR _ (rat [] (hK := ⟨?_, rfl⟩)))
          simpa [hb] using hs
      · have hk1 : ¬ k < t.kids.length := by have := of_decide_eq_false hb; omega
        rw [List.drop_eq_nil_of_le (by omega)] at hs
        (refine hR _ (rat [] (hK := ⟨?_, rfl⟩)))
        simpa using hs
theorem sValid (t : Ty) : AFn Try.prog 99 [.agg (tyC t)] (.one (.sc (.bool t.valid))) := by
  refine fn_in ?_; refine acl_in Try.func99 rfl isfn_99 (Nat.le_of_ble_eq_true rfl) (fun R hR => ?_); rw [Try.results99] at hR; refine wg_run ?_; (simp only [Try.f99, go_sem])
  repeat' (first | (first | (((first | apply sp1 | apply sp2 | apply sp3 | apply sp4 | apply sp5 | apply sp6 | apply sp7) <;> intro hb) <;> (simp only [go_sem, hb])) | ((first | apply wm_done | apply wt_done | apply wg_run | refine fk ?_ ?_) <;> (simp only [go_sem]))) | (first | refine cdq ?_ (hc := l1Shape 4 (by omega) _) | refine cmq ?_ (hc := l1Shape 4 (by omega) _) | refine ctq ?_ (hc := l1Shape 4 (by omega) _)); (simp only [go_sem]))
  (refine hR _ (rat [] (hK := ⟨?_, rfl⟩)))
  rfl
end Go.Proofs.Ytnaebafafhamjaa
/- Types: the program's checks, on shadows. -/
namespace Go.Proofs.Sh
open Go.Proofs.Grad
theorem all2_kid {f : Ty → Ty → Bool} {a b : List Ty} {i : Nat} (ha : i < a.length) (hb : i < b.length) : all2 f (a.drop i) (b.drop i) = (f (kid a i) (kid b i) && all2 f (a.drop (i + 1)) (b.drop (i + 1))) := by
  rw [all2_drop ha hb, kid_eq ha, kid_eq hb]
theorem all2_end {f : Ty → Ty → Bool} {a b : List Ty} {i : Nat} (ha : ¬ i < a.length) (hb : a.length = b.length) : all2 f (a.drop i) (b.drop i) = true := by
  rw [List.drop_eq_nil_of_le (by omega), List.drop_eq_nil_of_le (by omega)]; rfl
end Go.Proofs.Sh
namespace Go.Proofs.Ytnaebafafhamjaa
open Go.RowKit Go.Proofs.Sh Go.Proofs.Grad
set_option maxRecDepth 100000
set_option maxHeartbeats 4000000
theorem eqFunc (g : FuncId) (Q : Ty → Ty → Bool) (l m : List Ty) (hl : l.length < 4611686018427387904)
    (hg : ∀ k, k < l.length → k < m.length → AFn Try.prog g [.agg (tyC (kid l k)), .agg (tyC (kid m k))] (.one (.sc (.bool (Q (kid l k) (kid m k)))))) :
    AFn Try.prog 91 [.one (.sl (tyR l)), .one (.sl (tyR m)), .one (.fn g [])] (.one (.sc (.bool (all2 Q l m)))) := by
  refine fn_in ?_; refine acl_in Try.func91 rfl isfn_91 (Nat.le_of_ble_eq_true rfl) (fun R hR => ?_); rw [Try.results91] at hR; refine wg_run ?_; (simp only [Try.f91, go_sem])
  repeat' (first | (((first | apply sp1 | apply sp2 | apply sp3 | apply sp4 | apply sp5 | apply sp6 | apply sp7) <;> intro hb) <;> (simp only [go_sem, hb])) | ((first | apply wm_done | apply wt_done | apply wg_run | refine fk ?_ ?_) <;> (simp only [go_sem])))
  · (refine hR _ (rat [] (hK := ⟨?_, rfl⟩)))
    rw [all2_len]
    intro h; simp [h] at hb
  · have hlm : l.length = m.length := by simp at hb; omega
    clear hb
    refine wd_for [0, 1, 2, 15, 16, 17] (fun k => [.one (.sl (tyR l)), .one (.sl (tyR m)), .one (.fn g []), .one (.sl (tyR l)), .one (.sc (.int .i64 l.length)), .one (.sc (.int .i64 (k : Nat)))]) (fun k => [])
      (fun k => k ≤ l.length ∧ all2 Q (l.drop k) (m.drop k) = all2 Q l m) (fun k => l.length - k) 0 ⟨Nat.zero_le _, rfl⟩ (hat [] (hI := ⟨rfl, rfl⟩)) ?_
    rintro k ⟨hk, hs⟩ G hG
    refine wg_run ?_
    (simp only [go_sem])
    ((first | apply sp1 | apply sp2 | apply sp3 | apply sp4 | apply sp5 | apply sp6 | apply sp7) <;> intro hb) <;> (simp only [go_sem, hb])
    · have hk1 : k < l.length := by have := of_decide_eq_true hb; omega
      have hk2 : decide ((k : Int) < (m.length : Int)) = true := by simp; omega
      rw [all2_kid hk1 (by omega)] at hs
      have hw1 := wrap_succ hk1 (by omega)
      (simp only [go_sem, hk2])
      (first | refine cdq ?_ (hc := hg k hk1 (by omega)) | refine cmq ?_ (hc := hg k hk1 (by omega)) | refine ctq ?_ (hc := hg k hk1 (by omega))); (simp only [go_sem])
      repeat' (first | (simp only [go_sem, hw1]) | (((first | apply sp1 | apply sp2 | apply sp3 | apply sp4 | apply sp5 | apply sp6 | apply sp7) <;> intro hb) <;> (simp only [go_sem, hb, hw1])) | ((first | apply wm_done | apply wt_done | apply wg_run | refine fk ?_ ?_) <;> (simp only [go_sem, hw1])))
      · exact hG (k + 1) _ _ ⟨by omega, by simpa [hb] using hs⟩ (by omega) (hat [] (hI := ⟨rfl, rfl⟩))
      · (refine hR _ (rat [] (hK := ⟨?_, rfl⟩)))
        simpa [hb] using hs
    · have hk1 : ¬ k < l.length := by have := of_decide_eq_false hb; omega
      rw [all2_end hk1 hlm] at hs
      (refine hR _ (rat [] (hK := ⟨?_, rfl⟩)))
      simpa using hs
theorem iSame (n : Nat) (hn : n ≤ 4611686018427387904) : ∀ a b : Ty, a.size < n → AFn Try.prog 47 [.agg (tyC a), .agg (tyC b)] (.one (.sc (.bool (a.same b)))) := by
  induction n with
  | zero => intro a b h; omega
  | succ n ih =>
    intro a b h
    have hl : a.kids.length < 4611686018427387904 := by have := Ty.length_le_sizes a.kids; cases a; simp only [Ty.size, Ty.kids] at *; omega
    have hk : ∀ k, k < a.kids.length → k < b.kids.length → AFn Try.prog 47 [.agg (tyC (kid a.kids k)), .agg (tyC (kid b.kids k))] (.one (.sc (.bool ((kid a.kids k).same (kid b.kids k))))) := fun k h1 h2 => ih (by omega) _ _ (by have := kid_lt h1; omega)
    have hf := eqFunc _ Ty.same a.kids b.kids hl hk
    clear hk ih
    rw [Ty.same_eq, Ty.sames_all2]
    refine fn_in ?_; refine acl_in Try.func47 rfl isfn_47 (Nat.le_of_ble_eq_true rfl) (fun R hR => ?_); rw [Try.results47] at hR; refine wg_run ?_; (simp only [Try.f47, go_sem])
    repeat' (first | (first | (((first | apply sp1 | apply sp2 | apply sp3 | apply sp4 | apply sp5 | apply sp6 | apply sp7) <;> intro hb) <;> (simp only [go_sem, hb])) | ((first | apply wm_done | apply wt_done | apply wg_run | refine fk ?_ ?_) <;> (simp only [go_sem]))) | (first | refine cdq ?_ (hc := hf) | refine cmq ?_ (hc := hf) | refine ctq ?_ (hc := hf)); (simp only [go_sem]) | ((first | refine mxq6 [] ?_ | refine mxq5 [] ?_ | refine mxq4 [] ?_ | refine mxq3 [] ?_ | refine mxq2 [] ?_ | refine mxq1 [] ?_ | refine mxq0 [] ?_ | fail); (simp only [go_sem])))
    all_goals (refine hR _ (rat [] (hK := ⟨?_, rfl⟩)))
    all_goals simp_all
theorem iCons (n : Nat) (hn : n ≤ 4611686018427387904) : ∀ a b : Ty, a.size < n → AFn Try.prog 36 [.agg (tyC a), .agg (tyC b)] (.one (.sc (.bool (a.cons b)))) := by
  induction n with
  | zero => intro a b h; omega
  | succ n ih =>
    intro a b h
    have hl : a.kids.length < 4611686018427387904 := by have := Ty.length_le_sizes a.kids; cases a; simp only [Ty.size, Ty.kids] at *; omega
    have hk : ∀ k, k < a.kids.length → k < b.kids.length → AFn Try.prog 36 [.agg (tyC (kid a.kids k)), .agg (tyC (kid b.kids k))] (.one (.sc (.bool ((kid a.kids k).cons (kid b.kids k))))) := fun k h1 h2 => ih (by omega) _ _ (by have := kid_lt h1; omega)
    have hf := eqFunc _ Ty.cons a.kids b.kids hl hk
    clear hk ih
    rw [Ty.cons_eq]
    refine fn_in ?_; refine acl_in Try.func36 rfl isfn_36 (Nat.le_of_ble_eq_true rfl) (fun R hR => ?_); rw [Try.results36] at hR; refine wg_run ?_; (simp only [Try.f36, go_sem])
    repeat' (first | (first | (((first | apply sp1 | apply sp2 | apply sp3 | apply sp4 | apply sp5 | apply sp6 | apply sp7) <;> intro hb) <;> (simp only [go_sem, hb])) | ((first | apply wm_done | apply wt_done | apply wg_run | refine fk ?_ ?_) <;> (simp only [go_sem]))) | (first | refine cdq ?_ (hc := hf) | refine cmq ?_ (hc := hf) | refine ctq ?_ (hc := hf)); (simp only [go_sem]) | ((first | refine mxq6 [] ?_ | refine mxq5 [] ?_ | refine mxq4 [] ?_ | refine mxq3 [] ?_ | refine mxq2 [] ?_ | refine mxq1 [] ?_ | refine mxq0 [] ?_ | fail); (simp only [go_sem])))
    all_goals (refine hR _ (rat [] (hK := ⟨?_, rfl⟩)))
    all_goals simp_all
/-- the index of the first one, -1 for none -/
def idx (p : Ty → Bool) : Nat → List Ty → Int
  | _, [] => -1
  | k, t :: l => if p t then (k : Nat) else idx p (k + 1) l
theorem idx_any (p : Ty → Bool) : ∀ (l : List Ty) (k : Nat), decide (0 ≤ idx p k l) = l.any p
  | [], k => by simp [idx]
  | t :: l, k => by
    simp only [idx, List.any_cons]
    split
    · rename_i h; simp [h]
    · rename_i h; rw [idx_any p l (k + 1)]; simp [h]
theorem indexFunc1 (g : FuncId) (d : Int) (p : Ty → Bool) (l : List Ty) (hl : l.length < 4611686018427387904)
    (hg : ∀ k, k < l.length → ACl Try.prog g [.agg (tyC (kid l k)), .one (.ptr 1 0 0 0)] [⟨1, 3, .mut, [[.sc (.int .i64 d)]]⟩] (fun r H' => r = .one (.sc (.bool (p (kid l k)))) ∧ H' = [⟨1, 3, .mut, [[.sc (.int .i64 d)]]⟩])) :
    ACl Try.prog 185 [.one (.sl (tyR l)), .one (.fn g [.ptr 1 0 0 0])] [⟨1, 3, .mut, [[.sc (.int .i64 d)]]⟩] (fun r H' => r = .one (.sc (.int .i64 (idx p 0 l))) ∧ H' = [⟨1, 3, .mut, [[.sc (.int .i64 d)]]⟩]) := by
  refine acl_in Try.func185 rfl isfn_185 (Nat.le_of_ble_eq_true rfl) (fun R hR => ?_); rw [Try.results185] at hR; refine wg_run ?_; (simp only [Try.f185, go_sem])
  refine wd_for [0, 1, 7, 8] (fun k => [.one (.sl (tyR l)), .one (.fn g [.ptr 1 0 0 0]), .one (.sc (.int .i64 l.length)), .one (.sc (.int .i64 (k : Nat)))]) (fun k => [⟨1, 3, .mut, [[.sc (.int .i64 d)]]⟩])
      (fun k => k ≤ l.length ∧ idx p k (l.drop k) = idx p 0 l) (fun k => l.length - k) 0 ⟨Nat.zero_le _, rfl⟩ (hat [] (hI := ⟨rfl, rfl⟩)) ?_
  rintro k ⟨hk, hs⟩ G hG
  refine wg_run ?_
  (simp only [go_sem])
  ((first | apply sp1 | apply sp2 | apply sp3 | apply sp4 | apply sp5 | apply sp6 | apply sp7) <;> intro hb) <;> (simp only [go_sem, hb])
  · have hk1 : k < l.length := by have := of_decide_eq_true hb; omega
    rw [drop_kid hk1, idx] at hs
    have hw1 := wrap_succ hk1 (by omega)
    (first | refine kdq [0] ?_ (hc := hg k hk1) | refine kmq [0] ?_ (hc := hg k hk1) | refine ktq [0] ?_ (hc := hg k hk1)); rintro _ _ ⟨rfl, rfl⟩; (simp only [go_sem])
    repeat' (first | (simp only [go_sem, hw1]) | (((first | apply sp1 | apply sp2 | apply sp3 | apply sp4 | apply sp5 | apply sp6 | apply sp7) <;> intro hb) <;> (simp only [go_sem, hb, hw1])) | ((first | apply wm_done | apply wt_done | apply wg_run | refine fk ?_ ?_) <;> (simp only [go_sem, hw1])))
    · (refine hR _ (rat [] (hK := ⟨?_, ?_⟩)))
      · simpa [hb] using hs
      · rfl
    · exact hG (k + 1) _ _ ⟨by omega, by simpa [hb] using hs⟩ (by omega) (hat [] (hI := ⟨rfl, rfl⟩))
  · have hk1 : ¬ k < l.length := by have := of_decide_eq_false hb; omega
    rw [List.drop_eq_nil_of_le (by omega), idx] at hs
    (refine hR _ (rat [] (hK := ⟨?_, ?_⟩)))
    · rw [← hs]
    · rfl
theorem containsFunc1 (g : FuncId) (d : Int) (p : Ty → Bool) (l : List Ty) (hl : l.length < 4611686018427387904)
    (hg : ∀ k, k < l.length → ACl Try.prog g [.agg (tyC (kid l k)), .one (.ptr 1 0 0 0)] [⟨1, 3, .mut, [[.sc (.int .i64 d)]]⟩] (fun r H' => r = .one (.sc (.bool (p (kid l k)))) ∧ H' = [⟨1, 3, .mut, [[.sc (.int .i64 d)]]⟩])) :
    ACl Try.prog 182 [.one (.sl (tyR l)), .one (.fn g [.ptr 1 0 0 0])] [⟨1, 3, .mut, [[.sc (.int .i64 d)]]⟩] (fun r H' => r = .one (.sc (.bool (l.any p))) ∧ H' = [⟨1, 3, .mut, [[.sc (.int .i64 d)]]⟩]) := by
  have hi := indexFunc1 g d p l hl hg
  refine acl_in Try.func182 rfl isfn_182 (Nat.le_of_ble_eq_true rfl) (fun R hR => ?_); rw [Try.results182] at hR; refine wg_run ?_; (simp only [Try.f182, go_sem])
  (first | refine kdq [0] ?_ (hc := hi) | refine kmq [0] ?_ (hc := hi) | refine ktq [0] ?_ (hc := hi)); rintro _ _ ⟨rfl, rfl⟩; (simp only [go_sem])
  (refine hR _ (rat [] (hK := ⟨?_, ?_⟩)))
  · rw [← idx_any p l 0]
  · rfl
end Go.Proofs.Ytnaebafafhamjaa
