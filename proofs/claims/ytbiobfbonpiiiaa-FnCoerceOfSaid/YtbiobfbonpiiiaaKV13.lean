/- Texts of the proof, one behind another. -/
import Derived.Test.YtbiobfbonpiiiaaKV10
import Derived.Test.YtbiobfbonpiiiaaKV12
set_option linter.unusedSimpArgs false
set_option linter.unusedVariables false
/- Coercions: composition in the reference, whole. On shadows. -/
namespace Go.Proofs.Ytbiobfbonpiiiaa
open Go.RowKit Go.Proofs.Sh Go.Proofs.Grad
set_option maxRecDepth 100000
set_option maxHeartbeats 8000000
end Go.Proofs.Ytbiobfbonpiiiaa
/- Composition is associative. No program, no world. -/
namespace Go.Proofs.Grad
theorem K.cases4 (a : K) : a.plain = true ∨ a = .id 1 ∨ (∃ c, a = .inj c) ∨ (∃ l c, a = .prj l c) ∨ (∃ l g, a = .fail l g) := by
  cases a <;> simp [K.plain]
  rename_i g; by_cases g = 1 <;> simp_all
end Go.Proofs.Grad
