/- Texts of the proof, one behind another. -/
import Derived.Test.YtbiobfbonpiiiaaKW10
import Derived.Test.YtbiobfbonpiiiaaKW12
set_option linter.unusedSimpArgs false
set_option linter.unusedVariables false
/- Coercions: composition in the reference, whole. On shadows. -/
namespace Go.Proofs.Ytbiobfbonpiiiaa
open Go.RowKit Go.Proofs.Sh Go.Proofs.Grad
set_option maxRecDepth 100000
set_option maxHeartbeats 8000000
end Go.Proofs.Ytbiobfbonpiiiaa
/- Composition is associative. No program, no world. -/
namespace Go.Proofs.Grad
end Go.Proofs.Grad
