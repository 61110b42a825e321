/- Texts of the proof, one behind another. -/
import Derived.Test.YtnaebafafhamjaaGreatKY15
import Derived.Test.YtnaebafafhamjaaGreatKY26
set_option linter.unusedSimpArgs false
set_option linter.unusedVariables false
/- Steps of terms with casts: substitution, in the reference. On shadows. -/
namespace Go.Proofs.YtnaebafafhamjaaGreat
open Go.RowKit Go.Proofs.Sh Go.Proofs.Grad
set_option maxRecDepth 100000
set_option maxHeartbeats 8000000
end Go.Proofs.YtnaebafafhamjaaGreat
/- Steps of terms with casts: the rules, in the reference. On shadows. -/
namespace Go.Proofs.YtnaebafafhamjaaGreat
open Go.RowKit Go.Proofs.Sh Go.Proofs.Grad
set_option maxRecDepth 100000
set_option maxHeartbeats 8000000
end Go.Proofs.YtnaebafafhamjaaGreat
