/- Texts of the proof, one behind another. -/
import Derived.Test.YtnaebafafhamjaaGreatKY26
import Derived.Test.YtnaebafafhamjaaGreatKY28
import Derived.Test.YtnaebafafhamjaaGreatKY29
set_option linter.unusedSimpArgs false
set_option linter.unusedVariables false
/- Steps of terms with casts, in the reference. On shadows. -/
namespace Go.Proofs.YtnaebafafhamjaaGreat
open Go.RowKit Go.Proofs.Sh Go.Proofs.Grad
set_option maxRecDepth 100000
set_option maxHeartbeats 8000000
end Go.Proofs.YtnaebafafhamjaaGreat
/- Evaluation of terms with casts, in the program and in the reference. On shadows. -/
namespace Go.Proofs.YtnaebafafhamjaaGreat
open Go.RowKit Go.Proofs.Sh Go.Proofs.Grad
set_option maxRecDepth 100000
set_option maxHeartbeats 8000000
end Go.Proofs.YtnaebafafhamjaaGreat
/- Casts that are nested directly. No program, no world. -/
namespace Go.Proofs.Grad
end Go.Proofs.Grad
