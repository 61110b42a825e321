/- Texts of the proof, one behind another. -/
import Derived.Test.YtjmicohbnpbemaaGreatKE13
import Derived.Test.YtjmicohbnpbemaaGreatKE21
set_option linter.unusedSimpArgs false
set_option linter.unusedVariables false
/- Steps of terms with casts: substitution, in the reference. On shadows. -/
namespace Go.Proofs.YtjmicohbnpbemaaGreat
open Go.RowKit Go.Proofs.Sh Go.Proofs.Grad
set_option maxRecDepth 100000
set_option maxHeartbeats 8000000
end Go.Proofs.YtjmicohbnpbemaaGreat
/- Steps of terms with casts: the rules, in the reference. On shadows. -/
namespace Go.Proofs.YtjmicohbnpbemaaGreat
open Go.RowKit Go.Proofs.Sh Go.Proofs.Grad
set_option maxRecDepth 100000
set_option maxHeartbeats 8000000
end Go.Proofs.YtjmicohbnpbemaaGreat
