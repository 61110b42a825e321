/- Texts of the proof, one behind another. -/
import Derived.Test.YtbiobfbonpiiiaaKW11
set_option linter.unusedSimpArgs false
set_option linter.unusedVariables false
/- Coercions: copies and composition in the reference, on shadows. -/
namespace Go.Proofs.Ytbiobfbonpiiiaa
open Go.RowKit Go.Proofs.Sh Go.Proofs.Grad
set_option maxRecDepth 100000
set_option maxHeartbeats 4000000
end Go.Proofs.Ytbiobfbonpiiiaa
/- Coercions: composition in the reference, on shadows. -/
namespace Go.Proofs.Grad
def K.base : K → Bool
  | .id _ => true | .fn _ _ => true | .pr _ _ => true | .prj _ _ => true | _ => false
end Go.Proofs.Grad
namespace Go.Proofs.Ytbiobfbonpiiiaa
open Go.RowKit Go.Proofs.Sh Go.Proofs.Grad
set_option maxRecDepth 100000
set_option maxHeartbeats 4000000
end Go.Proofs.Ytbiobfbonpiiiaa
