/- Texts of the proof, one behind another. -/
import Derived.Test.YtbiobfbonpiiiaaKV10
import Derived.Test.YtbiobfbonpiiiaaKV14
import Derived.Test.YtbiobfbonpiiiaaKV15
import Derived.Test.YtbiobfbonpiiiaaKV16
set_option linter.unusedSimpArgs false
set_option linter.unusedVariables false
/- The reference's draws of types near a type, and of pairs, on shadows. -/
namespace Go.Proofs.Ytbiobfbonpiiiaa
open Go.RowKit Go.Proofs.Sh Go.Proofs.Grad
set_option maxRecDepth 100000
set_option maxHeartbeats 4000000
/-- two types, not too large -/
def Pair2 (r : AV) (H' : List Blk) : Prop := ∃ x y : Ty, r = .tup [.agg (tyC x), .agg (tyC y)] ∧ x.size ≤ 1000 ∧ y.size ≤ 1000 ∧ H' = []
/-- a code -/
structure Code8 (l : List Int) : Prop where
  len : l.length < 4611686018427387904
  all : ∀ k, 0 ≤ byte l k ∧ byte l k < 256
end Go.Proofs.Ytbiobfbonpiiiaa
/- The reference's draw of a type that is consistent with a type, on shadows. -/
namespace Go.Proofs.Grad
end Go.Proofs.Grad
namespace Go.Proofs.Ytbiobfbonpiiiaa
open Go.RowKit Go.Proofs.Sh Go.Proofs.Grad
set_option maxRecDepth 100000
set_option maxHeartbeats 4000000
end Go.Proofs.Ytbiobfbonpiiiaa
/- The reference's draws of coercions, on shadows. -/
namespace Go.Proofs.Ytbiobfbonpiiiaa
open Go.RowKit Go.Proofs.Sh Go.Proofs.Grad
set_option maxRecDepth 100000
set_option maxHeartbeats 8000000
end Go.Proofs.Ytbiobfbonpiiiaa
/- The reference's draws of coercions, sometimes made invalid. On shadows. -/
namespace Go.Proofs.Grad
theorem Co.length_le_sizes (l : List Co) : l.length ≤ Co.sizes l := by
  induction l with
  | nil => simp
  | cons x l ih => cases x; simp only [List.length_cons, Co.sizes, Co.size]; omega
end Go.Proofs.Grad
namespace Go.Proofs.Ytbiobfbonpiiiaa
open Go.RowKit Go.Proofs.Sh Go.Proofs.Grad
set_option maxRecDepth 100000
set_option maxHeartbeats 8000000
end Go.Proofs.Ytbiobfbonpiiiaa
/- The reference's draw of one coercion. On shadows. -/
namespace Go.Proofs.Ytbiobfbonpiiiaa
open Go.RowKit Go.Proofs.Sh Go.Proofs.Grad
set_option maxRecDepth 100000
set_option maxHeartbeats 8000000
end Go.Proofs.Ytbiobfbonpiiiaa
