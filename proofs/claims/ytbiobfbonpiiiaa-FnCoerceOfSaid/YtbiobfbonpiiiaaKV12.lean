/- Texts of the proof, one behind another. -/
import Derived.Test.YtbiobfbonpiiiaaKV11
set_option linter.unusedSimpArgs false
set_option linter.unusedVariables false
/- Coercions: copies and composition in the reference, on shadows. -/
namespace Go.Proofs.Ytbiobfbonpiiiaa
open Go.RowKit Go.Proofs.Sh Go.Proofs.Grad
set_option maxRecDepth 100000
set_option maxHeartbeats 4000000
theorem l6Id (g : Int) : AFn Try.prog 90 [.one (.sc (.int .i64 g))] (.agg (coC (K.id g).co)) := by
  refine fn_in ?_; refine acl_in Try.func90 rfl isfn_90 (Nat.le_of_ble_eq_true rfl) (fun R hR => ?_); rw [Try.results90] at hR; refine wg_run ?_; (simp only [Try.f90, go_sem])
  (refine hR _ (rat [] (hK := ⟨rfl, rfl⟩)))
end Go.Proofs.Ytbiobfbonpiiiaa
/- Coercions: composition in the reference, on shadows. -/
namespace Go.Proofs.Grad
def K.base : K → Bool
  | .id _ => true | .fn _ _ => true | .pr _ _ => true | .prj _ _ => true | _ => false
end Go.Proofs.Grad
namespace Go.Proofs.Ytbiobfbonpiiiaa
open Go.RowKit Go.Proofs.Sh Go.Proofs.Grad
set_option maxRecDepth 100000
set_option maxHeartbeats 4000000
end Go.Proofs.Ytbiobfbonpiiiaa
