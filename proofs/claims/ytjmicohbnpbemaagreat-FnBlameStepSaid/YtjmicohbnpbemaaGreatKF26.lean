/- Texts of the proof, one behind another. -/
import Derived.Test.YtjmicohbnpbemaaGreatKF25
set_option linter.unusedSimpArgs false
set_option linter.unusedVariables false
/- Evaluation of terms with casts, in the program and in the reference. On shadows. -/
namespace Go.Proofs.Grad
end Go.Proofs.Grad
namespace Go.Proofs.YtjmicohbnpbemaaGreat
open Go.RowKit Go.Proofs.Sh Go.Proofs.Grad
set_option maxRecDepth 100000
set_option maxHeartbeats 8000000
end Go.Proofs.YtjmicohbnpbemaaGreat
/- StepCast and EvalCast at terms as they come. No program, no world. -/
namespace Go.Proofs.Grad
noncomputable def Tm.stepV (t : Tm) : SC := by
  classical
  exact if h : t.castV = true then (Classical.choose (Tm.castV_E h)).sc else .stuck
theorem Tm.stepV_E {e : E} (h : e.okC = true) : e.tm.stepV = e.sc := by
  have h' : e.tm.castV = true := by rw [E.castV_tm]; exact h
  unfold Tm.stepV
  rw [dif_pos h', E.tm_inj _ _ (Classical.choose_spec (Tm.castV_E h')).1]
theorem Tm.stepV_bad {t : Tm} (h : t.castV = false) : t.stepV = .stuck := by unfold Tm.stepV; rw [dif_neg (by simp [h])]
end Go.Proofs.Grad
/- StepCast and EvalCast at terms as they come, in the program and in the reference. On shadows. -/
namespace Go.Proofs.YtjmicohbnpbemaaGreat
open Go.RowKit Go.Proofs.Sh Go.Proofs.Grad
set_option maxRecDepth 100000
set_option maxHeartbeats 8000000
def ecT (r : SC) : AV := .tup [.agg (teC r.etm), .one (.sc (.int .i64 r.ecode)), .one (.sc (.int .i64 r.lab))]
theorem iStepV (t : Tm) : AFn Tryz.prog 21 [.agg (teC t)] (scT t.stepV) := by
  cases hc : t.castV
  · rw [Tm.stepV_bad hc]; exact iStepBad t hc
  · obtain ⟨e, rfl, ho⟩ := Tm.castV_E hc
    rw [Tm.stepV_E ho]; exact iStepCast e ho
theorem sStepV (t : Tm) (hz : t.size < 4611686018427387904) : AFn Tryz.prog 22 [.agg (teC t)] (scT t.stepV) := by
  cases hc : t.castV
  · rw [Tm.stepV_bad hc]; exact sStepBad t hc hz
  · obtain ⟨e, rfl, ho⟩ := Tm.castV_E hc
    rw [Tm.stepV_E ho]; exact sStepCast e ho
end Go.Proofs.YtjmicohbnpbemaaGreat
