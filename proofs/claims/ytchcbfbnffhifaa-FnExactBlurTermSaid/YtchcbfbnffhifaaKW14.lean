/- Texts of the proof, one behind another. -/
import Derived.Test.YtchcbfbnffhifaaKW9
import Derived.Test.YtchcbfbnffhifaaKW13
set_option linter.unusedSimpArgs false
set_option linter.unusedVariables false
/- Terms: slots, precision; on shadows. -/
namespace Go.Proofs.Grad
/-- the types of a valid term -/
noncomputable def Tm.typesV (t : Tm) : List Ty := match t.termV with | true => t.types | false => []
end Go.Proofs.Grad
namespace Go.Proofs.Ytchcbfbnffhifaa
open Go.RowKit Go.Proofs.Sh Go.Proofs.Grad
set_option maxRecDepth 100000
set_option maxHeartbeats 8000000
theorem sTermTypes (t : Tm) (h : t.size < 1099511627776) : AFn Try.prog 46 [.agg (teC t)] (.one (.sl (tyR t.typesV))) := by
  have hv := sTermV t (by omega)
  have hnl := t.nodes_le
  have hc := l2Types _ (Nat.le_refl _) t h [] (by simp) (by simp; omega)
  simp only [List.length_nil, List.nil_append, tyR] at hc
  unfold Tm.typesV
  cases hb : t.termV
  all_goals
    rw [hb] at hv
    refine fn_in ?_; refine acl_in Try.func46 rfl isfn_46 (Nat.le_of_ble_eq_true rfl) (fun R hR => ?_); rw [Try.results46] at hR; refine wg_run ?_; (simp only [Try.f46, go_sem])
    repeat' (first | (first | (((first | apply sp1 | apply sp2 | apply sp3 | apply sp4 | apply sp5 | apply sp6 | apply sp7) <;> intro hb) <;> (simp only [go_sem, hb])) | ((first | apply wm_done | apply wt_done | apply wg_run | refine fk ?_ ?_) <;> (simp only [go_sem]))) | (first | refine cdq ?_ (hc := hv) | refine cmq ?_ (hc := hv) | refine ctq ?_ (hc := hv)); (simp only [go_sem]) | ((first | refine kdq [1] ?_ (hc := hc) | refine kmq [1] ?_ (hc := hc) | refine ktq [1] ?_ (hc := hc)); rintro _ _ (⟨rfl, rfl⟩ | ⟨rfl, rfl⟩) <;> (simp only [go_sem])))
    all_goals (refine hR _ (rat [] (hK := ⟨?_, rfl⟩)))
    all_goals rfl
end Go.Proofs.Ytchcbfbnffhifaa
/- Terms: copies, and terms mapped; on shadows. -/
namespace Go.Proofs.Sh
open Go.Proofs.Grad
@[go_sem] theorem teC_apps (t : Tm) (l : List C) : teC t ++ l = .sc (.int .i64 (t.kind)) :: .sc (.string (t.name)) :: .sc (.int .i64 (t.num)) :: .sc (.int .i64 (t.type).kind) :: .sl (tyR (t.type).kids) :: .sc (.int .i64 (t.frm).kind) :: .sl (tyR (t.frm).kids) :: .sc (.int .i64 (t.label)) :: .sl (teR (t.kids)) :: l := by rw [teC_eq]; rfl
attribute [go_sem] List.getD_cons_zero List.getD_cons_succ List.getD_nil
end Go.Proofs.Sh
namespace Go.Proofs.Ytchcbfbnffhifaa
open Go.RowKit Go.Proofs.Sh Go.Proofs.Grad
set_option maxRecDepth 100000
set_option maxHeartbeats 8000000
end Go.Proofs.Ytchcbfbnffhifaa
/- Terms: terms mapped by a function, on shadows. -/
namespace Go.Proofs.Grad
theorem T.ty_small {t : T} (h : t.depth ≤ 4) : t.ty.size < 1000 := by
  have : ∀ (x : T) (d : Nat), x.depth ≤ d → d ≤ 4 → x.size < 2 ^ d := by
    intro x
    induction x with
    | any | int | bool => intro d h1 h2; simp only [T.depth, T.size] at *; exact Nat.one_lt_two_pow (by omega)
    | fn a b iha ihb | pr a b iha ihb =>
      intro d h1 h2
      simp only [T.depth, T.size] at *
      obtain ⟨d, rfl⟩ : ∃ e, d = e + 1 := ⟨d - 1, by omega⟩
      have := iha d (by omega) (by omega); have := ihb d (by omega) (by omega)
      rw [Nat.pow_succ]; omega
  have := this t 4 h (Nat.le_refl _)
  rw [T.ty_size]; omega
end Go.Proofs.Grad
namespace Go.Proofs.Ytchcbfbnffhifaa
open Go.RowKit Go.Proofs.Sh Go.Proofs.Grad
set_option maxRecDepth 100000
set_option maxHeartbeats 8000000
end Go.Proofs.Ytchcbfbnffhifaa
