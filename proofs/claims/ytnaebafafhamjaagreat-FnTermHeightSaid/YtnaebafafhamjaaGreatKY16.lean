/- Texts of the proof, one behind another. -/
import Derived.Test.YtnaebafafhamjaaGreatKY15
set_option linter.unusedSimpArgs false
set_option linter.unusedVariables false
/- Terms: terms mapped by a function, on shadows. -/
namespace Go.Proofs.Grad
theorem T.ty_small {t : T} (h : t.depth ≤ 4) : t.ty.size < 1000 := by
  have : ∀ (x : T) (d : Nat), x.depth ≤ d → d ≤ 4 → x.size < 2 ^ d := by
    intro x
    induction x with
    | any | int | bool => intro d h1 h2; simp only [T.depth, T.size] at *; exact Nat.one_lt_two_pow (by omega)
    | fn a b iha ihb | pr a b iha ihb =>
      intro d h1 h2
      simp only [T.depth, T.size] at *
      obtain ⟨d, rfl⟩ : ∃ e, d = e + 1 := ⟨d - 1, by omega⟩
      have := iha d (by omega) (by omega); have := ihb d (by omega) (by omega)
      rw [Nat.pow_succ]; omega
  have := this t 4 h (Nat.le_refl _)
  rw [T.ty_size]; omega
end Go.Proofs.Grad
namespace Go.Proofs.YtnaebafafhamjaaGreat
open Go.RowKit Go.Proofs.Sh Go.Proofs.Grad
set_option maxRecDepth 100000
set_option maxHeartbeats 8000000
theorem iOwnT {t : T} (h : t.depth ≤ 4) : AFn Tryz.prog 57 [.agg (tyC t.ty)] (.agg (tyC t.ty)) := iOwnTy 1000 (by omega) t.ty (T.ty_small h)
end Go.Proofs.YtnaebafafhamjaaGreat
