/- Relations on types that are valid. No program, no world. -/
import Derived.Test.YtkkijdlgmlffoaaPty
namespace Go.Proofs.Grad
open Classical in
/-- the relation, where both types are valid -/
noncomputable def onT (R : T → T → Bool) (a b : Ty) : Bool := decide (∃ x y : T, x.ty = a ∧ y.ty = b ∧ x.depth ≤ 4 ∧ y.depth ≤ 4 ∧ R x y = true)

open Classical in
theorem onT_ty (R : T → T → Bool) {x y : T} (hx : x.depth ≤ 4) (hy : y.depth ≤ 4) : onT R x.ty y.ty = R x y := by
  unfold onT
  rw [Bool.eq_iff_iff, decide_eq_true_iff]
  constructor
  · rintro ⟨x', y', h1, h2, _, _, h⟩
    rw [← T.ty_inj _ _ h1, ← T.ty_inj _ _ h2]; exact h
  · intro h; exact ⟨x, y, rfl, rfl, hx, hy, h⟩
open Classical in
theorem onT_off (R : T → T → Bool) {a b : Ty} (h : (a.valid && b.valid) = false) : onT R a b = false := by
  unfold onT
  rw [decide_eq_false_iff_not]
  rintro ⟨x, y, rfl, rfl, hx, hy, _⟩
  simp [Ty.valid, T.shape_ty, hx, hy] at h
theorem onT_and (R : T → T → Bool) (a b : Ty) : onT R a b = (a.valid && (b.valid && onT R a b)) := by
  cases ha : a.valid
  · rw [onT_off R (by simp [ha])]; rfl
  · cases hb : b.valid
    · rw [onT_off R (by simp [hb])]; rfl
    · rfl
end Go.Proofs.Grad
