/- The plain laws, behind the validity checks. -/
import Derived.Test.YtkkijdlgmlffoaaOnT
import Derived.Test.YtkkijdlgmlffoaaPlw
namespace Go.Proofs.Grad

theorem onT_lift2 {R S V : T → T → Bool} (h : ∀ x y, R x y = (S x y && V x y)) (a b : Ty) : onT R a b = (onT S a b && onT V a b) := by
  by_cases ha : a.valid = true
  · by_cases hb : b.valid = true
    · obtain ⟨x, rfl, hx⟩ := (Ty.valid_iff a).1 ha
      obtain ⟨y, rfl, hy⟩ := (Ty.valid_iff b).1 hb
      rw [onT_ty _ hx hy, onT_ty _ hx hy, onT_ty _ hx hy, h]
    · rw [onT_and R, onT_and S, Bool.eq_false_iff.2 hb]; simp
  · rw [onT_and R, onT_and S, Bool.eq_false_iff.2 ha]; simp
theorem onT_sub_pn (a b : Ty) : onT T.sub a b = (onT T.pos a b && onT T.neg a b) := onT_lift2 T.sub_pn a b
theorem onT_sub_refl (a : Ty) : onT T.sub a a = a.valid := by
  by_cases ha : a.valid = true
  · obtain ⟨x, rfl, hx⟩ := (Ty.valid_iff a).1 ha
    rw [onT_ty _ hx hx, T.sub_refl, ha]
  · rw [onT_and, Bool.eq_false_iff.2 ha]; rfl
theorem onT_valid {R : T → T → Bool} {a b : Ty} (h : onT R a b = true) : a.valid = true ∧ b.valid = true := by
  rw [onT_and] at h; simp at h; exact ⟨h.1, h.2.1⟩
theorem onT_sub_trans {a b c : Ty} (h1 : onT T.sub a b = true) (h2 : onT T.sub b c = true) : onT T.sub a c = true := by
  obtain ⟨ha, hb⟩ := onT_valid h1
  obtain ⟨_, hc⟩ := onT_valid h2
  obtain ⟨x, rfl, hx⟩ := (Ty.valid_iff a).1 ha
  obtain ⟨y, rfl, hy⟩ := (Ty.valid_iff b).1 hb
  obtain ⟨z, rfl, hz⟩ := (Ty.valid_iff c).1 hc
  rw [onT_ty _ hx hy] at h1; rw [onT_ty _ hy hz] at h2; rw [onT_ty _ hx hz]
  exact T.sub_trans h1 h2
theorem onT_sub_cons {a b : Ty} (h1 : onT T.sub a b = true) : onT T.cons a b = true := by
  obtain ⟨ha, hb⟩ := onT_valid h1
  obtain ⟨x, rfl, hx⟩ := (Ty.valid_iff a).1 ha
  obtain ⟨y, rfl, hy⟩ := (Ty.valid_iff b).1 hb
  rw [onT_ty _ hx hy] at h1 ⊢
  exact T.sub_cons h1
end Go.Proofs.Grad
