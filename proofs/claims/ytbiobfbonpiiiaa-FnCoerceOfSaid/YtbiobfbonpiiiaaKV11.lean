/- Texts of the proof, one behind another. -/
import Derived.Test.YtbiobfbonpiiiaaKV10
set_option linter.unusedSimpArgs false
set_option linter.unusedVariables false
/- Coercions: composition in the program, on shadows. -/
namespace Go.Proofs.Grad
end Go.Proofs.Grad
namespace Go.Proofs.Sh
open Go.Proofs.Grad
end Go.Proofs.Sh
namespace Go.Proofs.Ytbiobfbonpiiiaa
open Go.RowKit Go.Proofs.Sh Go.Proofs.Grad
set_option maxRecDepth 100000
set_option maxHeartbeats 4000000
end Go.Proofs.Ytbiobfbonpiiiaa
/- Coercions: copies; composition in the program, behind validity. On shadows. -/
namespace Go.Proofs.Grad
theorem K.size_depth (k : K) (d : Nat) (h : k.depth ≤ d) : k.size < 2 ^ d := by
  induction k generalizing d with
  | id g => simp only [K.depth, K.size] at *; exact Nat.one_lt_two_pow (by omega)
  | fail l g => simp only [K.depth, K.size] at *; exact Nat.one_lt_two_pow (by omega)
  | fn a b iha ihb | pr a b iha ihb =>
    simp only [K.depth, K.size] at *
    obtain ⟨d, rfl⟩ : ∃ e, d = e + 1 := ⟨d - 1, by omega⟩
    have := iha d (by omega); have := ihb d (by omega)
    rw [Nat.pow_succ]; omega
  | inj a ih =>
    simp only [K.depth, K.size] at *
    obtain ⟨d, rfl⟩ : ∃ e, d = e + 1 := ⟨d - 1, by omega⟩
    have := ih d (by omega)
    rw [Nat.pow_succ]; omega
  | prj l a ih =>
    simp only [K.depth, K.size] at *
    obtain ⟨d, rfl⟩ : ∃ e, d = e + 1 := ⟨d - 1, by omega⟩
    have := ih d (by omega)
    rw [Nat.pow_succ]; omega
theorem K.co_size (k : K) : k.co.size = k.size := by
  induction k with
  | id g => simp [K.co, Co.size, Co.sizes, K.size]
  | fail l g => simp [K.co, Co.size, Co.sizes, K.size]
  | fn a b iha ihb => simp only [K.co, Co.size, Co.sizes, K.size, iha, ihb]; omega
  | pr a b iha ihb => simp only [K.co, Co.size, Co.sizes, K.size, iha, ihb]; omega
  | inj a ih => simp only [K.co, Co.size, Co.sizes, K.size, ih]; omega
  | prj l a ih => simp only [K.co, Co.size, Co.sizes, K.size, ih]; omega
theorem K.co_inj : ∀ a b : K, a.co = b.co → a = b := by
  intro a
  induction a with
  | id g => intro b h; cases b <;> simp [K.co] at h; rw [h]
  | fail l g => intro b h; cases b <;> simp [K.co] at h; rw [h.1, h.2]
  | fn x y ihx ihy => intro b h; cases b <;> simp [K.co] at h; rw [ihx _ h.1, ihy _ h.2]
  | pr x y ihx ihy => intro b h; cases b <;> simp [K.co] at h; rw [ihx _ h.1, ihy _ h.2]
  | inj x ih => intro b h; cases b <;> simp [K.co] at h; rw [ih _ h]
  | prj l x ih => intro b h; cases b <;> simp [K.co] at h; rw [h.1, ih _ h.2]
/-- no coercion -/
def Co.zero : Co := .mk 0 0 0 []
/-- a valid one, or none -/
def K.ok (k : K) : Bool := k.wf && decide (k.depth ≤ 9)
theorem K.ok_valid (k : K) : k.co.valid = k.ok := K.shape_co k 9
def K.coO : Option K → Co
  | some k => k.co
  | none => Co.zero
end Go.Proofs.Grad
namespace Go.Proofs.Ytbiobfbonpiiiaa
open Go.RowKit Go.Proofs.Sh Go.Proofs.Grad
set_option maxRecDepth 100000
set_option maxHeartbeats 4000000
end Go.Proofs.Ytbiobfbonpiiiaa
/- Coercions: the reference's checks, on shadows. -/
namespace Go.Proofs.Ytbiobfbonpiiiaa
open Go.RowKit Go.Proofs.Sh Go.Proofs.Grad
set_option maxRecDepth 100000
set_option maxHeartbeats 4000000
end Go.Proofs.Ytbiobfbonpiiiaa
