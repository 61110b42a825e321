/- Regions that draw their order, on shadows. -/
import Derived.Test.YtkkijdlgmlffoaaShY
import Derived.Test.YtkkijdlgmlffoaaShMix
namespace Go.Proofs.Sh
open Go.RowKit

section
variable {P : Program}

/-- what an operation that only reckons yields depends on its operands alone -/
theorem aop_pure {s : ASt} {o : Oper} {v : AV} {h' : List Blk} (hl : loudOp o = false) (hr : readOp o = false) (e : aop P s o = .val v h') :
    h' = s.h ∧ ∀ (X μ : List Nat) (s0 : ASt) (a : Act) (w : World), SimF X μ s0 a w → (∀ x ∈ o.op.operands.toList, s0.eval x = s.eval x) → ∃ u, PureV P o a u ∧ AV.rep (X ++ alive μ s0.h) μ w v u := by
  unfold aop at e
  split at e
  · rename_i x ho; obtain ⟨e1, rfl⟩ := ares_val e
    exact ⟨rfl, fun X μ s0 a w hF hq => pure_move ho hF ((hq x (by simp [ho, Op.operands])).trans e1)⟩
  · rename_i x ho; obtain ⟨e1, rfl⟩ := ares_val e
    exact ⟨rfl, fun X μ s0 a w hF hq => pure_assign ho hF ((hq x (by simp [ho, Op.operands])).trans e1)⟩
  · rename_i c x y ho
    split at e
    · rename_i b v1 v2 h1 h2 h3
      injection e with e1 e2; subst e1 e2
      exact ⟨rfl, fun X μ s0 a w hF hq => pure_pick ho hF ((hq c (by simp [ho, Op.operands])).trans h1) ((hq x (by simp [ho, Op.operands])).trans h2) ((hq y (by simp [ho, Op.operands])).trans h3)⟩
    · cases e
  · rename_i t ho; simp [loudOp, ho] at hl
  · rename_i t x ho; simp [loudOp, ho] at hl
  · rename_i t parts ho; obtain ⟨e1, rfl⟩ := ares_val e
    refine ⟨rfl, fun X μ s0 a w hF hq => op_build ho hF ?_⟩
    rw [← e1]
    congr 1
    refine List.map_congr_left fun p hp => ?_
    rw [hq p.2 (by simp only [ho, Op.operands]; simp; exact ⟨p.1, by simpa using hp⟩)]
  · rename_i t len parts ho; simp [loudOp, ho] at hl
  · rename_i t x ho; simp [readOp, ho] at hr
  · rename_i t x y ho; simp [loudOp, ho] at hl
  · rename_i x ho
    split at e
    · rename_i hx; injection e with e1 e2; subst e1 e2; exact ⟨rfl, fun X μ s0 a w hF hq => pure_nilCheck ho hF ((hq x (by simp [ho, Op.operands])).trans hx) rfl⟩
    · rename_i hx; injection e with e1 e2; subst e1 e2; exact ⟨rfl, fun X μ s0 a w hF hq => pure_nilCheck ho hF ((hq x (by simp [ho, Op.operands])).trans hx) rfl⟩
    · rename_i hx; injection e with e1 e2; subst e1 e2; exact ⟨rfl, fun X μ s0 a w hF hq => pure_nilCheck ho hF ((hq x (by simp [ho, Op.operands])).trans hx) rfl⟩
    · cases e
  · rename_i op t x y t' ho
    obtain ⟨u1, u2, h1, h2, h3, rfl⟩ := ares2_val e
    exact ⟨rfl, fun X μ s0 a w hF hq => pure_bin ho hF ((hq x (by simp [ho, Op.operands])).trans h1) ((hq y (by simp [ho, Op.operands])).trans h2) h3⟩
  · rename_i op t x ho
    obtain ⟨u1, h1, h3, rfl⟩ := ares1_val e
    exact ⟨rfl, fun X μ s0 a w hF hq => pure_un ho hF ((hq x (by simp [ho, Op.operands])).trans h1) h3⟩
  · rename_i t t' x ho
    split at e
    · rename_i k' n k hx ht'
      split at e
      · rename_i ht; injection e with e1 e2; subst e1 e2; exact ⟨rfl, fun X μ s0 a w hF hq => pure_conv ho hF ((hq x (by simp [ho, Op.operands])).trans hx) ht ht'⟩
      · cases e
    · cases e
  · rename_i f first cs ho
    split at e
    · rename_i hf
      split at e
      · rename_i cc hcc; injection e with e1 e2; subst e1 e2
        refine ⟨rfl, fun X μ s0 a w hF hq => pure_makeFunc ho hF hf ?_⟩
        rw [← hcc]
        congr 1
        refine List.map_congr_left fun p hp => ?_
        rw [hq p (by simp only [ho, Op.operands]; simp; exact .inr (by simpa using hp))]
      · cases e
    · cases e
  · rename_i t l c ho; simp [loudOp, ho] at hl
  · rename_i t x lo hi ho
    obtain ⟨u1, h1, h3, rfl⟩ := ares1_val e
    refine ⟨rfl, fun X μ s0 a w hF hq => pure_slice ho hF ((hq x (by simp [ho, Op.operands])).trans h1) ?_⟩
    rw [← h3]
    congr 1
    · cases lo with
      | none => rfl
      | some o1 => simp only [Option.map_some]; rw [hq o1 (by simp [ho, Op.operands])]
    · cases hi with
      | none => rfl
      | some o1 => simp only [Option.map_some]; rw [hq o1 (by simp [ho, Op.operands])]
  · rename_i t x f ho
    obtain ⟨u1, h1, h3, rfl⟩ := ares1_val e
    exact ⟨rfl, fun X μ s0 a w hF hq => pure_fieldAddr ho hF ((hq x (by simp [ho, Op.operands])).trans h1) h3⟩
  · rename_i t x f ho
    obtain ⟨u1, h1, h3, rfl⟩ := ares1_val e
    exact ⟨rfl, fun X μ s0 a w hF hq => pure_field ho hF ((hq x (by simp [ho, Op.operands])).trans h1) h3⟩
  · rename_i t x i ho
    obtain ⟨u1, u2, h1, h2, h3, rfl⟩ := ares2_val e
    exact ⟨rfl, fun X μ s0 a w hF hq => pure_indexAddr ho hF ((hq x (by simp [ho, Op.operands])).trans h1) ((hq i (by simp [ho, Op.operands])).trans h2) h3⟩
  · rename_i x k ho
    split at e
    · rename_i vs hx; obtain ⟨e1, rfl⟩ := ares_val e
      exact ⟨rfl, fun X μ s0 a w hF hq => pure_extract ho hF ((hq x (by simp [ho, Op.operands])).trans hx) e1⟩
    · cases e
  · rename_i b args ts ho
    unfold abuiltin at e
    split at e
    · rename_i x t ha ht
      obtain ⟨u1, h1, h3, rfl⟩ := ares1_val e
      have ha' : args = #[x] := by rw [← Array.toArray_toList (xs := args), ha]
      have ht' : ts = #[t] := by rw [← Array.toArray_toList (xs := ts), ht]
      subst ha' ht'
      exact ⟨rfl, fun X μ s0 a w hF hq => pure_len ho hF ((hq x (by simp [ho, Op.operands, Call.operands])).trans h1) h3⟩
    · simp [loudOp, ho] at hl
    · cases e
  · exact absurd e call_ne_val
  · cases e
end
end Go.Proofs.Sh
