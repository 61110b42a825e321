/- 'append(v, x)' to a slice of a finished tree. -/
import Derived.Test.YtkkijdlgmlffoaaDrw
namespace Go.Proofs.Grad
open Go.RowKit

theorem Fresh.bld {T : Nat → TypeId} {w0 w : World} {s n base : Nat} {cs : List C} {v : Value} (h : Fresh T w0 w (.sl s n cs) v) (hb : base ≤ w0.heap.size) : Bld T w base s n cs v := by
  obtain ⟨F, h1, h2, h3⟩ := h
  simp only [C.own] at h1
  rcases h1 with ⟨rfl, rfl, rfl, rfl⟩ | ⟨g, cap, cur, G, rfl, k1, k2, k3, k4, k5, rfl, k6⟩
  · exact Bld.start _ _ _ _
  · have hm : n * s ≤ cap * s := Nat.mul_le_mul_right _ k2
    refine ⟨cur.toList.take (n * s), G, ⟨by simp [k4, Nat.min_eq_left hm], .inr ⟨g, cap, cur, rfl, by have := h3 g (by simp); omega, k1, k2, k3, k4, rfl⟩⟩, k6, (List.nodup_cons.1 h2).2, fun x hx => by have := h3 x (by simp [hx]); omega, ?_⟩
    intro g' hg'
    simp [Value.ownBlock] at hg'
    subst hg'
    exact (List.nodup_cons.1 h2).1

/-- memory of a tree: its blocks lie between 'base' and 'top', or from 'new' on -/
def Own2 (T : Nat → TypeId) (base top new : Nat) (w : World) (c : C) (u : Value) : Prop := ∃ F, C.own T w c u F ∧ ∀ x ∈ F, (base ≤ x ∧ x < top) ∨ new ≤ x

theorem Own2.rep {T : Nat → TypeId} {base top new : Nat} {w : World} {c : C} {u : Value} {L : List Nat} (h : Own2 T base top new w c u) (hL : ∀ x ∈ L, x < new ∧ (x < base ∨ top ≤ x)) : C.rep L w c u := by
  obtain ⟨F, h1, h3⟩ := h
  exact C.own.rep (fun b hb hL' => by have := h3 b hb; have := hL b hL'; omega) h1

theorem wp_app {P : Program} {T : Nat → TypeId} {o : Oper} {a : Act} {K : Act → World → Prop} {Q : Exit → Act → World → Prop} {w0 wf wc w1 : World} {base sz n bytes : Nat} {cs ds : List C} {v : Value} {ys : Array Value} (s x : Operand) (t : TypeId) (hsz0 : 0 < sz)
    (ho : o.op = .call { callee := .builtin .append, args := #[s, x], argTypes := #[t, t] }) (hT : RowTy P t (T sz) sz bytes) (hs : a.eval s = v)
    (hF : Fresh T w0 wf (.sl sz n cs) v) (hbase : base ≤ w0.heap.size) (hbase2 : base ≤ wf.heap.size) (hk : ∀ b, base ≤ b → b < wf.heap.size → w1.heap[b]? = wf.heap[b]?) (hfc : wf.heap.size ≤ wc.heap.size) (hsz1 : wc.heap.size ≤ w1.heap.size) (hN : New T wc w1 ds ys.toList) (hys : ys.size = sz) (h1 : ∀ u ∈ ys.toList, u.oneCell' = true)
    (hx : a.eval x = .slice (some ⟨w1.heap.size, 0, none⟩) 1 1) (hbytes : (n + 1) * bytes ≤ 140737488355328) (hbyt : 0 < bytes)
    (h : ∀ g cap w2, Own2 T base wf.heap.size wc.heap.size w2 (.sl sz (n + 1) (cs ++ ds)) (.slice (some ⟨g, 0, none⟩) (n + 1) cap) → Below base w1 w2 → (∀ b, b < w1.heap.size → wf.heap.size ≤ b → w2.heap[b]? = w1.heap[b]?) → K (a.put o.dst (.slice (some ⟨g, 0, none⟩) (n + 1) cap)) w2) :
    o.wp P a (w1.alloc (.cells ys (T sz))) K Q := by
  obtain ⟨xs, G, r1, r2, r3, r4, r5⟩ := hF.bld hbase
  obtain ⟨F, f1, f2, f3⟩ := hN
  obtain ⟨ht, i, z, hi, hz, hsize, hby, hzs, hsz⟩ := hT
  have r1' : (w1.alloc (.cells ys (T sz))).ownsRow base (T sz) sz v n xs := ownsRow_keep (fun g hg => by
    have := r1.lt g hg
    rw [Below.heap_alloc _ _ _ (by omega), hk g this.1 this.2]) r1
  have hmax : n + 1 ≤ maxLen := by
    have : n + 1 ≤ (n + 1) * bytes := Nat.le_mul_of_pos_right _ hbyt
    simp only [maxLen]; omega
  refine wp_append_lies _ s x t ho base (T sz) i z sz bytes ht hi hz hsize hby hzs hsz v n xs hs r1' ⟨w1.heap.size, 0, none⟩ 1 1 ys.toList hx (by simp [hys]) ?_ h1 (by omega) hmax hbytes (by simp; omega) (w1.heap.size + 1) (by simp) ?_
  · exact World.news_of_block (B := w1.heap.size) (cs := ys) (t := T sz) (fr := (0, 0)) (heap_alloc_new w1 _)
  · intro g cap w2 q1 q2 q3 q4
    have hblk : ∀ b, b < w1.heap.size → v.ownBlock ≠ some b → w2.heap[b]? = w1.heap[b]? := fun b hb1 hb2 => by
      rw [q2.block b (by simp; omega) (fun e => hb2 e.symm), Below.heap_alloc _ _ _ hb1]
    have hown : ∀ g, v.ownBlock = some g → base ≤ g ∧ g < wf.heap.size := fun g hg => r1.lt g hg
    have hall : C.owns T w2 (cs ++ ds) (xs ++ ys.toList) (G ++ F) := by
      refine C.owns_append (C.owns.keep (fun b hb1 => ?_) r2) (C.owns.keep (fun b hb1 => ?_) f1)
      · have hbc := C.owns.lt r2 b hb1
        rw [hblk b (by omega) (fun e => r5 b e hb1), hk b (r4 b hb1) hbc]
      · have hbc := C.owns.lt f1 b hb1
        have := f3 b hb1
        exact hblk b hbc (fun e => by have := hown b e; omega)
    refine h g cap w2 ?_ ?_ (fun b h1 h2 => hblk b h1 (fun e => by have := hown b e; omega))
    · obtain ⟨F2, g1, g2⟩ := C.own_of_row hsz0 q1 hall
      refine ⟨F2, g1, fun y hy => ?_⟩
      rcases g2 with ⟨_, g3⟩ | ⟨g', g3, rfl, _⟩
      · simp at g3
      · simp only [Value.ownBlock, Option.some.injEq] at g3
        subst g3
        rcases List.mem_cons.1 hy with rfl | hy
        · rcases q3 with q3 | q3
          · exact .inl (hown _ q3)
          · right; omega
        · rcases List.mem_append.1 hy with hm | hm
          · exact .inl ⟨r4 y hm, C.owns.lt r2 y hm⟩
          · exact .inr (f3 y hm)
    · refine ⟨q2.os, q2.tape, q2.output, by have := q2.size; simp at this; omega, fun k hk1 => ?_⟩
      exact hblk k (by omega) (fun e => by have := (r1.lt k e).1; omega)
end Go.Proofs.Grad
