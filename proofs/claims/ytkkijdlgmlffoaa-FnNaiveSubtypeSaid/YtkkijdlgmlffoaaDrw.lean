/- Worlds in which some blocks have turned; regions that draw beside them; the reference's reader. -/
import Derived.Test.YtkkijdlgmlffoaaMix
import Derived.Test.YtkkijdlgmlffoaaFill
import Derived.Test.YtkkijdlgmlffoaaTyp
namespace Go.Proofs.Grad
open Go.RowKit

/-- Outside the blocks of L the new world holds what the old one held; the streams are as they were. -/
structure Bel (L : List Nat) (w w' : World) : Prop where
  os : w'.os = w.os
  tape : w'.tape = w.tape
  output : w'.output = w.output
  size : w.heap.size ≤ w'.heap.size
  block : ∀ k, k < w.heap.size → k ∉ L → w'.heap[k]? = w.heap[k]?

theorem Bel.refl (L : List Nat) (w : World) : Bel L w w := ⟨rfl, rfl, rfl, Nat.le_refl _, fun _ _ _ => rfl⟩
theorem Bel.trans {L : List Nat} {a b c : World} (h : Bel L a b) (k : Bel L b c) : Bel L a c :=
  ⟨k.os.trans h.os, k.tape.trans h.tape, k.output.trans h.output, Nat.le_trans h.size k.size, fun i hi hl => (k.block i (Nat.lt_of_lt_of_le hi h.size) hl).trans (h.block i hi hl)⟩
theorem Bel.of_below {L : List Nat} {w w' : World} (h : Below w.heap.size w w') : Bel L w w' := ⟨h.os, h.tape, h.output, h.size, fun k hk _ => h.block k hk⟩
theorem Bel.of_ext {L : List Nat} {w w' : World} (h : Ext w w') : Bel L w w' := Bel.of_below h.below
theorem Bel.alloc {L : List Nat} {a w : World} (h : Bel L a w) (o : Obj) : Bel L a (w.alloc o) := h.trans (Bel.of_ext ((Ext.refl _).alloc o))
theorem Bel.drew {L : List Nat} {a w : World} (h : Bel L a w) : Bel L a w.drew := h.trans (Bel.of_ext (Ext.refl_drew _))
theorem Bel.setCell {L : List Nat} {a w : World} (h : Bel L a w) {p : Addr} (hp : p.block ∈ L ∨ a.heap.size ≤ p.block) (u : Value) : Bel L a (w.setCell p u) :=
  ⟨h.os, h.tape, h.output, by simpa [World.setCell] using h.size, fun k hk hl => by
    rw [Below.heap_setCell _ _ _ _ (fun e => by rcases hp with hp | hp; exact hl (e ▸ hp); omega)]; exact h.block k hk hl⟩
theorem Bel.keep {L : List Nat} {w w' : World} (h : Bel L w w') : Keep L w w' := ⟨h.size, fun b hb hlt => h.block b hlt hb⟩
theorem Bel.cell {L : List Nat} {w w' : World} (h : Bel L w w') {b o : Nat} {v : Value} (hb : b ∉ L) (hc : w.cell? ⟨b, o, none⟩ = some v) : w'.cell? ⟨b, o, none⟩ = some v := h.keep.cell hb hc
theorem Bel.below {B : Nat} {L : List Nat} {w w' : World} (h : Bel L w w') (hL : ∀ x ∈ L, B ≤ x) (hB : B ≤ w.heap.size) : Below B w w' :=
  ⟨h.os, h.tape, h.output, h.size, fun k hk => h.block k (by omega) (fun hm => by have := hL k hm; omega)⟩
theorem Bel.mono {L L' : List Nat} {w w' : World} (h : Bel L w w') (hL : ∀ x ∈ L, x ∈ L') : Bel L' w w' := ⟨h.os, h.tape, h.output, h.size, fun k hk hl => h.block k hk (fun hm => hl (hL k hm))⟩

def extL (L : List Nat) (w : World) (f : Nat → Obj) (tl : Array Obj) (d : Nat) : World := { w with heap := w.heap.mapIdx (fun i o => if i ∈ L then f i else o) ++ tl, drawn := d }

theorem extL_block (L : List Nat) (w : World) (f : Nat → Obj) (tl : Array Obj) (d : Nat) {b : Nat} (h : b < w.heap.size) (hb : b ∉ L) : (extL L w f tl d).heap[b]? = w.heap[b]? := by
  simp only [extL]
  rw [Array.getElem?_append_left (by simpa using h)]
  simp [Array.getElem?_mapIdx, h, hb]
theorem extL_cell (L : List Nat) (w : World) (f : Nat → Obj) (tl : Array Obj) (d : Nat) (b off : Nat) (hb : b ∉ L) (h : (w.cell? ⟨b, off, none⟩).isSome = true) : (extL L w f tl d).cell? ⟨b, off, none⟩ = w.cell? ⟨b, off, none⟩ := by
  obtain ⟨v, hv⟩ := Option.isSome_iff_exists.1 h
  exact World.cell?_of_block (extL_block L w f tl d (lt_of_cell hv) hb)
attribute [go_sem] extL_cell

theorem Bel.ext {L : List Nat} {w w' : World} (h : Bel L w w') : ∃ f tl d, w' = extL L w f tl d := by
  refine ⟨fun i => (w'.heap[i]?).getD default, w'.heap.extract w.heap.size w'.heap.size, w'.drawn, ?_⟩
  have hh : w'.heap = w.heap.mapIdx (fun i o => if i ∈ L then (w'.heap[i]?).getD default else o) ++ w'.heap.extract w.heap.size w'.heap.size := by
    apply Array.ext_getElem?
    intro i
    have := h.size
    rcases Nat.lt_or_ge i w.heap.size with hi | hi
    · rw [Array.getElem?_append_left (by simpa using hi)]
      by_cases hl : i ∈ L
      · simp [Array.getElem?_mapIdx, hi, hl, Array.getElem?_eq_getElem (show i < w'.heap.size by omega)]
      · rw [h.block i hi hl]; simp [Array.getElem?_mapIdx, hi, hl]
    · rw [Array.getElem?_append_right (by simpa using hi), Array.getElem?_extract]
      simp only [Array.size_mapIdx]
      rcases Nat.lt_or_ge i w'.heap.size with h2 | h2
      · rw [if_pos (by omega), show w.heap.size + (i - w.heap.size) = i from by omega]
      · rw [if_neg (by omega), Array.getElem?_eq_none h2]
  have h1 := h.os; have h2 := h.tape; have h3 := h.output
  cases w' with
  | mk heap tape drawn os output =>
    simp only [extL]
    simp only at hh h1 h2 h3
    rw [← hh]
    subst h1 h2 h3
    rfl

section
variable {P : Program} {Q : Exit → Act → World → Prop}
theorem region_mixL (L : List Nat) {id : Nat} {a : Act} {w : World} {l : List Oper} (f : Nat) (hm : P.follows .mixedOrders = true) (hB : mixOK loudOp readOp f l.toArray = true)
    (h : wpMix P l.toArray (Bel L w) loudOp readOp f Q l a w.drew) : (Code.region id l.toArray true).wp P Q a w :=
  wp_region_mix f hm hB ((Bel.refl _ _).drew) h

variable {ops : Array Oper} {a : Act} {w w0 : World} {rest : List Oper} {o : Oper} {f : Nat} {L : List Nat} {C : World → Prop}
theorem mixL_nil (h : Q .normal a w) : wpMix P ops C loudOp readOp f Q [] a w := by unfold wpMix; exact h

theorem mixL_free (hl : (!loudOp o && !readOp o) = true)
    (h : ∀ K : Act → Prop, (∀ a, wpMix P ops C loudOp readOp f Q rest a w → K a) →
      if Region.wanted o (yielded ops a.tmps) then ∃ v, (∀ w, (execOp a.eval o).run P w = .ok (.value v) w) ∧ K (a.put o.dst v) else K (a.put o.dst undef)) :
    wpMix P ops C loudOp readOp f Q (o :: rest) a w := by
  have := h _ (fun _ h => h)
  simp only [Bool.and_eq_true, Bool.not_eq_true'] at hl
  unfold wpMix
  split
  · rename_i hw
    rw [if_pos hw] at this
    rw [if_neg (by simp [hl.1])]
    obtain ⟨v, h1, h2⟩ := this
    exact ⟨v, fun w _ => h1 w, h2⟩
  · rename_i hw
    rw [if_neg hw] at this
    exact this

theorem mixL_read (hl : loudOp o = false) (hr : readOp o = true)
    (h : ∀ K : Act → Prop, (∀ a, wpMix P ops (Bel L w0) loudOp readOp f Q rest a w → K a) →
      if Region.wanted o (yielded ops a.tmps) then ∃ v, (∀ g tl d, (execOp a.eval o).run P (extL L w0 g tl d) = .ok (.value v) (extL L w0 g tl d)) ∧ K (a.put o.dst v) else K (a.put o.dst undef)) :
    wpMix P ops (Bel L w0) loudOp readOp f Q (o :: rest) a w := by
  have := h _ (fun _ h => h)
  unfold wpMix
  split
  · rename_i hw
    rw [if_pos hw] at this
    rw [if_neg (by simp [hl])]
    obtain ⟨v, h1, h2⟩ := this
    exact ⟨v, fun w hw => by simp only [Cls, hr, if_true] at hw; obtain ⟨g, tl, d, rfl⟩ := hw.ext; exact h1 g tl d, h2⟩
  · rename_i hw
    rw [if_neg hw] at this
    exact this

theorem mixL_skip (hw : Region.wanted o (yielded ops a.tmps) = false) (h : ∀ K : Act → Prop, (∀ a, wpMix P ops C loudOp readOp f Q rest a w → K a) → K (a.put o.dst undef)) :
    wpMix P ops C loudOp readOp f Q (o :: rest) a w := by
  unfold wpMix
  rw [if_neg (by simp [hw])]
  exact h _ (fun _ h => h)

theorem mixL_loud (hl : loudOp o = true)
    (h : ∀ (K : Act → World → Prop) (K' : Act → Prop), (∀ a w, C w → wpMix P ops C loudOp readOp f Q rest a w → K a w) → (∀ a, wpMix P ops C loudOp readOp f Q rest a w → K' a) →
      if Region.wanted o (yielded ops a.tmps) then o.wp P a w K QF else K' (a.put o.dst undef)) :
    wpMix P ops C loudOp readOp f Q (o :: rest) a w := by
  have := h (fun a' w' => C w' ∧ wpMix P ops C loudOp readOp f Q rest a' w') _ (fun _ _ h1 h2 => ⟨h1, h2⟩) (fun _ h => h)
  unfold wpMix
  by_cases hw : Region.wanted o (yielded ops a.tmps) = true
  · rw [if_pos hw] at this
    rw [if_pos hw, if_pos hl]
    exact Oper.wp_mono (fun a w hk => ⟨.inr hk.1, hk.2⟩) this
  · rw [if_neg hw] at this
    rw [if_neg hw]
    exact this

theorem mixL_last (hl : loudOp o = true) (hf : rest.length < f)
    (h : ∀ (K : Act → World → Prop) (K' : Act → Prop), (∀ a w, wpMix P ops C loudOp readOp f Q rest a w → K a w) → (∀ a, wpMix P ops C loudOp readOp f Q rest a w → K' a) →
      if Region.wanted o (yielded ops a.tmps) then o.wp P a w K QF else K' (a.put o.dst undef)) :
    wpMix P ops C loudOp readOp f Q (o :: rest) a w := by
  have := h (fun a' w' => wpMix P ops C loudOp readOp f Q rest a' w') _ (fun _ _ h => h) (fun _ h => h)
  unfold wpMix
  by_cases hw : Region.wanted o (yielded ops a.tmps) = true
  · rw [if_pos hw] at this
    rw [if_pos hw, if_pos hl]
    exact Oper.wp_mono (fun a w hk => ⟨.inl hf, hk⟩) this
  · rw [if_neg hw] at this
    rw [if_neg hw]
    exact this
end

/-- 'append(v, x)', x one element of ours, just laid, where other blocks below the base may have turned. -/
theorem wp_bldL {P : Program} {T : Nat → TypeId} {o : Oper} {a : Act} {K : Act → World → Prop} {Q : Exit → Act → World → Prop} {wc w1 : World} {base sz n bytes : Nat} {cs ds : List C} {v : Value} {ys : Array Value} (s x : Operand) (t : TypeId)
    (ho : o.op = .call { callee := .builtin .append, args := #[s, x], argTypes := #[t, t] }) (hT : RowTy P t (T sz) sz bytes) (hs : a.eval s = v)
    (hB : Bld T wc base sz n cs v) (hbase : base ≤ wc.heap.size) (hk : ∀ b, base ≤ b → b < wc.heap.size → w1.heap[b]? = wc.heap[b]?) (hsz1 : wc.heap.size ≤ w1.heap.size) (hN : New T wc w1 ds ys.toList) (hys : ys.size = sz) (h1 : ∀ u ∈ ys.toList, u.oneCell' = true)
    (hx : a.eval x = .slice (some ⟨w1.heap.size, 0, none⟩) 1 1) (hbytes : (n + 1) * bytes ≤ 140737488355328) (hbyt : 0 < bytes)
    (h : ∀ g cap w2, Bld T w2 base sz (n + 1) (cs ++ ds) (.slice (some ⟨g, 0, none⟩) (n + 1) cap) → Below base w1 w2 → K (a.put o.dst (.slice (some ⟨g, 0, none⟩) (n + 1) cap)) w2) :
    o.wp P a (w1.alloc (.cells ys (T sz))) K Q := by
  have hB1 : Bld T w1 base sz n cs v := hB.keep hk
  have hN1 : New T wc w1 ds ys.toList := hN
  obtain ⟨xs, G, r1, r2, r3, r4, r5⟩ := hB
  obtain ⟨F, f1, f2, f3⟩ := hN
  obtain ⟨ht, i, z, hi, hz, hsize, hby, hzs, hsz⟩ := hT
  have r1' : (w1.alloc (.cells ys (T sz))).ownsRow base (T sz) sz v n xs := ownsRow_keep (fun g hg => by
    have := r1.lt g hg
    rw [Below.heap_alloc _ _ _ (by omega), hk g this.1 this.2]) r1
  have hmax : n + 1 ≤ maxLen := by
    have : n + 1 ≤ (n + 1) * bytes := Nat.le_mul_of_pos_right _ hbyt
    simp only [maxLen]; omega
  refine wp_append_lies _ s x t ho base (T sz) i z sz bytes ht hi hz hsize hby hzs hsz v n xs hs r1' ⟨w1.heap.size, 0, none⟩ 1 1 ys.toList hx (by simp [hys]) ?_ h1 (by omega) hmax hbytes (by simp; omega) (w1.heap.size + 1) (by simp) ?_
  · exact World.news_of_block (B := w1.heap.size) (cs := ys) (t := T sz) (fr := (0, 0)) (heap_alloc_new w1 _)
  · intro g cap w2 q1 q2 q3 q4
    have hblk : ∀ b, b < w1.heap.size → v.ownBlock ≠ some b → w2.heap[b]? = w1.heap[b]? := fun b hb1 hb2 => by
      rw [q2.block b (by simp; omega) (fun e => hb2 e.symm), Below.heap_alloc _ _ _ hb1]
    have hown : ∀ g, v.ownBlock = some g → g < wc.heap.size := fun g hg => (r1.lt g hg).2
    refine h g cap w2 ⟨xs ++ ys.toList, G ++ F, q1, ?_, ?_, ?_, ?_⟩ ?_
    · refine C.owns_append (C.owns.keep (fun b hb1 => ?_) r2) (C.owns.keep (fun b hb1 => ?_) f1)
      · have hbc := C.owns.lt r2 b hb1
        rw [hblk b (by omega) (fun e => r5 b e hb1), hk b (r4 b hb1) hbc]
      · have hbc := C.owns.lt f1 b hb1
        have := f3 b hb1
        exact hblk b hbc (fun e => by have := hown b e; omega)
    · refine List.nodup_append.2 ⟨r3, f2, fun x hx y hy e => ?_⟩
      have := C.owns.lt r2 x hx; have := f3 y hy; omega
    · intro y hy
      rcases List.mem_append.1 hy with hy | hy
      · exact r4 y hy
      · have := f3 y hy; omega
    · intro g' hg' hmem
      simp only [Value.ownBlock, Option.some.injEq] at hg'
      subst hg'
      rcases q3 with q3 | q3
      · rcases List.mem_append.1 hmem with hm | hm
        · exact r5 g q3 hm
        · have := f3 g hm; have := hown g q3; omega
      · rcases List.mem_append.1 hmem with hm | hm
        · have := C.owns.lt r2 g hm; omega
        · have := C.owns.lt f1 g hm; omega
    · refine ⟨q2.os, q2.tape, q2.output, by have := q2.size; simp at this; omega, fun k hk1 => ?_⟩
      exact hblk k (by omega) (fun e => by have := (r1.lt k e).1; omega)

/-! ### The reader -/
def Rd (w : World) (r : Nat) (N : Nat) (T : TypeId) : Prop :=
  ∃ (q : Option Addr) (n c p : Nat), w.heap[r]? = some (.cells #[.slice q n c, .int .i64 (p : Int)] T (0, 0)) ∧ p ≤ N ∧ n ≤ 2000 ∧ n ≤ c ∧ c ≤ maxLen ∧
    ∀ i, i < n → ∃ b off, ∃ x : Int, q = some ⟨b, off, none⟩ ∧ b < r ∧ w.cell? ⟨b, off + i, none⟩ = some (.int .u8 x) ∧ 0 ≤ x ∧ x ≤ 255

theorem Rd.mono {w : World} {r N N' : Nat} {T : TypeId} (h : Rd w r N T) (hN : N ≤ N') : Rd w r N' T := by
  obtain ⟨q, n, c, p, h1, h2, h3⟩ := h
  exact ⟨q, n, c, p, h1, by omega, h3⟩
theorem Rd.keep {w w' : World} {r N : Nat} {T : TypeId} (h : Rd w r N T) (hb : Below w.heap.size w w') : Rd w' r N T := by
  obtain ⟨q, n, c, p, h1, h2, h3, h4, h5, h6⟩ := h
  refine ⟨q, n, c, p, by rw [hb.block r (lt_of_heap h1)]; exact h1, h2, h3, h4, h5, fun i hi => ?_⟩
  obtain ⟨b, off, x, g1, g2, g3, g4⟩ := h6 i hi
  exact ⟨b, off, x, g1, g2, by rw [hb.cell (p := ⟨b, off + i, none⟩) (lt_of_cell g3)]; exact g3, g4⟩
theorem Rd.lt {w : World} {r N : Nat} {T : TypeId} (h : Rd w r N T) : r < w.heap.size := by
  obtain ⟨q, n, c, p, h1, _⟩ := h
  exact lt_of_heap h1
theorem Rd.keepLe {w w' : World} {r N : Nat} {T : TypeId} (h : Rd w r N T) (k : ∀ b, b ≤ r → w'.heap[b]? = w.heap[b]?) : Rd w' r N T := by
  obtain ⟨q, n, c, p, h1, h2, h3, h4, h5, h6⟩ := h
  refine ⟨q, n, c, p, by rw [k r (Nat.le_refl _)]; exact h1, h2, h3, h4, h5, fun i hi => ?_⟩
  obtain ⟨b, off, x, g1, g2, g3, g4⟩ := h6 i hi
  exact ⟨b, off, x, g1, g2, by rw [World.cell?_of_block (w := w) (w' := w') (a := ⟨b, off + i, none⟩) (k b (by omega))]; exact g3, g4⟩
theorem Rd.setCell {w : World} {r N b o : Nat} {T : TypeId} (h : Rd w r N T) (hb : r < b) (u : Value) : Rd (w.setCell ⟨b, o, none⟩ u) r N T :=
  h.keepLe fun k hk => Below.heap_setCell _ _ _ _ (by simp; omega)
theorem Rd.below {w w' : World} {r N B : Nat} {T : TypeId} (h : Rd w r N T) (hb : Below B w w') (hB : r < B) : Rd w' r N T :=
  h.keepLe fun k hk => hb.block k (by omega)
end Go.Proofs.Grad
