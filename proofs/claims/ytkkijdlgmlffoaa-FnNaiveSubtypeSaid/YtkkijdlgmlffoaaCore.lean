/- Trees in memory: cells that are scalars or slices of cells; their representation in a world, and its stability. No program in sight. -/
import Derived.WalkKit
import Derived.ProofKit
import Derived.Lib.Hide
import Derived.WalkSpells
import Derived.Deep.AppendLies
namespace Go.Proofs.Grad
open Go.RowKit

/-- A cell: a scalar value, or a slice of n elements of s cells each, which stand in a row. -/
inductive C where
  | sc (v : Value)
  | sl (s n : Nat) (cs : List C)

mutual
def C.rep (L : List Nat) (w : World) : C → Value → Prop
  | .sc v, u => u = v
  | .sl _ n cs, u => ∃ p cap, u = .slice p n cap ∧ n ≤ cap ∧ cap ≤ maxLen ∧ (cs = [] ∨ ∃ b off, p = some ⟨b, off, none⟩ ∧ b ∉ L ∧ C.reps L w cs b off)
def C.reps (L : List Nat) (w : World) : List C → Nat → Nat → Prop
  | [], _, _ => True
  | c :: cs, b, off => (∃ u, w.cell? ⟨b, off, none⟩ = some u ∧ C.rep L w c u) ∧ C.reps L w cs b (off + 1)
end

/-- Outside the blocks of L the new world holds what the old one held. -/
structure Keep (L : List Nat) (w w' : World) : Prop where
  size : w.heap.size ≤ w'.heap.size
  block : ∀ b, b ∉ L → b < w.heap.size → w'.heap[b]? = w.heap[b]?

theorem Keep.refl (L : List Nat) (w : World) : Keep L w w := ⟨Nat.le_refl _, fun _ _ _ => rfl⟩
theorem Keep.trans {L : List Nat} {a b c : World} (h : Keep L a b) (k : Keep L b c) : Keep L a c :=
  ⟨Nat.le_trans h.size k.size, fun x hx hl => (k.block x hx (Nat.lt_of_lt_of_le hl h.size)).trans (h.block x hx hl)⟩
theorem Keep.of_below {L : List Nat} {w w' : World} (h : Below w.heap.size w w') : Keep L w w' := ⟨h.size, fun b _ hb => h.block b hb⟩
theorem Keep.alloc (L : List Nat) (w : World) (o : Obj) : Keep L w (w.alloc o) :=
  ⟨by simp, fun b _ hb => Below.heap_alloc _ _ _ hb⟩
theorem Keep.drew (L : List Nat) (w : World) : Keep L w w.drew := ⟨Nat.le_refl _, fun _ _ _ => rfl⟩
theorem Keep.setCell {L : List Nat} {w : World} {p : Addr} (hp : p.block ∈ L) (u : Value) : Keep L w (w.setCell p u) :=
  ⟨by simp [World.setCell], fun b hb _ => Below.heap_setCell _ _ _ _ (fun e => hb (e ▸ hp))⟩

theorem lt_of_cell {w : World} {b off : Nat} {u : Value} (h : w.cell? ⟨b, off, none⟩ = some u) : b < w.heap.size := by
  rcases Nat.lt_or_ge b w.heap.size with h1 | h1
  · exact h1
  · simp [World.cell?, Array.getElem?_eq_none h1] at h

theorem Keep.cell {L : List Nat} {w w' : World} (h : Keep L w w') {b off : Nat} {u : Value} (hb : b ∉ L) (hc : w.cell? ⟨b, off, none⟩ = some u) : w'.cell? ⟨b, off, none⟩ = some u := by
  rw [World.cell?_of_block (w := w) (w' := w') (a := ⟨b, off, none⟩) (h.block b hb (lt_of_cell hc))]; exact hc

mutual
theorem C.rep.keep {L : List Nat} {w w' : World} (k : Keep L w w') : ∀ {c : C} {u : Value}, C.rep L w c u → C.rep L w' c u
  | .sc v, u, h => by simpa [C.rep] using h
  | .sl _ n cs, u, h => by
    obtain ⟨p, cap, e, h1, h2, h3⟩ := by simpa only [C.rep] using h
    simp only [C.rep]
    refine ⟨p, cap, e, h1, h2, ?_⟩
    rcases h3 with h3 | ⟨b, off, hp, hb, h3⟩
    · exact .inl h3
    · exact .inr ⟨b, off, hp, hb, C.reps.keep k hb h3⟩
theorem C.reps.keep {L : List Nat} {w w' : World} (k : Keep L w w') : ∀ {cs : List C} {b off : Nat}, b ∉ L → C.reps L w cs b off → C.reps L w' cs b off
  | [], _, _, _, _ => by simp [C.reps]
  | c :: cs, b, off, hb, h => by
    obtain ⟨⟨u, h1, h2⟩, h3⟩ := by simpa only [C.reps] using h
    simp only [C.reps]
    exact ⟨⟨u, k.cell hb h1, C.rep.keep k h2⟩, C.reps.keep k hb h3⟩
end

mutual
/-- A block that is not there yet lies under no tree. -/
theorem C.rep.fresh {L : List Nat} {w : World} {n : Nat} (hn : w.heap.size ≤ n) : ∀ {c : C} {u : Value}, C.rep L w c u → C.rep (n :: L) w c u
  | .sc v, u, h => by simpa [C.rep] using h
  | .sl _ m cs, u, h => by
    obtain ⟨p, cap, e, h1, h2, h3⟩ := by simpa only [C.rep] using h
    simp only [C.rep]
    refine ⟨p, cap, e, h1, h2, ?_⟩
    cases cs with
    | nil => exact .inl rfl
    | cons c cs =>
      rcases h3 with h3 | ⟨b, off, hp, hb, h3⟩
      · cases h3
      · refine .inr ⟨b, off, hp, ?_, C.reps.fresh hn h3⟩
        simp only [C.reps] at h3
        obtain ⟨⟨u, hu, _⟩, _⟩ := h3
        have := lt_of_cell hu
        simp only [List.mem_cons, not_or]
        exact ⟨by omega, hb⟩
theorem C.reps.fresh {L : List Nat} {w : World} {n : Nat} (hn : w.heap.size ≤ n) : ∀ {cs : List C} {b off : Nat}, C.reps L w cs b off → C.reps (n :: L) w cs b off
  | [], _, _, _ => by simp [C.reps]
  | c :: cs, b, off, h => by
    obtain ⟨⟨u, h1, h2⟩, h3⟩ := by simpa only [C.reps] using h
    simp only [C.reps]
    exact ⟨⟨u, h1, C.rep.fresh hn h2⟩, C.reps.fresh hn h3⟩
end

mutual
theorem C.rep.mono {L L' : List Nat} {w : World} (hL : ∀ x, x ∈ L' → x ∈ L) : ∀ {c : C} {u : Value}, C.rep L w c u → C.rep L' w c u
  | .sc v, u, h => by simpa [C.rep] using h
  | .sl _ m cs, u, h => by
    obtain ⟨p, cap, e, h1, h2, h3⟩ := by simpa only [C.rep] using h
    simp only [C.rep]
    refine ⟨p, cap, e, h1, h2, ?_⟩
    rcases h3 with h3 | ⟨b, off, hp, hb, h3⟩
    · exact .inl h3
    · exact .inr ⟨b, off, hp, fun hx => hb (hL _ hx), C.reps.mono hL h3⟩
theorem C.reps.mono {L L' : List Nat} {w : World} (hL : ∀ x, x ∈ L' → x ∈ L) : ∀ {cs : List C} {b off : Nat}, C.reps L w cs b off → C.reps L' w cs b off
  | [], _, _, _ => by simp [C.reps]
  | c :: cs, b, off, h => by
    obtain ⟨⟨u, h1, h2⟩, h3⟩ := by simpa only [C.reps] using h
    simp only [C.reps]
    exact ⟨⟨u, h1, C.rep.mono hL h2⟩, C.reps.mono hL h3⟩
end

theorem C.reps_append {L : List Nat} {w : World} {xs ys : List C} {b off : Nat} : C.reps L w (xs ++ ys) b off ↔ C.reps L w xs b off ∧ C.reps L w ys b (off + xs.length) := by
  induction xs generalizing off with
  | nil => simp [C.reps]
  | cons x xs ih =>
    simp only [List.cons_append, C.reps, ih, List.length_cons]
    rw [show off + 1 + xs.length = off + (xs.length + 1) from by omega, and_assoc]

/-- Elements of one size, one behind the other: element i stands at i times that size. -/
theorem C.reps_flat {α : Type} {L : List Nat} {w : World} {f : α → List C} {s : Nat} (hs : ∀ x, (f x).length = s) {l : List α} {b off : Nat} (h : C.reps L w (l.flatMap f) b off) {i : Nat} (hi : i < l.length) : C.reps L w (f l[i]) b (off + i * s) := by
  induction l generalizing off i with
  | nil => exact absurd hi (by simp)
  | cons x l ih =>
    simp only [List.flatMap_cons] at h
    rw [C.reps_append] at h
    cases i with
    | zero => simpa using h.1
    | succ i =>
      have := ih (off := off + (f x).length) (i := i) h.2 (by simpa using hi)
      rw [hs] at this
      simpa [show off + s + i * s = off + (i + 1) * s from by rw [Nat.succ_mul]; omega] using this


/-! ### Memory that a tree owns: each slice is a row of its own; F lists the rows' blocks. 'T s': the element type of the rows whose elements have s cells. -/
mutual
def C.own (T : Nat → TypeId) (w : World) : C → Value → List Nat → Prop
  | .sc v, u, F => u = v ∧ F = []
  | .sl s n cs, u, F => (u = .slice none 0 0 ∧ n = 0 ∧ cs = [] ∧ F = []) ∨
    ∃ g cap cur G, u = .slice (some ⟨g, 0, none⟩) n cap ∧ w.heap[g]? = some (.cells cur (T s) (0, 0)) ∧ n ≤ cap ∧ cap ≤ maxLen ∧ cur.size = cap * s ∧ cs.length = n * s ∧ F = g :: G ∧ C.owns T w cs (cur.toList.take (n * s)) G
def C.owns (T : Nat → TypeId) (w : World) : List C → List Value → List Nat → Prop
  | [], xs, F => xs = [] ∧ F = []
  | c :: cs, xs, F => ∃ x xs' G H, xs = x :: xs' ∧ C.own T w c x G ∧ C.owns T w cs xs' H ∧ F = G ++ H
end

mutual
theorem C.own.keep {T : Nat → TypeId} {w w' : World} : ∀ {c : C} {u : Value} {F : List Nat}, (∀ b ∈ F, w'.heap[b]? = w.heap[b]?) → C.own T w c u F → C.own T w' c u F
  | .sc v, u, F, _, h => by simpa [C.own] using h
  | .sl s n cs, u, F, k, h => by
    simp only [C.own] at h ⊢
    rcases h with h | ⟨g, cap, cur, G, h1, h2, h3, h4, h5, h5', rfl, h6⟩
    · exact .inl h
    · exact .inr ⟨g, cap, cur, G, h1, by rw [k g (by simp)]; exact h2, h3, h4, h5, h5', rfl, C.owns.keep (fun b hb => k b (by simp [hb])) h6⟩
theorem C.owns.keep {T : Nat → TypeId} {w w' : World} : ∀ {cs : List C} {xs : List Value} {F : List Nat}, (∀ b ∈ F, w'.heap[b]? = w.heap[b]?) → C.owns T w cs xs F → C.owns T w' cs xs F
  | [], xs, F, _, h => by simpa [C.owns] using h
  | c :: cs, xs, F, k, h => by
    simp only [C.owns] at h ⊢
    obtain ⟨x, xs', G, H, h1, h2, h3, rfl⟩ := h
    exact ⟨x, xs', G, H, h1, C.own.keep (fun b hb => k b (by simp [hb])) h2, C.owns.keep (fun b hb => k b (by simp [hb])) h3, rfl⟩
end

mutual
theorem C.own.lt {T : Nat → TypeId} {w : World} : ∀ {c : C} {u : Value} {F : List Nat}, C.own T w c u F → ∀ b ∈ F, b < w.heap.size
  | .sc v, u, F, h => by simp only [C.own] at h; simp [h.2]
  | .sl s n cs, u, F, h => by
    simp only [C.own] at h
    rcases h with h | ⟨g, cap, cur, G, h1, h2, h3, h4, h5, _, rfl, h6⟩
    · simp [h.2.2.2]
    · intro b hb
      rcases List.mem_cons.1 hb with rfl | hb
      · exact (Array.getElem?_eq_some_iff.1 h2).1
      · exact C.owns.lt h6 b hb
theorem C.owns.lt {T : Nat → TypeId} {w : World} : ∀ {cs : List C} {xs : List Value} {F : List Nat}, C.owns T w cs xs F → ∀ b ∈ F, b < w.heap.size
  | [], xs, F, h => by simp only [C.owns] at h; simp [h.2]
  | c :: cs, xs, F, h => by
    simp only [C.owns] at h
    obtain ⟨x, xs', G, H, h1, h2, h3, rfl⟩ := h
    intro b hb
    rcases List.mem_append.1 hb with hb | hb
    · exact C.own.lt h2 b hb
    · exact C.owns.lt h3 b hb
end

theorem C.owns.length {T : Nat → TypeId} {w : World} : ∀ {cs : List C} {xs : List Value} {F : List Nat}, C.owns T w cs xs F → xs.length = cs.length
  | [], xs, F, h => by simp only [C.owns] at h; simp [h.1]
  | c :: cs, xs, F, h => by
    simp only [C.owns] at h
    obtain ⟨x, xs', G, H, rfl, h2, h3, _⟩ := h
    simp [C.owns.length h3]

theorem C.owns_append {T : Nat → TypeId} {w : World} {cs ds : List C} {xs ys : List Value} {F G : List Nat} (h : C.owns T w cs xs F) (k : C.owns T w ds ys G) : C.owns T w (cs ++ ds) (xs ++ ys) (F ++ G) := by
  induction cs generalizing xs F with
  | nil => simp only [C.owns] at h; simpa [h.1, h.2] using k
  | cons c cs ih =>
    simp only [C.owns] at h
    obtain ⟨x, xs', G', H, rfl, h2, h3, rfl⟩ := h
    simp only [List.cons_append, C.owns]
    exact ⟨x, xs' ++ ys, G', H ++ G, rfl, h2, ih h3, by simp⟩

mutual
/-- What is owned is there to be read. -/
theorem C.own.rep {T : Nat → TypeId} {w : World} {L : List Nat} : ∀ {c : C} {u : Value} {F : List Nat}, (∀ b ∈ F, b ∉ L) → C.own T w c u F → C.rep L w c u
  | .sc v, u, F, _, h => by simp only [C.own] at h; simpa [C.rep] using h.1
  | .sl s n cs, u, F, k, h => by
    simp only [C.own] at h
    simp only [C.rep]
    rcases h with ⟨h1, h2, h3, _⟩ | ⟨g, cap, cur, G, h1, h2, h3, h4, h5, _, rfl, h6⟩
    · exact ⟨none, 0, by rw [h1, h2], by omega, by simp [maxLen], .inl h3⟩
    · refine ⟨_, cap, h1, h3, h4, .inr ⟨g, 0, rfl, k g (by simp), ?_⟩⟩
      refine C.owns.reps (fun b hb => k b (by simp [hb])) (fun j x hx => ?_) h6
      rw [List.getElem?_take] at hx
      split at hx
      · simp only [World.cell?, h2]; simpa using hx
      · cases hx
theorem C.owns.reps {T : Nat → TypeId} {w : World} {L : List Nat} : ∀ {cs : List C} {xs : List Value} {F : List Nat} {b off : Nat}, (∀ b ∈ F, b ∉ L) → (∀ (j : Nat) (x : Value), xs[j]? = some x → w.cell? ⟨b, off + j, none⟩ = some x) → C.owns T w cs xs F → C.reps L w cs b off
  | [], xs, F, b, off, _, _, h => by simp [C.reps]
  | c :: cs, xs, F, b, off, k, hc, h => by
    simp only [C.owns] at h
    obtain ⟨x, xs', G, H, rfl, h2, h3, rfl⟩ := h
    simp only [C.reps]
    exact ⟨⟨x, by simpa using hc 0 x (by simp), C.own.rep (fun b hb => k b (by simp [hb])) h2⟩, C.owns.reps (fun b hb => k b (by simp [hb])) (fun j x hx => by have := hc (j + 1) x (by simpa using hx); rwa [show off + 1 + j = off + (j + 1) from by omega]) h3⟩
end

/-- A row that the call has built, whose cells own what they hold, is an owned slice. -/
theorem C.own_of_row {T : Nat → TypeId} {w : World} {base s n : Nat} {v : Value} {xs : List Value} {cs : List C} {G : List Nat} (hs : 0 < s) (h : w.ownsRow base (T s) s v n xs) (k : C.owns T w cs xs G) :
    ∃ F, C.own T w (.sl s n cs) v F ∧ ((F = [] ∧ v = .slice none 0 0) ∨ ∃ g, v.ownBlock = some g ∧ F = g :: G ∧ base ≤ g) := by
  obtain ⟨h1, h2⟩ := h
  have hl := C.owns.length k
  rcases h2 with ⟨rfl, rfl⟩ | ⟨g, cap, cur, rfl, h3, h4, h5, h6, h7, h8⟩
  · refine ⟨[], ?_, .inl ⟨rfl, rfl⟩⟩
    have : xs = [] := List.eq_nil_of_length_eq_zero (by omega)
    subst this
    have : cs = [] := List.eq_nil_of_length_eq_zero (by simpa using hl.symm)
    simp [C.own, this]
  · refine ⟨g :: G, ?_, .inr ⟨g, rfl, rfl, h3⟩⟩
    simp only [C.own]
    exact .inr ⟨g, cap, cur, G, rfl, h4, h5, h6, h7, by omega, rfl, by rw [h8]; exact k⟩

/-- A new tree: it owns its memory, none of which was there before. -/
def Fresh (T : Nat → TypeId) (w w' : World) (c : C) (u : Value) : Prop := ∃ F, C.own T w' c u F ∧ F.Nodup ∧ ∀ x ∈ F, w.heap.size ≤ x

theorem Fresh.rep {T : Nat → TypeId} {w w' : World} {c : C} {u : Value} {L : List Nat} (hL : ∀ x ∈ L, x < w.heap.size) (h : Fresh T w w' c u) : C.rep L w' c u := by
  obtain ⟨F, h1, _, h3⟩ := h
  exact C.own.rep (fun b hb hL' => by have := h3 b hb; have := hL b hL'; omega) h1

/-! ### Worlds that only have more at their end -/
def exts (w : World) (tl : Array Obj) (d : Nat) : World := { w with heap := w.heap ++ tl, drawn := d }
def Ext (w w' : World) : Prop := ∃ tl d, w' = exts w tl d

theorem exts_size (w : World) (tl : Array Obj) (d : Nat) : w.heap.size ≤ (exts w tl d).heap.size := by simp [exts]
theorem exts_block (w : World) (tl : Array Obj) (d : Nat) {b : Nat} (h : b < w.heap.size) : (exts w tl d).heap[b]? = w.heap[b]? := by
  simp only [exts]; rw [Array.getElem?_append_left h]
theorem exts_cell (w : World) (tl : Array Obj) (d : Nat) (b off : Nat) (h : b < w.heap.size) : (exts w tl d).cell? ⟨b, off, none⟩ = w.cell? ⟨b, off, none⟩ :=
  World.cell?_of_block (exts_block w tl d h)
theorem exts_cell' (w : World) (tl : Array Obj) (d : Nat) (b off : Nat) (h : (w.cell? ⟨b, off, none⟩).isSome = true) : (exts w tl d).cell? ⟨b, off, none⟩ = w.cell? ⟨b, off, none⟩ := by
  obtain ⟨v, hv⟩ := Option.isSome_iff_exists.1 h
  exact exts_cell w tl d b off (lt_of_cell hv)
theorem exts_frozen (w : World) (tl : Array Obj) (d : Nat) (b off : Nat) (h : b < w.heap.size) : (exts w tl d).frozen? ⟨b, off, none⟩ = w.frozen? ⟨b, off, none⟩ :=
  World.frozen?_of_block (exts_block w tl d h)
theorem Ext.below {w w' : World} (h : Ext w w') : Below w.heap.size w w' := by
  obtain ⟨tl, d, rfl⟩ := h
  exact ⟨rfl, rfl, rfl, exts_size _ _ _, fun k hk => exts_block w tl d hk⟩
theorem Ext.of_below {w w' : World} (h : Below w.heap.size w w') : Ext w w' := by
  refine ⟨w'.heap.extract w.heap.size w'.heap.size, w'.drawn, ?_⟩
  have hh : w'.heap = w.heap ++ w'.heap.extract w.heap.size w'.heap.size := by
    apply Array.ext_getElem?
    intro i
    rcases Nat.lt_or_ge i w.heap.size with hi | hi
    · rw [Array.getElem?_append_left hi]; exact h.block i hi
    · rw [Array.getElem?_append_right hi, Array.getElem?_extract]
      have := h.size
      rcases Nat.lt_or_ge i w'.heap.size with h2 | h2
      · rw [if_pos (by omega), show w.heap.size + (i - w.heap.size) = i from by omega]
      · rw [if_neg (by omega), Array.getElem?_eq_none h2]
  cases w' with
  | mk heap tape drawn os output =>
    simp only [exts]
    simp only at hh
    rw [← hh]
    have h1 := h.os; have h2 := h.tape; have h3 := h.output
    simp only at h1 h2 h3
    subst h1 h2 h3
    rfl
theorem Ext.refl_drew (w : World) : Ext w w.drew := Ext.of_below ((Below.refl _ _).drew)
theorem Ext.refl (w : World) : Ext w w := Ext.of_below (Below.refl _ _)
theorem Ext.trans {w w1 w2 : World} (h : Ext w w1) (k : Below w1.heap.size w1 w2) : Ext w w2 :=
  Ext.of_below (h.below.trans (k.mono h.below.size))
theorem Ext.alloc {w w1 : World} (h : Ext w w1) (o : Obj) : Ext w (w1.alloc o) := h.trans ((Below.refl _ _).alloc (Nat.le_refl _) _)
theorem Ext.drew {w w1 : World} (h : Ext w w1) : Ext w w1.drew := h.trans ((Below.refl _ _).drew)
theorem Ext.size {w w1 : World} (h : Ext w w1) : w.heap.size ≤ w1.heap.size := h.below.size
attribute [go_sem] exts_cell' exts_cell

theorem heap_setCell_at {w : World} {b o : Nat} {c : Array Value} {e : TypeId} {f : Nat × Nat} (h : w.heap[b]? = some (.cells c e f)) (u : Value) : (w.setCell ⟨b, o, none⟩ u).heap[b]? = some (.cells (c.setIfInBounds o u) e f) := by
  simp [World.setCell, Array.getElem?_modify, h]
theorem cell_of_heap {w : World} {b o : Nat} {c : Array Value} {e : TypeId} {f : Nat × Nat} {v : Value} (h : w.heap[b]? = some (.cells c e f)) (hv : c[o]? = some v) : w.cell? ⟨b, o, none⟩ = some v := by
  simp [World.cell?, h, hv]
theorem cell_new {w : World} {n k : Nat} {c : Array Value} {e : TypeId} {v : Value} (hn : n = w.heap.size) (hv : c[k]? = some v) : (w.alloc (.cells c e)).cell? ⟨n, k, none⟩ = some v := by
  subst hn; exact cell_of_heap (heap_alloc_new _ _) hv
theorem free_of_heap {w : World} {b o : Nat} {c : Array Value} {e : TypeId} (h : w.heap[b]? = some (.cells c e (0, 0))) : w.frozen? ⟨b, o, none⟩ = false := by
  simp [World.frozen?, h]
theorem lt_of_heap {w : World} {b : Nat} {o : Obj} (h : w.heap[b]? = some o) : b < w.heap.size := (Array.getElem?_eq_some_iff.1 h).1

/-! ### A slice that the call builds, element by element -/
def RowTy (P : Program) (t e : TypeId) (size bytes : Nat) : Prop := P.underlying t = some (.slice e) ∧ ∃ i z, P.info? e = some i ∧ i.zero = some z ∧ i.size = size ∧ i.bytes = bytes ∧ z.cells.size = size ∧ 0 < size

theorem RowTy.mk' {P : Program} {t e : TypeId} {z : Value} {size bytes : Nat} (h : P.underlying t = some (.slice e)) (hi : (P.info? e).map (fun i => (i.zero, i.size, i.bytes)) = some (some z, size, bytes)) (hz : z.cells.size = size) (hs : 0 < size) : RowTy P t e size bytes := by
  obtain ⟨i, h1, h2, h3, h4⟩ := info_parts hi
  exact ⟨h, i, z, h1, h2, h3, h4, hz, hs⟩

/-- 'v' is a row of the call's own (its block from 'base' on) with n elements, whose cells own the trees cs; the rows do not meet. -/
def Bld (T : Nat → TypeId) (w : World) (base s n : Nat) (cs : List C) (v : Value) : Prop :=
  ∃ xs G, w.ownsRow base (T s) s v n xs ∧ C.owns T w cs xs G ∧ G.Nodup ∧ (∀ x ∈ G, base ≤ x) ∧ (∀ g, v.ownBlock = some g → g ∉ G)

theorem Bld.val {T : Nat → TypeId} {w : World} {base s n : Nat} {cs : List C} {v : Value} (h : Bld T w base s n cs v) : ∃ q cap, v = .slice q n cap ∧ (∀ g, (Value.slice q n cap).ownBlock = some g → base ≤ g) := by
  obtain ⟨xs, G, ⟨_, h2⟩, _⟩ := h
  rcases h2 with ⟨rfl, rfl⟩ | ⟨g, cap, cur, rfl, h3, _⟩
  · exact ⟨none, 0, rfl, by simp [Value.ownBlock]⟩
  · exact ⟨_, _, rfl, by simp [Value.ownBlock, h3]⟩

theorem Bld.start (T : Nat → TypeId) (w : World) (base s : Nat) : Bld T w base s 0 [] (.slice none 0 0) :=
  ⟨[], [], World.ownsRow_nil _ _ _ _, by simp [C.owns], List.nodup_nil, by simp, by simp⟩

theorem ownsRow_keep {w w' : World} {base s n : Nat} {e : TypeId} {v : Value} {xs : List Value} (k : ∀ g, v.ownBlock = some g → w'.heap[g]? = w.heap[g]?) (h : w.ownsRow base e s v n xs) : w'.ownsRow base e s v n xs := by
  obtain ⟨h1, h2⟩ := h
  refine ⟨h1, ?_⟩
  rcases h2 with h2 | ⟨g, cap, cur, rfl, h3, h4, h5⟩
  · exact .inl h2
  · exact .inr ⟨g, cap, cur, rfl, h3, by rw [k g rfl]; exact h4, h5⟩

theorem Bld.keep {T : Nat → TypeId} {w w' : World} {base s n : Nat} {cs : List C} {v : Value} (k : ∀ b, base ≤ b → b < w.heap.size → w'.heap[b]? = w.heap[b]?) (h : Bld T w base s n cs v) : Bld T w' base s n cs v := by
  obtain ⟨xs, G, h1, h2, h3, h4, h5⟩ := h
  refine ⟨xs, G, ownsRow_keep (fun g hg => ?_) h1, C.owns.keep (fun b hb => k b (h4 b hb) (C.owns.lt h2 b hb)) h2, h3, h4, h5⟩
  have := h1.lt g hg
  exact k g this.1 this.2

theorem Bld.below {T : Nat → TypeId} {w w' : World} {base s n : Nat} {cs : List C} {v : Value} (h : Bld T w base s n cs v) (hb : Below w.heap.size w w') : Bld T w' base s n cs v :=
  h.keep fun b _ hlt => hb.block b hlt

theorem Bld.alloc {T : Nat → TypeId} {w : World} {base s n : Nat} {cs : List C} {v : Value} (h : Bld T w base s n cs v) (o : Obj) : Bld T (w.alloc o) base s n cs v :=
  h.keep fun b _ hlt => Below.heap_alloc _ _ _ hlt

theorem Bld.drew {T : Nat → TypeId} {w : World} {base s n : Nat} {cs : List C} {v : Value} (h : Bld T w base s n cs v) : Bld T w.drew base s n cs v := Bld.keep (w := w) (w' := w.drew) (fun _ _ _ => rfl) h

/-- a store into a block below the base -/
theorem Bld.setCell {T : Nat → TypeId} {w : World} {base s n : Nat} {cs : List C} {v : Value} (h : Bld T w base s n cs v) {p : Addr} (hp : p.block < base) (u : Value) : Bld T (w.setCell p u) base s n cs v :=
  h.keep fun b hb _ => Below.heap_setCell _ _ _ _ (by omega)

theorem Bld.mono {T : Nat → TypeId} {w : World} {base base' s n : Nat} {cs : List C} {v : Value} (h : Bld T w base s n cs v) (hb : base' ≤ base) : Bld T w base' s n cs v := by
  obtain ⟨xs, G, ⟨r1, r2⟩, h2, h3, h4, h5⟩ := h
  refine ⟨xs, G, ⟨r1, ?_⟩, h2, h3, fun x hx => Nat.le_trans hb (h4 x hx), h5⟩
  rcases r2 with r2 | ⟨g, cap, cur, e1, e2, e3⟩
  · exact .inl r2
  · exact .inr ⟨g, cap, cur, e1, Nat.le_trans hb e2, e3⟩

theorem Bld.fresh {T : Nat → TypeId} {w0 w : World} {base s n : Nat} {cs : List C} {v : Value} (hs : 0 < s) (hb : w0.heap.size ≤ base) (h : Bld T w base s n cs v) : Fresh T w0 w (.sl s n cs) v := by
  obtain ⟨xs, G, h1, h2, h3, h4, h5⟩ := h
  obtain ⟨F, hF, hor⟩ := C.own_of_row hs h1 h2
  refine ⟨F, hF, ?_⟩
  rcases hor with ⟨rfl, _⟩ | ⟨g, hg, rfl, hbg⟩
  · exact ⟨List.nodup_nil, by simp⟩
  · refine ⟨List.nodup_cons.2 ⟨h5 g hg, h3⟩, fun x hx => ?_⟩
    rcases List.mem_cons.1 hx with rfl | hx
    · omega
    · have := h4 x hx; omega

/-- What is owned in a new element, beside what is there. -/
def New (T : Nat → TypeId) (w w1 : World) (ds : List C) (ys : List Value) : Prop := ∃ F, C.owns T w1 ds ys F ∧ F.Nodup ∧ ∀ x ∈ F, w.heap.size ≤ x

/-- 'append(v, x)', x one element of ours, just laid. -/
theorem wp_bld {P : Program} {T : Nat → TypeId} {o : Oper} {a : Act} {K : Act → World → Prop} {Q : Exit → Act → World → Prop} {wc w1 : World} {base sz n bytes : Nat} {cs ds : List C} {v : Value} {ys : Array Value} (s x : Operand) (t : TypeId)
    (ho : o.op = .call { callee := .builtin .append, args := #[s, x], argTypes := #[t, t] }) (hT : RowTy P t (T sz) sz bytes) (hs : a.eval s = v)
    (hB : Bld T wc base sz n cs v) (hbase : base ≤ wc.heap.size) (hb : Below wc.heap.size wc w1) (hN : New T wc w1 ds ys.toList) (hys : ys.size = sz) (h1 : ∀ u ∈ ys.toList, u.oneCell' = true)
    (hx : a.eval x = .slice (some ⟨w1.heap.size, 0, none⟩) 1 1) (hbytes : (n + 1) * bytes ≤ 140737488355328) (hbyt : 0 < bytes)
    (h : ∀ g cap w2, Bld T w2 base sz (n + 1) (cs ++ ds) (.slice (some ⟨g, 0, none⟩) (n + 1) cap) → (w1.alloc (.cells ys (T sz))).grownBy w2 v.ownBlock → Below base wc w2 → K (a.put o.dst (.slice (some ⟨g, 0, none⟩) (n + 1) cap)) w2) :
    o.wp P a (w1.alloc (.cells ys (T sz))) K Q := by
  obtain ⟨xs, G, r1, r2, r3, r4, r5⟩ := hB
  obtain ⟨F, f1, f2, f3⟩ := hN
  obtain ⟨ht, i, z, hi, hz, hsize, hby, hzs, hsz⟩ := hT
  have hle := hb.size
  have r1' : (w1.alloc (.cells ys (T sz))).ownsRow base (T sz) sz v n xs := ownsRow_keep (fun g hg => by
    have := r1.lt g hg
    rw [Below.heap_alloc _ _ _ (by omega), hb.block g this.2]) r1
  have hmax : n + 1 ≤ maxLen := by
    have : n + 1 ≤ (n + 1) * bytes := Nat.le_mul_of_pos_right _ hbyt
    simp only [maxLen]; omega
  refine wp_append_lies _ s x t ho base (T sz) i z sz bytes ht hi hz hsize hby hzs hsz v n xs hs r1' ⟨w1.heap.size, 0, none⟩ 1 1 ys.toList hx (by simp [hys]) ?_ h1 (by omega) hmax hbytes (by simp; omega) (w1.heap.size + 1) (by simp) ?_
  · exact World.news_of_block (B := w1.heap.size) (cs := ys) (t := T sz) (fr := (0, 0)) (heap_alloc_new w1 _)
  · intro g cap w2 q1 q2 q3 q4
    have hblk : ∀ b, b < w1.heap.size → v.ownBlock ≠ some b → w2.heap[b]? = w1.heap[b]? := fun b hb1 hb2 => by
      rw [q2.block b (by simp; omega) (fun e => hb2 e.symm), Below.heap_alloc _ _ _ hb1]
    have hown : ∀ g, v.ownBlock = some g → g < wc.heap.size := fun g hg => (r1.lt g hg).2
    refine h g cap w2 ⟨xs ++ ys.toList, G ++ F, q1, ?_, ?_, ?_, ?_⟩ q2 ?_
    · refine C.owns_append (C.owns.keep (fun b hb1 => ?_) r2) (C.owns.keep (fun b hb1 => ?_) f1)
      · have hbc := C.owns.lt r2 b hb1
        rw [hblk b (by omega) (fun e => r5 b e hb1), hb.block b hbc]
      · have hbc := C.owns.lt f1 b hb1
        have := f3 b hb1
        exact hblk b hbc (fun e => by have := hown b e; omega)
    · refine List.nodup_append.2 ⟨r3, f2, fun x hx y hy e => ?_⟩
      have := C.owns.lt r2 x hx; have := f3 y hy; omega
    · intro y hy
      rcases List.mem_append.1 hy with hy | hy
      · exact r4 y hy
      · have := f3 y hy; omega
    · intro g' hg' hmem
      simp only [Value.ownBlock, Option.some.injEq] at hg'
      subst hg'
      rcases q3 with q3 | q3
      · rcases List.mem_append.1 hmem with hm | hm
        · exact r5 g q3 hm
        · have := f3 g hm; have := hown g q3; omega
      · rcases List.mem_append.1 hmem with hm | hm
        · have := C.owns.lt r2 g hm; omega
        · have := C.owns.lt f1 g hm; omega
    · refine ⟨q2.os.trans hb.os, q2.tape.trans hb.tape, q2.output.trans hb.output, by have := q2.size; simp at this; omega, fun k hk => ?_⟩
      rw [hblk k (by omega) (fun e => by have := (r1.lt k e).1; omega), hb.block k (by omega)]
end Go.Proofs.Grad
