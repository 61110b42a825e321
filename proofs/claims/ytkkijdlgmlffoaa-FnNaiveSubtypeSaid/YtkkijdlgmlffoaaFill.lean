/- A slice that the call has made, and fills from its head. -/
import Derived.Test.YtkkijdlgmlffoaaCore
import Derived.Laws.MakeOwn
namespace Go.Proofs.Grad
open Go.RowKit

/-! ### A slice that the call has made, and fills from its head -/
def setCells (w : World) (g off : Nat) : List Value → World
  | [] => w
  | v :: vs => setCells (w.setCell ⟨g, off, none⟩ v) g (off + 1) vs

def setList (l : List Value) (off : Nat) : List Value → List Value
  | [] => l
  | v :: vs => setList (l.set off v) (off + 1) vs

theorem setList_length (ys : List Value) : ∀ (l : List Value) (off : Nat), (setList l off ys).length = l.length := by
  induction ys with
  | nil => intro l off; rfl
  | cons y ys ih => intro l off; simp [setList, ih]

theorem setCells_heap (ys : List Value) : ∀ {w : World} {g off : Nat} {cur : Array Value} {e : TypeId}, w.heap[g]? = some (.cells cur e (0, 0)) → (setCells w g off ys).heap[g]? = some (.cells (setList cur.toList off ys).toArray e (0, 0)) := by
  induction ys with
  | nil => intro w g off cur e h; simpa [setCells, setList] using h
  | cons y ys ih =>
    intro w g off cur e h
    simp only [setCells, setList]
    have := ih (off := off + 1) (heap_setCell_at (o := off) h y)
    simpa using this

theorem setCells_other (ys : List Value) : ∀ {w : World} {g off b : Nat}, b ≠ g → (setCells w g off ys).heap[b]? = w.heap[b]? := by
  induction ys with
  | nil => intro w g off b h; rfl
  | cons y ys ih => intro w g off b h; simp only [setCells]; rw [ih h, Below.heap_setCell _ _ _ _ (by simpa using h)]

theorem setCells_below (ys : List Value) : ∀ {B : Nat} {a w : World} {g off : Nat}, Below B a w → B ≤ g → Below B a (setCells w g off ys) := by
  induction ys with
  | nil => intro B a w g off h _; exact h
  | cons y ys ih => intro B a w g off h hg; exact ih (h.setCell (by simpa using hg) y) hg

theorem setList_take (ys : List Value) : ∀ (l : List Value) (off : Nat), off + ys.length ≤ l.length → (setList l off ys).take (off + ys.length) = l.take off ++ ys := by
  induction ys with
  | nil => intro l off h; simp [setList]
  | cons y ys ih =>
    intro l off h
    simp only [List.length_cons] at h
    simp only [setList, List.length_cons]
    have := ih (l.set off y) (off + 1) (by simp; omega)
    rw [show off + (ys.length + 1) = off + 1 + ys.length from by omega, this]
    have : (l.set off y).take (off + 1) = l.take off ++ [y] := by
      rw [List.take_succ_eq_append_getElem (by simp; omega)]
      simp [List.take_set_of_le]
    rw [this]; simp

/-- Block g is a row of n elements of s cells, the first m of which own the trees cs. -/
def Fill (T : Nat → TypeId) (w : World) (base s n m : Nat) (cs : List C) (g : Nat) : Prop :=
  ∃ cur G, w.heap[g]? = some (.cells cur (T s) (0, 0)) ∧ cur.size = n * s ∧ C.owns T w cs (cur.toList.take (m * s)) G ∧ G.Nodup ∧ (∀ x ∈ G, base ≤ x) ∧ g ∉ G ∧ base ≤ g

theorem Fill.start {T : Nat → TypeId} {w : World} {base s n g : Nat} {cur : Array Value} (h : w.heap[g]? = some (.cells cur (T s) (0, 0))) (hs : cur.size = n * s) (hb : base ≤ g) : Fill T w base s n 0 [] g :=
  ⟨cur, [], h, hs, by simp [C.owns], List.nodup_nil, by simp, by simp, hb⟩

theorem Fill.keep {T : Nat → TypeId} {w w' : World} {base s n m g : Nat} {cs : List C} (k : ∀ b, base ≤ b → b < w.heap.size → w'.heap[b]? = w.heap[b]?) (h : Fill T w base s n m cs g) : Fill T w' base s n m cs g := by
  obtain ⟨cur, G, h1, h2, h3, h4, h5, h6, h7⟩ := h
  exact ⟨cur, G, by rw [k g h7 (lt_of_heap h1)]; exact h1, h2, C.owns.keep (fun b hb => k b (h5 b hb) (C.owns.lt h3 b hb)) h3, h4, h5, h6, h7⟩
theorem Fill.below {T : Nat → TypeId} {w w' : World} {base s n m g : Nat} {cs : List C} (h : Fill T w base s n m cs g) (hb : Below w.heap.size w w') : Fill T w' base s n m cs g :=
  h.keep fun b _ hlt => hb.block b hlt
theorem Fill.setCell {T : Nat → TypeId} {w : World} {base s n m g : Nat} {cs : List C} (h : Fill T w base s n m cs g) {p : Addr} (hp : p.block < base) (u : Value) : Fill T (w.setCell p u) base s n m cs g :=
  h.keep fun b hb _ => Below.heap_setCell _ _ _ _ (by omega)

theorem Fill.step {T : Nat → TypeId} {wc w1 : World} {base s n m g : Nat} {cs ds : List C} {ys : List Value} (h : Fill T wc base s n m cs g) (hb : Below wc.heap.size wc w1) (hN : New T wc w1 ds ys) (hys : ys.length = s) (hm : m < n) (hbase : base ≤ wc.heap.size) :
    Fill T (setCells w1 g (m * s) ys) base s n (m + 1) (cs ++ ds) g := by
  obtain ⟨cur, G, h1, h2, h3, h4, h5, h6, h7⟩ := h
  obtain ⟨F, f1, f2, f3⟩ := hN
  have hg := lt_of_heap h1
  have h1' : w1.heap[g]? = some (.cells cur (T s) (0, 0)) := by rw [hb.block g hg]; exact h1
  have hfit : m * s + s ≤ n * s := by rw [← Nat.succ_mul]; exact Nat.mul_le_mul_right _ hm
  refine ⟨_, G ++ F, setCells_heap ys h1', by simp [setList_length, h2], ?_, ?_, ?_, ?_, h7⟩
  · have : ((setList cur.toList (m * s) ys).toArray.toList.take ((m + 1) * s)) = cur.toList.take (m * s) ++ ys := by
      have := setList_take ys cur.toList (m * s) (by simp [h2, hys]; exact hfit)
      rw [hys] at this
      rw [Nat.succ_mul]; simpa using this
    rw [this]
    refine C.owns_append (C.owns.keep (fun b hb1 => ?_) h3) (C.owns.keep (fun b hb1 => ?_) f1)
    · have hbc := C.owns.lt h3 b hb1
      rw [setCells_other ys (fun e => by subst e; exact h6 hb1), hb.block b hbc]
    · have := f3 b hb1
      rw [setCells_other ys (by omega)]
  · refine List.nodup_append.2 ⟨h4, f2, fun x hx y hy e => ?_⟩
    have := C.owns.lt h3 x hx; have := f3 y hy; omega
  · intro y hy
    rcases List.mem_append.1 hy with hy | hy
    · exact h5 y hy
    · have := f3 y hy; omega
  · intro hmem
    rcases List.mem_append.1 hmem with hm2 | hm2
    · exact h6 hm2
    · have := f3 g hm2; omega

theorem Fill.fresh {T : Nat → TypeId} {w0 w : World} {base s n g : Nat} {cs : List C} (hn : n ≤ maxLen) (hl : cs.length = n * s) (hb : w0.heap.size ≤ base) (h : Fill T w base s n n cs g) : Fresh T w0 w (.sl s n cs) (.slice (some ⟨g, 0, none⟩) n n) := by
  obtain ⟨cur, G, h1, h2, h3, h4, h5, h6, h7⟩ := h
  refine ⟨g :: G, ?_, List.nodup_cons.2 ⟨h6, h4⟩, fun x hx => ?_⟩
  · simp only [C.own]
    exact .inr ⟨g, n, cur, G, rfl, h1, Nat.le_refl _, hn, h2, hl, rfl, h3⟩
  · rcases List.mem_cons.1 hx with rfl | hx
    · omega
    · have := h5 x hx; omega

theorem Fresh.setCell {T : Nat → TypeId} {w w' : World} {c : C} {u : Value} (h : Fresh T w w' c u) {p : Addr} (hp : p.block < w.heap.size) (x : Value) : Fresh T w (w'.setCell p x) c u := by
  obtain ⟨F, h1, h2, h3⟩ := h
  exact ⟨F, C.own.keep (fun b hb => Below.heap_setCell _ _ _ _ (by have := h3 b hb; omega)) h1, h2, h3⟩
theorem Fresh.mono {T : Nat → TypeId} {w w0 w' : World} {c : C} {u : Value} (h : Fresh T w w' c u) (hs : w0.heap.size ≤ w.heap.size) : Fresh T w0 w' c u := by
  obtain ⟨F, h1, h2, h3⟩ := h
  exact ⟨F, h1, h2, fun x hx => Nat.le_trans hs (h3 x hx)⟩
theorem Fresh.below {T : Nat → TypeId} {w w1 w2 : World} {c : C} {u : Value} (h : Fresh T w w1 c u) (hb : Below w1.heap.size w1 w2) : Fresh T w w2 c u := by
  obtain ⟨F, h1, h2, h3⟩ := h
  exact ⟨F, C.own.keep (fun b hb' => hb.block b (C.own.lt h1 b hb')) h1, h2, h3⟩

/-- 'make' of a slice of n elements -/
theorem run_make_row {P : Program} {t e : TypeId} {z : Value} {size bytes : Nat} (h : P.underlying t = some (.slice e)) (hi : (P.info? e).map (fun i => (i.zero, i.size, i.bytes)) = some (some z, size, bytes)) {n : Nat} (hn : n * bytes ≤ 281474976710656) (hn2 : n ≤ 281474976710656) (w : World) :
    (Instr.makeSlice t (.int .i64 (n : Int)) (.int .i64 (n : Int))).run P w = .ok (.slice (some ⟨w.heap.size, 0, none⟩) n n) (w.alloc (.cells (madeCells z.cells (n * size)) e)) := by
  obtain ⟨i, h1, h2, h3, h4⟩ := info_parts hi
  have h5 : ((n * bytes : Nat) : Int) ≤ ((281474976710656 : Nat) : Int) := Int.ofNat_le.2 hn
  rw [Int.natCast_mul] at h5
  have := run_make (P := P) w t e i z h h1 h2 .i64 .i64 (n : Int) (n : Int) (by omega) (Int.le_refl _) (by rw [h4, Int.mul_comm]; exact h5) (by omega)
  rw [Int.toNat_natCast, h3] at this
  exact this

theorem Fill.at {T : Nat → TypeId} {w : World} {base s n m g : Nat} {cs : List C} (h : Fill T w base s n m cs g) : (∀ j, j < n * s → ∃ v, w.cell? ⟨g, j, none⟩ = some v) ∧ (∀ j, w.frozen? ⟨g, j, none⟩ = false) ∧ g < w.heap.size := by
  obtain ⟨cur, G, h1, h2, _⟩ := h
  refine ⟨fun j hj => ⟨cur[j], cell_of_heap h1 (Array.getElem?_eq_getElem (by omega))⟩, fun j => free_of_heap h1, lt_of_heap h1⟩

theorem Ext.cell {w w' : World} {b o : Nat} {v : Value} (h : Ext w w') (hc : w.cell? ⟨b, o, none⟩ = some v) : w'.cell? ⟨b, o, none⟩ = some v :=
  (Keep.of_below (L := []) h.below).cell (by simp) hc
theorem Ext.cell2 {w w' : World} {b1 o1 b2 o2 : Nat} {v1 v2 : Value} (h : Ext w w') (hc : w.cell? ⟨b1, o1, none⟩ = some v1 ∧ w.cell? ⟨b2, o2, none⟩ = some v2) : w'.cell? ⟨b1, o1, none⟩ = some v1 ∧ w'.cell? ⟨b2, o2, none⟩ = some v2 :=
  ⟨h.cell hc.1, h.cell hc.2⟩
theorem Ext.cell4 {w w' : World} {b1 o1 b2 o2 b3 o3 b4 o4 : Nat} {v1 v2 v3 v4 : Value} (h : Ext w w') (hc : w.cell? ⟨b1, o1, none⟩ = some v1 ∧ w.cell? ⟨b2, o2, none⟩ = some v2 ∧ w.cell? ⟨b3, o3, none⟩ = some v3 ∧ w.cell? ⟨b4, o4, none⟩ = some v4) :
    w'.cell? ⟨b1, o1, none⟩ = some v1 ∧ w'.cell? ⟨b2, o2, none⟩ = some v2 ∧ w'.cell? ⟨b3, o3, none⟩ = some v3 ∧ w'.cell? ⟨b4, o4, none⟩ = some v4 :=
  ⟨h.cell hc.1, h.cell hc.2.1, h.cell hc.2.2.1, h.cell hc.2.2.2⟩

theorem C.reps_flat_mk {α : Type} {L : List Nat} {w : World} {f : α → List C} {s : Nat} (hs : ∀ x, (f x).length = s) {l : List α} {b off : Nat} (h : ∀ i (hi : i < l.length), C.reps L w (f l[i]) b (off + i * s)) : C.reps L w (l.flatMap f) b off := by
  induction l generalizing off with
  | nil => simp [C.reps]
  | cons x l ih =>
    rw [List.flatMap_cons, C.reps_append, hs]
    refine ⟨by have := h 0 (by simp); simp only [Nat.zero_mul, Nat.add_zero] at this; exact this, ih fun i hi => ?_⟩
    have := h (i + 1) (by simpa using hi)
    rw [show off + (i + 1) * s = off + s + i * s from by rw [Nat.succ_mul]; omega] at this
    exact this
end Go.Proofs.Grad
