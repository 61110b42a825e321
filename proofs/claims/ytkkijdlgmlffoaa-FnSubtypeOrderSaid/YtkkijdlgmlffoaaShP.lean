/- Operations that write memory, and their shadows. -/
import Derived.Test.YtkkijdlgmlffoaaShO
import Derived.Laws.MakeOwn
import Derived.Great.BuildSlice
namespace Go.Proofs.Sh
open Go.RowKit

theorem Keep.alloc (L : List Nat) (w : World) (o : Obj) : Keep L w (w.alloc o) :=
  ⟨rfl, rfl, rfl, by simp, fun b _ hb => Below.heap_alloc _ _ _ hb, fun b cur ty h => ⟨cur, by rw [Below.heap_alloc _ _ _ (Array.getElem?_eq_some_iff.1 h).1]; exact h, rfl⟩⟩
theorem Keep.drew (L : List Nat) (w : World) : Keep L w w.drew := ⟨rfl, rfl, rfl, Nat.le_refl _, fun _ _ _ => rfl, fun _ cur _ h => ⟨cur, h, rfl⟩⟩
theorem Keep.setRow {L : List Nat} {w : World} {g : Nat} {cur cur' : Array Value} {ty : TypeId} (hg : g ∈ L) (h : w.heap[g]? = some (.cells cur ty (0, 0))) (hs : cur'.size = cur.size) : Keep L w (w.setRow g cur') := by
  refine ⟨rfl, rfl, rfl, by simp [World.setRow], fun b hb _ => setRow_other w g b _ (fun e => hb (e ▸ hg)), fun b c t hb => ?_⟩
  by_cases hbg : b = g
  · subst hbg
    rw [h] at hb
    cases hb
    exact ⟨cur', setRow_heap w b cur cur' ty _ h, hs⟩
  · exact ⟨c, by rw [setRow_other w g b _ hbg]; exact hb, rfl⟩

theorem getElem?_snoc {α : Type} {l : List α} {x y : α} {i : Nat} : (l ++ [x])[i]? = some y ↔ (l[i]? = some y) ∨ (i = l.length ∧ y = x) := by
  rcases Nat.lt_trichotomy i l.length with h | h | h
  · rw [List.getElem?_append_left h]
    exact ⟨.inl, fun k => k.resolve_right (fun e => by omega)⟩
  · subst h
    simp [eq_comm]
  · rw [List.getElem?_eq_none (by simp; omega), List.getElem?_eq_none (by omega)]
    constructor
    · intro h; cases h
    · rintro (h | ⟨h, _⟩)
      · cases h
      · omega

theorem mem_alive_snoc {μ : List Nat} {H : List Blk} {g x : Nat} {b : Blk} (hl : μ.length = H.length) : x ∈ alive (μ ++ [g]) (H ++ [b]) ↔ x ∈ alive μ H ∨ (x = g ∧ b.st.isMut = true) := by
  rw [mem_alive, mem_alive]
  constructor
  · rintro ⟨i, k, h1, h2, h3⟩
    rw [getElem?_snoc] at h1 h2
    rcases h1 with h1 | ⟨h1, rfl⟩
    · rcases h2 with h2 | ⟨h2, rfl⟩
      · exact .inl ⟨i, k, h1, h2, h3⟩
      · have := (List.getElem?_eq_some_iff.1 h1).1; omega
    · rcases h2 with h2 | ⟨h2, rfl⟩
      · have := (List.getElem?_eq_some_iff.1 h2).1; omega
      · exact .inr ⟨rfl, h3⟩
  · rintro (⟨i, k, h1, h2, h3⟩ | ⟨rfl, h⟩)
    · exact ⟨i, k, getElem?_snoc.2 (.inl h1), getElem?_snoc.2 (.inl h2), h3⟩
    · exact ⟨μ.length, b, getElem?_snoc.2 (.inr ⟨rfl, rfl⟩), getElem?_snoc.2 (.inr ⟨hl, rfl⟩), h⟩

/-- a new block -/
theorem Sim.new {X μ : List Nat} {H : List Blk} {w w' : World} {cur : Array Value} {ty : TypeId} {s : Nat} {rows : List (List C)} (h : Sim X μ H w) (hK : Keep [] w w') (hn : w'.heap[w.heap.size]? = some (.cells cur ty (0, 0)))
    (hl : Laid (X ++ alive μ H) μ w cur s rows) : Sim X (μ ++ [w.heap.size]) (H ++ [⟨s, ty, .mut, rows⟩]) w' ∧ Stp μ H w (μ ++ [w.heap.size]) (H ++ [⟨s, ty, .mut, rows⟩]) w' := by
  have hsz : w.heap.size < w'.heap.size := (Array.getElem?_eq_some_iff.1 hn).1
  have hS : Stp μ H w (μ ++ [w.heap.size]) (H ++ [⟨s, ty, .mut, rows⟩]) w' := by
    refine ⟨hK.mono (by simp), fun b g hb => getElem?_snoc.2 (.inl hb), fun g hg hlt => ?_⟩
    rcases (mem_alive_snoc h.len).1 hg with hg | ⟨rfl, _⟩
    · exact hg
    · omega
  refine ⟨⟨by simp [h.len], ?_, fun g hg => Nat.lt_of_lt_of_le (h.xlt g hg) hK.size, ?_, ?_, ?_⟩, hS⟩
  · intro g hg
    rcases List.mem_append.1 hg with hg | hg
    · exact Nat.lt_of_lt_of_le (h.lt g hg) hK.size
    · simp at hg; omega
  · intro i b g hi hb hg hx
    rw [getElem?_snoc] at hi hg
    rcases hg with hg | ⟨hg, rfl⟩
    · rcases hi with hi | ⟨hi, rfl⟩
      · exact h.out i b g hi hb hg hx
      · have := (List.getElem?_eq_some_iff.1 hg).1; have := h.len; omega
    · have := h.xlt _ hx; omega
  · intro i j b b' g hij hi hj hb hb' hgi hgj
    rw [getElem?_snoc] at hi hj hgi hgj
    rcases hgi with hgi | ⟨hgi, rfl⟩ <;> rcases hgj with hgj | ⟨hgj, hgg⟩
    · rcases hi with hi | ⟨hi, _⟩
      · rcases hj with hj | ⟨hj, _⟩
        · exact h.inj i j b b' g hij hi hj hb hb' hgi hgj
        · have := (List.getElem?_eq_some_iff.1 hgj).1; have := h.len; omega
      · have := (List.getElem?_eq_some_iff.1 hgi).1; have := h.len; omega
    · have := h.lt g (List.mem_of_getElem? hgi); omega
    · have := h.lt _ (List.mem_of_getElem? hgj); omega
    · omega
  · intro i b g hi hb hg
    rw [getElem?_snoc] at hi hg
    rcases hi with hi | ⟨hi, rfl⟩
    · rcases hg with hg | ⟨hg, rfl⟩
      · obtain ⟨c, hc, hla⟩ := h.blk i b g hi hb hg
        exact ⟨c, by rw [hK.block g (by simp) (h.lt g (List.mem_of_getElem? hg))]; exact hc, hla.carry hS.carry⟩
      · have := (List.getElem?_eq_some_iff.1 hi).1; have := h.len; omega
    · rcases hg with hg | ⟨hg, rfl⟩
      · have := (List.getElem?_eq_some_iff.1 hg).1; have := h.len; omega
      · exact ⟨cur, hn, hl.carry hS.carry⟩

theorem Laid.one {L μ : List Nat} {w : World} {arr : Array Value} {cs : List C} (h : C.repl L μ w cs arr.toList) : Laid L μ w arr cs.length [cs] := by
  intro i r hr
  cases i with
  | zero =>
    simp at hr
    subst hr
    refine ⟨rfl, fun j c hj => ?_⟩
    obtain ⟨u, hu, hr⟩ := C.repl_get h j c hj
    exact ⟨u, by simpa using hu, hr⟩
  | succ i => simp at hr

/-- rows by the list of all their cells -/
theorem Laid.of_flat {L μ : List Nat} {w : World} {cur : Array Value} {s : Nat} : ∀ {rows : List (List C)} {us : List Value}, (∀ r ∈ rows, r.length = s) → C.repl L μ w rows.flatten us → ∀ (o : Nat), (∀ (j : Nat) (u : Value), us[j]? = some u → cur[o + j]? = some u) →
    ∀ (i : Nat) (r : List C), rows[i]? = some r → r.length = s ∧ ∀ (j : Nat) (c : C), r[j]? = some c → ∃ u, cur[o + (i * s + j)]? = some u ∧ C.rep L μ w c u
  | [], us, hl, h, o, hc, i, r, hr => by simp at hr
  | r0 :: rows, us, hl, h, o, hc, i, r, hr => by
    rw [List.flatten_cons] at h
    have h0 := hl r0 (by simp)
    cases i with
    | zero =>
      simp at hr
      subst hr
      refine ⟨h0, fun j c hj => ?_⟩
      have hjl := (List.getElem?_eq_some_iff.1 hj).1
      obtain ⟨u, hu, hv⟩ := C.repl_get h j c (by rw [List.getElem?_append_left hjl]; exact hj)
      exact ⟨u, by simpa using hc j u hu, hv⟩
    | succ i =>
      have hd := C.repl_drop h s
      rw [← h0, List.drop_left] at hd
      obtain ⟨h1, h2⟩ := Laid.of_flat (rows := rows) (fun r hr => hl r (by simp [hr])) hd (o + s) (fun j u hu => by
        rw [List.getElem?_drop] at hu
        have := hc _ u hu
        rwa [show o + (r0.length + j) = o + s + j from by omega] at this) i r (by simpa using hr)
      refine ⟨h1, fun j c hj => ?_⟩
      obtain ⟨u, hu, hv⟩ := h2 j c hj
      exact ⟨u, by rw [← hu, Nat.succ_mul]; congr 1; omega, hv⟩
theorem Laid.flat {L μ : List Nat} {w : World} {cur : Array Value} {s : Nat} {rows : List (List C)} {us : List Value} (hl : ∀ r ∈ rows, r.length = s) (h : C.repl L μ w rows.flatten us) (hc : ∀ (j : Nat) (u : Value), us[j]? = some u → cur[j]? = some u) : Laid L μ w cur s rows := by
  intro i r hr
  obtain ⟨h1, h2⟩ := Laid.of_flat hl h 0 (fun j u hu => by rw [Nat.zero_add]; exact hc j u hu) i r hr
  exact ⟨h1, fun j c hj => by simpa using h2 j c hj⟩

theorem C.reps_vals {L μ : List Nat} {w : World} : ∀ {cs : List C} {b off : Nat}, C.reps L μ w cs b off → ∃ us, C.repl L μ w cs us ∧ ∀ (j : Nat) (u : Value), us[j]? = some u → w.cell? ⟨b, off + j, none⟩ = some u
  | [], b, off, h => ⟨[], by simp [C.repl], by simp⟩
  | c :: cs, b, off, h => by
    simp only [C.reps] at h
    obtain ⟨⟨u, h1, h2⟩, h3⟩ := h
    obtain ⟨us, q1, q2⟩ := C.reps_vals h3
    refine ⟨u :: us, by simp only [C.repl]; exact ⟨u, us, rfl, h2, q1⟩, fun j v hv => ?_⟩
    cases j with
    | zero => simp at hv; subst hv; exact h1
    | succ j => rw [show off + (j + 1) = off + 1 + j from by omega]; exact q2 j v (by simpa using hv)
theorem C.repss_vals {L μ : List Nat} {w : World} {s : Nat} : ∀ {rows : List (List C)} {b off : Nat}, C.repss L μ w s rows b off → ∃ us, C.repl L μ w rows.flatten us ∧ us.length = rows.length * s ∧ ∀ (j : Nat) (u : Value), us[j]? = some u → w.cell? ⟨b, off + j, none⟩ = some u
  | [], b, off, h => ⟨[], by simp [C.repl], by simp, by simp⟩
  | r :: rows, b, off, h => by
    simp only [C.repss] at h
    obtain ⟨h0, h1, h2⟩ := h
    obtain ⟨us, q1, q2⟩ := C.reps_vals h1
    obtain ⟨vs, q3, q4, q5⟩ := C.repss_vals h2
    have hl := C.repl_length q1
    refine ⟨us ++ vs, by rw [List.flatten_cons]; exact C.repl_append q1 q3, by simp [hl, h0, q4, Nat.succ_mul]; omega, fun j u hu => ?_⟩
    by_cases hj : j < us.length
    · rw [List.getElem?_append_left hj] at hu; exact q2 j u hu
    · rw [List.getElem?_append_right (by omega)] at hu
      have := q5 _ u hu
      rwa [show off + s + (j - us.length) = off + j from by omega] at this
theorem Laid.repss {L μ : List Nat} {w : World} {cur : Array Value} {s g : Nat} {ty : TypeId} {rows : List (List C)} (h : Laid L μ w cur s rows) (hg : w.heap[g]? = some (.cells cur ty (0, 0))) : C.repss L μ w s rows g 0 := by
  refine C.repss_of (fun i r hr => ?_)
  obtain ⟨h1, h2⟩ := h i r hr
  refine ⟨h1, C.reps_of (fun j c hj => ?_)⟩
  obtain ⟨u, hu, hv⟩ := h2 j c hj
  exact ⟨u, by simp only [World.cell?, hg, Nat.zero_add]; simpa using hu, hv⟩
theorem C.repss_len {L μ : List Nat} {w : World} {s : Nat} {rows : List (List C)} {b off : Nat} (h : C.repss L μ w s rows b off) : ∀ r ∈ rows, r.length = s := by
  intro r hr
  obtain ⟨i, hi⟩ := List.getElem?_of_mem hr
  exact (C.repss_get h i r hi).1

/-! ### fill -/
theorem fold_cells (off : Nat) (l : List Value) (cells : Array Value) (h : off + l.length ≤ cells.size) :
    (l.zipIdx.foldl (fun cs (x : Value × Nat) => cs.setIfInBounds (off + x.2) x.1) cells).toList = cells.toList.take off ++ (l ++ cells.toList.drop (off + l.length)) := by
  obtain ⟨h1, h2⟩ := Great.foldl_set off l 0 cells
  apply List.ext_getElem?
  intro k
  rw [Array.getElem?_toList, h2 k]
  by_cases hk : k < off
  · rw [if_neg (by omega), List.getElem?_append_left (by simp; omega), List.getElem?_take, if_pos hk, Array.getElem?_toList]
  · by_cases hk2 : k < off + l.length
    · rw [if_pos (by omega), List.getElem?_append_right (by simp; omega)]
      rw [List.getElem?_append_left (by simp; omega)]
      congr 1
      simp; omega
    · rw [if_neg (by omega), List.getElem?_append_right (by simp; omega), List.getElem?_append_right (by simp; omega), List.getElem?_drop, Array.getElem?_toList]
      congr 1
      simp; omega

theorem C.repl_splice {L μ : List Nat} {w : World} {cs xs : List C} {us vs : List Value} (h : C.repl L μ w cs us) (k : C.repl L μ w xs vs) (off : Nat) : C.repl L μ w (splice cs off xs) (us.take off ++ (vs ++ us.drop (off + vs.length))) := by
  unfold splice
  rw [C.repl_length k]
  exact C.repl_append (C.repl_take h _) (C.repl_append k (C.repl_drop h _))

section
variable {P : Program} {X μ : List Nat} {s : ASt} {a : Act} {w : World} {o : Oper} {L : List Nat}

theorem bind_cells {L : List Nat} (he : ∀ o v, s.eval o = some v → AV.rep L μ w v (a.eval o)) {x : Operand} {xs : List C} (h : (s.eval x).bind AV.cells = some xs) : C.repl L μ w xs (a.eval x).cells.toList := by
  cases hq : s.eval x with
  | none => rw [hq] at h; cases h
  | some v => rw [hq] at h; exact AV.rep_cells h (he x v hq)

theorem fill_sound {L : List Nat} {fs : List (Nat × Nat × Bool)} {place : Nat → Option (Nat × Nat)} (hp : ∀ (f off size : Nat) (g : Bool), fs[f]? = some (off, size, g) → place f = some (off, size)) (he : ∀ o v, s.eval o = some v → AV.rep L μ w v (a.eval o)) :
    ∀ (parts : List (Nat × Operand)) (cs cs' : List C) (cells : Array Value), afill fs (parts.map fun p => (p.1, s.eval p.2)) cs = some cs' → C.repl L μ w cs cells.toList →
      ∃ cells', Instr.fill place cells (parts.map fun p => (p.1, a.eval p.2)) = some cells' ∧ C.repl L μ w cs' cells'.toList
  | [], cs, cs', cells, h, hr => by
    simp only [List.map_nil, afill, Option.some.injEq] at h
    subst h
    exact ⟨cells, rfl, hr⟩
  | (f, x) :: parts, cs, cs', cells, h, hr => by
    simp only [List.map_cons, afill] at h
    split at h
    · rename_i off size g xs hf hx
      split at h
      · rename_i hc
        have hxr := bind_cells (a := a) he hx
        have hxl := C.repl_length hxr
        have hcl := C.repl_length hr
        have hfold := fold_cells off (a.eval x).cells.toList cells (by simp only [Array.length_toList] at hcl; omega)
        obtain ⟨cells', h1, h2⟩ := fill_sound hp he parts _ cs' ((a.eval x).cells.zipIdx.foldl (fun cs (x : Value × Nat) => cs.setIfInBounds (off + x.2) x.1) cells) h (by
          rw [show (a.eval x).cells.zipIdx.foldl (fun cs (x : Value × Nat) => cs.setIfInBounds (off + x.2) x.1) cells = (a.eval x).cells.toList.zipIdx.foldl (fun cs (x : Value × Nat) => cs.setIfInBounds (off + x.2) x.1) cells from by rw [← Array.toList_zipIdx, Array.foldl_toList], hfold]
          exact C.repl_splice hr hxr off)
        refine ⟨cells', ?_, h2⟩
        have hxs : (a.eval x).cells.size = size := by simp only [Array.length_toList] at hxl; omega
        simp only [List.map_cons, Instr.fill, hp f off size g hf]
        rw [if_neg (by simp only [Array.length_toList] at hcl; simp; omega)]
        exact h1
      · cases h
    · cases h
end
end Go.Proofs.Sh
