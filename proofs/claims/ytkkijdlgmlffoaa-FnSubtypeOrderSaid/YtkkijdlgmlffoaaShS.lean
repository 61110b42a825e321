/- Slices: made, built, and grown. -/
import Derived.Test.YtkkijdlgmlffoaaShQ
namespace Go.Proofs.Sh
open Go.RowKit

theorem flatten_length {s : Nat} : ∀ {rows : List (List C)}, (∀ r ∈ rows, r.length = s) → rows.flatten.length = rows.length * s
  | [], _ => by simp
  | r :: rows, h => by
    rw [List.flatten_cons, List.length_append, h r (by simp), flatten_length (fun r hr => h r (by simp [hr])), List.length_cons, Nat.succ_mul]; omega
theorem flatten_set {s : Nat} {xs : List C} (hx : xs.length = s) : ∀ {rows : List (List C)} {i : Nat}, (∀ r ∈ rows, r.length = s) → i < rows.length → (rows.set i xs).flatten = splice rows.flatten (i * s) xs
  | [], i, _, hi => by simp at hi
  | r :: rows, 0, h, _ => by
    have := h r (by simp)
    simp only [List.set_cons_zero, List.flatten_cons, splice, Nat.zero_mul, List.take_zero, List.nil_append, Nat.zero_add, hx]
    rw [← this, List.drop_left]
  | r :: rows, i + 1, h, hi => by
    have h0 := h r (by simp)
    have ih := flatten_set hx (rows := rows) (i := i) (fun r hr => h r (by simp [hr])) (by simpa using hi)
    simp only [List.set_cons_succ, List.flatten_cons, ih]
    unfold splice
    rw [Nat.succ_mul, Nat.add_comm (i * s) s, ← h0, List.take_length_add_append, List.append_assoc, Nat.add_assoc, List.drop_length_add_append]
theorem flatten_replicate {l : List C} : ∀ (n j : Nat), (List.replicate n l).flatten[j]? = if j < n * l.length then l[j % l.length]? else none
  | 0, j => by simp
  | n + 1, j => by
    rw [List.replicate_succ, List.flatten_cons]
    by_cases hj : j < l.length
    · rw [List.getElem?_append_left hj, if_pos (by rw [Nat.succ_mul]; omega), Nat.mod_eq_of_lt hj]
    · rw [List.getElem?_append_right (by omega), flatten_replicate n]
      have e : (j - l.length) % l.length = j % l.length := (Nat.mod_eq_sub_mod (by omega)).symm
      rw [e]
      by_cases hk : j < (n + 1) * l.length
      · rw [if_pos hk, if_pos (by rw [Nat.succ_mul] at hk; omega)]
      · rw [if_neg hk, if_neg (by rw [Nat.succ_mul] at hk; omega)]

section
variable {P : Program} {X μ : List Nat} {s : ASt} {a : Act} {w : World} {o : Oper} {L : List Nat}

theorem zero_rows {z : Array Value} {n : Nat} (hz : ∀ u ∈ z.toList, u.oneCell' = true) (hs : 0 < z.size) : C.repl L μ w (List.replicate n (z.toList.map .sc)).flatten ((Array.range (n * z.size)).map (z[· % z.size]!)).toList := by
  have hl : (z.toList.map C.sc).length = z.size := by simp
  refine C.repl_of ?_ (fun j c u h1 h2 => ?_)
  · rw [flatten_length (s := z.size) (fun r hr => by rw [List.eq_of_mem_replicate hr, hl])]; simp
  · rw [flatten_replicate, hl] at h1
    split at h1
    · rename_i hj
      simp only [Array.toList_map, List.getElem?_map, Array.toList_range, List.getElem?_range hj, Option.map_some, Option.some.injEq] at h2
      have hm : j % z.size < z.size := Nat.mod_lt _ hs
      rw [List.getElem?_map, Array.getElem?_toList, Array.getElem?_eq_getElem hm] at h1
      simp only [Option.map_some, Option.some.injEq] at h1
      have e : z[j % z.size]! = z[j % z.size] := getElem!_pos z _ hm
      rw [e] at h2
      subst h1 h2
      simp only [C.rep, true_and]
      exact hz _ (by simp)
    · cases h1

theorem arow_sound {size : Nat} {L : List Nat} (he : ∀ o v, s.eval o = some v → AV.rep L μ w v (a.eval o)) :
    ∀ (parts : List (Nat × Operand)) (rows rows' : List (List C)) (cells : Array Value), arow size (parts.map fun p => (p.1, s.eval p.2)) rows = some rows' → (∀ r ∈ rows, r.length = size) → C.repl L μ w rows.flatten cells.toList →
      ∃ cells', Instr.fill (fun i => some (i * size, size)) cells (parts.map fun p => (p.1, a.eval p.2)) = some cells' ∧ C.repl L μ w rows'.flatten cells'.toList ∧ (∀ r ∈ rows', r.length = size) ∧ rows'.length = rows.length
  | [], rows, rows', cells, h, hl, hr => by
    simp only [List.map_nil, arow, Option.some.injEq] at h
    subst h
    exact ⟨cells, rfl, hr, hl, rfl⟩
  | (i, x) :: parts, rows, rows', cells, h, hl, hr => by
    simp only [List.map_cons, arow] at h
    split at h
    · rename_i xs hx
      split at h
      · rename_i hc
        obtain ⟨hxs, hi⟩ := hc
        have hxr := bind_cells (a := a) he hx
        have hxl := C.repl_length hxr
        have hcl := C.repl_length hr
        rw [flatten_length hl] at hcl
        have hfit : i * size + size ≤ rows.length * size := by
          have := Nat.mul_le_mul_right size (show i + 1 ≤ rows.length by omega)
          rwa [Nat.succ_mul] at this
        have hfold := fold_cells (i * size) (a.eval x).cells.toList cells (by simp only [Array.length_toList] at hcl hxl ⊢; omega)
        obtain ⟨cells', h1, h2, h3, h4⟩ := arow_sound he parts _ rows' ((a.eval x).cells.zipIdx.foldl (fun cs (x : Value × Nat) => cs.setIfInBounds (i * size + x.2) x.1) cells) h (by
            intro r hr
            rcases List.mem_or_eq_of_mem_set hr with hr | rfl
            · exact hl r hr
            · exact hxs) (by
          rw [show (a.eval x).cells.zipIdx.foldl (fun cs (x : Value × Nat) => cs.setIfInBounds (i * size + x.2) x.1) cells = (a.eval x).cells.toList.zipIdx.foldl (fun cs (x : Value × Nat) => cs.setIfInBounds (i * size + x.2) x.1) cells from by rw [← Array.toList_zipIdx, Array.foldl_toList], hfold, flatten_set hxs hl hi]
          exact C.repl_splice hr hxr (i * size))
        refine ⟨cells', ?_, h2, h3, by rw [h4]; simp⟩
        have hxs2 : (a.eval x).cells.size = size := by simp only [Array.length_toList] at hxl; omega
        simp only [List.map_cons, Instr.fill]
        rw [if_neg (by simp only [Array.length_toList] at hcl; simp; omega)]
        exact h1
      · cases h
    · cases h

theorem rep_row_new {μ : List Nat} {H : List Blk} {w w' : World} {n c sz : Nat} (hl : μ.length = H.length) (hc : n ≤ c) (hm : c ≤ maxLen) (hr : RowAt w' w.heap.size (c * sz)) : AV.rep L (μ ++ [w.heap.size]) w' (.one (.row sz H.length n)) (.slice (some ⟨w.heap.size, 0, none⟩) n c) := by
  simp only [AV.rep, C.rep]
  exact ⟨w.heap.size, c, getElem?_snoc.2 (.inr ⟨hl.symm, rfl⟩), rfl, hc, hm, hr⟩

theorem op_buildSlice {t : TypeId} {len : Nat} {parts : Array (Nat × Operand)} {v : AV} {h' : List Blk} (ho : o.op = .buildSlice t len parts) (hF : SimF X μ s a w) (hv : abuildSlice P s.h t len (parts.toList.map fun p => (p.1, s.eval p.2)) = .val v h') : OpNew P X μ s a w o v h' := by
  unfold abuildSlice at hv
  split at hv
  · rename_i ti hti
    obtain ⟨i, d, z, hi, hd, hz, hzc, hzs, rfl⟩ := tinfo_spec hti
    split at hv
    · rename_i te hte
      obtain ⟨i', d', z', hi', hd', hz', hzc', hzs', rfl⟩ := tinfo_spec hte
      split at hv
      · rename_i hk
        simp only at hk hv
        obtain ⟨hk, _, hsm, hpos⟩ := hk
        obtain ⟨e, rfl⟩ := tkind_slice (tkindP_eq hk (by decide))
        simp only [telem] at hi' hv
        split at hv
        · rename_i rows hrows
          injection hv with hv1 hv2
          subst hv1 hv2
          have hzl : ∀ r ∈ List.replicate len (z'.cells.toList.map C.sc), r.length = i'.size := fun r hr => by rw [List.eq_of_mem_replicate hr]; simp [hzs']
          have hzr : C.repl (X ++ alive μ s.h) μ w (List.replicate len (z'.cells.toList.map C.sc)).flatten ((Array.range (len * i'.size)).map (z'.cells[· % z'.cells.size]!)).toList := by
            have := zero_rows (L := X ++ alive μ s.h) (μ := μ) (w := w) (z := z'.cells) (n := len) hzc' (by omega)
            rwa [hzs'] at this ⊢
          obtain ⟨cells', h1, h2, h3, h4⟩ := arow_sound (a := a) (fun o v hv => hF.eval hv) parts.toList _ rows _ hrows hzl hzr
          have h5 : rows.length = len := by rw [h4]; simp
          have hcs : cells'.size = len * i'.size := by
            have := C.repl_length h2
            rw [flatten_length h3, h5] at this
            simpa using this
          have hrun : (execOp a.eval o).run P w = .ok (.value (.slice (some ⟨w.heap.size, 0, none⟩) len len)) (w.alloc (.cells cells' e)) := by
            by_cases hl0 : len = 0
            · subst hl0
              have : cells' = #[] := Array.eq_empty_of_size_eq_zero (by simpa using hcs)
              subst this
              have hp0 : parts = #[] := by
                cases hpl : parts.toList with
                | nil => simpa using hpl
                | cons p l =>
                  rw [hpl] at hrows
                  simp only [List.map_cons, List.replicate_zero, arow] at hrows
                  split at hrows <;> simp at hrows
              subst hp0
              have hr0 : Array.range 0 = #[] := rfl
              simp [execOp, ho, Instr.buildSlice, run_underlying' hd, run_sizeOf' hi', newRow, Instr.fill, hr0]
            · have hb := run_buildSlice (P := P) w t e len (parts.map fun (i, x) => (i, a.eval x)) cells' i' z' hd hi' hz' (by omega) (by
                intro h0
                rcases Nat.mul_eq_zero.1 h0 with h0 | h0
                · exact hl0 h0
                · omega) (by simpa using h1)
              simp only [execOp, ho, Sem.run_bind, hb, Result.andThen_ok, Sem.run_pure]
          obtain ⟨q1, q2⟩ := hF.sim.new (Keep.alloc _ w _) (heap_alloc_new w _) (ty := e) (Laid.flat h3 h2 (fun j u hu => by simpa using hu))
          exact ⟨_, _, _, hrun, q1, q2, rep_row_new hF.sim.len (Nat.le_refl _) (by simp only [maxLen]; have := Nat.le_mul_of_pos_right len hpos; omega) ⟨cells', e, heap_alloc_new w _, hcs⟩, Keep.alloc _ _ _⟩
        · cases hv
      · cases hv
    · cases hv
  · cases hv

theorem op_makeSlice {t : TypeId} {x y : Operand} {vx vy v : AV} {h' : List Blk} (ho : o.op = .makeSlice t x y) (hF : SimF X μ s a w) (hx : s.eval x = some vx) (hy : s.eval y = some vy) (hv : amakeSlice P s.h t vx vy = .val v h') : OpNew P X μ s a w o v h' := by
  have h1 := hF.eval hx
  have h2 := hF.eval hy
  unfold amakeSlice at hv
  split at hv
  · rename_i ti k n k' c hti
    obtain ⟨i, d, z, hi, hd, hz, hzc, hzs, rfl⟩ := tinfo_spec hti
    split at hv
    · rename_i te hte
      obtain ⟨i', d', z', hi', hd', hz', hzc', hzs', rfl⟩ := tinfo_spec hte
      split at hv
      · rename_i hk
        simp only at hk hv
        obtain ⟨hk, _, hpos, hnc, hn0, hby, hmx⟩ := hk
        subst hnc
        obtain ⟨e, rfl⟩ := tkind_slice (tkindP_eq hk (by decide))
        simp only [telem] at hi' hv
        injection hv with hv1 hv2
        subst hv1 hv2
        have e1 := AV.sc_eq h1
        have e2 := AV.sc_eq h2
        have hmk := run_make (P := P) w t e i' z' hd hi' hz' k k' n n hn0 (Int.le_refl _) (by omega) (by omega)
        have hrun : (execOp a.eval o).run P w = .ok (.value (.slice (some ⟨w.heap.size, 0, none⟩) n.toNat n.toNat)) (w.alloc (.cells (madeCells z'.cells (n.toNat * i'.size)) e)) := by
          simp only [execOp, ho, e1, e2, Sem.run_bind, hmk, Result.andThen_ok, Sem.run_pure]
        have hzr : C.repl (X ++ alive μ s.h) μ w (List.replicate n.toNat (z'.cells.toList.map C.sc)).flatten (madeCells z'.cells (n.toNat * i'.size)).toList := by
          have := zero_rows (L := X ++ alive μ s.h) (μ := μ) (w := w) (z := z'.cells) (n := n.toNat) hzc' (by omega)
          rw [hzs'] at this
          rw [madeCells, hzs']
          exact this
        obtain ⟨q1, q2⟩ := hF.sim.new (Keep.alloc _ w _) (heap_alloc_new w _) (ty := e) (s := i'.size) (Laid.flat (fun r hr => by rw [List.eq_of_mem_replicate hr]; simp [hzs']) hzr (fun j u hu => by simpa using hu))
        exact ⟨_, _, _, hrun, q1, q2, rep_row_new hF.sim.len (Nat.le_refl _) (by simp only [maxLen]; omega) ⟨_, e, heap_alloc_new w _, size_madeCells _ _⟩, Keep.alloc _ _ _⟩
      · cases hv
    · cases hv
  · cases hv
end
end Go.Proofs.Sh
