/- Texts of the proof, one behind another. -/
import Derived.Test.YtkkijdlgmlffoaaKW8
set_option linter.unusedSimpArgs false
set_option linter.unusedVariables false
/- Owned trees: trees in own blocks, each block at one place only. -/
namespace Go.Proofs.Sh
open Go.RowKit

def leaf : C → Option (C × List Nat)
  | .sc (.slice none 0 0) => some (.sl [], [])
  | .sc v => some (.sc v, [])
  | .sl [] => some (.sl [], [])
  | _ => none
/-- a cell of an owned tree, as a tree; and its own blocks -/
def ow (h : List Blk) : Nat → C → Option (C × List Nat)
  | d + 1, .row s b n => match h[b]? with
    | some k => if k.st.isMut = true ∧ k.rows.length = n ∧ s = k.s ∧ rowsLen s k.rows = true then (match fzRows (ow h d) k.rows with
        | some (rows, ids) => some (.sl rows, b :: ids)
        | none => none)
      else none
    | none => none
  | _, c => leaf c
theorem leaf_ids {c c' : C} {ids : List Nat} (e : leaf c = some (c', ids)) : ids = [] := by
  unfold leaf at e
  split at e <;> simp at e <;> exact e.2
theorem ow_leaf {h : List Blk} {d : Nat} {c : C} (hc : ∀ s b n, c ≠ .row s b n) : ow h d c = leaf c := by
  cases c with
  | row s b n => exact absurd rfl (hc s b n)
  | _ => cases d <;> rfl
theorem leaf_ren {f : Nat → Nat} {c : C} {c' : C} {ids : List Nat} (e : leaf c = some (c', ids)) : c.ren f = c := by
  cases c <;> first | rfl | (cases e; done)

theorem ow_row {h : List Blk} {d s b n : Nat} {c' : C} {ids : List Nat} (e : ow h d (.row s b n) = some (c', ids)) :
    ∃ d' k R js, d = d' + 1 ∧ h[b]? = some k ∧ k.st.isMut = true ∧ k.rows.length = n ∧ s = k.s ∧ rowsLen s k.rows = true ∧ fzRows (ow h d') k.rows = some (R, js) ∧ c' = .sl R ∧ ids = b :: js := by
  cases d with
  | zero => cases e
  | succ d =>
  unfold ow at e
  split at e <;> try contradiction
  rename_i k hk
  split at e <;> try contradiction
  rename_i hc
  split at e <;> try contradiction
  rename_i R js hr
  simp only [Option.some.injEq, Prod.mk.injEq] at e
  exact ⟨_, k, R, js, rfl, hk, hc.1, hc.2.1, hc.2.2.1, hc.2.2.2, hr, e.1.symm, e.2.symm⟩
theorem ow_row_of {h : List Blk} {d s b n : Nat} {k : Blk} {R : List (List C)} {js : List Nat} (h1 : h[b]? = some k) (h2 : k.st.isMut = true) (h3 : k.rows.length = n) (h4 : s = k.s) (h5 : rowsLen s k.rows = true) (h6 : fzRows (ow h d) k.rows = some (R, js)) : ow h (d + 1) (.row s b n) = some (.sl R, b :: js) := by
  unfold ow
  simp only [h1]
  rw [if_pos ⟨h2, h3, h4, h5⟩, h6]

theorem fzL_congr {f g : C → Option (C × List Nat)} (hfg : ∀ c c' i, f c = some (c', i) → g c = some (c', i)) : ∀ {cs cs' ids}, fzL f cs = some (cs', ids) → fzL g cs = some (cs', ids)
  | [], cs', ids, e => e
  | c :: cs, cs', ids, e => by
    simp only [fzL] at e ⊢
    split at e
    · rename_i c1 i c2 j h1 h2
      rw [hfg _ _ _ h1, fzL_congr hfg h2]; exact e
    · cases e
theorem fzRows_congr {f g : C → Option (C × List Nat)} (hfg : ∀ c c' i, f c = some (c', i) → g c = some (c', i)) : ∀ {rs rs' ids}, fzRows f rs = some (rs', ids) → fzRows g rs = some (rs', ids)
  | [], rs', ids, e => e
  | r :: rs, rs', ids, e => by
    simp only [fzRows] at e ⊢
    split at e
    · rename_i c1 i c2 j h1 h2
      rw [fzL_congr hfg h1, fzRows_congr hfg h2]; exact e
    · cases e

/-- deeper looks see the same -/
theorem ow_mono {h : List Blk} : ∀ {d : Nat} {c c' : C} {ids : List Nat}, ow h d c = some (c', ids) → ow h (d + 1) c = some (c', ids) := by
  intro d
  induction d with
  | zero =>
    intro c c' ids e
    cases c with
    | row s b n => obtain ⟨d', k, R, js, he, _⟩ := ow_row e; cases he
    | _ => rw [ow_leaf (by simp)] at e ⊢; exact e
  | succ d ih =>
    intro c c' ids e
    cases c with
    | row s b n =>
      obtain ⟨d', k, R, js, he, h1, h2, h3, h4, h5, h6, rfl, rfl⟩ := ow_row e
      cases he
      exact ow_row_of h1 h2 h3 h4 h5 (fzRows_congr (fun _ _ _ => ih) h6)
    | _ => rw [ow_leaf (by simp)] at e ⊢; exact e
theorem ow_le {h : List Blk} {d d' : Nat} {c c' : C} {ids : List Nat} (hd : d ≤ d') (e : ow h d c = some (c', ids)) : ow h d' c = some (c', ids) := by
  induction hd with
  | refl => exact e
  | step _ ih => exact ow_mono ih

theorem fzL_congrM {f g : C → Option (C × List Nat)} {ks : List Nat} (hfg : ∀ c c' i, f c = some (c', i) → (∀ b ∈ i, b ∈ ks) → g c = some (c', i)) : ∀ {cs cs' ids}, fzL f cs = some (cs', ids) → (∀ b ∈ ids, b ∈ ks) → fzL g cs = some (cs', ids)
  | [], cs', ids, e, _ => e
  | c :: cs, cs', ids, e, hk => by
    simp only [fzL] at e ⊢
    split at e
    · rename_i c1 i c2 j h1 h2
      simp only [Option.some.injEq, Prod.mk.injEq] at e
      obtain ⟨rfl, rfl⟩ := e
      rw [hfg _ _ _ h1 (fun b hb => hk b (by simp [hb])), fzL_congrM hfg h2 (fun b hb => hk b (by simp [hb]))]
    · cases e
theorem fzRows_congrM {f g : C → Option (C × List Nat)} {ks : List Nat} (hfg : ∀ c c' i, f c = some (c', i) → (∀ b ∈ i, b ∈ ks) → g c = some (c', i)) : ∀ {rs rs' ids}, fzRows f rs = some (rs', ids) → (∀ b ∈ ids, b ∈ ks) → fzRows g rs = some (rs', ids)
  | [], rs', ids, e, _ => e
  | r :: rs, rs', ids, e, hk => by
    simp only [fzRows] at e ⊢
    split at e
    · rename_i c1 i c2 j h1 h2
      simp only [Option.some.injEq, Prod.mk.injEq] at e
      obtain ⟨rfl, rfl⟩ := e
      rw [fzL_congrM hfg h1 (fun b hb => hk b (by simp [hb])), fzRows_congrM hfg h2 (fun b hb => hk b (by simp [hb]))]
    · cases e

/-- what is not of the tree does not count -/
theorem ow_frame {h h' : List Blk} : ∀ {d : Nat} {c c' : C} {ids : List Nat}, ow h d c = some (c', ids) → (∀ b ∈ ids, h'[b]? = h[b]?) → ow h' d c = some (c', ids) := by
  intro d
  induction d with
  | zero =>
    intro c c' ids e _
    cases c with
    | row s b n => obtain ⟨d', k, R, js, he, _⟩ := ow_row e; cases he
    | _ => rw [ow_leaf (by simp)] at e ⊢; exact e
  | succ d ih =>
    intro c c' ids e hf
    cases c with
    | row s b n =>
      obtain ⟨d', k, R, js, he, h1, h2, h3, h4, h5, h6, rfl, rfl⟩ := ow_row e
      cases he
      exact ow_row_of (by rw [hf b (by simp)]; exact h1) h2 h3 h4 h5 (fzRows_congrM (ks := js) (fun _ _ _ e hk => ih e (fun b hb => hf b (by simp [hk b hb]))) h6 (fun _ h => h))
    | _ => rw [ow_leaf (by simp)] at e ⊢; exact e
theorem owL_frame {h h' : List Blk} {d : Nat} {cs cs' : List C} {ids : List Nat} (e : fzL (ow h d) cs = some (cs', ids)) (hf : ∀ b ∈ ids, h'[b]? = h[b]?) : fzL (ow h' d) cs = some (cs', ids) :=
  fzL_congrM (ks := ids) (fun _ _ _ e hk => ow_frame e (fun b hb => hf b (hk b hb))) e (fun _ h => h)
theorem owR_frame {h h' : List Blk} {d : Nat} {cs cs' : List (List C)} {ids : List Nat} (e : fzRows (ow h d) cs = some (cs', ids)) (hf : ∀ b ∈ ids, h'[b]? = h[b]?) : fzRows (ow h' d) cs = some (cs', ids) :=
  fzRows_congrM (ks := ids) (fun _ _ _ e hk => ow_frame e (fun b hb => hf b (hk b hb))) e (fun _ h => h)
theorem owL_le {h : List Blk} {d d' : Nat} {cs cs' : List C} {ids : List Nat} (hd : d ≤ d') (e : fzL (ow h d) cs = some (cs', ids)) : fzL (ow h d') cs = some (cs', ids) := fzL_congr (fun _ _ _ => ow_le hd) e
theorem owR_le {h : List Blk} {d d' : Nat} {cs cs' : List (List C)} {ids : List Nat} (hd : d ≤ d') (e : fzRows (ow h d) cs = some (cs', ids)) : fzRows (ow h d') cs = some (cs', ids) := fzRows_congr (fun _ _ _ => ow_le hd) e

/-- all its blocks are there, and may be written -/
theorem fzL_all {Q : Nat → Prop} {f : C → Option (C × List Nat)} (hf : ∀ c c' i, f c = some (c', i) → ∀ b ∈ i, Q b) : ∀ {cs cs' ids}, fzL f cs = some (cs', ids) → ∀ b ∈ ids, Q b
  | [], cs', ids, e => by simp only [fzL, Option.some.injEq, Prod.mk.injEq] at e; rw [← e.2]; simp
  | c :: cs, cs', ids, e => by
    simp only [fzL] at e
    split at e
    · rename_i c1 i c2 j h1 h2
      simp only [Option.some.injEq, Prod.mk.injEq] at e
      obtain ⟨rfl, rfl⟩ := e
      intro b hb
      rcases List.mem_append.1 hb with hb | hb
      · exact hf _ _ _ h1 b hb
      · exact fzL_all hf h2 b hb
    · cases e
theorem fzRows_all {Q : Nat → Prop} {f : C → Option (C × List Nat)} (hf : ∀ c c' i, f c = some (c', i) → ∀ b ∈ i, Q b) : ∀ {cs cs' ids}, fzRows f cs = some (cs', ids) → ∀ b ∈ ids, Q b
  | [], cs', ids, e => by simp only [fzRows, Option.some.injEq, Prod.mk.injEq] at e; rw [← e.2]; simp
  | c :: cs, cs', ids, e => by
    simp only [fzRows] at e
    split at e
    · rename_i c1 i c2 j h1 h2
      simp only [Option.some.injEq, Prod.mk.injEq] at e
      obtain ⟨rfl, rfl⟩ := e
      intro b hb
      rcases List.mem_append.1 hb with hb | hb
      · exact fzL_all hf h1 b hb
      · exact fzRows_all hf h2 b hb
    · cases e
def MutAt (h : List Blk) (b : Nat) : Prop := ∃ k, h[b]? = some k ∧ k.st.isMut = true
theorem ow_mut {h : List Blk} : ∀ {d : Nat} {c c' : C} {ids : List Nat}, ow h d c = some (c', ids) → ∀ b ∈ ids, MutAt h b := by
  intro d
  induction d with
  | zero =>
    intro c c' ids e b hb
    cases c with
    | row s b n => obtain ⟨d', k, R, js, he, _⟩ := ow_row e; cases he
    | _ => rw [ow_leaf (by simp)] at e; rw [leaf_ids e] at hb; simp at hb
  | succ d ih =>
    intro c c' ids e b hb
    cases c with
    | row s b' n =>
      obtain ⟨d', k, R, js, he, h1, h2, h3, h4, h5, h6, rfl, rfl⟩ := ow_row e
      cases he
      rcases List.mem_cons.1 hb with rfl | hb
      · exact ⟨k, h1, h2⟩
      · exact fzRows_all (Q := MutAt h) (fun _ _ _ e => ih e) h6 b hb
    | _ => rw [ow_leaf (by simp)] at e; rw [leaf_ids e] at hb; simp at hb
theorem owL_mut {h : List Blk} {d : Nat} {cs cs' : List C} {ids : List Nat} (e : fzL (ow h d) cs = some (cs', ids)) : ∀ b ∈ ids, MutAt h b := fzL_all (Q := MutAt h) (fun _ _ _ e => ow_mut e) e
theorem owR_mut {h : List Blk} {d : Nat} {cs cs' : List (List C)} {ids : List Nat} (e : fzRows (ow h d) cs = some (cs', ids)) : ∀ b ∈ ids, MutAt h b := fzRows_all (Q := MutAt h) (fun _ _ _ e => ow_mut e) e
theorem MutAt.lt {h : List Blk} {b : Nat} (e : MutAt h b) : b < h.length := by obtain ⟨k, hk, _⟩ := e; exact (List.getElem?_eq_some_iff.1 hk).1

/-! ### rows one by one -/
theorem fzRows_app {f : C → Option (C × List Nat)} : ∀ {r1 r2 R1 R2 : List (List C)} {i j : List Nat}, fzRows f r1 = some (R1, i) → fzRows f r2 = some (R2, j) → fzRows f (r1 ++ r2) = some (R1 ++ R2, i ++ j)
  | [], r2, R1, R2, i, j, h1, h2 => by
    simp only [fzRows, Option.some.injEq, Prod.mk.injEq] at h1
    obtain ⟨rfl, rfl⟩ := h1
    simpa using h2
  | r :: r1, r2, R1, R2, i, j, h1, h2 => by
    simp only [fzRows] at h1
    split at h1
    · rename_i c1 i1 c2 j1 e1 e2
      simp only [Option.some.injEq, Prod.mk.injEq] at h1
      obtain ⟨rfl, rfl⟩ := h1
      simp only [List.cons_append, fzRows, e1, fzRows_app e2 h2, List.append_assoc]
    · cases h1
theorem fzRows_split {f : C → Option (C × List Nat)} : ∀ {i : Nat} {rows R : List (List C)} {ids : List Nat} {r : List C}, fzRows f rows = some (R, ids) → rows[i]? = some r →
    ∃ r' pre is post, R[i]? = some r' ∧ fzL f r = some (r', is) ∧ ids = pre ++ (is ++ post) ∧ fzRows f (rows.take i) = some (R.take i, pre) ∧ fzRows f (rows.drop (i + 1)) = some (R.drop (i + 1), post)
  | i, [], R, ids, r, h, hr => by simp at hr
  | 0, r0 :: rows, R, ids, r, h, hr => by
    simp only [List.getElem?_cons_zero, Option.some.injEq] at hr
    subst hr
    simp only [fzRows] at h
    split at h
    · rename_i c1 i1 c2 j1 e1 e2
      simp only [Option.some.injEq, Prod.mk.injEq] at h
      obtain ⟨rfl, rfl⟩ := h
      exact ⟨c1, [], i1, j1, rfl, e1, rfl, rfl, by simpa using e2⟩
    · cases h
  | i + 1, r0 :: rows, R, ids, r, h, hr => by
    simp only [List.getElem?_cons_succ] at hr
    simp only [fzRows] at h
    split at h
    · rename_i c1 i1 c2 j1 e1 e2
      simp only [Option.some.injEq, Prod.mk.injEq] at h
      obtain ⟨rfl, rfl⟩ := h
      obtain ⟨r', pre, is, post, q1, q2, q3, q4, q5⟩ := fzRows_split e2 hr
      exact ⟨r', i1 ++ pre, is, post, by simpa using q1, q2, by rw [q3, List.append_assoc], by simp only [List.take_succ_cons, fzRows, e1, q4], by simpa using q5⟩
    · cases h
theorem set_split {α : Type} : ∀ {l : List α} {i : Nat} {x : α}, i < l.length → l.set i x = l.take i ++ (x :: l.drop (i + 1))
  | [], i, x, h => by simp at h
  | a :: l, 0, x, h => by simp
  | a :: l, i + 1, x, h => by simp [set_split (l := l) (i := i) (x := x) (by simpa using h)]
/-- one row is changed -/
theorem fzRows_set {g : C → Option (C × List Nat)} {i : Nat} {rows R : List (List C)} {pre is post : List Nat} {r r' : List C} (hi : i < rows.length) (hR : R.length = rows.length) (h1 : fzRows g (rows.take i) = some (R.take i, pre)) (h2 : fzL g r = some (r', is)) (h3 : fzRows g (rows.drop (i + 1)) = some (R.drop (i + 1), post)) :
    fzRows g (rows.set i r) = some (R.set i r', pre ++ (is ++ post)) := by
  rw [set_split hi, set_split (by omega)]
  refine fzRows_app h1 ?_
  simp only [fzRows, h2, h3]
theorem fzRows_len {f : C → Option (C × List Nat)} {rows R : List (List C)} {ids : List Nat} (h : fzRows f rows = some (R, ids)) : R.length = rows.length := (fzRows_get h).1
theorem fzL_len {f : C → Option (C × List Nat)} {cs cs' : List C} {ids : List Nat} (h : fzL f cs = some (cs', ids)) : cs'.length = cs.length := (fzL_get h).1

/-! ### by other numbers -/
theorem renL_map (f : Nat → Nat) : ∀ cs : List C, C.renL f cs = cs.map (C.ren f)
  | [] => rfl
  | c :: cs => by simp [C.renL, renL_map f cs]
theorem renA_map (f : Nat → Nat) (cs : List C) : renA f cs = cs.map (C.ren f) := by
  unfold renA
  split
  · rename_i ht
    symm
    calc cs.map (C.ren f) = cs.map id := List.map_congr_left fun c hc => C.ren_tree (List.all_eq_true.1 ht c hc)
      _ = cs := List.map_id _
  · exact renL_map f cs
theorem renRows_map (f : Nat → Nat) (rows : List (List C)) : renRows f rows = rows.map (List.map (C.ren f)) := by
  unfold renRows
  split
  · rename_i ht
    symm
    calc rows.map (List.map (C.ren f)) = rows.map id := List.map_congr_left fun r hr => by
          rw [← renA_map]; unfold renA; rw [if_pos (List.all_eq_true.1 ht r hr)]; rfl
      _ = rows := List.map_id _
  · exact List.map_congr_left fun r _ => renA_map f r
theorem fzL_ren {g : C → Option (C × List Nat)} {k : C → Option (C × List Nat)} {f : Nat → Nat} {ks : List Nat} (hg : ∀ c c' i, g c = some (c', i) → (∀ b ∈ i, b ∈ ks) → k (c.ren f) = some (c', i.map f)) : ∀ {cs cs' ids}, fzL g cs = some (cs', ids) → (∀ b ∈ ids, b ∈ ks) → fzL k (cs.map (C.ren f)) = some (cs', ids.map f)
  | [], cs', ids, e, _ => by
    simp only [fzL, Option.some.injEq, Prod.mk.injEq] at e
    obtain ⟨rfl, rfl⟩ := e
    rfl
  | c :: cs, cs', ids, e, hk => by
    simp only [fzL] at e
    split at e
    · rename_i c1 i c2 j h1 h2
      simp only [Option.some.injEq, Prod.mk.injEq] at e
      obtain ⟨rfl, rfl⟩ := e
      simp only [List.map_cons, fzL, hg _ _ _ h1 (fun b hb => hk b (by simp [hb])), fzL_ren hg h2 (fun b hb => hk b (by simp [hb])), List.map_append]
    · cases e
theorem fzRows_ren {g : C → Option (C × List Nat)} {k : C → Option (C × List Nat)} {f : Nat → Nat} {ks : List Nat} (hg : ∀ c c' i, g c = some (c', i) → (∀ b ∈ i, b ∈ ks) → k (c.ren f) = some (c', i.map f)) : ∀ {cs cs' ids}, fzRows g cs = some (cs', ids) → (∀ b ∈ ids, b ∈ ks) → fzRows k (cs.map (List.map (C.ren f))) = some (cs', ids.map f)
  | [], cs', ids, e, _ => by
    simp only [fzRows, Option.some.injEq, Prod.mk.injEq] at e
    obtain ⟨rfl, rfl⟩ := e
    rfl
  | c :: cs, cs', ids, e, hk => by
    simp only [fzRows] at e
    split at e
    · rename_i c1 i c2 j h1 h2
      simp only [Option.some.injEq, Prod.mk.injEq] at e
      obtain ⟨rfl, rfl⟩ := e
      simp only [List.map_cons, fzRows, fzL_ren hg h1 (fun b hb => hk b (by simp [hb])), fzRows_ren hg h2 (fun b hb => hk b (by simp [hb])), List.map_append]
    · cases e
theorem rowsLen_map {s : Nat} {f : Nat → Nat} : ∀ {rows : List (List C)}, rowsLen s rows = true → rowsLen s (rows.map (List.map (C.ren f))) = true
  | [], _ => rfl
  | r :: rows, h => by
    simp only [rowsLen_cons, Bool.and_eq_true] at h
    simp only [List.map_cons, rowsLen_cons, List.length_map, Bool.and_eq_true]
    exact ⟨h.1, rowsLen_map h.2⟩
/-- an owned tree by other numbers -/
theorem ow_ren {h h' : List Blk} {f : Nat → Nat} : ∀ {d : Nat} {c c' : C} {ids : List Nat}, ow h d c = some (c', ids) → (∀ b ∈ ids, ∀ k, h[b]? = some k → h'[f b]? = some (k.ren f)) → ow h' d (c.ren f) = some (c', ids.map f) := by
  intro d
  induction d with
  | zero =>
    intro c c' ids e _
    cases c with
    | row s b n => obtain ⟨d', k, R, js, he, _⟩ := ow_row e; cases he
    | _ => rw [ow_leaf (by simp)] at e; rw [leaf_ren e, leaf_ids e, ow_leaf (by simp), e, leaf_ids e]; rfl
  | succ d ih =>
    intro c c' ids e hf
    cases c with
    | row s b n =>
      obtain ⟨d', k, R, js, he, h1, h2, h3, h4, h5, h6, rfl, rfl⟩ := ow_row e
      cases he
      refine ow_row_of (hf b (by simp) k h1) h2 (by simp [Blk.ren, renRows_map, h3]) h4 (by simp only [Blk.ren, renRows_map]; exact rowsLen_map h5) ?_
      simp only [Blk.ren, renRows_map]
      exact fzRows_ren (ks := js) (fun _ _ _ e hk => ih e (fun b hb => hf b (by simp [hk b hb]))) h6 (fun _ h => h)
    | _ => rw [ow_leaf (by simp)] at e; rw [leaf_ren e, leaf_ids e, ow_leaf (by simp), e, leaf_ids e]; rfl
theorem owL_ren {h h' : List Blk} {f : Nat → Nat} {d : Nat} {cs cs' : List C} {ids : List Nat} (e : fzL (ow h d) cs = some (cs', ids)) (hf : ∀ b ∈ ids, ∀ k, h[b]? = some k → h'[f b]? = some (k.ren f)) : fzL (ow h' d) (cs.map (C.ren f)) = some (cs', ids.map f) :=
  fzL_ren (ks := ids) (fun _ _ _ e hk => ow_ren e (fun b hb => hf b (hk b hb))) e (fun _ h => h)
end Go.Proofs.Sh
/- Owned trees: lent to a call, handed back by one, and kept beside. -/
namespace Go.Proofs.Sh
open Go.RowKit

/-! ### seen as frozen ones -/
theorem leaf_cases {c c' : C} {ids : List Nat} (e : leaf c = some (c', ids)) : ids = [] ∧ ((c = .sc (.slice none 0 0) ∧ c' = .sl []) ∨ (∃ v, c = .sc v ∧ v ≠ .slice none 0 0 ∧ c' = .sc v) ∨ (c = .sl [] ∧ c' = .sl [])) := by
  unfold leaf at e
  split at e
  · simp only [Option.some.injEq, Prod.mk.injEq] at e; exact ⟨e.2.symm, .inl ⟨rfl, e.1.symm⟩⟩
  · rename_i v hv; simp only [Option.some.injEq, Prod.mk.injEq] at e; exact ⟨e.2.symm, .inr (.inl ⟨v, rfl, fun h => hv h, e.1.symm⟩)⟩
  · simp only [Option.some.injEq, Prod.mk.injEq] at e; exact ⟨e.2.symm, .inr (.inr ⟨rfl, e.1.symm⟩)⟩
  · cases e
theorem leaf_fz {h : List Blk} {d : Nat} {c c' : C} {ids : List Nat} (e : leaf c = some (c', ids)) : fz h d c = some (c', ids) := by
  obtain ⟨rfl, ⟨rfl, rfl⟩ | ⟨v, rfl, hv, rfl⟩ | ⟨rfl, rfl⟩⟩ := leaf_cases e
  · cases d <;> rfl
  · rw [fz]; exact fun e => hv e
  · cases d <;> rfl
theorem fz_tree {h : List Blk} {d : Nat} {c : C} {c' : C} {ids : List Nat} (ht : c.tree = true) (e : ow h d c = some (c', ids)) : c' = c ∧ ids = [] := by
  cases c with
  | row s b n => cases ht
  | _ =>
    rw [ow_leaf (by simp)] at e
    obtain ⟨rfl, ⟨h1, h2⟩ | ⟨v, h1, hv, h2⟩ | ⟨h1, h2⟩⟩ := leaf_cases e
    · rw [h1] at ht; cases ht
    · exact ⟨by rw [h1, h2], rfl⟩
    · exact ⟨by rw [h1, h2], rfl⟩
theorem owL_tree {h : List Blk} {d : Nat} : ∀ {cs cs' : List C} {ids : List Nat}, treeL cs = true → fzL (ow h d) cs = some (cs', ids) → cs' = cs ∧ ids = []
  | [], cs', ids, _, e => by simp only [fzL, Option.some.injEq, Prod.mk.injEq] at e; exact ⟨e.1.symm, e.2.symm⟩
  | c :: cs, cs', ids, ht, e => by
    simp only [treeL, List.all_cons, Bool.and_eq_true] at ht
    simp only [fzL] at e
    split at e
    · rename_i c1 i c2 j h1 h2
      simp only [Option.some.injEq, Prod.mk.injEq] at e
      obtain ⟨rfl, rfl⟩ := fz_tree ht.1 h1
      obtain ⟨rfl, rfl⟩ := owL_tree ht.2 h2
      exact ⟨e.1.symm, by rw [← e.2]; rfl⟩
    · cases e
theorem owR_tree {h : List Blk} {d : Nat} : ∀ {cs cs' : List (List C)} {ids : List Nat}, treeRows cs = true → fzRows (ow h d) cs = some (cs', ids) → cs' = cs ∧ ids = []
  | [], cs', ids, _, e => by simp only [fzRows, Option.some.injEq, Prod.mk.injEq] at e; exact ⟨e.1.symm, e.2.symm⟩
  | c :: cs, cs', ids, ht, e => by
    simp only [treeRows, List.all_cons, Bool.and_eq_true] at ht
    simp only [fzRows] at e
    split at e
    · rename_i c1 i c2 j h1 h2
      simp only [Option.some.injEq, Prod.mk.injEq] at e
      obtain ⟨rfl, rfl⟩ := owL_tree ht.1 h1
      obtain ⟨rfl, rfl⟩ := owR_tree ht.2 h2
      exact ⟨e.1.symm, by rw [← e.2]; rfl⟩
    · cases e
theorem ow_fz {h : List Blk} : ∀ {d : Nat} {c c' : C} {ids : List Nat}, ow h d c = some (c', ids) → fz h d c = some (c', ids) := by
  intro d
  induction d with
  | zero =>
    intro c c' ids e
    cases c with
    | row s b n => obtain ⟨d', k, R, js, he, _⟩ := ow_row e; cases he
    | _ => rw [ow_leaf (by simp)] at e; exact leaf_fz e
  | succ d ih =>
    intro c c' ids e
    cases c with
    | row s b n =>
      obtain ⟨d', k, R, js, he, h1, h2, h3, h4, h5, h6, rfl, rfl⟩ := ow_row e
      cases he
      unfold fz
      simp only [h1]
      rw [if_pos ⟨known_of_mut h2, h3⟩]
      split
      · rename_i ht
        obtain ⟨rfl, rfl⟩ := owR_tree ht h6
        rfl
      · rw [fzRows_congr (fun _ _ _ => ih) h6]
    | _ => rw [ow_leaf (by simp)] at e; exact leaf_fz e
theorem owL_fz {h : List Blk} {d : Nat} {cs cs' : List C} {ids : List Nat} (e : fzL (ow h d) cs = some (cs', ids)) : fzL (fz h d) cs = some (cs', ids) := fzL_congr (fun _ _ _ => ow_fz) e

/-- arguments as trees, and their own blocks -/
inductive Lent (h : List Blk) : AV → AV → List Nat → Prop
  | same {v : AV} (hv : (match v with | .one c => c.tree | .agg cs => treeL cs | .tup _ => false) = true) : Lent h v v []
  | fn {g : FuncId} : Lent h (.one (.fn g [])) (.one (.fn g [])) []
  | one {d : Nat} {c c' : C} {ids : List Nat} (e : ow h d c = some (c', ids)) : Lent h (.one c) (.one c') ids
  | agg {d : Nat} {cs cs' : List C} {ids : List Nat} (e : fzL (ow h d) cs = some (cs', ids)) : Lent h (.agg cs) (.agg cs') ids
inductive Lents (h : List Blk) : List AV → List AV → List Nat → Prop
  | nil : Lents h [] [] []
  | cons {v v' : AV} {vs vs' : List AV} {i j : List Nat} (a : Lent h v v' i) (b : Lents h vs vs' j) : Lents h (v :: vs) (v' :: vs') (i ++ j)

section
variable {X μ : List Nat} {h : List Blk} {w : World}
theorem fzL_rep (hS : Sim X μ h w) {L' : List Nat} (hL : ∀ x, x ∈ L' → x ∈ X ++ alive μ h) {d : Nat} : ∀ {cs cs' : List C} {ids : List Nat} {us : List Value}, fzL (fz h d) cs = some (cs', ids) → (∀ b ∈ ids, ∀ g, μ[b]? = some g → g ∉ L') → C.repl (X ++ alive μ h) μ w cs us → C.repl L' [] w cs' us
  | [], cs', ids, us, e, _, hr => by
    simp only [fzL, Option.some.injEq, Prod.mk.injEq] at e
    rw [← e.1]; simpa [C.repl] using hr
  | c :: cs, cs', ids, us, e, hi, hr => by
    simp only [fzL] at e
    split at e
    · rename_i c1 i c2 j h1 h2
      simp only [Option.some.injEq, Prod.mk.injEq] at e
      obtain ⟨rfl, rfl⟩ := e
      simp only [C.repl] at hr ⊢
      obtain ⟨u, us', rfl, r1, r2⟩ := hr
      exact ⟨u, us', rfl, fz_sound hS hL d _ _ _ u h1 (fun b hb => hi b (by simp [hb])) r1, fzL_rep hS hL h2 (fun b hb => hi b (by simp [hb])) r2⟩
    · cases e
theorem Lent.rep (hS : Sim X μ h w) {L' : List Nat} (hL : ∀ x, x ∈ L' → x ∈ X ++ alive μ h) {v v' : AV} {ids : List Nat} {u : Value} (e : Lent h v v' ids) (hi : ∀ b ∈ ids, ∀ g, μ[b]? = some g → g ∉ L') (hr : AV.rep (X ++ alive μ h) μ w v u) : AV.rep L' [] w v' u := by
  cases e with
  | same hv =>
    cases v with
    | one c => simp only [AV.rep] at hr ⊢; exact C.rep.sub hL (C.rep_tree hv hr)
    | agg cs =>
      simp only [AV.rep] at hr ⊢
      obtain ⟨arr, rfl, h2⟩ := hr
      exact ⟨arr, rfl, C.repl.carry (K := []) ⟨Keep.refl _ _, fun _ _ _ => by simp, fun x _ hx hm => hx (hL x hm), fun _ _ h => h⟩ (C.repl_tree hv h2)⟩
    | tup _ => cases hv
  | fn =>
    simp only [AV.rep, C.rep, C.repl] at hr ⊢
    exact hr
  | one e => simp only [AV.rep] at hr ⊢; exact fz_sound hS hL _ _ _ _ u (ow_fz e) hi hr
  | agg e =>
    simp only [AV.rep] at hr ⊢
    obtain ⟨arr, rfl, h2⟩ := hr
    exact ⟨arr, rfl, fzL_rep hS hL (owL_fz e) hi h2⟩
theorem Lents.rep (hS : Sim X μ h w) {L' : List Nat} (hL : ∀ x, x ∈ L' → x ∈ X ++ alive μ h) : ∀ {vs vs' : List AV} {ids : List Nat} {us : List Value}, Lents h vs vs' ids → (∀ b ∈ ids, ∀ g, μ[b]? = some g → g ∉ L') → AV.repl (X ++ alive μ h) μ w vs us → AV.repl L' [] w vs' us
  | [], _, _, us, e, _, hr => by cases e; simpa [AV.repl] using hr
  | v :: vs, _, _, us, e, hi, hr => by
    cases e with
    | cons a b =>
      simp only [AV.repl] at hr ⊢
      obtain ⟨u, us', rfl, r1, r2⟩ := hr
      exact ⟨u, us', rfl, a.rep hS hL (fun b hb => hi b (by simp [hb])) r1, Lents.rep hS hL b (fun b hb => hi b (by simp [hb])) r2⟩
end

/-! ### what names no memory but own blocks -/
def C.flat : C → Bool
  | .top => true
  | .sc _ => true
  | .sl [] => true
  | .row .. => true
  | .ptr .. => true
  | _ => false
mutual
def AV.flat : AV → Bool
  | .one c => c.flat
  | .agg cs => cs.all C.flat
  | .tup vs => AV.flats vs
def AV.flats : List AV → Bool
  | [] => true
  | v :: vs => v.flat && AV.flats vs
end
def Blk.flat (k : Blk) : Bool := k.st.isMut && k.rows.all (fun r => r.all C.flat)
section
variable {L L' μ : List Nat} {w : World}
theorem C.rep_flat {c : C} {u : Value} (hf : c.flat = true) (h : C.rep L μ w c u) : C.rep L' μ w c u := by
  cases c with
  | sl rows =>
    cases rows with
    | nil => simp only [C.rep] at h ⊢; obtain ⟨p, cap, h1, h2, h3, _⟩ := h; exact ⟨p, cap, h1, h2, h3, .inl trivial⟩
    | cons r rows => cases hf
  | cur cs j => cases hf
  | fn f caps => cases hf
  | _ => simpa only [C.rep] using h
theorem C.repl_flat : ∀ {cs : List C} {us : List Value}, cs.all C.flat = true → C.repl L μ w cs us → C.repl L' μ w cs us
  | [], us, _, h => by simpa [C.repl] using h
  | c :: cs, us, hf, h => by
    simp only [List.all_cons, Bool.and_eq_true] at hf
    simp only [C.repl] at h ⊢
    obtain ⟨u, us', rfl, r1, r2⟩ := h
    exact ⟨u, us', rfl, C.rep_flat hf.1 r1, C.repl_flat hf.2 r2⟩
mutual
theorem AV.rep_flat : ∀ {v : AV} {u : Value}, v.flat = true → AV.rep L μ w v u → AV.rep L' μ w v u
  | .one c, u, hf, h => by simp only [AV.rep] at h ⊢; exact C.rep_flat hf h
  | .agg cs, u, hf, h => by
    simp only [AV.rep] at h ⊢
    obtain ⟨arr, rfl, h2⟩ := h
    exact ⟨arr, rfl, C.repl_flat hf h2⟩
  | .tup vs, u, hf, h => by
    simp only [AV.rep] at h ⊢
    obtain ⟨arr, rfl, h2⟩ := h
    exact ⟨arr, rfl, AV.repl_flat hf h2⟩
theorem AV.repl_flat : ∀ {vs : List AV} {us : List Value}, AV.flats vs = true → AV.repl L μ w vs us → AV.repl L' μ w vs us
  | [], us, _, h => by simpa [AV.repl] using h
  | v :: vs, us, hf, h => by
    simp only [AV.flats, Bool.and_eq_true] at hf
    simp only [AV.repl] at h ⊢
    obtain ⟨u, us', rfl, r1, r2⟩ := h
    exact ⟨u, us', rfl, AV.rep_flat hf.1 r1, AV.repl_flat hf.2 r2⟩
end
theorem Laid.flat_ {cur : Array Value} {s : Nat} {rows : List (List C)} (hf : rows.all (fun r => r.all C.flat) = true) (h : Laid L μ w cur s rows) : Laid L' μ w cur s rows := by
  intro i r hi
  obtain ⟨h1, h2⟩ := h i r hi
  refine ⟨h1, fun j c hj => ?_⟩
  obtain ⟨u, hu, hv⟩ := h2 j c hj
  have := List.all_eq_true.1 (List.all_eq_true.1 hf r (List.mem_of_getElem? hi)) c (List.mem_of_getElem? hj)
  exact ⟨u, hu, C.rep_flat this hv⟩
end

theorem back_nil (n b : Nat) : back n [] b = n + b := by simp [back]

/-- A call that reads trees, of which some are one's own, and yields nothing else than scalars and own blocks. -/
theorem acalls_lend {P : Program} {f : FuncId} {args args' : List AV} {h : List Blk} {ids : List Nat} {K : AV → List Blk → Prop} (hz : Lents h args args' ids) (hc : ACl P f args' [] K) (hfl : ∀ r H', K r H' → r.flat = true ∧ H'.all Blk.flat = true) :
    ACalls P f args h [] (fun r h' => ∃ r0 H', K r0 H' ∧ r = r0.ren (back h.length []) ∧ h' = h ++ H'.map (Blk.ren (back h.length []))) := by
  obtain ⟨⟨hfn, hcall⟩⟩ := hc
  refine ⟨hfn, fun X μ w vs hS hr => ?_⟩
  let X2 := (X ++ alive μ h).filter fun g => ids.all fun b => μ[b]? != some g
  have hX2 : ∀ x ∈ X2, x ∈ X ++ alive μ h := fun x hx => (List.mem_filter.1 hx).1
  have hlt : ∀ x ∈ X ++ alive μ h, x < w.heap.size := fun x hx => by
    rcases List.mem_append.1 hx with hx | hx
    · exact hS.xlt x hx
    · exact hS.aliveLt hx
  have hS2 : Sim X2 [] [] w := ⟨rfl, fun _ h => by simp at h, fun x hx => hlt x (hX2 x hx), fun i b g h => by simp at h, fun i j b b' g _ h => by simp at h, fun i b g h => by simp at h⟩
  have hr2 : AV.repl (X2 ++ alive [] []) [] w args' vs.toList := by
    have : X2 ++ alive [] [] = X2 := by simp [alive]
    rw [this]
    refine hz.rep hS hX2 (fun b hb g hg hx => ?_) hr
    have := List.all_eq_true.1 (List.mem_filter.1 hx).2 b hb
    simp [hg] at this
  refine (hcall X2 [] w vs hS2 hr2).mono fun e w' ⟨r0, H', μ', v, he, hk, s1, s2, s3⟩ => ?_
  obtain ⟨f1, f2⟩ := hfl r0 H' hk
  have hK : Keep [] w w' := s2.keep
  have hmut : ∀ (i : Nat) (k : Blk), H'[i]? = some k → k.st.isMut = true ∧ k.rows.all (fun r => r.all C.flat) = true := fun i k hi => by
    have := List.all_eq_true.1 f2 k (List.mem_of_getElem? hi)
    simpa [Blk.flat] using this
  have hnew : ∀ (i : Nat) (k : Blk) (g : Nat), H'[i]? = some k → μ'[i]? = some g → w.heap.size ≤ g := fun i k g hi hg => by
    refine Nat.le_of_not_lt fun hlt => ?_
    have := s2.old g (mem_alive.2 ⟨i, k, hg, hi, (hmut i k hi).1⟩) hlt
    simp [alive] at this
  have hlen := hS.len
  have hmap : ∀ (b g : Nat), μ'[b]? = some g → (μ ++ μ')[back h.length [] b]? = some g := fun b g hb => by
    rw [back_nil, List.getElem?_append_right (by omega), ← hb]; congr 1; omega
  have hget : ∀ (x : Nat) (k : Blk), (h ++ H'.map (Blk.ren (back h.length [])))[x]? = some k → (x < h.length ∧ h[x]? = some k ∧ ∀ g, (μ ++ μ')[x]? = some g → μ[x]? = some g) ∨ ∃ i k0, x = h.length + i ∧ H'[i]? = some k0 ∧ k = k0.ren (back h.length []) ∧ ∀ g, (μ ++ μ')[x]? = some g → μ'[i]? = some g := fun x k hx => by
    rcases Nat.lt_or_ge x h.length with hl | hl
    · rw [List.getElem?_append_left hl] at hx
      exact .inl ⟨hl, hx, fun g hg => by rwa [List.getElem?_append_left (by omega)] at hg⟩
    · rw [List.getElem?_append_right hl, List.getElem?_map, Option.map_eq_some_iff] at hx
      obtain ⟨k0, h1, rfl⟩ := hx
      exact .inr ⟨x - h.length, k0, by omega, h1, rfl, fun g hg => by rwa [List.getElem?_append_right (by omega), hlen] at hg⟩
  have hal : ∀ x, x ∈ alive (μ ++ μ') (h ++ H'.map (Blk.ren (back h.length []))) → x ∈ alive μ h ∨ w.heap.size ≤ x := fun x hx => by
    obtain ⟨i, k, h1, h2, h3⟩ := mem_alive.1 hx
    rcases hget i k h2 with ⟨_, q2, q3⟩ | ⟨j, k0, rfl, q2, rfl, q4⟩
    · exact .inl (mem_alive.2 ⟨i, k, q3 x h1, q2, h3⟩)
    · exact .inr (hnew j k0 x q2 (q4 x h1))
  have hT : Stp μ h w (μ ++ μ') (h ++ H'.map (Blk.ren (back h.length []))) w' := by
    refine ⟨hK.mono (by simp), fun b g hb => by rw [List.getElem?_append_left (List.getElem?_eq_some_iff.1 hb).1]; exact hb, fun x hx hl => ?_⟩
    rcases hal x hx with hx | hx
    · exact hx
    · omega
  have hfree : ∀ {L : List Nat} {v : AV} {u : Value}, v.flat = true → AV.rep L μ' w' v u → AV.rep (X ++ alive (μ ++ μ') (h ++ H'.map (Blk.ren (back h.length [])))) (μ ++ μ') w' (v.ren (back h.length [])) u := fun hf hv => AV.rep_ren (fun _ h => h) hmap (AV.rep_flat hf hv)
  refine ⟨_, _, μ ++ μ', v, he, ⟨r0, H', hk, rfl, rfl⟩, ?_, hT, hfree f1 s3, by simpa [mapK] using hK⟩
  refine ⟨by simp [hlen, s1.len], ?_, fun g hg => Nat.lt_of_lt_of_le (hS.xlt g hg) hK.size, ?_, ?_, ?_⟩
  · intro g hg
    rcases List.mem_append.1 hg with hg | hg
    · exact Nat.lt_of_lt_of_le (hS.lt g hg) hK.size
    · exact s1.lt g hg
  · intro i k g hi hk hg
    rcases hget i k hi with ⟨_, q2, q3⟩ | ⟨j, k0, rfl, q2, rfl, q4⟩
    · exact hS.out i k g q2 hk (q3 g hg)
    · intro hx
      have := hnew j k0 g q2 (q4 g hg)
      have := hS.xlt g hx
      omega
  · intro i j k k' g hij hi hj hm hk hgi hgj
    rcases hget i k hi with ⟨_, q2, q3⟩ | ⟨i', k0, rfl, q2, rfl, q4⟩ <;> rcases hget j k' hj with ⟨_, p2, p3⟩ | ⟨j', k1, rfl, p2, rfl, p4⟩
    · exact hS.inj i j k k' g hij q2 p2 hm hk (q3 g hgi) (p3 g hgj)
    · have := hnew j' k1 g p2 (p4 g hgj)
      have := hS.lt g (List.mem_of_getElem? (q3 g hgi))
      omega
    · have := hnew i' k0 g q2 (q4 g hgi)
      have := hS.lt g (List.mem_of_getElem? (p3 g hgj))
      omega
    · exact s1.inj i' j' k0 k1 g (fun e => hij (by rw [e])) q2 p2 hm hk (q4 g hgi) (p4 g hgj)
  · intro i k g hi hk hg
    rcases hget i k hi with ⟨_, q2, q3⟩ | ⟨j, k0, rfl, q2, rfl, q4⟩
    · obtain ⟨cur, hc, hl⟩ := hS.blk i k g q2 hk (q3 g hg)
      exact ⟨cur, by rw [hK.block g (by simp) (hS.lt g (List.mem_of_getElem? (q3 g hg)))]; exact hc, hl.carry hT.carry⟩
    · obtain ⟨cur, hc, hl⟩ := s1.blk j k0 g q2 hk (q4 g hg)
      exact ⟨cur, hc, Laid.ren (fun _ h => h) hmap (Laid.flat_ (hmut j k0 q2).2 hl)⟩
/-- .. only scalars -/
theorem acalls_read {P : Program} {f : FuncId} {args args' : List AV} {h : List Blk} {ids : List Nat} {r : AV} (hz : Lents h args args' ids) (hc : AFn P f args' r) (hfl : r.flat = true) (hren : ∀ g, r.ren g = r) : ACalls P f args h [] (fun r' h' => r' = r ∧ h' = h) :=
  (acalls_lend hz hc.cl (fun r' H' ⟨e1, e2⟩ => by subst e1 e2; exact ⟨hfl, rfl⟩)).mono fun r' h' ⟨r0, H', ⟨e1, e2⟩, e3, e4⟩ => by subst e1 e2; exact ⟨by rw [e3, hren], by simpa using e4⟩
/-- a call that may change any own block -/
theorem acalls_full {P : Program} {f : FuncId} {args : List AV} {h : List Blk} {K : AV → List Blk → Prop} (hc : ACl P f args h K) : ACalls P f args h (List.range h.length) K := by
  obtain ⟨⟨hfn, hcall⟩⟩ := hc
  refine ⟨hfn, fun X μ w vs hS hr => (hcall X μ w vs hS hr).mono fun e w' ⟨r, H', μ', v, he, hk, s1, s2, s3⟩ => ⟨r, H', μ', v, he, hk, s1, s2, s3, s2.keep.mono fun x hx => ?_⟩⟩
  obtain ⟨i, k, h1, h2, _⟩ := mem_alive.1 hx
  have hl := (List.getElem?_eq_some_iff.1 h2).1
  exact List.mem_map.2 ⟨i, by simpa using hl, by rw [List.getD_eq_getElem?_getD, h1]; rfl⟩
end Go.Proofs.Sh
/- Owned trees: handed back by a function; grown by one. -/
namespace Go.Proofs.Sh
open Go.RowKit

/-- every block of an owned tree, with what lies in it -/
theorem fzL_each {Q : Nat → Prop} {f : C → Option (C × List Nat)} {ks : List Nat} (hf : ∀ c c' i, f c = some (c', i) → (∀ b ∈ i, b ∈ ks) → ∀ b ∈ i, Q b) : ∀ {cs cs' ids}, fzL f cs = some (cs', ids) → (∀ b ∈ ids, b ∈ ks) → ∀ b ∈ ids, Q b
  | [], cs', ids, e, _ => by simp only [fzL, Option.some.injEq, Prod.mk.injEq] at e; rw [← e.2]; simp
  | c :: cs, cs', ids, e, hk => by
    simp only [fzL] at e
    split at e
    · rename_i c1 i c2 j h1 h2
      simp only [Option.some.injEq, Prod.mk.injEq] at e
      obtain ⟨rfl, rfl⟩ := e
      intro b hb
      rcases List.mem_append.1 hb with hb | hb
      · exact hf _ _ _ h1 (fun b hb => hk b (by simp [hb])) b hb
      · exact fzL_each hf h2 (fun b hb => hk b (by simp [hb])) b hb
    · cases e
theorem fzRows_each {Q : Nat → Prop} {f : C → Option (C × List Nat)} {ks : List Nat} (hf : ∀ c c' i, f c = some (c', i) → (∀ b ∈ i, b ∈ ks) → ∀ b ∈ i, Q b) : ∀ {cs cs' ids}, fzRows f cs = some (cs', ids) → (∀ b ∈ ids, b ∈ ks) → ∀ b ∈ ids, Q b
  | [], cs', ids, e, _ => by simp only [fzRows, Option.some.injEq, Prod.mk.injEq] at e; rw [← e.2]; simp
  | c :: cs, cs', ids, e, hk => by
    simp only [fzRows] at e
    split at e
    · rename_i c1 i c2 j h1 h2
      simp only [Option.some.injEq, Prod.mk.injEq] at e
      obtain ⟨rfl, rfl⟩ := e
      intro b hb
      rcases List.mem_append.1 hb with hb | hb
      · exact fzL_each hf h1 (fun b hb => hk b (by simp [hb])) b hb
      · exact fzRows_each hf h2 (fun b hb => hk b (by simp [hb])) b hb
    · cases e
def Holds (h : List Blk) (ks : List Nat) (b : Nat) : Prop := ∃ k d R js, h[b]? = some k ∧ k.st.isMut = true ∧ fzRows (ow h d) k.rows = some (R, js) ∧ ∀ x ∈ js, x ∈ ks
theorem ow_each {h : List Blk} {ks : List Nat} : ∀ {d : Nat} {c c' : C} {ids : List Nat}, ow h d c = some (c', ids) → (∀ b ∈ ids, b ∈ ks) → ∀ b ∈ ids, Holds h ks b := by
  intro d
  induction d with
  | zero =>
    intro c c' ids e _ b hb
    cases c with
    | row s b n => obtain ⟨d', k, R, js, he, _⟩ := ow_row e; cases he
    | _ => rw [ow_leaf (by simp)] at e; rw [leaf_ids e] at hb; simp at hb
  | succ d ih =>
    intro c c' ids e hk b hb
    cases c with
    | row s b' n =>
      obtain ⟨d', k, R, js, he, h1, h2, h3, h4, h5, h6, rfl, rfl⟩ := ow_row e
      cases he
      have hj : ∀ b ∈ js, b ∈ ks := fun b hb => hk b (by simp [hb])
      rcases List.mem_cons.1 hb with rfl | hb
      · exact ⟨k, d, R, js, h1, h2, h6, hj⟩
      · exact fzRows_each (ks := ks) (fun _ _ _ e => ih e) h6 hj b hb
    | _ => rw [ow_leaf (by simp)] at e; rw [leaf_ids e] at hb; simp at hb
theorem owL_each {h : List Blk} {d : Nat} {cs cs' : List C} {ids : List Nat} (e : fzL (ow h d) cs = some (cs', ids)) : ∀ b ∈ ids, Holds h ids b := fzL_each (ks := ids) (fun _ _ _ e => ow_each e) e (fun _ h => h)

/-- the place of a block in a list -/
def posD (ks : List Nat) (b : Nat) : Nat := (pos b ks).getD 0
theorem pos_mem {b : Nat} : ∀ {l : List Nat}, b ∈ l → ∃ i, pos b l = some i
  | [], h => by simp at h
  | x :: l, h => by
    simp only [pos]
    split
    · exact ⟨0, rfl⟩
    · rename_i hx
      rcases List.mem_cons.1 h with h | h
      · exact absurd h.symm hx
      · obtain ⟨i, hi⟩ := pos_mem h
        exact ⟨i + 1, by rw [hi]⟩
theorem posD_get {ks : List Nat} {b : Nat} (h : b ∈ ks) : pos b ks = some (posD ks b) ∧ ks[posD ks b]? = some b := by
  obtain ⟨i, hi⟩ := pos_mem h
  have : posD ks b = i := by simp [posD, hi]
  exact ⟨by rw [this]; exact hi, by rw [this]; exact pos_spec hi⟩
theorem prC_ow {h : List Blk} {ks : List Nat} {d : Nat} {c c' : C} {ids : List Nat} (e : ow h d c = some (c', ids)) (hk : ∀ b ∈ ids, b ∈ ks) : prC false h ks c = some (c.ren (posD ks), []) := by
  cases c with
  | row s b n =>
    obtain ⟨d', k, R, js, he, h1, h2, h3, h4, h5, h6, rfl, rfl⟩ := ow_row e
    simp only [prC, (posD_get (hk b (by simp))).1, C.ren]
  | _ =>
    rw [ow_leaf (by simp)] at e
    first
      | (obtain ⟨rfl, ⟨h1, h2⟩ | ⟨v, h1, hv, h2⟩ | ⟨h1, h2⟩⟩ := leaf_cases e <;> first | (cases h1; done) | (cases h1; rfl))
theorem prCs_ow {h : List Blk} {ks : List Nat} {d : Nat} : ∀ {cs cs' : List C} {ids : List Nat}, fzL (ow h d) cs = some (cs', ids) → (∀ b ∈ ids, b ∈ ks) → prCs false h ks cs = some (cs.map (C.ren (posD ks)), [])
  | [], _, _, _, _ => rfl
  | c :: cs, cs', ids, e, hk => by
    simp only [fzL] at e
    split at e
    · rename_i c1 i c2 j h1 h2
      simp only [Option.some.injEq, Prod.mk.injEq] at e
      obtain ⟨rfl, rfl⟩ := e
      simp only [prCs, prC_ow h1 (fun b hb => hk b (by simp [hb])), prCs_ow h2 (fun b hb => hk b (by simp [hb])), List.map_cons, List.append_nil]
    · cases e
theorem prL_ow {h : List Blk} {ks : List Nat} {d : Nat} {cs cs' : List C} {ids : List Nat} (e : fzL (ow h d) cs = some (cs', ids)) (hk : ∀ b ∈ ids, b ∈ ks) : prL false h ks cs = some (cs.map (C.ren (posD ks)), []) := by
  unfold prL
  split
  · rename_i ht; rw [← renA_map]; unfold renA; rw [if_pos ht]
  · exact prCs_ow e hk
theorem prRs_ow {h : List Blk} {ks : List Nat} {d : Nat} : ∀ {cs cs' : List (List C)} {ids : List Nat}, fzRows (ow h d) cs = some (cs', ids) → (∀ b ∈ ids, b ∈ ks) → prRs h ks cs = some (cs.map (List.map (C.ren (posD ks))), [])
  | [], _, _, _, _ => rfl
  | c :: cs, cs', ids, e, hk => by
    simp only [fzRows] at e
    split at e
    · rename_i c1 i c2 j h1 h2
      simp only [Option.some.injEq, Prod.mk.injEq] at e
      obtain ⟨rfl, rfl⟩ := e
      simp only [prRs, prL_ow h1 (fun b hb => hk b (by simp [hb])), prRs_ow h2 (fun b hb => hk b (by simp [hb])), List.map_cons, List.append_nil]
    · cases e
theorem prR_ow {h : List Blk} {ks : List Nat} {d : Nat} {cs cs' : List (List C)} {ids : List Nat} (e : fzRows (ow h d) cs = some (cs', ids)) (hk : ∀ b ∈ ids, b ∈ ks) : prR h ks cs = some (renRows (posD ks) cs, []) := by
  unfold prR
  split
  · rename_i ht; unfold renRows; rw [if_pos ht]
  · rw [renRows_map]; exact prRs_ow e hk
theorem prH_ow {h : List Blk} {ks : List Nat} : ∀ {l : List Nat}, (∀ b ∈ l, Holds h ks b) → ∃ K, prH h ks l = some (K, []) ∧ K.length = l.length ∧ ∀ (i b : Nat), l[i]? = some b → ∃ k, h[b]? = some k ∧ k.st.isMut = true ∧ K[i]? = some (k.ren (posD ks))
  | [], _ => ⟨[], rfl, rfl, by simp⟩
  | b :: l, hh => by
    obtain ⟨K, h1, h2, h3⟩ := prH_ow (l := l) (fun b hb => hh b (by simp [hb]))
    obtain ⟨k, d, R, js, e1, e2, e3, e4⟩ := hh b (by simp)
    refine ⟨k.ren (posD ks) :: K, ?_, by simp [h2], fun i b' hi => ?_⟩
    · simp only [prH, e1, known_of_mut e2, if_true, prR_ow e3 e4, h1, List.append_nil, Blk.ren]
    · cases i with
      | zero => simp at hi; subst hi; exact ⟨k, e1, e2, rfl⟩
      | succ i => exact h3 i b' (by simpa using hi)

theorem nodupB_of : ∀ {l : List Nat}, l.Nodup → nodupB l = true
  | [], _ => rfl
  | x :: l, h => by
    obtain ⟨h1, h2⟩ := List.nodup_cons.1 h
    simp [nodupB, h1, nodupB_of h2]

theorem nodup_map {f : Nat → Nat} : ∀ {l : List Nat}, (∀ x ∈ l, ∀ y ∈ l, f x = f y → x = y) → l.Nodup → (l.map f).Nodup
  | [], _, _ => List.nodup_nil
  | x :: l, hf, h => by
    obtain ⟨h1, h2⟩ := List.nodup_cons.1 h
    refine List.nodup_cons.2 ⟨fun hm => ?_, nodup_map (fun a ha b hb => hf a (by simp [ha]) b (by simp [hb])) h2⟩
    obtain ⟨y, hy, e⟩ := List.mem_map.1 hm
    have := hf y (by simp [hy]) x (by simp) e
    subst this
    exact h1 hy

/-- a result that is an owned tree: enc the tree, F what stands about its cells -/
def OwnK (enc : List C) (F : List C → AV) (r : AV) (H' : List Blk) : Prop := ∃ cs d ids, r = F cs ∧ fzL (ow H' d) cs = some (enc, ids) ∧ ids.Nodup ∧ ∀ b, b < H'.length → b ∈ ids

theorem own_ret {h : List Blk} {d : Nat} {cs enc : List C} {ids : List Nat} {F : List C → AV} (e : fzL (ow h d) cs = some (enc, ids)) (hn : ids.Nodup) (hF : ∀ cs', prL false h ids cs = some (cs', []) → prVs false h ids [F cs] = some ([F cs'], [])) :
    ∃ r' H' h1, prep false h ids [F cs] = some ([r'], H', h1) ∧ OwnK enc F r' H' := by
  obtain ⟨K, k1, k2, k3⟩ := prH_ow (l := ids) (owL_each e)
  have hp := prL_ow e (fun _ h => h)
  have hv : prVs false h ids [F cs] = some ([F (cs.map (C.ren (posD ids)))], []) := hF _ hp
  refine ⟨F (cs.map (C.ren (posD ids))), K, frzAt [] h, ?_, _, d, ids.map (posD ids), rfl, owL_ren e (fun b hb k hk => ?_), ?_, fun b hb => ?_⟩
  · simp only [prep, hv, k1, apart, List.append_nil, List.all_nil, nodupB_of hn, and_self, if_true]
  · obtain ⟨_, h2⟩ := posD_get hb
    obtain ⟨k', e1, e2, e3⟩ := k3 _ b h2
    rw [hk] at e1; cases e1
    exact e3
  · refine nodup_map (fun x hx y hy he => ?_) hn
    have h1 := (posD_get hx).2
    have h2 := (posD_get hy).2
    rw [he, h2] at h1
    cases h1; rfl
  · rw [k2] at hb
    refine List.mem_map.2 ⟨ids[b], List.getElem_mem hb, ?_⟩
    have hx := (posD_get (List.getElem_mem hb)).2
    obtain ⟨hi, hv⟩ := List.getElem?_eq_some_iff.1 hx
    have hpw := List.pairwise_iff_getElem.1 hn
    rcases Nat.lt_trichotomy (posD ids ids[b]) b with hlt | heq | hgt
    · exact absurd hv (hpw _ _ hi hb hlt)
    · exact heq
    · exact absurd hv.symm (hpw _ _ hb hi hgt)

theorem ow_flat {h : List Blk} {d : Nat} {c c' : C} {ids : List Nat} (e : ow h d c = some (c', ids)) : c.flat = true := by
  cases c with
  | row s b n => rfl
  | _ =>
    rw [ow_leaf (by simp)] at e
    obtain ⟨rfl, ⟨h1, h2⟩ | ⟨v, h1, hv, h2⟩ | ⟨h1, h2⟩⟩ := leaf_cases e <;> first | (cases h1; done) | (cases h1; rfl)
theorem owL_flat {h : List Blk} {d : Nat} : ∀ {cs cs' : List C} {ids : List Nat}, fzL (ow h d) cs = some (cs', ids) → cs.all C.flat = true
  | [], _, _, _ => rfl
  | c :: cs, cs', ids, e => by
    simp only [fzL] at e
    split at e
    · rename_i c1 i c2 j h1 h2
      simp only [List.all_cons, ow_flat h1, owL_flat h2, Bool.true_and]
    · cases e
theorem owR_flat {h : List Blk} {d : Nat} : ∀ {cs cs' : List (List C)} {ids : List Nat}, fzRows (ow h d) cs = some (cs', ids) → cs.all (fun r => r.all C.flat) = true
  | [], _, _, _ => rfl
  | c :: cs, cs', ids, e => by
    simp only [fzRows] at e
    split at e
    · rename_i c1 i c2 j h1 h2
      simp only [List.all_cons, owL_flat h1, owR_flat h2, Bool.true_and]
    · cases e
theorem OwnK.flat {enc : List C} {F : List C → AV} {r : AV} {H' : List Blk} (hF : ∀ cs, cs.all C.flat = true → (F cs).flat = true) (h : OwnK enc F r H') : r.flat = true ∧ H'.all Blk.flat = true := by
  obtain ⟨cs, d, ids, rfl, e, _, hc⟩ := h
  refine ⟨hF cs (owL_flat e), List.all_eq_true.2 fun k hk => ?_⟩
  obtain ⟨b, hb⟩ := List.getElem?_of_mem hk
  obtain ⟨k', d', R, js, e1, e2, e3, _⟩ := owL_each e b (hc b (List.getElem?_eq_some_iff.1 hb).1)
  rw [hb] at e1; cases e1
  simp only [Blk.flat, e2, owR_flat e3, Bool.and_self]

/-- what a call leaves that yields an owned tree: h the own blocks ahead -/
def Owned (h : List Blk) (enc : List C) (F : List C → AV) (r : AV) (h' : List Blk) : Prop := ∃ cs d ids, r = F cs ∧ fzL (ow h' d) cs = some (enc, ids) ∧ ids.Nodup ∧ (∀ b ∈ ids, h.length ≤ b ∧ b < h'.length) ∧ h.length ≤ h'.length ∧ ∀ b, b < h.length → h'[b]? = h[b]?
theorem acalls_own {P : Program} {f : FuncId} {args args' : List AV} {h : List Blk} {ids : List Nat} {enc : List C} {F : List C → AV} (hz : Lents h args args' ids) (hc : ACl P f args' [] (OwnK enc F)) (hF : ∀ cs, cs.all C.flat = true → (F cs).flat = true) (hR : ∀ cs g, (F cs).ren g = F (cs.map (C.ren g))) : ACalls P f args h [] (Owned h enc F) := by
  refine (acalls_lend hz hc (fun r H' h => h.flat hF)).mono fun r h' ⟨r0, H', ⟨cs, d, ids, e1, e2, e3, e4⟩, e5, e6⟩ => ?_
  subst e1 e5 e6
  refine ⟨_, d, ids.map (back h.length []), hR _ _, owL_ren e2 (fun b _ k hk => ?_), ?_, fun b hb => ?_, by simp, fun b hb => List.getElem?_append_left hb⟩
  · rw [back_nil, List.getElem?_append_right (by omega), Nat.add_sub_cancel_left, List.getElem?_map, hk]; rfl
  · exact nodup_map (fun x _ y _ hxy => by simpa [back_nil] using hxy) e3
  · obtain ⟨x, hx, rfl⟩ := List.mem_map.1 hb
    have := (owL_mut e2 x hx).lt
    rw [back_nil]
    simp only [List.length_append, List.length_map]
    omega

/-! ### an append -/
theorem own_grow0 {h : List Blk} {d s ty : Nat} {cs enc : List C} {ids : List Nat} {y : Blk} (e : fzL (ow h d) cs = some (enc, ids)) (hl : cs.length = s) (hn : ids.Nodup) (hb : ∀ b ∈ ids, b < h.length) :
    ow (h ++ [y] ++ [⟨s, ty, .mut, [cs]⟩]) (d + 1) (.row s (h.length + 1) 1) = some (.sl [enc], (h.length + 1) :: ids) ∧ ((h.length + 1) :: ids).Nodup := by
  refine ⟨ow_row_of (k := ⟨s, ty, .mut, [cs]⟩) (by rw [List.getElem?_append_right (by simp)]; simp) rfl rfl rfl (by simp [rowsLen, hl]) ?_, List.nodup_cons.2 ⟨fun hm => ?_, hn⟩⟩
  · have := owL_frame (h' := h ++ [y] ++ [⟨s, ty, .mut, [cs]⟩]) e (fun b hb' => by rw [List.append_assoc, List.getElem?_append_left (hb b hb')])
    simp only [fzRows, this, List.append_nil]
  · have := hb _ hm; omega
theorem own_grow {h : List Blk} {d d2 s ty b n : Nat} {cs enc : List C} {ids js : List Nat} {y k : Blk} {R : List (List C)} (e0 : ow h d2 (.row s b n) = some (.sl R, js)) (hk : h[b]? = some k) (e : fzL (ow h d) cs = some (enc, ids)) (hl : cs.length = s) (hn : (js ++ ids).Nodup) :
    ∃ d3 is, ow ((h ++ [y]).set b ⟨k.s, k.ty, .dead, []⟩ ++ [⟨s, ty, .mut, k.rows ++ [cs]⟩]) d3 (.row s (h.length + 1) (n + 1)) = some (.sl (R ++ [enc]), (h.length + 1) :: is) ∧ ((h.length + 1) :: is).Nodup ∧ ∀ x ∈ is, x ∈ js ++ ids := by
  obtain ⟨d', k', R', js', rfl, h1, h2, h3, h4, h5, h6, h7, rfl⟩ := ow_row e0
  rw [hk] at h1; cases h1
  cases h7
  have hbl : b < h.length := (List.getElem?_eq_some_iff.1 hk).1
  rw [List.cons_append, List.nodup_cons] at hn
  obtain ⟨hnb, hn⟩ := hn
  have hlt : ∀ x ∈ js' ++ ids, x < h.length := fun x hx => by
    rcases List.mem_append.1 hx with hx | hx
    · exact (owR_mut h6 x hx).lt
    · exact (owL_mut e x hx).lt
  have hfr : ∀ x ∈ js' ++ ids, ((h ++ [y]).set b ⟨k.s, k.ty, .dead, []⟩ ++ [⟨s, ty, .mut, k.rows ++ [cs]⟩])[x]? = h[x]? := fun x hx => by
    have := hlt x hx
    rw [List.getElem?_append_left (by simp; omega), List.getElem?_set_ne (fun e => hnb (by rw [e]; exact hx)), List.getElem?_append_left this]
  refine ⟨max d d' + 1, js' ++ ids, ow_row_of (k := ⟨s, ty, .mut, k.rows ++ [cs]⟩) (by rw [List.getElem?_append_right (by simp)]; simp) rfl (by simp [h3]) rfl ?_ ?_, List.nodup_cons.2 ⟨fun hm => ?_, hn⟩, fun x hx => List.mem_cons_of_mem _ hx⟩
  · subst h4
    rw [rowsLen_append, h5]; simp [rowsLen, hl]
  · refine fzRows_app (owR_le (Nat.le_max_right d d') (owR_frame h6 (fun x hx => hfr x (by simp [hx])))) ?_
    simp only [fzRows, owL_le (Nat.le_max_left d d') (owL_frame e (fun x hx => hfr x (by simp [hx]))), List.append_nil]
  · have := hlt _ hm; omega
end Go.Proofs.Sh
