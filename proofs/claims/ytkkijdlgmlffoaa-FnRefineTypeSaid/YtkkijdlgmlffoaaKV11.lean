/- Texts of the proof, one behind another. -/
import Derived.Test.YtkkijdlgmlffoaaKV8
set_option linter.unusedSimpArgs false
set_option linter.unusedVariables false
/- Owned trees: trees in own blocks, each block at one place only. -/
namespace Go.Proofs.Sh
open Go.RowKit

def leaf : C → Option (C × List Nat)
  | .sc (.slice none 0 0) => some (.sl [], [])
  | .sc v => some (.sc v, [])
  | .sl [] => some (.sl [], [])
  | _ => none
/-- a cell of an owned tree, as a tree; and its own blocks -/
def ow (h : List Blk) : Nat → C → Option (C × List Nat)
  | d + 1, .row s b n => match h[b]? with
    | some k => if k.st.isMut = true ∧ k.rows.length = n ∧ s = k.s ∧ rowsLen s k.rows = true then (match fzRows (ow h d) k.rows with
        | some (rows, ids) => some (.sl rows, b :: ids)
        | none => none)
      else none
    | none => none
  | _, c => leaf c
theorem leaf_ids {c c' : C} {ids : List Nat} (e : leaf c = some (c', ids)) : ids = [] := by
  unfold leaf at e
  split at e <;> simp at e <;> exact e.2
theorem ow_leaf {h : List Blk} {d : Nat} {c : C} (hc : ∀ s b n, c ≠ .row s b n) : ow h d c = leaf c := by
  cases c with
  | row s b n => exact absurd rfl (hc s b n)
  | _ => cases d <;> rfl
theorem ow_row {h : List Blk} {d s b n : Nat} {c' : C} {ids : List Nat} (e : ow h d (.row s b n) = some (c', ids)) :
    ∃ d' k R js, d = d' + 1 ∧ h[b]? = some k ∧ k.st.isMut = true ∧ k.rows.length = n ∧ s = k.s ∧ rowsLen s k.rows = true ∧ fzRows (ow h d') k.rows = some (R, js) ∧ c' = .sl R ∧ ids = b :: js := by
  cases d with
  | zero => cases e
  | succ d =>
  unfold ow at e
  split at e <;> try contradiction
  rename_i k hk
  split at e <;> try contradiction
  rename_i hc
  split at e <;> try contradiction
  rename_i R js hr
  simp only [Option.some.injEq, Prod.mk.injEq] at e
  exact ⟨_, k, R, js, rfl, hk, hc.1, hc.2.1, hc.2.2.1, hc.2.2.2, hr, e.1.symm, e.2.symm⟩
theorem ow_row_of {h : List Blk} {d s b n : Nat} {k : Blk} {R : List (List C)} {js : List Nat} (h1 : h[b]? = some k) (h2 : k.st.isMut = true) (h3 : k.rows.length = n) (h4 : s = k.s) (h5 : rowsLen s k.rows = true) (h6 : fzRows (ow h d) k.rows = some (R, js)) : ow h (d + 1) (.row s b n) = some (.sl R, b :: js) := by
  unfold ow
  simp only [h1]
  rw [if_pos ⟨h2, h3, h4, h5⟩, h6]

theorem fzL_congr {f g : C → Option (C × List Nat)} (hfg : ∀ c c' i, f c = some (c', i) → g c = some (c', i)) : ∀ {cs cs' ids}, fzL f cs = some (cs', ids) → fzL g cs = some (cs', ids)
  | [], cs', ids, e => e
  | c :: cs, cs', ids, e => by
    simp only [fzL] at e ⊢
    split at e
    · rename_i c1 i c2 j h1 h2
      rw [hfg _ _ _ h1, fzL_congr hfg h2]; exact e
    · cases e
theorem fzRows_congr {f g : C → Option (C × List Nat)} (hfg : ∀ c c' i, f c = some (c', i) → g c = some (c', i)) : ∀ {rs rs' ids}, fzRows f rs = some (rs', ids) → fzRows g rs = some (rs', ids)
  | [], rs', ids, e => e
  | r :: rs, rs', ids, e => by
    simp only [fzRows] at e ⊢
    split at e
    · rename_i c1 i c2 j h1 h2
      rw [fzL_congr hfg h1, fzRows_congr hfg h2]; exact e
    · cases e

/-- deeper looks see the same -/
theorem ow_mono {h : List Blk} : ∀ {d : Nat} {c c' : C} {ids : List Nat}, ow h d c = some (c', ids) → ow h (d + 1) c = some (c', ids) := by
  intro d
  induction d with
  | zero =>
    intro c c' ids e
    cases c with
    | row s b n => obtain ⟨d', k, R, js, he, _⟩ := ow_row e; cases he
    | _ => rw [ow_leaf (by simp)] at e ⊢; exact e
  | succ d ih =>
    intro c c' ids e
    cases c with
    | row s b n =>
      obtain ⟨d', k, R, js, he, h1, h2, h3, h4, h5, h6, rfl, rfl⟩ := ow_row e
      cases he
      exact ow_row_of h1 h2 h3 h4 h5 (fzRows_congr (fun _ _ _ => ih) h6)
    | _ => rw [ow_leaf (by simp)] at e ⊢; exact e
theorem ow_le {h : List Blk} {d d' : Nat} {c c' : C} {ids : List Nat} (hd : d ≤ d') (e : ow h d c = some (c', ids)) : ow h d' c = some (c', ids) := by
  induction hd with
  | refl => exact e
  | step _ ih => exact ow_mono ih

theorem fzL_congrM {f g : C → Option (C × List Nat)} {ks : List Nat} (hfg : ∀ c c' i, f c = some (c', i) → (∀ b ∈ i, b ∈ ks) → g c = some (c', i)) : ∀ {cs cs' ids}, fzL f cs = some (cs', ids) → (∀ b ∈ ids, b ∈ ks) → fzL g cs = some (cs', ids)
  | [], cs', ids, e, _ => e
  | c :: cs, cs', ids, e, hk => by
    simp only [fzL] at e ⊢
    split at e
    · rename_i c1 i c2 j h1 h2
      simp only [Option.some.injEq, Prod.mk.injEq] at e
      obtain ⟨rfl, rfl⟩ := e
      rw [hfg _ _ _ h1 (fun b hb => hk b (by simp [hb])), fzL_congrM hfg h2 (fun b hb => hk b (by simp [hb]))]
    · cases e
theorem fzRows_congrM {f g : C → Option (C × List Nat)} {ks : List Nat} (hfg : ∀ c c' i, f c = some (c', i) → (∀ b ∈ i, b ∈ ks) → g c = some (c', i)) : ∀ {rs rs' ids}, fzRows f rs = some (rs', ids) → (∀ b ∈ ids, b ∈ ks) → fzRows g rs = some (rs', ids)
  | [], rs', ids, e, _ => e
  | r :: rs, rs', ids, e, hk => by
    simp only [fzRows] at e ⊢
    split at e
    · rename_i c1 i c2 j h1 h2
      simp only [Option.some.injEq, Prod.mk.injEq] at e
      obtain ⟨rfl, rfl⟩ := e
      rw [fzL_congrM hfg h1 (fun b hb => hk b (by simp [hb])), fzRows_congrM hfg h2 (fun b hb => hk b (by simp [hb]))]
    · cases e

/-- what is not of the tree does not count -/
theorem ow_frame {h h' : List Blk} : ∀ {d : Nat} {c c' : C} {ids : List Nat}, ow h d c = some (c', ids) → (∀ b ∈ ids, h'[b]? = h[b]?) → ow h' d c = some (c', ids) := by
  intro d
  induction d with
  | zero =>
    intro c c' ids e _
    cases c with
    | row s b n => obtain ⟨d', k, R, js, he, _⟩ := ow_row e; cases he
    | _ => rw [ow_leaf (by simp)] at e ⊢; exact e
  | succ d ih =>
    intro c c' ids e hf
    cases c with
    | row s b n =>
      obtain ⟨d', k, R, js, he, h1, h2, h3, h4, h5, h6, rfl, rfl⟩ := ow_row e
      cases he
      exact ow_row_of (by rw [hf b (by simp)]; exact h1) h2 h3 h4 h5 (fzRows_congrM (ks := js) (fun _ _ _ e hk => ih e (fun b hb => hf b (by simp [hk b hb]))) h6 (fun _ h => h))
    | _ => rw [ow_leaf (by simp)] at e ⊢; exact e
theorem owL_frame {h h' : List Blk} {d : Nat} {cs cs' : List C} {ids : List Nat} (e : fzL (ow h d) cs = some (cs', ids)) (hf : ∀ b ∈ ids, h'[b]? = h[b]?) : fzL (ow h' d) cs = some (cs', ids) :=
  fzL_congrM (ks := ids) (fun _ _ _ e hk => ow_frame e (fun b hb => hf b (hk b hb))) e (fun _ h => h)
theorem owR_frame {h h' : List Blk} {d : Nat} {cs cs' : List (List C)} {ids : List Nat} (e : fzRows (ow h d) cs = some (cs', ids)) (hf : ∀ b ∈ ids, h'[b]? = h[b]?) : fzRows (ow h' d) cs = some (cs', ids) :=
  fzRows_congrM (ks := ids) (fun _ _ _ e hk => ow_frame e (fun b hb => hf b (hk b hb))) e (fun _ h => h)
theorem owL_le {h : List Blk} {d d' : Nat} {cs cs' : List C} {ids : List Nat} (hd : d ≤ d') (e : fzL (ow h d) cs = some (cs', ids)) : fzL (ow h d') cs = some (cs', ids) := fzL_congr (fun _ _ _ => ow_le hd) e
theorem owR_le {h : List Blk} {d d' : Nat} {cs cs' : List (List C)} {ids : List Nat} (hd : d ≤ d') (e : fzRows (ow h d) cs = some (cs', ids)) : fzRows (ow h d') cs = some (cs', ids) := fzRows_congr (fun _ _ _ => ow_le hd) e

/-- all its blocks are there, and may be written -/
theorem fzL_all {Q : Nat → Prop} {f : C → Option (C × List Nat)} (hf : ∀ c c' i, f c = some (c', i) → ∀ b ∈ i, Q b) : ∀ {cs cs' ids}, fzL f cs = some (cs', ids) → ∀ b ∈ ids, Q b
  | [], cs', ids, e => by simp only [fzL, Option.some.injEq, Prod.mk.injEq] at e; rw [← e.2]; simp
  | c :: cs, cs', ids, e => by
    simp only [fzL] at e
    split at e
    · rename_i c1 i c2 j h1 h2
      simp only [Option.some.injEq, Prod.mk.injEq] at e
      obtain ⟨rfl, rfl⟩ := e
      intro b hb
      rcases List.mem_append.1 hb with hb | hb
      · exact hf _ _ _ h1 b hb
      · exact fzL_all hf h2 b hb
    · cases e
theorem fzRows_all {Q : Nat → Prop} {f : C → Option (C × List Nat)} (hf : ∀ c c' i, f c = some (c', i) → ∀ b ∈ i, Q b) : ∀ {cs cs' ids}, fzRows f cs = some (cs', ids) → ∀ b ∈ ids, Q b
  | [], cs', ids, e => by simp only [fzRows, Option.some.injEq, Prod.mk.injEq] at e; rw [← e.2]; simp
  | c :: cs, cs', ids, e => by
    simp only [fzRows] at e
    split at e
    · rename_i c1 i c2 j h1 h2
      simp only [Option.some.injEq, Prod.mk.injEq] at e
      obtain ⟨rfl, rfl⟩ := e
      intro b hb
      rcases List.mem_append.1 hb with hb | hb
      · exact fzL_all hf h1 b hb
      · exact fzRows_all hf h2 b hb
    · cases e
def MutAt (h : List Blk) (b : Nat) : Prop := ∃ k, h[b]? = some k ∧ k.st.isMut = true
theorem ow_mut {h : List Blk} : ∀ {d : Nat} {c c' : C} {ids : List Nat}, ow h d c = some (c', ids) → ∀ b ∈ ids, MutAt h b := by
  intro d
  induction d with
  | zero =>
    intro c c' ids e b hb
    cases c with
    | row s b n => obtain ⟨d', k, R, js, he, _⟩ := ow_row e; cases he
    | _ => rw [ow_leaf (by simp)] at e; rw [leaf_ids e] at hb; simp at hb
  | succ d ih =>
    intro c c' ids e b hb
    cases c with
    | row s b' n =>
      obtain ⟨d', k, R, js, he, h1, h2, h3, h4, h5, h6, rfl, rfl⟩ := ow_row e
      cases he
      rcases List.mem_cons.1 hb with rfl | hb
      · exact ⟨k, h1, h2⟩
      · exact fzRows_all (Q := MutAt h) (fun _ _ _ e => ih e) h6 b hb
    | _ => rw [ow_leaf (by simp)] at e; rw [leaf_ids e] at hb; simp at hb
theorem owL_mut {h : List Blk} {d : Nat} {cs cs' : List C} {ids : List Nat} (e : fzL (ow h d) cs = some (cs', ids)) : ∀ b ∈ ids, MutAt h b := fzL_all (Q := MutAt h) (fun _ _ _ e => ow_mut e) e
theorem owR_mut {h : List Blk} {d : Nat} {cs cs' : List (List C)} {ids : List Nat} (e : fzRows (ow h d) cs = some (cs', ids)) : ∀ b ∈ ids, MutAt h b := fzRows_all (Q := MutAt h) (fun _ _ _ e => ow_mut e) e
theorem MutAt.lt {h : List Blk} {b : Nat} (e : MutAt h b) : b < h.length := by obtain ⟨k, hk, _⟩ := e; exact (List.getElem?_eq_some_iff.1 hk).1

/-! ### rows one by one -/
theorem fzRows_app {f : C → Option (C × List Nat)} : ∀ {r1 r2 R1 R2 : List (List C)} {i j : List Nat}, fzRows f r1 = some (R1, i) → fzRows f r2 = some (R2, j) → fzRows f (r1 ++ r2) = some (R1 ++ R2, i ++ j)
  | [], r2, R1, R2, i, j, h1, h2 => by
    simp only [fzRows, Option.some.injEq, Prod.mk.injEq] at h1
    obtain ⟨rfl, rfl⟩ := h1
    simpa using h2
  | r :: r1, r2, R1, R2, i, j, h1, h2 => by
    simp only [fzRows] at h1
    split at h1
    · rename_i c1 i1 c2 j1 e1 e2
      simp only [Option.some.injEq, Prod.mk.injEq] at h1
      obtain ⟨rfl, rfl⟩ := h1
      simp only [List.cons_append, fzRows, e1, fzRows_app e2 h2, List.append_assoc]
    · cases h1
end Go.Proofs.Sh
/- Owned trees: lent to a call, handed back by one, and kept beside. -/
namespace Go.Proofs.Sh
open Go.RowKit

/-! ### seen as frozen ones -/
theorem leaf_cases {c c' : C} {ids : List Nat} (e : leaf c = some (c', ids)) : ids = [] ∧ ((c = .sc (.slice none 0 0) ∧ c' = .sl []) ∨ (∃ v, c = .sc v ∧ v ≠ .slice none 0 0 ∧ c' = .sc v) ∨ (c = .sl [] ∧ c' = .sl [])) := by
  unfold leaf at e
  split at e
  · simp only [Option.some.injEq, Prod.mk.injEq] at e; exact ⟨e.2.symm, .inl ⟨rfl, e.1.symm⟩⟩
  · rename_i v hv; simp only [Option.some.injEq, Prod.mk.injEq] at e; exact ⟨e.2.symm, .inr (.inl ⟨v, rfl, fun h => hv h, e.1.symm⟩)⟩
  · simp only [Option.some.injEq, Prod.mk.injEq] at e; exact ⟨e.2.symm, .inr (.inr ⟨rfl, e.1.symm⟩)⟩
  · cases e
theorem leaf_fz {h : List Blk} {d : Nat} {c c' : C} {ids : List Nat} (e : leaf c = some (c', ids)) : fz h d c = some (c', ids) := by
  obtain ⟨rfl, ⟨rfl, rfl⟩ | ⟨v, rfl, hv, rfl⟩ | ⟨rfl, rfl⟩⟩ := leaf_cases e
  · cases d <;> rfl
  · rw [fz]; exact fun e => hv e
  · cases d <;> rfl
theorem fz_tree {h : List Blk} {d : Nat} {c : C} {c' : C} {ids : List Nat} (ht : c.tree = true) (e : ow h d c = some (c', ids)) : c' = c ∧ ids = [] := by
  cases c with
  | row s b n => cases ht
  | _ =>
    rw [ow_leaf (by simp)] at e
    obtain ⟨rfl, ⟨h1, h2⟩ | ⟨v, h1, hv, h2⟩ | ⟨h1, h2⟩⟩ := leaf_cases e
    · rw [h1] at ht; cases ht
    · exact ⟨by rw [h1, h2], rfl⟩
    · exact ⟨by rw [h1, h2], rfl⟩
theorem owL_tree {h : List Blk} {d : Nat} : ∀ {cs cs' : List C} {ids : List Nat}, treeL cs = true → fzL (ow h d) cs = some (cs', ids) → cs' = cs ∧ ids = []
  | [], cs', ids, _, e => by simp only [fzL, Option.some.injEq, Prod.mk.injEq] at e; exact ⟨e.1.symm, e.2.symm⟩
  | c :: cs, cs', ids, ht, e => by
    simp only [treeL, List.all_cons, Bool.and_eq_true] at ht
    simp only [fzL] at e
    split at e
    · rename_i c1 i c2 j h1 h2
      simp only [Option.some.injEq, Prod.mk.injEq] at e
      obtain ⟨rfl, rfl⟩ := fz_tree ht.1 h1
      obtain ⟨rfl, rfl⟩ := owL_tree ht.2 h2
      exact ⟨e.1.symm, by rw [← e.2]; rfl⟩
    · cases e
theorem owR_tree {h : List Blk} {d : Nat} : ∀ {cs cs' : List (List C)} {ids : List Nat}, treeRows cs = true → fzRows (ow h d) cs = some (cs', ids) → cs' = cs ∧ ids = []
  | [], cs', ids, _, e => by simp only [fzRows, Option.some.injEq, Prod.mk.injEq] at e; exact ⟨e.1.symm, e.2.symm⟩
  | c :: cs, cs', ids, ht, e => by
    simp only [treeRows, List.all_cons, Bool.and_eq_true] at ht
    simp only [fzRows] at e
    split at e
    · rename_i c1 i c2 j h1 h2
      simp only [Option.some.injEq, Prod.mk.injEq] at e
      obtain ⟨rfl, rfl⟩ := owL_tree ht.1 h1
      obtain ⟨rfl, rfl⟩ := owR_tree ht.2 h2
      exact ⟨e.1.symm, by rw [← e.2]; rfl⟩
    · cases e
theorem ow_fz {h : List Blk} : ∀ {d : Nat} {c c' : C} {ids : List Nat}, ow h d c = some (c', ids) → fz h d c = some (c', ids) := by
  intro d
  induction d with
  | zero =>
    intro c c' ids e
    cases c with
    | row s b n => obtain ⟨d', k, R, js, he, _⟩ := ow_row e; cases he
    | _ => rw [ow_leaf (by simp)] at e; exact leaf_fz e
  | succ d ih =>
    intro c c' ids e
    cases c with
    | row s b n =>
      obtain ⟨d', k, R, js, he, h1, h2, h3, h4, h5, h6, rfl, rfl⟩ := ow_row e
      cases he
      unfold fz
      simp only [h1]
      rw [if_pos ⟨known_of_mut h2, h3⟩]
      split
      · rename_i ht
        obtain ⟨rfl, rfl⟩ := owR_tree ht h6
        rfl
      · rw [fzRows_congr (fun _ _ _ => ih) h6]
    | _ => rw [ow_leaf (by simp)] at e; exact leaf_fz e
theorem owL_fz {h : List Blk} {d : Nat} {cs cs' : List C} {ids : List Nat} (e : fzL (ow h d) cs = some (cs', ids)) : fzL (fz h d) cs = some (cs', ids) := fzL_congr (fun _ _ _ => ow_fz) e

/-- arguments as trees, and their own blocks -/
inductive Lent (h : List Blk) : AV → AV → List Nat → Prop
  | same {v : AV} (hv : (match v with | .one c => c.tree | .agg cs => treeL cs | .tup _ => false) = true) : Lent h v v []
  | fn {g : FuncId} : Lent h (.one (.fn g [])) (.one (.fn g [])) []
  | one {d : Nat} {c c' : C} {ids : List Nat} (e : ow h d c = some (c', ids)) : Lent h (.one c) (.one c') ids
  | agg {d : Nat} {cs cs' : List C} {ids : List Nat} (e : fzL (ow h d) cs = some (cs', ids)) : Lent h (.agg cs) (.agg cs') ids
inductive Lents (h : List Blk) : List AV → List AV → List Nat → Prop
  | nil : Lents h [] [] []
  | cons {v v' : AV} {vs vs' : List AV} {i j : List Nat} (a : Lent h v v' i) (b : Lents h vs vs' j) : Lents h (v :: vs) (v' :: vs') (i ++ j)

section
variable {X μ : List Nat} {h : List Blk} {w : World}
theorem fzL_rep (hS : Sim X μ h w) {L' : List Nat} (hL : ∀ x, x ∈ L' → x ∈ X ++ alive μ h) {d : Nat} : ∀ {cs cs' : List C} {ids : List Nat} {us : List Value}, fzL (fz h d) cs = some (cs', ids) → (∀ b ∈ ids, ∀ g, μ[b]? = some g → g ∉ L') → C.repl (X ++ alive μ h) μ w cs us → C.repl L' [] w cs' us
  | [], cs', ids, us, e, _, hr => by
    simp only [fzL, Option.some.injEq, Prod.mk.injEq] at e
    rw [← e.1]; simpa [C.repl] using hr
  | c :: cs, cs', ids, us, e, hi, hr => by
    simp only [fzL] at e
    split at e
    · rename_i c1 i c2 j h1 h2
      simp only [Option.some.injEq, Prod.mk.injEq] at e
      obtain ⟨rfl, rfl⟩ := e
      simp only [C.repl] at hr ⊢
      obtain ⟨u, us', rfl, r1, r2⟩ := hr
      exact ⟨u, us', rfl, fz_sound hS hL d _ _ _ u h1 (fun b hb => hi b (by simp [hb])) r1, fzL_rep hS hL h2 (fun b hb => hi b (by simp [hb])) r2⟩
    · cases e
theorem Lent.rep (hS : Sim X μ h w) {L' : List Nat} (hL : ∀ x, x ∈ L' → x ∈ X ++ alive μ h) {v v' : AV} {ids : List Nat} {u : Value} (e : Lent h v v' ids) (hi : ∀ b ∈ ids, ∀ g, μ[b]? = some g → g ∉ L') (hr : AV.rep (X ++ alive μ h) μ w v u) : AV.rep L' [] w v' u := by
  cases e with
  | same hv =>
    cases v with
    | one c => simp only [AV.rep] at hr ⊢; exact C.rep.sub hL (C.rep_tree hv hr)
    | agg cs =>
      simp only [AV.rep] at hr ⊢
      obtain ⟨arr, rfl, h2⟩ := hr
      exact ⟨arr, rfl, C.repl.carry (K := []) ⟨Keep.refl _ _, fun _ _ _ => by simp, fun x _ hx hm => hx (hL x hm), fun _ _ h => h⟩ (C.repl_tree hv h2)⟩
    | tup _ => cases hv
  | fn =>
    simp only [AV.rep, C.rep, C.repl] at hr ⊢
    exact hr
  | one e => simp only [AV.rep] at hr ⊢; exact fz_sound hS hL _ _ _ _ u (ow_fz e) hi hr
  | agg e =>
    simp only [AV.rep] at hr ⊢
    obtain ⟨arr, rfl, h2⟩ := hr
    exact ⟨arr, rfl, fzL_rep hS hL (owL_fz e) hi h2⟩
theorem Lents.rep (hS : Sim X μ h w) {L' : List Nat} (hL : ∀ x, x ∈ L' → x ∈ X ++ alive μ h) : ∀ {vs vs' : List AV} {ids : List Nat} {us : List Value}, Lents h vs vs' ids → (∀ b ∈ ids, ∀ g, μ[b]? = some g → g ∉ L') → AV.repl (X ++ alive μ h) μ w vs us → AV.repl L' [] w vs' us
  | [], _, _, us, e, _, hr => by cases e; simpa [AV.repl] using hr
  | v :: vs, _, _, us, e, hi, hr => by
    cases e with
    | cons a b =>
      simp only [AV.repl] at hr ⊢
      obtain ⟨u, us', rfl, r1, r2⟩ := hr
      exact ⟨u, us', rfl, a.rep hS hL (fun b hb => hi b (by simp [hb])) r1, Lents.rep hS hL b (fun b hb => hi b (by simp [hb])) r2⟩
end

/-! ### what names no memory but own blocks -/
def C.flat : C → Bool
  | .top => true
  | .sc _ => true
  | .sl [] => true
  | .row .. => true
  | .ptr .. => true
  | _ => false
mutual
def AV.flat : AV → Bool
  | .one c => c.flat
  | .agg cs => cs.all C.flat
  | .tup vs => AV.flats vs
def AV.flats : List AV → Bool
  | [] => true
  | v :: vs => v.flat && AV.flats vs
end
def Blk.flat (k : Blk) : Bool := k.st.isMut && k.rows.all (fun r => r.all C.flat)
section
variable {L L' μ : List Nat} {w : World}
end

end Go.Proofs.Sh
/- Owned trees: handed back by a function; grown by one. -/
namespace Go.Proofs.Sh
open Go.RowKit

/-- every block of an owned tree, with what lies in it -/
theorem fzL_each {Q : Nat → Prop} {f : C → Option (C × List Nat)} {ks : List Nat} (hf : ∀ c c' i, f c = some (c', i) → (∀ b ∈ i, b ∈ ks) → ∀ b ∈ i, Q b) : ∀ {cs cs' ids}, fzL f cs = some (cs', ids) → (∀ b ∈ ids, b ∈ ks) → ∀ b ∈ ids, Q b
  | [], cs', ids, e, _ => by simp only [fzL, Option.some.injEq, Prod.mk.injEq] at e; rw [← e.2]; simp
  | c :: cs, cs', ids, e, hk => by
    simp only [fzL] at e
    split at e
    · rename_i c1 i c2 j h1 h2
      simp only [Option.some.injEq, Prod.mk.injEq] at e
      obtain ⟨rfl, rfl⟩ := e
      intro b hb
      rcases List.mem_append.1 hb with hb | hb
      · exact hf _ _ _ h1 (fun b hb => hk b (by simp [hb])) b hb
      · exact fzL_each hf h2 (fun b hb => hk b (by simp [hb])) b hb
    · cases e
theorem fzRows_each {Q : Nat → Prop} {f : C → Option (C × List Nat)} {ks : List Nat} (hf : ∀ c c' i, f c = some (c', i) → (∀ b ∈ i, b ∈ ks) → ∀ b ∈ i, Q b) : ∀ {cs cs' ids}, fzRows f cs = some (cs', ids) → (∀ b ∈ ids, b ∈ ks) → ∀ b ∈ ids, Q b
  | [], cs', ids, e, _ => by simp only [fzRows, Option.some.injEq, Prod.mk.injEq] at e; rw [← e.2]; simp
  | c :: cs, cs', ids, e, hk => by
    simp only [fzRows] at e
    split at e
    · rename_i c1 i c2 j h1 h2
      simp only [Option.some.injEq, Prod.mk.injEq] at e
      obtain ⟨rfl, rfl⟩ := e
      intro b hb
      rcases List.mem_append.1 hb with hb | hb
      · exact fzL_each hf h1 (fun b hb => hk b (by simp [hb])) b hb
      · exact fzRows_each hf h2 (fun b hb => hk b (by simp [hb])) b hb
    · cases e
def Holds (h : List Blk) (ks : List Nat) (b : Nat) : Prop := ∃ k d R js, h[b]? = some k ∧ k.st.isMut = true ∧ fzRows (ow h d) k.rows = some (R, js) ∧ ∀ x ∈ js, x ∈ ks
theorem ow_each {h : List Blk} {ks : List Nat} : ∀ {d : Nat} {c c' : C} {ids : List Nat}, ow h d c = some (c', ids) → (∀ b ∈ ids, b ∈ ks) → ∀ b ∈ ids, Holds h ks b := by
  intro d
  induction d with
  | zero =>
    intro c c' ids e _ b hb
    cases c with
    | row s b n => obtain ⟨d', k, R, js, he, _⟩ := ow_row e; cases he
    | _ => rw [ow_leaf (by simp)] at e; rw [leaf_ids e] at hb; simp at hb
  | succ d ih =>
    intro c c' ids e hk b hb
    cases c with
    | row s b' n =>
      obtain ⟨d', k, R, js, he, h1, h2, h3, h4, h5, h6, rfl, rfl⟩ := ow_row e
      cases he
      have hj : ∀ b ∈ js, b ∈ ks := fun b hb => hk b (by simp [hb])
      rcases List.mem_cons.1 hb with rfl | hb
      · exact ⟨k, d, R, js, h1, h2, h6, hj⟩
      · exact fzRows_each (ks := ks) (fun _ _ _ e => ih e) h6 hj b hb
    | _ => rw [ow_leaf (by simp)] at e; rw [leaf_ids e] at hb; simp at hb
theorem owL_each {h : List Blk} {d : Nat} {cs cs' : List C} {ids : List Nat} (e : fzL (ow h d) cs = some (cs', ids)) : ∀ b ∈ ids, Holds h ids b := fzL_each (ks := ids) (fun _ _ _ e => ow_each e) e (fun _ h => h)

/-- a result that is an owned tree: enc the tree, F what stands about its cells -/
def OwnK (enc : List C) (F : List C → AV) (r : AV) (H' : List Blk) : Prop := ∃ cs d ids, r = F cs ∧ fzL (ow H' d) cs = some (enc, ids) ∧ ids.Nodup ∧ ∀ b, b < H'.length → b ∈ ids

theorem ow_flat {h : List Blk} {d : Nat} {c c' : C} {ids : List Nat} (e : ow h d c = some (c', ids)) : c.flat = true := by
  cases c with
  | row s b n => rfl
  | _ =>
    rw [ow_leaf (by simp)] at e
    obtain ⟨rfl, ⟨h1, h2⟩ | ⟨v, h1, hv, h2⟩ | ⟨h1, h2⟩⟩ := leaf_cases e <;> first | (cases h1; done) | (cases h1; rfl)
theorem owL_flat {h : List Blk} {d : Nat} : ∀ {cs cs' : List C} {ids : List Nat}, fzL (ow h d) cs = some (cs', ids) → cs.all C.flat = true
  | [], _, _, _ => rfl
  | c :: cs, cs', ids, e => by
    simp only [fzL] at e
    split at e
    · rename_i c1 i c2 j h1 h2
      simp only [List.all_cons, ow_flat h1, owL_flat h2, Bool.true_and]
    · cases e
theorem owR_flat {h : List Blk} {d : Nat} : ∀ {cs cs' : List (List C)} {ids : List Nat}, fzRows (ow h d) cs = some (cs', ids) → cs.all (fun r => r.all C.flat) = true
  | [], _, _, _ => rfl
  | c :: cs, cs', ids, e => by
    simp only [fzRows] at e
    split at e
    · rename_i c1 i c2 j h1 h2
      simp only [List.all_cons, owL_flat h1, owR_flat h2, Bool.true_and]
    · cases e
theorem OwnK.flat {enc : List C} {F : List C → AV} {r : AV} {H' : List Blk} (hF : ∀ cs, cs.all C.flat = true → (F cs).flat = true) (h : OwnK enc F r H') : r.flat = true ∧ H'.all Blk.flat = true := by
  obtain ⟨cs, d, ids, rfl, e, _, hc⟩ := h
  refine ⟨hF cs (owL_flat e), List.all_eq_true.2 fun k hk => ?_⟩
  obtain ⟨b, hb⟩ := List.getElem?_of_mem hk
  obtain ⟨k', d', R, js, e1, e2, e3, _⟩ := owL_each e b (hc b (List.getElem?_eq_some_iff.1 hb).1)
  rw [hb] at e1; cases e1
  simp only [Blk.flat, e2, owR_flat e3, Bool.and_self]

/-- what a call leaves that yields an owned tree: h the own blocks ahead -/
def Owned (h : List Blk) (enc : List C) (F : List C → AV) (r : AV) (h' : List Blk) : Prop := ∃ cs d ids, r = F cs ∧ fzL (ow h' d) cs = some (enc, ids) ∧ ids.Nodup ∧ (∀ b ∈ ids, h.length ≤ b ∧ b < h'.length) ∧ h.length ≤ h'.length ∧ ∀ b, b < h.length → h'[b]? = h[b]?
theorem own_grow0 {h : List Blk} {d s ty : Nat} {cs enc : List C} {ids : List Nat} {y : Blk} (e : fzL (ow h d) cs = some (enc, ids)) (hl : cs.length = s) (hn : ids.Nodup) (hb : ∀ b ∈ ids, b < h.length) :
    ow (h ++ [y] ++ [⟨s, ty, .mut, [cs]⟩]) (d + 1) (.row s (h.length + 1) 1) = some (.sl [enc], (h.length + 1) :: ids) ∧ ((h.length + 1) :: ids).Nodup := by
  refine ⟨ow_row_of (k := ⟨s, ty, .mut, [cs]⟩) (by rw [List.getElem?_append_right (by simp)]; simp) rfl rfl rfl (by simp [rowsLen, hl]) ?_, List.nodup_cons.2 ⟨fun hm => ?_, hn⟩⟩
  · have := owL_frame (h' := h ++ [y] ++ [⟨s, ty, .mut, [cs]⟩]) e (fun b hb' => by rw [List.append_assoc, List.getElem?_append_left (hb b hb')])
    simp only [fzRows, this, List.append_nil]
  · have := hb _ hm; omega
theorem own_grow {h : List Blk} {d d2 s ty b n : Nat} {cs enc : List C} {ids js : List Nat} {y k : Blk} {R : List (List C)} (e0 : ow h d2 (.row s b n) = some (.sl R, js)) (hk : h[b]? = some k) (e : fzL (ow h d) cs = some (enc, ids)) (hl : cs.length = s) (hn : (js ++ ids).Nodup) :
    ∃ d3 is, ow ((h ++ [y]).set b ⟨k.s, k.ty, .dead, []⟩ ++ [⟨s, ty, .mut, k.rows ++ [cs]⟩]) d3 (.row s (h.length + 1) (n + 1)) = some (.sl (R ++ [enc]), (h.length + 1) :: is) ∧ ((h.length + 1) :: is).Nodup ∧ ∀ x ∈ is, x ∈ js ++ ids := by
  obtain ⟨d', k', R', js', rfl, h1, h2, h3, h4, h5, h6, h7, rfl⟩ := ow_row e0
  rw [hk] at h1; cases h1
  cases h7
  have hbl : b < h.length := (List.getElem?_eq_some_iff.1 hk).1
  rw [List.cons_append, List.nodup_cons] at hn
  obtain ⟨hnb, hn⟩ := hn
  have hlt : ∀ x ∈ js' ++ ids, x < h.length := fun x hx => by
    rcases List.mem_append.1 hx with hx | hx
    · exact (owR_mut h6 x hx).lt
    · exact (owL_mut e x hx).lt
  have hfr : ∀ x ∈ js' ++ ids, ((h ++ [y]).set b ⟨k.s, k.ty, .dead, []⟩ ++ [⟨s, ty, .mut, k.rows ++ [cs]⟩])[x]? = h[x]? := fun x hx => by
    have := hlt x hx
    rw [List.getElem?_append_left (by simp; omega), List.getElem?_set_ne (fun e => hnb (by rw [e]; exact hx)), List.getElem?_append_left this]
  refine ⟨max d d' + 1, js' ++ ids, ow_row_of (k := ⟨s, ty, .mut, k.rows ++ [cs]⟩) (by rw [List.getElem?_append_right (by simp)]; simp) rfl (by simp [h3]) rfl ?_ ?_, List.nodup_cons.2 ⟨fun hm => ?_, hn⟩, fun x hx => List.mem_cons_of_mem _ hx⟩
  · subst h4
    rw [rowsLen_append, h5]; simp [rowsLen, hl]
  · refine fzRows_app (owR_le (Nat.le_max_right d d') (owR_frame h6 (fun x hx => hfr x (by simp [hx])))) ?_
    simp only [fzRows, owL_le (Nat.le_max_left d d') (owL_frame e (fun x hx => hfr x (by simp [hx]))), List.append_nil]
  · have := hlt _ hm; omega
end Go.Proofs.Sh
