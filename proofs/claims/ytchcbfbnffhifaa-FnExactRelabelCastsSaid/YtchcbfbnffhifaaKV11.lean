/- Texts of the proof, one behind another. -/
import Derived.Test.YtchcbfbnffhifaaKV7
import Derived.Test.YtchcbfbnffhifaaKV8
import Derived.Test.YtchcbfbnffhifaaKV10
set_option linter.unusedSimpArgs false
set_option linter.unusedVariables false
/- Terms as shadows. -/
namespace Go.Proofs.Sh
open Go.RowKit Go.Proofs.Grad

mutual
def teC : Tm → List C
  | .mk x0 x1 x2 x3 x4 x5 x6 => [.sc (.int .i64 (x0)), .sc (.string (x1)), .sc (.int .i64 (x2)), .sc (.int .i64 (x3).kind), .sl (tyR (x3).kids), .sc (.int .i64 (x4).kind), .sl (tyR (x4).kids), .sc (.int .i64 (x5)), .sl (teR (x6))]
def teR : List Tm → List (List C)
  | [] => []
  | t :: l => teC t :: teR l
end
theorem teC_eq (t : Tm) : teC t = [.sc (.int .i64 (t.kind)), .sc (.string (t.name)), .sc (.int .i64 (t.num)), .sc (.int .i64 (t.type).kind), .sl (tyR (t.type).kids), .sc (.int .i64 (t.frm).kind), .sl (tyR (t.frm).kids), .sc (.int .i64 (t.label)), .sl (teR (t.kids))] := by cases t; rfl
@[go_sem] theorem teC_length (t : Tm) : (teC t).length = 9 := by rw [teC_eq]; rfl
@[go_sem] theorem teC_take (t : Tm) : (teC t).take 9 = teC t := by rw [teC_eq]; rfl
@[go_sem] theorem teC_drop (t : Tm) : (teC t).drop 0 = teC t := rfl
@[go_sem] theorem teC_dropn (t : Tm) : (teC t).drop 9 = [] := by rw [teC_eq]; rfl
@[go_sem] theorem teC_treeL (t : Tm) : treeL (teC t) = true := by rw [teC_eq]; rfl
@[go_sem] theorem teC_0 (t : Tm) : (teC t)[0]? = some (.sc (.int .i64 (t.kind))) := by rw [teC_eq]; rfl
@[go_sem] theorem teC_1 (t : Tm) : (teC t)[1]? = some (.sc (.string (t.name))) := by rw [teC_eq]; rfl
@[go_sem] theorem teC_2 (t : Tm) : (teC t)[2]? = some (.sc (.int .i64 (t.num))) := by rw [teC_eq]; rfl
@[go_sem] theorem teC_3 (t : Tm) : (teC t)[3]? = some (.sc (.int .i64 (t.type).kind)) := by rw [teC_eq]; rfl
@[go_sem] theorem teC_4 (t : Tm) : (teC t)[4]? = some (.sl (tyR (t.type).kids)) := by rw [teC_eq]; rfl
@[go_sem] theorem teC_dlen3 (t : Tm) : ((teC t).drop 3).length = 6 := by rw [teC_eq]; rfl
@[go_sem] theorem teC_part3 (t : Tm) : ((teC t).drop 3).take 2 = tyC t.type := by rw [teC_eq, tyC_eq]; rfl
@[go_sem] theorem teC_5 (t : Tm) : (teC t)[5]? = some (.sc (.int .i64 (t.frm).kind)) := by rw [teC_eq]; rfl
@[go_sem] theorem teC_6 (t : Tm) : (teC t)[6]? = some (.sl (tyR (t.frm).kids)) := by rw [teC_eq]; rfl
@[go_sem] theorem teC_dlen5 (t : Tm) : ((teC t).drop 5).length = 4 := by rw [teC_eq]; rfl
@[go_sem] theorem teC_part5 (t : Tm) : ((teC t).drop 5).take 2 = tyC t.frm := by rw [teC_eq, tyC_eq]; rfl
@[go_sem] theorem teC_7 (t : Tm) : (teC t)[7]? = some (.sc (.int .i64 (t.label))) := by rw [teC_eq]; rfl
@[go_sem] theorem teC_8 (t : Tm) : (teC t)[8]? = some (.sl (teR (t.kids))) := by rw [teC_eq]; rfl
@[go_sem] theorem tyC_app (t : Ty) (l : List C) : tyC t ++ l = .sc (.int .i64 t.kind) :: .sl (tyR t.kids) :: l := by rw [tyC_eq]; rfl
@[go_sem] theorem teC_splice0 (t : Tm) (x : C) : splice (teC t) 0 [x] = [x, .sc (.string (t.name)), .sc (.int .i64 (t.num)), .sc (.int .i64 (t.type).kind), .sl (tyR (t.type).kids), .sc (.int .i64 (t.frm).kind), .sl (tyR (t.frm).kids), .sc (.int .i64 (t.label)), .sl (teR (t.kids))] := by rw [teC_eq]; rfl
@[go_sem] theorem teC_splice1 (t : Tm) (x : C) : splice (teC t) 1 [x] = [.sc (.int .i64 (t.kind)), x, .sc (.int .i64 (t.num)), .sc (.int .i64 (t.type).kind), .sl (tyR (t.type).kids), .sc (.int .i64 (t.frm).kind), .sl (tyR (t.frm).kids), .sc (.int .i64 (t.label)), .sl (teR (t.kids))] := by rw [teC_eq]; rfl
@[go_sem] theorem teC_splice2 (t : Tm) (x : C) : splice (teC t) 2 [x] = [.sc (.int .i64 (t.kind)), .sc (.string (t.name)), x, .sc (.int .i64 (t.type).kind), .sl (tyR (t.type).kids), .sc (.int .i64 (t.frm).kind), .sl (tyR (t.frm).kids), .sc (.int .i64 (t.label)), .sl (teR (t.kids))] := by rw [teC_eq]; rfl
@[go_sem] theorem teC_splice3 (t : Tm) (x : C) : splice (teC t) 3 [x] = [.sc (.int .i64 (t.kind)), .sc (.string (t.name)), .sc (.int .i64 (t.num)), x, .sl (tyR (t.type).kids), .sc (.int .i64 (t.frm).kind), .sl (tyR (t.frm).kids), .sc (.int .i64 (t.label)), .sl (teR (t.kids))] := by rw [teC_eq]; rfl
@[go_sem] theorem teC_splice4 (t : Tm) (x : C) : splice (teC t) 4 [x] = [.sc (.int .i64 (t.kind)), .sc (.string (t.name)), .sc (.int .i64 (t.num)), .sc (.int .i64 (t.type).kind), x, .sc (.int .i64 (t.frm).kind), .sl (tyR (t.frm).kids), .sc (.int .i64 (t.label)), .sl (teR (t.kids))] := by rw [teC_eq]; rfl
@[go_sem] theorem teC_splice5 (t : Tm) (x : C) : splice (teC t) 5 [x] = [.sc (.int .i64 (t.kind)), .sc (.string (t.name)), .sc (.int .i64 (t.num)), .sc (.int .i64 (t.type).kind), .sl (tyR (t.type).kids), x, .sl (tyR (t.frm).kids), .sc (.int .i64 (t.label)), .sl (teR (t.kids))] := by rw [teC_eq]; rfl
@[go_sem] theorem teC_splice6 (t : Tm) (x : C) : splice (teC t) 6 [x] = [.sc (.int .i64 (t.kind)), .sc (.string (t.name)), .sc (.int .i64 (t.num)), .sc (.int .i64 (t.type).kind), .sl (tyR (t.type).kids), .sc (.int .i64 (t.frm).kind), x, .sc (.int .i64 (t.label)), .sl (teR (t.kids))] := by rw [teC_eq]; rfl
@[go_sem] theorem teC_splice7 (t : Tm) (x : C) : splice (teC t) 7 [x] = [.sc (.int .i64 (t.kind)), .sc (.string (t.name)), .sc (.int .i64 (t.num)), .sc (.int .i64 (t.type).kind), .sl (tyR (t.type).kids), .sc (.int .i64 (t.frm).kind), .sl (tyR (t.frm).kids), x, .sl (teR (t.kids))] := by rw [teC_eq]; rfl
@[go_sem] theorem teC_splice8 (t : Tm) (x : C) : splice (teC t) 8 [x] = [.sc (.int .i64 (t.kind)), .sc (.string (t.name)), .sc (.int .i64 (t.num)), .sc (.int .i64 (t.type).kind), .sl (tyR (t.type).kids), .sc (.int .i64 (t.frm).kind), .sl (tyR (t.frm).kids), .sc (.int .i64 (t.label)), x] := by rw [teC_eq]; rfl
@[go_sem] theorem teC_splice3ty (t : Tm) (x y : C) : splice (teC t) 3 [x, y] = [.sc (.int .i64 (t.kind)), .sc (.string (t.name)), .sc (.int .i64 (t.num)), x, y, .sc (.int .i64 (t.frm).kind), .sl (tyR (t.frm).kids), .sc (.int .i64 (t.label)), .sl (teR (t.kids))] := by rw [teC_eq]; rfl
@[go_sem] theorem teC_splice3tyC (t : Tm) (u : Ty) : splice (teC t) 3 (tyC u) = teC (.mk t.kind t.name t.num u t.frm t.label t.kids) := by rw [teC_eq, tyC_eq]; rfl
@[go_sem] theorem teC_splice5ty (t : Tm) (x y : C) : splice (teC t) 5 [x, y] = [.sc (.int .i64 (t.kind)), .sc (.string (t.name)), .sc (.int .i64 (t.num)), .sc (.int .i64 (t.type).kind), .sl (tyR (t.type).kids), x, y, .sc (.int .i64 (t.label)), .sl (teR (t.kids))] := by rw [teC_eq]; rfl
@[go_sem] theorem teC_splice5tyC (t : Tm) (u : Ty) : splice (teC t) 5 (tyC u) = teC (.mk t.kind t.name t.num t.type u t.label t.kids) := by rw [teC_eq, tyC_eq]; rfl
@[go_sem] theorem teR_length (l : List Tm) : (teR l).length = l.length := by
  induction l with
  | nil => rfl
  | cons t l ih => simp [teR, ih]
theorem teR_get (l : List Tm) (i : Nat) : (teR l)[i]? = (l[i]?).map teC := by
  induction l generalizing i with
  | nil => simp [teR]
  | cons t l ih => cases i <;> simp [teR, ih]
/-- the k-th one -/
def teKid (l : List Tm) (k : Nat) : Tm := l.getD k (.mk 0 ByteArray.empty 0 (.mk 0 []) (.mk 0 []) 0 [])
theorem teKid_eq {l : List Tm} {k : Nat} (h : k < l.length) : teKid l k = l[k] := by simp [teKid, h]
@[go_sem] theorem teR_at (l : List Tm) (i : Nat) : (teR l)[i]? = match decide ((i : Int) < (l.length : Int)) with | true => some (teC (teKid l i)) | false => none := by
  rw [teR_get]
  by_cases h : i < l.length
  · have h' : (i : Int) < (l.length : Int) := by omega
    simp [h, h', teKid]
  · have h' : ¬ (i : Int) < (l.length : Int) := by omega
    simp [h, h']
theorem tesizes_mem {t : Tm} {l : List Tm} (h : t ∈ l) : t.size ≤ Tm.sizes l := by
  induction l with
  | nil => simp at h
  | cons x l ih =>
    simp only [Tm.sizes]
    rcases List.mem_cons.1 h with rfl | h
    · omega
    · have := ih h; omega
theorem telen_sizes (l : List Tm) : l.length ≤ Tm.sizes l := by
  induction l with
  | nil => simp [Tm.sizes]
  | cons x l ih => cases x; simp only [Tm.sizes, Tm.size, List.length_cons]; omega
theorem tekids_lt (t : Tm) : Tm.sizes t.kids < t.size := by cases t; simp only [Tm.size, Tm.kids]; omega
theorem telen_lt (t : Tm) : t.kids.length < t.size := Nat.lt_of_le_of_lt (telen_sizes _) (tekids_lt t)
theorem teKid_lt {t : Tm} {k : Nat} (h : k < t.kids.length) : (teKid t.kids k).size < t.size := by
  rw [teKid_eq h]
  exact Nat.lt_of_le_of_lt (tesizes_mem (List.getElem_mem h)) (tekids_lt t)
theorem tetake_kid {l : List Tm} {k : Nat} (h : k < l.length) : l.take (k + 1) = l.take k ++ [teKid l k] := by
  rw [teKid_eq h, List.take_succ_eq_append_getElem h]
theorem tedrop_kid {l : List Tm} {k : Nat} (h : k < l.length) : l.drop k = teKid l k :: l.drop (k + 1) := by
  rw [teKid_eq h, List.drop_eq_getElem_cons h]
theorem teR_append (l m : List Tm) : teR (l ++ m) = teR l ++ teR m := by
  induction l with
  | nil => rfl
  | cons t l ih => simp [teR, ih]
theorem teR_take {l : List Tm} {k : Nat} (h : k < l.length) : teR (l.take (k + 1)) = teR (l.take k) ++ [teC (teKid l k)] := by
  rw [tetake_kid h, teR_append]; rfl
@[go_sem] theorem teR_tree (l : List Tm) : treeRows (teR l) = true := by
  induction l with
  | nil => rfl
  | cons t l ih => simp only [teR, treeRows_cons, teC_treeL, Bool.true_and]; exact ih
@[go_sem] theorem teR_len (l : List Tm) : rowsLen 9 (teR l) = true := by
  induction l with
  | nil => rfl
  | cons t l ih => simp only [teR, rowsLen_cons, teC_length, beq_self_eq_true, Bool.true_and]; exact ih
attribute [go_sem] teR
@[go_sem] theorem tekind_mk (x0 : Int) (x1 : ByteArray) (x2 : Int) (x3 : Ty) (x4 : Ty) (x5 : Int) (x6 : List Tm) : (Tm.mk x0 x1 x2 x3 x4 x5 x6).kind = x0 := rfl
@[go_sem] theorem tename_mk (x0 : Int) (x1 : ByteArray) (x2 : Int) (x3 : Ty) (x4 : Ty) (x5 : Int) (x6 : List Tm) : (Tm.mk x0 x1 x2 x3 x4 x5 x6).name = x1 := rfl
@[go_sem] theorem tenum_mk (x0 : Int) (x1 : ByteArray) (x2 : Int) (x3 : Ty) (x4 : Ty) (x5 : Int) (x6 : List Tm) : (Tm.mk x0 x1 x2 x3 x4 x5 x6).num = x2 := rfl
@[go_sem] theorem tetype_mk (x0 : Int) (x1 : ByteArray) (x2 : Int) (x3 : Ty) (x4 : Ty) (x5 : Int) (x6 : List Tm) : (Tm.mk x0 x1 x2 x3 x4 x5 x6).type = x3 := rfl
@[go_sem] theorem tefrm_mk (x0 : Int) (x1 : ByteArray) (x2 : Int) (x3 : Ty) (x4 : Ty) (x5 : Int) (x6 : List Tm) : (Tm.mk x0 x1 x2 x3 x4 x5 x6).frm = x4 := rfl
@[go_sem] theorem telabel_mk (x0 : Int) (x1 : ByteArray) (x2 : Int) (x3 : Ty) (x4 : Ty) (x5 : Int) (x6 : List Tm) : (Tm.mk x0 x1 x2 x3 x4 x5 x6).label = x5 := rfl
@[go_sem] theorem tekids_mk (x0 : Int) (x1 : ByteArray) (x2 : Int) (x3 : Ty) (x4 : Ty) (x5 : Int) (x6 : List Tm) : (Tm.mk x0 x1 x2 x3 x4 x5 x6).kids = x6 := rfl
end Go.Proofs.Sh
/- Owned types and terms. -/
namespace Go.Proofs.Sh
open Go.RowKit Go.Proofs.Grad

theorem ow_sc {h : List Blk} {d : Nat} {c : C} {v : Value} {ids : List Nat} (hv : v ≠ .slice none 0 0) (e : ow h d c = some (.sc v, ids)) : c = .sc v ∧ ids = [] := by
  cases c with
  | row s b n => obtain ⟨_, _, _, _, _, _, _, _, _, _, _, h, _⟩ := ow_row e; cases h
  | _ =>
    rw [ow_leaf (by simp)] at e
    obtain ⟨rfl, ⟨h1, h2⟩ | ⟨v, h1, _, h2⟩ | ⟨h1, h2⟩⟩ := leaf_cases e
    · cases h2
    · cases h2; exact ⟨h1, rfl⟩
    · cases h2
theorem fzL_cons {f : C → Option (C × List Nat)} {cs : List C} {x : C} {xs : List C} {ids : List Nat} (e : fzL f cs = some (x :: xs, ids)) : ∃ c cs' i j, cs = c :: cs' ∧ f c = some (x, i) ∧ fzL f cs' = some (xs, j) ∧ ids = i ++ j := by
  cases cs with
  | nil => simp [fzL] at e
  | cons c cs' =>
    simp only [fzL] at e
    split at e
    · rename_i c1 i c2 j h1 h2
      simp only [Option.some.injEq, Prod.mk.injEq, List.cons.injEq] at e
      obtain ⟨⟨rfl, rfl⟩, rfl⟩ := e
      exact ⟨c, cs', i, j, rfl, h1, h2, rfl⟩
    · cases e
theorem fzL_nil {f : C → Option (C × List Nat)} {cs : List C} {ids : List Nat} (e : fzL f cs = some ([], ids)) : cs = [] ∧ ids = [] := by
  cases cs with
  | nil => simp only [fzL, Option.some.injEq, Prod.mk.injEq] at e; exact ⟨rfl, e.2.symm⟩
  | cons c cs' =>
    simp only [fzL] at e
    split at e
    · simp at e
    · cases e
theorem owL_ty {h : List Blk} {d : Nat} {cs : List C} {t : Ty} {ids : List Nat} (e : fzL (ow h d) cs = some (tyC t, ids)) : ∃ c, cs = [.sc (.int .i64 t.kind), c] ∧ ow h d c = some (.sl (tyR t.kids), ids) := by
  rw [tyC_eq] at e
  obtain ⟨c0, cs1, i0, j0, rfl, e0, f0, rfl⟩ := fzL_cons e
  obtain ⟨c1, cs2, i1, j1, rfl, e1, f1, rfl⟩ := fzL_cons f0
  obtain ⟨rfl, rfl⟩ := fzL_nil f1
  obtain ⟨rfl, rfl⟩ := ow_sc (by simp) e0
  exact ⟨c1, rfl, by simpa using e1⟩
/-- a term's cells: the cells of its types' and its own operands -/
def teO (t : Tm) (c1 c2 c3 : C) : List C := [.sc (.int .i64 t.kind), .sc (.string t.name), .sc (.int .i64 t.num), .sc (.int .i64 t.type.kind), c1, .sc (.int .i64 t.frm.kind), c2, .sc (.int .i64 t.label), c3]
theorem owL_te {h : List Blk} {d : Nat} {cs : List C} {t : Tm} {ids : List Nat} (e : fzL (ow h d) cs = some (teC t, ids)) : ∃ c1 c2 c3 i1 i2 i3, cs = teO t c1 c2 c3 ∧ ids = i1 ++ (i2 ++ i3) ∧ ow h d c1 = some (.sl (tyR t.type.kids), i1) ∧ ow h d c2 = some (.sl (tyR t.frm.kids), i2) ∧ ow h d c3 = some (.sl (teR t.kids), i3) := by
  rw [teC_eq] at e
  obtain ⟨c0, cs1, i0, j0, rfl, e0, f0, rfl⟩ := fzL_cons e
  obtain ⟨c1, cs2, i1, j1, rfl, e1, f1, rfl⟩ := fzL_cons f0
  obtain ⟨c2, cs3, i2, j2, rfl, e2, f2, rfl⟩ := fzL_cons f1
  obtain ⟨c3, cs4, i3, j3, rfl, e3, f3, rfl⟩ := fzL_cons f2
  obtain ⟨c4, cs5, i4, j4, rfl, e4, f4, rfl⟩ := fzL_cons f3
  obtain ⟨c5, cs6, i5, j5, rfl, e5, f5, rfl⟩ := fzL_cons f4
  obtain ⟨c6, cs7, i6, j6, rfl, e6, f6, rfl⟩ := fzL_cons f5
  obtain ⟨c7, cs8, i7, j7, rfl, e7, f7, rfl⟩ := fzL_cons f6
  obtain ⟨c8, cs9, i8, j8, rfl, e8, f8, rfl⟩ := fzL_cons f7
  obtain ⟨rfl, rfl⟩ := fzL_nil f8
  obtain ⟨rfl, rfl⟩ := ow_sc (by simp) e0
  obtain ⟨rfl, rfl⟩ := ow_sc (by simp) e1
  obtain ⟨rfl, rfl⟩ := ow_sc (by simp) e2
  obtain ⟨rfl, rfl⟩ := ow_sc (by simp) e3
  obtain ⟨rfl, rfl⟩ := ow_sc (by simp) e5
  obtain ⟨rfl, rfl⟩ := ow_sc (by simp) e7
  exact ⟨c4, c6, c8, i4, i6, i8, rfl, by simp, e4, e6, e8⟩
theorem owL_te_of {h : List Blk} {d1 d2 d3 : Nat} {t : Tm} {c1 c2 c3 : C} {i1 i2 i3 : List Nat} (h1 : ow h d1 c1 = some (.sl (tyR t.type.kids), i1)) (h2 : ow h d2 c2 = some (.sl (tyR t.frm.kids), i2)) (h3 : ow h d3 c3 = some (.sl (teR t.kids), i3)) : ∃ d, fzL (ow h d) (teO t c1 c2 c3) = some (teC t, i1 ++ (i2 ++ i3)) := by
  refine ⟨max d1 (max d2 d3), ?_⟩
  have h1 := ow_le (Nat.le_max_left d1 (max d2 d3)) h1
  have h2 := ow_le (Nat.le_trans (Nat.le_max_left d2 d3) (Nat.le_max_right d1 (max d2 d3))) h2
  have h3 := ow_le (Nat.le_trans (Nat.le_max_right d2 d3) (Nat.le_max_right d1 (max d2 d3))) h3
  rw [teC_eq]
  simp only [teO, fzL, ow_int, ow_str, h1, h2, h3, List.nil_append, List.append_nil]
@[go_sem] theorem teO_length (t : Tm) (c1 c2 c3 : C) : (teO t c1 c2 c3).length = 9 := rfl
end Go.Proofs.Sh
namespace Go.Proofs.Grad
end Go.Proofs.Grad
namespace Go.Proofs.Sh
open Go.RowKit Go.Proofs.Grad
theorem nodup3 {i1 i2 i3 : List Nat} {a b c : Nat} (h1 : i1.Nodup) (h2 : i2.Nodup) (h3 : i3.Nodup) (b3 : ∀ x ∈ i3, x < a) (b1 : ∀ x ∈ i1, a ≤ x ∧ x < b) (b2 : ∀ x ∈ i2, b ≤ x ∧ x < c) (hab : a ≤ b) : (i1 ++ (i2 ++ i3)).Nodup := by
  refine List.nodup_append.2 ⟨h1, List.nodup_append.2 ⟨h2, h3, fun x hx y hy e => ?_⟩, fun x hx y hy e => ?_⟩
  · subst e; have := b2 x hx; have := b3 x hy; omega
  · subst e
    have := b1 x hx
    rcases List.mem_append.1 hy with hy | hy
    · have := b2 x hy; omega
    · have := b3 x hy; omega
theorem nodup3' {i1 i2 i3 : List Nat} {a b c : Nat} (h1 : i1.Nodup) (h2 : i2.Nodup) (h3 : i3.Nodup) (b1 : ∀ x ∈ i1, a ≤ x ∧ x < b) (b2 : ∀ x ∈ i2, b ≤ x ∧ x < c) (b3 : ∀ x ∈ i3, c ≤ x) (hbc : b ≤ c) : (i1 ++ (i2 ++ i3)).Nodup := by
  refine List.nodup_append.2 ⟨h1, List.nodup_append.2 ⟨h2, h3, fun x hx y hy e => ?_⟩, fun x hx y hy e => ?_⟩
  · subst e; have := b2 x hx; have := b3 x hy; omega
  · subst e
    have := b1 x hx
    rcases List.mem_append.1 hy with hy | hy
    · have := b2 x hy; omega
    · have := b3 x hy; omega
end Go.Proofs.Sh
/- Terms: terms mapped by a function, owned. On shadows. -/
namespace Go.Proofs.Ytchcbfbnffhifaa
open Go.RowKit Go.Proofs.Sh Go.Proofs.Grad
set_option maxRecDepth 100000
set_option maxHeartbeats 8000000
end Go.Proofs.Ytchcbfbnffhifaa
/- Terms: equality and search of lists, on shadows. -/
namespace Go.Proofs.Sh
open Go.Proofs.Grad
def teall2 (f : Tm → Tm → Bool) : List Tm → List Tm → Bool
  | [], [] => true
  | a :: l, b :: m => f a b && teall2 f l m
  | _, _ => false
theorem teall2_kid {f : Tm → Tm → Bool} {a b : List Tm} {i : Nat} (ha : i < a.length) (hb : i < b.length) : teall2 f (a.drop i) (b.drop i) = (f (teKid a i) (teKid b i) && teall2 f (a.drop (i + 1)) (b.drop (i + 1))) := by
  rw [tedrop_kid ha, tedrop_kid hb]; rfl
theorem teall2_end {f : Tm → Tm → Bool} {a b : List Tm} {i : Nat} (ha : ¬ i < a.length) (hb : a.length = b.length) : teall2 f (a.drop i) (b.drop i) = true := by
  rw [List.drop_eq_nil_of_le (by omega), List.drop_eq_nil_of_le (by omega)]; rfl
theorem teall2_len {f : Tm → Tm → Bool} : ∀ {a b : List Tm}, a.length ≠ b.length → teall2 f a b = false
  | [], [], h => by simp at h
  | [], _ :: _, _ => rfl
  | _ :: _, [], _ => rfl
  | _ :: a, _ :: b, h => by simp only [teall2]; rw [teall2_len (by simpa using h)]; simp
theorem tesames_all2 : ∀ a b : List Tm, Tm.sames a b = teall2 Tm.same a b
  | [], [] => rfl
  | [], _ :: _ => rfl
  | _ :: _, [] => rfl
  | _ :: a, _ :: b => by simp only [Tm.sames, teall2, tesames_all2 a b]
end Go.Proofs.Sh
namespace Go.Proofs.Ytchcbfbnffhifaa
open Go.RowKit Go.Proofs.Sh Go.Proofs.Grad
set_option maxRecDepth 100000
set_option maxHeartbeats 4000000
end Go.Proofs.Ytchcbfbnffhifaa
/- Types: the program's checks, on shadows. -/
namespace Go.Proofs.Sh
open Go.Proofs.Grad
theorem all2_kid {f : Ty → Ty → Bool} {a b : List Ty} {i : Nat} (ha : i < a.length) (hb : i < b.length) : all2 f (a.drop i) (b.drop i) = (f (kid a i) (kid b i) && all2 f (a.drop (i + 1)) (b.drop (i + 1))) := by
  rw [all2_drop ha hb, kid_eq ha, kid_eq hb]
theorem all2_end {f : Ty → Ty → Bool} {a b : List Ty} {i : Nat} (ha : ¬ i < a.length) (hb : a.length = b.length) : all2 f (a.drop i) (b.drop i) = true := by
  rw [List.drop_eq_nil_of_le (by omega), List.drop_eq_nil_of_le (by omega)]; rfl
end Go.Proofs.Sh
namespace Go.Proofs.Ytchcbfbnffhifaa
open Go.RowKit Go.Proofs.Sh Go.Proofs.Grad
set_option maxRecDepth 100000
set_option maxHeartbeats 4000000
theorem eqFunc (g : FuncId) (Q : Ty → Ty → Bool) (l m : List Ty) (hl : l.length < 4611686018427387904)
    (hg : ∀ k, k < l.length → k < m.length → AFn Try.prog g [.agg (tyC (kid l k)), .agg (tyC (kid m k))] (.one (.sc (.bool (Q (kid l k) (kid m k)))))) :
    AFn Try.prog 145 [.one (.sl (tyR l)), .one (.sl (tyR m)), .one (.fn g [])] (.one (.sc (.bool (all2 Q l m)))) := by
  refine fn_in ?_; refine acl_in Try.func145 rfl isfn_145 (Nat.le_of_ble_eq_true rfl) (fun R hR => ?_); rw [Try.results145] at hR; refine wg_run ?_; (simp only [Try.f145, go_sem])
  repeat' (first | (((first | apply sp1 | apply sp2 | apply sp3 | apply sp4 | apply sp5 | apply sp6 | apply sp7) <;> intro hb) <;> (simp only [go_sem, hb])) | ((first | apply wm_done | apply wt_done | apply wg_run | refine fk ?_ ?_) <;> (simp only [go_sem])))
  · (refine hR _ (rat [] (hK := ⟨?_, rfl⟩)))
    rw [all2_len]
    intro h; simp [h] at hb
  · have hlm : l.length = m.length := by simp at hb; omega
    clear hb
    refine wd_for [0, 1, 2, 15, 16, 17] (fun k => [.one (.sl (tyR l)), .one (.sl (tyR m)), .one (.fn g []), .one (.sl (tyR l)), .one (.sc (.int .i64 l.length)), .one (.sc (.int .i64 (k : Nat)))]) (fun k => [])
      (fun k => k ≤ l.length ∧ all2 Q (l.drop k) (m.drop k) = all2 Q l m) (fun k => l.length - k) 0 ⟨Nat.zero_le _, rfl⟩ (hat [] (hI := ⟨rfl, rfl⟩)) ?_
    rintro k ⟨hk, hs⟩ G hG
    refine wg_run ?_
    (simp only [go_sem])
    ((first | apply sp1 | apply sp2 | apply sp3 | apply sp4 | apply sp5 | apply sp6 | apply sp7) <;> intro hb) <;> (simp only [go_sem, hb])
    · have hk1 : k < l.length := by have := of_decide_eq_true hb; omega
      have hk2 : decide ((k : Int) < (m.length : Int)) = true := by simp; omega
      rw [all2_kid hk1 (by omega)] at hs
      have hw1 := wrap_succ hk1 (by omega)
      (simp only [go_sem, hk2])
      (first | refine cdq ?_ (hc := hg k hk1 (by omega)) | refine cmq ?_ (hc := hg k hk1 (by omega)) | refine ctq ?_ (hc := hg k hk1 (by omega))); (simp only [go_sem])
      repeat' (first | (simp only [go_sem, hw1]) | (((first | apply sp1 | apply sp2 | apply sp3 | apply sp4 | apply sp5 | apply sp6 | apply sp7) <;> intro hb) <;> (simp only [go_sem, hb, hw1])) | ((first | apply wm_done | apply wt_done | apply wg_run | refine fk ?_ ?_) <;> (simp only [go_sem, hw1])))
      · exact hG (k + 1) _ _ ⟨by omega, by simpa [hb] using hs⟩ (by omega) (hat [] (hI := ⟨rfl, rfl⟩))
      · (refine hR _ (rat [] (hK := ⟨?_, rfl⟩)))
        simpa [hb] using hs
    · have hk1 : ¬ k < l.length := by have := of_decide_eq_false hb; omega
      rw [all2_end hk1 hlm] at hs
      (refine hR _ (rat [] (hK := ⟨?_, rfl⟩)))
      simpa using hs
theorem iCons (n : Nat) (hn : n ≤ 4611686018427387904) : ∀ a b : Ty, a.size < n → AFn Try.prog 160 [.agg (tyC a), .agg (tyC b)] (.one (.sc (.bool (a.cons b)))) := by
  induction n with
  | zero => intro a b h; omega
  | succ n ih =>
    intro a b h
    have hl : a.kids.length < 4611686018427387904 := by have := Ty.length_le_sizes a.kids; cases a; simp only [Ty.size, Ty.kids] at *; omega
    have hk : ∀ k, k < a.kids.length → k < b.kids.length → AFn Try.prog 160 [.agg (tyC (kid a.kids k)), .agg (tyC (kid b.kids k))] (.one (.sc (.bool ((kid a.kids k).cons (kid b.kids k))))) := fun k h1 h2 => ih (by omega) _ _ (by have := kid_lt h1; omega)
    have hf := eqFunc _ Ty.cons a.kids b.kids hl hk
    clear hk ih
    rw [Ty.cons_eq]
    refine fn_in ?_; refine acl_in Try.func160 rfl isfn_160 (Nat.le_of_ble_eq_true rfl) (fun R hR => ?_); rw [Try.results160] at hR; refine wg_run ?_; (simp only [Try.f160, go_sem])
    repeat' (first | (first | (((first | apply sp1 | apply sp2 | apply sp3 | apply sp4 | apply sp5 | apply sp6 | apply sp7) <;> intro hb) <;> (simp only [go_sem, hb])) | ((first | apply wm_done | apply wt_done | apply wg_run | refine fk ?_ ?_) <;> (simp only [go_sem]))) | (first | refine cdq ?_ (hc := hf) | refine cmq ?_ (hc := hf) | refine ctq ?_ (hc := hf)); (simp only [go_sem]) | ((first | refine mxq6 [] ?_ | refine mxq5 [] ?_ | refine mxq4 [] ?_ | refine mxq3 [] ?_ | refine mxq2 [] ?_ | refine mxq1 [] ?_ | refine mxq0 [] ?_ | fail); (simp only [go_sem])))
    all_goals (refine hR _ (rat [] (hK := ⟨?_, rfl⟩)))
    all_goals simp_all
/-- the index of the first one, -1 for none -/
def idx (p : Ty → Bool) : Nat → List Ty → Int
  | _, [] => -1
  | k, t :: l => if p t then (k : Nat) else idx p (k + 1) l
theorem idx_any (p : Ty → Bool) : ∀ (l : List Ty) (k : Nat), decide (0 ≤ idx p k l) = l.any p
  | [], k => by simp [idx]
  | t :: l, k => by
    simp only [idx, List.any_cons]
    split
    · rename_i h; simp [h]
    · rename_i h; rw [idx_any p l (k + 1)]; simp [h]
theorem indexFunc1 (g : FuncId) (d : Int) (p : Ty → Bool) (l : List Ty) (hl : l.length < 4611686018427387904)
    (hg : ∀ k, k < l.length → ACl Try.prog g [.agg (tyC (kid l k)), .one (.ptr 1 0 0 0)] [⟨1, 3, .mut, [[.sc (.int .i64 d)]]⟩] (fun r H' => r = .one (.sc (.bool (p (kid l k)))) ∧ H' = [⟨1, 3, .mut, [[.sc (.int .i64 d)]]⟩])) :
    ACl Try.prog 163 [.one (.sl (tyR l)), .one (.fn g [.ptr 1 0 0 0])] [⟨1, 3, .mut, [[.sc (.int .i64 d)]]⟩] (fun r H' => r = .one (.sc (.int .i64 (idx p 0 l))) ∧ H' = [⟨1, 3, .mut, [[.sc (.int .i64 d)]]⟩]) := by
  refine acl_in Try.func163 rfl isfn_163 (Nat.le_of_ble_eq_true rfl) (fun R hR => ?_); rw [Try.results163] at hR; refine wg_run ?_; (simp only [Try.f163, go_sem])
  refine wd_for [0, 1, 7, 8] (fun k => [.one (.sl (tyR l)), .one (.fn g [.ptr 1 0 0 0]), .one (.sc (.int .i64 l.length)), .one (.sc (.int .i64 (k : Nat)))]) (fun k => [⟨1, 3, .mut, [[.sc (.int .i64 d)]]⟩])
      (fun k => k ≤ l.length ∧ idx p k (l.drop k) = idx p 0 l) (fun k => l.length - k) 0 ⟨Nat.zero_le _, rfl⟩ (hat [] (hI := ⟨rfl, rfl⟩)) ?_
  rintro k ⟨hk, hs⟩ G hG
  refine wg_run ?_
  (simp only [go_sem])
  ((first | apply sp1 | apply sp2 | apply sp3 | apply sp4 | apply sp5 | apply sp6 | apply sp7) <;> intro hb) <;> (simp only [go_sem, hb])
  · have hk1 : k < l.length := by have := of_decide_eq_true hb; omega
    rw [drop_kid hk1, idx] at hs
    have hw1 := wrap_succ hk1 (by omega)
    (first | refine kdq [0] ?_ (hc := hg k hk1) | refine kmq [0] ?_ (hc := hg k hk1) | refine ktq [0] ?_ (hc := hg k hk1)); rintro _ _ ⟨rfl, rfl⟩; (simp only [go_sem])
    repeat' (first | (simp only [go_sem, hw1]) | (((first | apply sp1 | apply sp2 | apply sp3 | apply sp4 | apply sp5 | apply sp6 | apply sp7) <;> intro hb) <;> (simp only [go_sem, hb, hw1])) | ((first | apply wm_done | apply wt_done | apply wg_run | refine fk ?_ ?_) <;> (simp only [go_sem, hw1])))
    · (refine hR _ (rat [] (hK := ⟨?_, ?_⟩)))
      · simpa [hb] using hs
      · rfl
    · exact hG (k + 1) _ _ ⟨by omega, by simpa [hb] using hs⟩ (by omega) (hat [] (hI := ⟨rfl, rfl⟩))
  · have hk1 : ¬ k < l.length := by have := of_decide_eq_false hb; omega
    rw [List.drop_eq_nil_of_le (by omega), idx] at hs
    (refine hR _ (rat [] (hK := ⟨?_, ?_⟩)))
    · rw [← hs]
    · rfl
theorem containsFunc1 (g : FuncId) (d : Int) (p : Ty → Bool) (l : List Ty) (hl : l.length < 4611686018427387904)
    (hg : ∀ k, k < l.length → ACl Try.prog g [.agg (tyC (kid l k)), .one (.ptr 1 0 0 0)] [⟨1, 3, .mut, [[.sc (.int .i64 d)]]⟩] (fun r H' => r = .one (.sc (.bool (p (kid l k)))) ∧ H' = [⟨1, 3, .mut, [[.sc (.int .i64 d)]]⟩])) :
    ACl Try.prog 161 [.one (.sl (tyR l)), .one (.fn g [.ptr 1 0 0 0])] [⟨1, 3, .mut, [[.sc (.int .i64 d)]]⟩] (fun r H' => r = .one (.sc (.bool (l.any p))) ∧ H' = [⟨1, 3, .mut, [[.sc (.int .i64 d)]]⟩]) := by
  have hi := indexFunc1 g d p l hl hg
  refine acl_in Try.func161 rfl isfn_161 (Nat.le_of_ble_eq_true rfl) (fun R hR => ?_); rw [Try.results161] at hR; refine wg_run ?_; (simp only [Try.f161, go_sem])
  (first | refine kdq [0] ?_ (hc := hi) | refine kmq [0] ?_ (hc := hi) | refine ktq [0] ?_ (hc := hi)); rintro _ _ ⟨rfl, rfl⟩; (simp only [go_sem])
  (refine hR _ (rat [] (hK := ⟨?_, ?_⟩)))
  · rw [← idx_any p l 0]
  · rfl
end Go.Proofs.Ytchcbfbnffhifaa
/- Types: validity in the program; checks behind validity. On shadows. -/
namespace Go.Proofs.Ytchcbfbnffhifaa
open Go.RowKit Go.Proofs.Sh Go.Proofs.Grad
set_option maxRecDepth 100000
set_option maxHeartbeats 4000000
theorem iScan (m : Nat) (hm : m ≤ 4) : ∀ t : Ty, AFn Try.prog 159 [.agg (tyC t), .one (.sc (.int .i64 (5 - (m : Int))))] (.one (.sc (.bool (t.shape m)))) := by
  induction m with
  | zero =>
    intro t
    refine fn_in ?_; refine acl_in Try.func159 rfl isfn_159 (Nat.le_of_ble_eq_true rfl) (fun R hR => ?_); rw [Try.results159] at hR; refine wg_run ?_; (simp only [Try.f159, go_sem])
    repeat' (first | (((first | apply sp1 | apply sp2 | apply sp3 | apply sp4 | apply sp5 | apply sp6 | apply sp7) <;> intro hb) <;> (simp only [go_sem, hb])) | ((first | apply wm_done | apply wt_done | apply wg_run | refine fk ?_ ?_) <;> (simp only [go_sem])))
    all_goals (refine hR _ (rat [] (hK := ⟨?_, rfl⟩)))
    all_goals rfl
  | succ m ih =>
    intro t
    have hd : decide (5 - ((m + 1 : Nat) : Int) ≤ 4) = true := by simp; omega
    have hw : IntKind.i64.wrap (5 - ((m + 1 : Nat) : Int) + 1) = 5 - (m : Int) := by rw [IntWalk.i64_in _ (by omega)]; omega
    have hc : t.kids.length < 3 → ACl Try.prog 161 [.one (.sl (tyR t.kids)), .one (.fn 162 [.ptr 1 0 0 0])] [⟨1, 3, .mut, [[.sc (.int .i64 (5 - ((m + 1 : Nat) : Int)))]]⟩] (fun r H' => r = .one (.sc (.bool (t.kids.any (fun x => !x.shape m)))) ∧ H' = [⟨1, 3, .mut, [[.sc (.int .i64 (5 - ((m + 1 : Nat) : Int)))]]⟩]) := by
      intro hl
      refine containsFunc1 _ _ (fun x => !x.shape m) _ (by omega) ?_
      intro k hk
      refine acl_in Try.func162 rfl isfn_162 (Nat.le_of_ble_eq_true rfl) (fun R hR => ?_); rw [Try.results162] at hR; refine wg_run ?_; (simp only [Try.f162, go_sem])
      (simp only [go_sem, hw])
      (first | refine cdq ?_ (hc := ih (by omega) _) | refine cmq ?_ (hc := ih (by omega) _) | refine ctq ?_ (hc := ih (by omega) _)); (simp only [go_sem])
      (refine hR _ (rat [] (hK := ⟨?_, ?_⟩)))
      · rfl
      · rfl
    clear ih
    refine fn_in ?_; refine acl_in Try.func159 rfl isfn_159 (Nat.le_of_ble_eq_true rfl) (fun R hR => ?_); rw [Try.results159] at hR; refine wg_run ?_; (simp only [Try.f159, go_sem])
    repeat' (first | (first | (simp only [go_sem, hd]) | (((first | apply sp1 | apply sp2 | apply sp3 | apply sp4 | apply sp5 | apply sp6 | apply sp7) <;> intro hb) <;> (simp only [go_sem, hb, hd])) | ((first | apply wm_done | apply wt_done | apply wg_run | refine fk ?_ ?_) <;> (simp only [go_sem, hd]))) | (first | refine kdq [1] ?_ (hc := hc (by have := beq_iff_eq.1 hb; omega)) | refine kmq [1] ?_ (hc := hc (by have := beq_iff_eq.1 hb; omega)) | refine ktq [1] ?_ (hc := hc (by have := beq_iff_eq.1 hb; omega))); rintro _ _ ⟨rfl, rfl⟩; (simp only [go_sem]))
    all_goals (refine hR _ (rat [] (hK := ⟨?_, rfl⟩)))
    all_goals clear hR hc
    all_goals simp_all [Ty.shape, kidsN, List.all_eq_not_any_not]
theorem iValid (t : Ty) : AFn Try.prog 154 [.agg (tyC t)] (.one (.sc (.bool t.valid))) := by
  refine fn_in ?_; refine acl_in Try.func154 rfl isfn_154 (Nat.le_of_ble_eq_true rfl) (fun R hR => ?_); rw [Try.results154] at hR; refine wg_run ?_; (simp only [Try.f154, go_sem])
  (first | refine cdq ?_ (hc := iScan 4 (by omega) _) | refine cmq ?_ (hc := iScan 4 (by omega) _) | refine ctq ?_ (hc := iScan 4 (by omega) _)); (simp only [go_sem])
  (refine hR _ (rat [] (hK := ⟨?_, rfl⟩)))
  rfl
theorem Ty.valid_16 {t : Ty} (h : t.valid = true) : t.size < 16 := by
  obtain ⟨x, rfl, hx⟩ := (Ty.valid_iff t).1 h
  rw [T.ty_size]
  have : ∀ (x : T) (d : Nat), x.depth ≤ d → d ≤ 4 → x.size < 2 ^ d := by
    intro x
    induction x with
    | any | int | bool => intro d h1 h2; simp only [T.depth, T.size] at *; exact Nat.one_lt_two_pow (by omega)
    | fn a b iha ihb | pr a b iha ihb =>
      intro d h1 h2
      simp only [T.depth, T.size] at *
      obtain ⟨d, rfl⟩ : ∃ e, d = e + 1 := ⟨d - 1, by omega⟩
      have := iha d (by omega) (by omega); have := ihb d (by omega) (by omega)
      rw [Nat.pow_succ]; omega
  have := this x 4 hx (Nat.le_refl _)
  omega
theorem Ty.valid_size {t : Ty} (h : t.valid = true) : t.size < 4611686018427387904 := by have := Ty.valid_16 h; omega
-- written by gen_on.py
theorem iConsistent (a b : Ty) : AFn Try.prog 156 [.agg (tyC a), .agg (tyC b)] (.one (.sc (.bool (onT T.cons a b)))) := by
  have va := iValid a
  have vb := iValid b
  by_cases ha : a.valid = true
  · rw [ha] at va
    by_cases hb' : b.valid = true
    · rw [hb'] at vb
      have hf := fun (x y : T) (e1 : x.ty = a) (e2 : y.ty = b) => by have h := iCons _ (Nat.le_refl _) a b (Ty.valid_size ha); rw [← e1, ← e2, T.cons_ty] at h; exact h
      obtain ⟨x, rfl, hx⟩ := (Ty.valid_iff a).1 ha
      obtain ⟨y, rfl, hy⟩ := (Ty.valid_iff b).1 hb'
      have hf := hf x y rfl rfl
      rw [onT_ty _ hx hy]
      clear ha hb'
      refine fn_in ?_; refine acl_in Try.func156 rfl isfn_156 (Nat.le_of_ble_eq_true rfl) (fun R hR => ?_); rw [Try.results156] at hR; refine wg_run ?_; (simp only [Try.f156, go_sem])
      repeat' (first | (first | (((first | apply sp1 | apply sp2 | apply sp3 | apply sp4 | apply sp5 | apply sp6 | apply sp7) <;> intro hb) <;> (simp only [go_sem, hb])) | ((first | apply wm_done | apply wt_done | apply wg_run | refine fk ?_ ?_) <;> (simp only [go_sem]))) | (first | refine cdq ?_ (hc := va) | refine cmq ?_ (hc := va) | refine ctq ?_ (hc := va)); (simp only [go_sem]) | (first | refine cdq ?_ (hc := vb) | refine cmq ?_ (hc := vb) | refine ctq ?_ (hc := vb)); (simp only [go_sem]) | (first | refine cdq ?_ (hc := hf) | refine cmq ?_ (hc := hf) | refine ctq ?_ (hc := hf)); (simp only [go_sem]) | ((first | refine mxq6 [] ?_ | refine mxq5 [] ?_ | refine mxq4 [] ?_ | refine mxq3 [] ?_ | refine mxq2 [] ?_ | refine mxq1 [] ?_ | refine mxq0 [] ?_ | fail); (simp only [go_sem])))
      all_goals (refine hR _ (rat [] (hK := ⟨rfl, rfl⟩)))
    · rw [Bool.not_eq_true] at hb'
      rw [onT_off _ (by simp [hb'])]
      rw [hb'] at vb
      clear ha hb'
      refine fn_in ?_; refine acl_in Try.func156 rfl isfn_156 (Nat.le_of_ble_eq_true rfl) (fun R hR => ?_); rw [Try.results156] at hR; refine wg_run ?_; (simp only [Try.f156, go_sem])
      repeat' (first | (first | (((first | apply sp1 | apply sp2 | apply sp3 | apply sp4 | apply sp5 | apply sp6 | apply sp7) <;> intro hb) <;> (simp only [go_sem, hb])) | ((first | apply wm_done | apply wt_done | apply wg_run | refine fk ?_ ?_) <;> (simp only [go_sem]))) | (first | refine cdq ?_ (hc := va) | refine cmq ?_ (hc := va) | refine ctq ?_ (hc := va)); (simp only [go_sem]) | (first | refine cdq ?_ (hc := vb) | refine cmq ?_ (hc := vb) | refine ctq ?_ (hc := vb)); (simp only [go_sem]) | ((first | refine mxq6 [] ?_ | refine mxq5 [] ?_ | refine mxq4 [] ?_ | refine mxq3 [] ?_ | refine mxq2 [] ?_ | refine mxq1 [] ?_ | refine mxq0 [] ?_ | fail); (simp only [go_sem])))
      all_goals (refine hR _ (rat [] (hK := ⟨rfl, rfl⟩)))
  · rw [Bool.not_eq_true] at ha
    rw [onT_off _ (by simp [ha])]
    rw [ha] at va
    clear ha
    refine fn_in ?_; refine acl_in Try.func156 rfl isfn_156 (Nat.le_of_ble_eq_true rfl) (fun R hR => ?_); rw [Try.results156] at hR; refine wg_run ?_; (simp only [Try.f156, go_sem])
    repeat' (first | (first | (((first | apply sp1 | apply sp2 | apply sp3 | apply sp4 | apply sp5 | apply sp6 | apply sp7) <;> intro hb) <;> (simp only [go_sem, hb])) | ((first | apply wm_done | apply wt_done | apply wg_run | refine fk ?_ ?_) <;> (simp only [go_sem]))) | (first | refine cdq ?_ (hc := va) | refine cmq ?_ (hc := va) | refine ctq ?_ (hc := va)); (simp only [go_sem]) | ((first | refine mxq6 [] ?_ | refine mxq5 [] ?_ | refine mxq4 [] ?_ | refine mxq3 [] ?_ | refine mxq2 [] ?_ | refine mxq1 [] ?_ | refine mxq0 [] ?_ | fail); (simp only [go_sem])))
    all_goals (refine hR _ (rat [] (hK := ⟨rfl, rfl⟩)))
-- end
end Go.Proofs.Ytchcbfbnffhifaa
