/- Texts of the proof, one behind another. -/
import Derived.Test.YtchcbfbnffhifaaKB4
import Derived.Test.YtchcbfbnffhifaaKB5
set_option linter.unusedSimpArgs false
set_option linter.unusedVariables false
/- Terms as shadows. -/
namespace Go.Proofs.Sh
open Go.RowKit Go.Proofs.Grad

mutual
def teC : Tm → List C
  | .mk x0 x1 x2 x3 x4 x5 x6 => [.sc (.int .i64 (x0)), .sc (.string (x1)), .sc (.int .i64 (x2)), .sc (.int .i64 (x3).kind), .sl (tyR (x3).kids), .sc (.int .i64 (x4).kind), .sl (tyR (x4).kids), .sc (.int .i64 (x5)), .sl (teR (x6))]
def teR : List Tm → List (List C)
  | [] => []
  | t :: l => teC t :: teR l
end
theorem teC_eq (t : Tm) : teC t = [.sc (.int .i64 (t.kind)), .sc (.string (t.name)), .sc (.int .i64 (t.num)), .sc (.int .i64 (t.type).kind), .sl (tyR (t.type).kids), .sc (.int .i64 (t.frm).kind), .sl (tyR (t.frm).kids), .sc (.int .i64 (t.label)), .sl (teR (t.kids))] := by cases t; rfl
@[go_sem] theorem teC_length (t : Tm) : (teC t).length = 9 := by rw [teC_eq]; rfl
@[go_sem] theorem teC_take (t : Tm) : (teC t).take 9 = teC t := by rw [teC_eq]; rfl
@[go_sem] theorem teC_drop (t : Tm) : (teC t).drop 0 = teC t := rfl
@[go_sem] theorem teC_dropn (t : Tm) : (teC t).drop 9 = [] := by rw [teC_eq]; rfl
@[go_sem] theorem teC_treeL (t : Tm) : treeL (teC t) = true := by rw [teC_eq]; rfl
@[go_sem] theorem teC_0 (t : Tm) : (teC t)[0]? = some (.sc (.int .i64 (t.kind))) := by rw [teC_eq]; rfl
@[go_sem] theorem teC_1 (t : Tm) : (teC t)[1]? = some (.sc (.string (t.name))) := by rw [teC_eq]; rfl
@[go_sem] theorem teC_2 (t : Tm) : (teC t)[2]? = some (.sc (.int .i64 (t.num))) := by rw [teC_eq]; rfl
@[go_sem] theorem teC_3 (t : Tm) : (teC t)[3]? = some (.sc (.int .i64 (t.type).kind)) := by rw [teC_eq]; rfl
@[go_sem] theorem teC_4 (t : Tm) : (teC t)[4]? = some (.sl (tyR (t.type).kids)) := by rw [teC_eq]; rfl
@[go_sem] theorem teC_dlen3 (t : Tm) : ((teC t).drop 3).length = 6 := by rw [teC_eq]; rfl
@[go_sem] theorem teC_part3 (t : Tm) : ((teC t).drop 3).take 2 = tyC t.type := by rw [teC_eq, tyC_eq]; rfl
@[go_sem] theorem teC_5 (t : Tm) : (teC t)[5]? = some (.sc (.int .i64 (t.frm).kind)) := by rw [teC_eq]; rfl
@[go_sem] theorem teC_6 (t : Tm) : (teC t)[6]? = some (.sl (tyR (t.frm).kids)) := by rw [teC_eq]; rfl
@[go_sem] theorem teC_dlen5 (t : Tm) : ((teC t).drop 5).length = 4 := by rw [teC_eq]; rfl
@[go_sem] theorem teC_part5 (t : Tm) : ((teC t).drop 5).take 2 = tyC t.frm := by rw [teC_eq, tyC_eq]; rfl
@[go_sem] theorem teC_7 (t : Tm) : (teC t)[7]? = some (.sc (.int .i64 (t.label))) := by rw [teC_eq]; rfl
@[go_sem] theorem teC_8 (t : Tm) : (teC t)[8]? = some (.sl (teR (t.kids))) := by rw [teC_eq]; rfl
@[go_sem] theorem tyC_app (t : Ty) (l : List C) : tyC t ++ l = .sc (.int .i64 t.kind) :: .sl (tyR t.kids) :: l := by rw [tyC_eq]; rfl
@[go_sem] theorem teC_splice0 (t : Tm) (x : C) : splice (teC t) 0 [x] = [x, .sc (.string (t.name)), .sc (.int .i64 (t.num)), .sc (.int .i64 (t.type).kind), .sl (tyR (t.type).kids), .sc (.int .i64 (t.frm).kind), .sl (tyR (t.frm).kids), .sc (.int .i64 (t.label)), .sl (teR (t.kids))] := by rw [teC_eq]; rfl
@[go_sem] theorem teC_splice1 (t : Tm) (x : C) : splice (teC t) 1 [x] = [.sc (.int .i64 (t.kind)), x, .sc (.int .i64 (t.num)), .sc (.int .i64 (t.type).kind), .sl (tyR (t.type).kids), .sc (.int .i64 (t.frm).kind), .sl (tyR (t.frm).kids), .sc (.int .i64 (t.label)), .sl (teR (t.kids))] := by rw [teC_eq]; rfl
@[go_sem] theorem teC_splice2 (t : Tm) (x : C) : splice (teC t) 2 [x] = [.sc (.int .i64 (t.kind)), .sc (.string (t.name)), x, .sc (.int .i64 (t.type).kind), .sl (tyR (t.type).kids), .sc (.int .i64 (t.frm).kind), .sl (tyR (t.frm).kids), .sc (.int .i64 (t.label)), .sl (teR (t.kids))] := by rw [teC_eq]; rfl
@[go_sem] theorem teC_splice3 (t : Tm) (x : C) : splice (teC t) 3 [x] = [.sc (.int .i64 (t.kind)), .sc (.string (t.name)), .sc (.int .i64 (t.num)), x, .sl (tyR (t.type).kids), .sc (.int .i64 (t.frm).kind), .sl (tyR (t.frm).kids), .sc (.int .i64 (t.label)), .sl (teR (t.kids))] := by rw [teC_eq]; rfl
@[go_sem] theorem teC_splice4 (t : Tm) (x : C) : splice (teC t) 4 [x] = [.sc (.int .i64 (t.kind)), .sc (.string (t.name)), .sc (.int .i64 (t.num)), .sc (.int .i64 (t.type).kind), x, .sc (.int .i64 (t.frm).kind), .sl (tyR (t.frm).kids), .sc (.int .i64 (t.label)), .sl (teR (t.kids))] := by rw [teC_eq]; rfl
@[go_sem] theorem teC_splice5 (t : Tm) (x : C) : splice (teC t) 5 [x] = [.sc (.int .i64 (t.kind)), .sc (.string (t.name)), .sc (.int .i64 (t.num)), .sc (.int .i64 (t.type).kind), .sl (tyR (t.type).kids), x, .sl (tyR (t.frm).kids), .sc (.int .i64 (t.label)), .sl (teR (t.kids))] := by rw [teC_eq]; rfl
@[go_sem] theorem teC_splice6 (t : Tm) (x : C) : splice (teC t) 6 [x] = [.sc (.int .i64 (t.kind)), .sc (.string (t.name)), .sc (.int .i64 (t.num)), .sc (.int .i64 (t.type).kind), .sl (tyR (t.type).kids), .sc (.int .i64 (t.frm).kind), x, .sc (.int .i64 (t.label)), .sl (teR (t.kids))] := by rw [teC_eq]; rfl
@[go_sem] theorem teC_splice7 (t : Tm) (x : C) : splice (teC t) 7 [x] = [.sc (.int .i64 (t.kind)), .sc (.string (t.name)), .sc (.int .i64 (t.num)), .sc (.int .i64 (t.type).kind), .sl (tyR (t.type).kids), .sc (.int .i64 (t.frm).kind), .sl (tyR (t.frm).kids), x, .sl (teR (t.kids))] := by rw [teC_eq]; rfl
@[go_sem] theorem teC_splice8 (t : Tm) (x : C) : splice (teC t) 8 [x] = [.sc (.int .i64 (t.kind)), .sc (.string (t.name)), .sc (.int .i64 (t.num)), .sc (.int .i64 (t.type).kind), .sl (tyR (t.type).kids), .sc (.int .i64 (t.frm).kind), .sl (tyR (t.frm).kids), .sc (.int .i64 (t.label)), x] := by rw [teC_eq]; rfl
@[go_sem] theorem teC_splice3ty (t : Tm) (x y : C) : splice (teC t) 3 [x, y] = [.sc (.int .i64 (t.kind)), .sc (.string (t.name)), .sc (.int .i64 (t.num)), x, y, .sc (.int .i64 (t.frm).kind), .sl (tyR (t.frm).kids), .sc (.int .i64 (t.label)), .sl (teR (t.kids))] := by rw [teC_eq]; rfl
@[go_sem] theorem teC_splice3tyC (t : Tm) (u : Ty) : splice (teC t) 3 (tyC u) = teC (.mk t.kind t.name t.num u t.frm t.label t.kids) := by rw [teC_eq, tyC_eq]; rfl
@[go_sem] theorem teC_splice5ty (t : Tm) (x y : C) : splice (teC t) 5 [x, y] = [.sc (.int .i64 (t.kind)), .sc (.string (t.name)), .sc (.int .i64 (t.num)), .sc (.int .i64 (t.type).kind), .sl (tyR (t.type).kids), x, y, .sc (.int .i64 (t.label)), .sl (teR (t.kids))] := by rw [teC_eq]; rfl
@[go_sem] theorem teC_splice5tyC (t : Tm) (u : Ty) : splice (teC t) 5 (tyC u) = teC (.mk t.kind t.name t.num t.type u t.label t.kids) := by rw [teC_eq, tyC_eq]; rfl
@[go_sem] theorem teR_length (l : List Tm) : (teR l).length = l.length := by
  induction l with
  | nil => rfl
  | cons t l ih => simp [teR, ih]
theorem teR_get (l : List Tm) (i : Nat) : (teR l)[i]? = (l[i]?).map teC := by
  induction l generalizing i with
  | nil => simp [teR]
  | cons t l ih => cases i <;> simp [teR, ih]
/-- the k-th one -/
def teKid (l : List Tm) (k : Nat) : Tm := l.getD k (.mk 0 ByteArray.empty 0 (.mk 0 []) (.mk 0 []) 0 [])
theorem teKid_eq {l : List Tm} {k : Nat} (h : k < l.length) : teKid l k = l[k] := by simp [teKid, h]
@[go_sem] theorem teR_at (l : List Tm) (i : Nat) : (teR l)[i]? = match decide ((i : Int) < (l.length : Int)) with | true => some (teC (teKid l i)) | false => none := by
  rw [teR_get]
  by_cases h : i < l.length
  · have h' : (i : Int) < (l.length : Int) := by omega
    simp [h, h', teKid]
  · have h' : ¬ (i : Int) < (l.length : Int) := by omega
    simp [h, h']
theorem tesizes_mem {t : Tm} {l : List Tm} (h : t ∈ l) : t.size ≤ Tm.sizes l := by
  induction l with
  | nil => simp at h
  | cons x l ih =>
    simp only [Tm.sizes]
    rcases List.mem_cons.1 h with rfl | h
    · omega
    · have := ih h; omega
theorem telen_sizes (l : List Tm) : l.length ≤ Tm.sizes l := by
  induction l with
  | nil => simp [Tm.sizes]
  | cons x l ih => cases x; simp only [Tm.sizes, Tm.size, List.length_cons]; omega
theorem tekids_lt (t : Tm) : Tm.sizes t.kids < t.size := by cases t; simp only [Tm.size, Tm.kids]; omega
theorem telen_lt (t : Tm) : t.kids.length < t.size := Nat.lt_of_le_of_lt (telen_sizes _) (tekids_lt t)
theorem teKid_lt {t : Tm} {k : Nat} (h : k < t.kids.length) : (teKid t.kids k).size < t.size := by
  rw [teKid_eq h]
  exact Nat.lt_of_le_of_lt (tesizes_mem (List.getElem_mem h)) (tekids_lt t)
theorem tetake_kid {l : List Tm} {k : Nat} (h : k < l.length) : l.take (k + 1) = l.take k ++ [teKid l k] := by
  rw [teKid_eq h, List.take_succ_eq_append_getElem h]
theorem tedrop_kid {l : List Tm} {k : Nat} (h : k < l.length) : l.drop k = teKid l k :: l.drop (k + 1) := by
  rw [teKid_eq h, List.drop_eq_getElem_cons h]
theorem teR_append (l m : List Tm) : teR (l ++ m) = teR l ++ teR m := by
  induction l with
  | nil => rfl
  | cons t l ih => simp [teR, ih]
theorem teR_take {l : List Tm} {k : Nat} (h : k < l.length) : teR (l.take (k + 1)) = teR (l.take k) ++ [teC (teKid l k)] := by
  rw [tetake_kid h, teR_append]; rfl
@[go_sem] theorem teR_tree (l : List Tm) : treeRows (teR l) = true := by
  induction l with
  | nil => rfl
  | cons t l ih => simp only [teR, treeRows_cons, teC_treeL, Bool.true_and]; exact ih
@[go_sem] theorem teR_len (l : List Tm) : rowsLen 9 (teR l) = true := by
  induction l with
  | nil => rfl
  | cons t l ih => simp only [teR, rowsLen_cons, teC_length, beq_self_eq_true, Bool.true_and]; exact ih
attribute [go_sem] teR
@[go_sem] theorem tekind_mk (x0 : Int) (x1 : ByteArray) (x2 : Int) (x3 : Ty) (x4 : Ty) (x5 : Int) (x6 : List Tm) : (Tm.mk x0 x1 x2 x3 x4 x5 x6).kind = x0 := rfl
@[go_sem] theorem tename_mk (x0 : Int) (x1 : ByteArray) (x2 : Int) (x3 : Ty) (x4 : Ty) (x5 : Int) (x6 : List Tm) : (Tm.mk x0 x1 x2 x3 x4 x5 x6).name = x1 := rfl
@[go_sem] theorem tenum_mk (x0 : Int) (x1 : ByteArray) (x2 : Int) (x3 : Ty) (x4 : Ty) (x5 : Int) (x6 : List Tm) : (Tm.mk x0 x1 x2 x3 x4 x5 x6).num = x2 := rfl
@[go_sem] theorem tetype_mk (x0 : Int) (x1 : ByteArray) (x2 : Int) (x3 : Ty) (x4 : Ty) (x5 : Int) (x6 : List Tm) : (Tm.mk x0 x1 x2 x3 x4 x5 x6).type = x3 := rfl
@[go_sem] theorem tefrm_mk (x0 : Int) (x1 : ByteArray) (x2 : Int) (x3 : Ty) (x4 : Ty) (x5 : Int) (x6 : List Tm) : (Tm.mk x0 x1 x2 x3 x4 x5 x6).frm = x4 := rfl
@[go_sem] theorem telabel_mk (x0 : Int) (x1 : ByteArray) (x2 : Int) (x3 : Ty) (x4 : Ty) (x5 : Int) (x6 : List Tm) : (Tm.mk x0 x1 x2 x3 x4 x5 x6).label = x5 := rfl
@[go_sem] theorem tekids_mk (x0 : Int) (x1 : ByteArray) (x2 : Int) (x3 : Ty) (x4 : Ty) (x5 : Int) (x6 : List Tm) : (Tm.mk x0 x1 x2 x3 x4 x5 x6).kids = x6 := rfl
end Go.Proofs.Sh
/- Owned types and terms. -/
namespace Go.Proofs.Sh
open Go.RowKit Go.Proofs.Grad

theorem ow_sc {h : List Blk} {d : Nat} {c : C} {v : Value} {ids : List Nat} (hv : v ≠ .slice none 0 0) (e : ow h d c = some (.sc v, ids)) : c = .sc v ∧ ids = [] := by
  cases c with
  | row s b n => obtain ⟨_, _, _, _, _, _, _, _, _, _, _, h, _⟩ := ow_row e; cases h
  | _ =>
    rw [ow_leaf (by simp)] at e
    obtain ⟨rfl, ⟨h1, h2⟩ | ⟨v, h1, _, h2⟩ | ⟨h1, h2⟩⟩ := leaf_cases e
    · cases h2
    · cases h2; exact ⟨h1, rfl⟩
    · cases h2
theorem fzL_cons {f : C → Option (C × List Nat)} {cs : List C} {x : C} {xs : List C} {ids : List Nat} (e : fzL f cs = some (x :: xs, ids)) : ∃ c cs' i j, cs = c :: cs' ∧ f c = some (x, i) ∧ fzL f cs' = some (xs, j) ∧ ids = i ++ j := by
  cases cs with
  | nil => simp [fzL] at e
  | cons c cs' =>
    simp only [fzL] at e
    split at e
    · rename_i c1 i c2 j h1 h2
      simp only [Option.some.injEq, Prod.mk.injEq, List.cons.injEq] at e
      obtain ⟨⟨rfl, rfl⟩, rfl⟩ := e
      exact ⟨c, cs', i, j, rfl, h1, h2, rfl⟩
    · cases e
theorem fzL_nil {f : C → Option (C × List Nat)} {cs : List C} {ids : List Nat} (e : fzL f cs = some ([], ids)) : cs = [] ∧ ids = [] := by
  cases cs with
  | nil => simp only [fzL, Option.some.injEq, Prod.mk.injEq] at e; exact ⟨rfl, e.2.symm⟩
  | cons c cs' =>
    simp only [fzL] at e
    split at e
    · simp at e
    · cases e
theorem owL_ty {h : List Blk} {d : Nat} {cs : List C} {t : Ty} {ids : List Nat} (e : fzL (ow h d) cs = some (tyC t, ids)) : ∃ c, cs = [.sc (.int .i64 t.kind), c] ∧ ow h d c = some (.sl (tyR t.kids), ids) := by
  rw [tyC_eq] at e
  obtain ⟨c0, cs1, i0, j0, rfl, e0, f0, rfl⟩ := fzL_cons e
  obtain ⟨c1, cs2, i1, j1, rfl, e1, f1, rfl⟩ := fzL_cons f0
  obtain ⟨rfl, rfl⟩ := fzL_nil f1
  obtain ⟨rfl, rfl⟩ := ow_sc (by simp) e0
  exact ⟨c1, rfl, by simpa using e1⟩
/-- a term's cells: the cells of its types' and its own operands -/
def teO (t : Tm) (c1 c2 c3 : C) : List C := [.sc (.int .i64 t.kind), .sc (.string t.name), .sc (.int .i64 t.num), .sc (.int .i64 t.type.kind), c1, .sc (.int .i64 t.frm.kind), c2, .sc (.int .i64 t.label), c3]
theorem owL_te {h : List Blk} {d : Nat} {cs : List C} {t : Tm} {ids : List Nat} (e : fzL (ow h d) cs = some (teC t, ids)) : ∃ c1 c2 c3 i1 i2 i3, cs = teO t c1 c2 c3 ∧ ids = i1 ++ (i2 ++ i3) ∧ ow h d c1 = some (.sl (tyR t.type.kids), i1) ∧ ow h d c2 = some (.sl (tyR t.frm.kids), i2) ∧ ow h d c3 = some (.sl (teR t.kids), i3) := by
  rw [teC_eq] at e
  obtain ⟨c0, cs1, i0, j0, rfl, e0, f0, rfl⟩ := fzL_cons e
  obtain ⟨c1, cs2, i1, j1, rfl, e1, f1, rfl⟩ := fzL_cons f0
  obtain ⟨c2, cs3, i2, j2, rfl, e2, f2, rfl⟩ := fzL_cons f1
  obtain ⟨c3, cs4, i3, j3, rfl, e3, f3, rfl⟩ := fzL_cons f2
  obtain ⟨c4, cs5, i4, j4, rfl, e4, f4, rfl⟩ := fzL_cons f3
  obtain ⟨c5, cs6, i5, j5, rfl, e5, f5, rfl⟩ := fzL_cons f4
  obtain ⟨c6, cs7, i6, j6, rfl, e6, f6, rfl⟩ := fzL_cons f5
  obtain ⟨c7, cs8, i7, j7, rfl, e7, f7, rfl⟩ := fzL_cons f6
  obtain ⟨c8, cs9, i8, j8, rfl, e8, f8, rfl⟩ := fzL_cons f7
  obtain ⟨rfl, rfl⟩ := fzL_nil f8
  obtain ⟨rfl, rfl⟩ := ow_sc (by simp) e0
  obtain ⟨rfl, rfl⟩ := ow_sc (by simp) e1
  obtain ⟨rfl, rfl⟩ := ow_sc (by simp) e2
  obtain ⟨rfl, rfl⟩ := ow_sc (by simp) e3
  obtain ⟨rfl, rfl⟩ := ow_sc (by simp) e5
  obtain ⟨rfl, rfl⟩ := ow_sc (by simp) e7
  exact ⟨c4, c6, c8, i4, i6, i8, rfl, by simp, e4, e6, e8⟩
theorem owL_te_of {h : List Blk} {d1 d2 d3 : Nat} {t : Tm} {c1 c2 c3 : C} {i1 i2 i3 : List Nat} (h1 : ow h d1 c1 = some (.sl (tyR t.type.kids), i1)) (h2 : ow h d2 c2 = some (.sl (tyR t.frm.kids), i2)) (h3 : ow h d3 c3 = some (.sl (teR t.kids), i3)) : ∃ d, fzL (ow h d) (teO t c1 c2 c3) = some (teC t, i1 ++ (i2 ++ i3)) := by
  refine ⟨max d1 (max d2 d3), ?_⟩
  have h1 := ow_le (Nat.le_max_left d1 (max d2 d3)) h1
  have h2 := ow_le (Nat.le_trans (Nat.le_max_left d2 d3) (Nat.le_max_right d1 (max d2 d3))) h2
  have h3 := ow_le (Nat.le_trans (Nat.le_max_right d2 d3) (Nat.le_max_right d1 (max d2 d3))) h3
  rw [teC_eq]
  simp only [teO, fzL, ow_int, ow_str, h1, h2, h3, List.nil_append, List.append_nil]
@[go_sem] theorem teO_length (t : Tm) (c1 c2 c3 : C) : (teO t c1 c2 c3).length = 9 := rfl
end Go.Proofs.Sh
namespace Go.Proofs.Grad
mutual
def Tm.mapT (φ : Tm → Tm) : Tm → Tm
  | .mk k n m t f l a => φ (.mk k n m t f l (Tm.mapTs φ a))
def Tm.mapTs (φ : Tm → Tm) : List Tm → List Tm
  | [] => []
  | t :: l => t.mapT φ :: Tm.mapTs φ l
end
theorem mapTs_eq (φ : Tm → Tm) : ∀ l : List Tm, Tm.mapTs φ l = l.map (Tm.mapT φ)
  | [] => rfl
  | t :: l => by simp [Tm.mapTs, mapTs_eq φ l]
/-- a node with other operands -/
def Tm.kidsOf (t : Tm) (l : List Tm) : Tm := .mk t.kind t.name t.num t.type t.frm t.label l
theorem mapT_eq (φ : Tm → Tm) (t : Tm) : t.mapT φ = φ (t.kidsOf (t.kids.map (Tm.mapT φ))) := by cases t; simp only [Tm.mapT, Tm.kidsOf, mapTs_eq]; rfl
mutual
theorem mapT_id : ∀ t : Tm, t.mapT id = t
  | .mk k n m t f l a => by simp only [Tm.mapT, mapTs_id a, id]
theorem mapTs_id : ∀ l : List Tm, Tm.mapTs id l = l
  | [] => rfl
  | t :: l => by simp only [Tm.mapTs, mapT_id t, mapTs_id l]
end
end Go.Proofs.Grad
namespace Go.Proofs.Sh
open Go.RowKit Go.Proofs.Grad
theorem take_map {φ : Tm → Tm} {l : List Tm} {k : Nat} (h : k < l.length) : (l.take (k + 1)).map (Tm.mapT φ) = (l.take k).map (Tm.mapT φ) ++ [(teKid l k).mapT φ] := by
  rw [tetake_kid h]; simp
/-- what a change of a node leaves -/
def Changed (h : List Blk) (ids : List Nat) (enc : List C) (r : AV) (h' : List Blk) : Prop := ∃ cs d ids', r = .agg cs ∧ fzL (ow h' d) cs = some (enc, ids') ∧ ids'.Nodup ∧ (∀ b ∈ ids', b ∈ ids ∨ h.length ≤ b) ∧ h.length ≤ h'.length ∧ ∀ b, b < h.length → h'[b]? = h[b]?
theorem nodup3 {i1 i2 i3 : List Nat} {a b c : Nat} (h1 : i1.Nodup) (h2 : i2.Nodup) (h3 : i3.Nodup) (b3 : ∀ x ∈ i3, x < a) (b1 : ∀ x ∈ i1, a ≤ x ∧ x < b) (b2 : ∀ x ∈ i2, b ≤ x ∧ x < c) (hab : a ≤ b) : (i1 ++ (i2 ++ i3)).Nodup := by
  refine List.nodup_append.2 ⟨h1, List.nodup_append.2 ⟨h2, h3, fun x hx y hy e => ?_⟩, fun x hx y hy e => ?_⟩
  · subst e; have := b2 x hx; have := b3 x hy; omega
  · subst e
    have := b1 x hx
    rcases List.mem_append.1 hy with hy | hy
    · have := b2 x hy; omega
    · have := b3 x hy; omega
theorem nodup3' {i1 i2 i3 : List Nat} {a b c : Nat} (h1 : i1.Nodup) (h2 : i2.Nodup) (h3 : i3.Nodup) (b1 : ∀ x ∈ i1, a ≤ x ∧ x < b) (b2 : ∀ x ∈ i2, b ≤ x ∧ x < c) (b3 : ∀ x ∈ i3, c ≤ x) (hbc : b ≤ c) : (i1 ++ (i2 ++ i3)).Nodup := by
  refine List.nodup_append.2 ⟨h1, List.nodup_append.2 ⟨h2, h3, fun x hx y hy e => ?_⟩, fun x hx y hy e => ?_⟩
  · subst e; have := b2 x hx; have := b3 x hy; omega
  · subst e
    have := b1 x hx
    rcases List.mem_append.1 hy with hy | hy
    · have := b2 x hy; omega
    · have := b3 x hy; omega
end Go.Proofs.Sh
/- Terms: terms mapped by a function, owned. On shadows. -/
namespace Go.Proofs.Ytchcbfbnffhifaa
open Go.RowKit Go.Proofs.Sh Go.Proofs.Grad
set_option maxRecDepth 100000
set_option maxHeartbeats 8000000
theorem iMappedO (g : FuncId) (φ : Tm → Tm) (J I : Tm → Prop) (hJ : ∀ t k, J t → k < t.kids.length → J (teKid t.kids k)) (hI : ∀ t, J t → I (t.kidsOf (t.kids.map (Tm.mapT φ))))
    (hg : ∀ (x : Tm) (h : List Blk) (cs : List C) (d : Nat) (ids : List Nat), I x → fzL (ow h d) cs = some (teC x, ids) → ids.Nodup → ∃ ks, ACalls Try.prog g [.agg cs] h ks (Changed h ids (teC (φ x))))
    (n : Nat) (hn : n ≤ 1000000000) : ∀ t : Tm, t.size < n → J t → ACl Try.prog 66 [.agg (teC t), .one (.fn g [])] [] (OwnK (teC (t.mapT φ)) .agg) := by
  induction n with
  | zero => intro t h; omega
  | succ n ih =>
    intro t h hj
    have hl : t.kids.length < 1000000000 := by have := telen_lt t; omega
    have hty : t.type.size < n + 1 := by cases t; simp only [Tm.size, Tm.type] at *; omega
    have hfr : t.frm.size < n + 1 := by cases t; simp only [Tm.size, Tm.frm] at *; omega
    refine acl_in Try.func66 rfl isfn_66 (Nat.le_of_ble_eq_true rfl) (fun R hR => ?_); rw [Try.results66] at hR; refine wg_run ?_; (simp only [Try.f66, go_sem])
    refine wd_for (σ := Nat × C × List Blk) [1, 2, 4, 5, 9, 10, 11] (fun x => [.one (.fn g []), .one (.ptr 9 0 0 0), .one (.ptr 9 1 0 0), .one x.2.1, .one (.sl (teR t.kids)), .one (.sc (.int .i64 t.kids.length)), .one (.sc (.int .i64 (x.1 : Nat)))])
      (fun x => ⟨9, 35, .mut, [teC t]⟩ :: ⟨9, 35, .mut, [[.sc (.int .i64 0), .sc (.string ByteArray.empty), .sc (.int .i64 0), .sc (.int .i64 0), .sc (.slice none 0 0), .sc (.int .i64 0), .sc (.slice none 0 0), .sc (.int .i64 0), .sc (.slice none 0 0)]]⟩ :: x.2.2)
      (fun x => x.1 ≤ t.kids.length ∧ Grown 9 35 2 (teR ((t.kids.take x.1).map (Tm.mapT φ))) x.2.1 x.2.2) (fun x => t.kids.length - x.1) (0, .sc (.slice none 0 0), []) ⟨Nat.zero_le _, .inl ⟨rfl, rfl⟩⟩ (head_all (by (simp only [go_sem]); first | done | rfl) ⟨rfl, rfl⟩) ?_
    rintro ⟨k, c, T⟩ ⟨hk, hG⟩ G hGo
    simp only at hk hG hGo ⊢
    refine wg_run ?_
    (simp only [go_sem])
    ((first | refine sp1 ?_ ?_ | refine sp2 ?_ ?_ | refine sp3 ?_ ?_ | refine sp4 ?_ ?_ | refine sp5 ?_ ?_ | refine sp6 ?_ ?_ | refine sp7 ?_ ?_) <;> intro hb) <;> (simp only [go_sem, hb])
    · have hk1 : k < t.kids.length := by have := of_decide_eq_true hb; omega
      repeat' (first | (first | (simp only [go_sem, hb]) | (((first | refine sp1 ?_ ?_ | refine sp2 ?_ ?_ | refine sp3 ?_ ?_ | refine sp4 ?_ ?_ | refine sp5 ?_ ?_ | refine sp6 ?_ ?_ | refine sp7 ?_ ?_) <;> intro hb) <;> (simp only [go_sem, hb, hb])) | ((first | refine wm_done ?_ | refine wt_done ?_ | refine wg_run ?_ | refine fk ?_ ?_) <;> (simp only [go_sem, hb]))) | ((first | refine mx 6 [] follows ?_ | refine mx 5 [] follows ?_ | refine mx 4 [] follows ?_ | refine mx 3 [] follows ?_ | refine mx 2 [] follows ?_ | refine mx 1 [] follows ?_ | refine mx 0 [] follows ?_ | fail); (simp only [go_sem, hb])))
      refine wd_any (acalls_own (.cons (.same (by (simp only [go_sem]); first | done | rfl)) (.cons .fn .nil)) (ih (by omega) (teKid t.kids k) (by have := teKid_lt hk1; omega) (hJ t k hj hk1)) (fun _ h => h) ren_agg) ?_
      rintro _ h' ⟨cs, d, ids, rfl, e1, e2, e3, e4, e5⟩
      obtain ⟨T', rfl, f1, f2⟩ := pre2 e4 e5
      have hcs : cs.length = 9 := by rw [← fzL_len e1, teC_length]
      have hlen : ((t.kids.take k).map (Tm.mapT φ)).length = k := by rw [List.length_map, List.length_take]; omega
      have hcap : (k + 1) * 128 ≤ 140737488355328 := by omega
      have hw1 : IntKind.i64.wrap (((k : Nat) : Int) + 1) = ((k + 1 : Nat) : Int) := wrap_succ hk1 (by omega)
      rcases hG.more (pre := [_, _]) rfl (Nat.le_trans (by simp) f1) (fun i hi => by rw [f2 i (by simp; omega), List.getElem?_append_left hi]) e1 hcs e2 (fun b hb => by have := (e3 b hb).1; simp at this; omega) with ⟨rfl, h0, hy⟩ | ⟨j, rows, rfl, hpos, hj, hrl, hrs, hy⟩
      · (simp only [go_sem, hcs])
        repeat' (first | (simp only [go_sem, hcs, hw1, hlen, hcap]) | (((first | refine sp1 ?_ ?_ | refine sp2 ?_ ?_ | refine sp3 ?_ ?_ | refine sp4 ?_ ?_ | refine sp5 ?_ ?_ | refine sp6 ?_ ?_ | refine sp7 ?_ ?_) <;> intro hb) <;> (simp only [go_sem, hb, hcs, hw1, hlen, hcap])) | ((first | refine wm_done ?_ | refine wt_done ?_ | refine wg_run ?_ | refine fk ?_ ?_) <;> (simp only [go_sem, hcs, hw1, hlen, hcap])))
        refine hGo (k + 1, _, _) _ _ ⟨by omega, ?_⟩ (by simp only; omega) (head_all (by (simp only [go_sem]); first | done | rfl) ⟨rfl, rfl⟩)
        simp only [take_map hk1, teR_append, teR]
        exact hy _
      · have hj2 := fun U => get_app hj U
        rw [teR_length, hlen] at hrl hpos hy
        (simp only [go_sem, hcs, hj2, hlen])
        repeat' (first | (simp only [go_sem, hcs, hw1, hlen, hcap, hj2, hrl, hrs]) | (((first | refine sp1 ?_ ?_ | refine sp2 ?_ ?_ | refine sp3 ?_ ?_ | refine sp4 ?_ ?_ | refine sp5 ?_ ?_ | refine sp6 ?_ ?_ | refine sp7 ?_ ?_) <;> intro hb) <;> (simp only [go_sem, hb, hcs, hw1, hlen, hcap, hj2, hrl, hrs])) | ((first | refine wm_done ?_ | refine wt_done ?_ | refine wg_run ?_ | refine fk ?_ ?_) <;> (simp only [go_sem, hcs, hw1, hlen, hcap, hj2, hrl, hrs])))
        refine hGo (k + 1, _, _) _ _ ⟨by omega, ?_⟩ (by simp only; omega) (head_all (by (simp only [go_sem]); first | done | rfl) ⟨rfl, rfl⟩)
        simp only [take_map hk1, teR_append, teR]
        exact hy _
    · have hk1 : k = t.kids.length := by have := of_decide_eq_false hb; omega
      rw [hk1, List.take_length] at hG
      obtain ⟨d0, js, g1, g2, g3⟩ := hG.ow
      repeat' (first | (first | (simp only [go_sem, hb]) | (((first | refine sp1 ?_ ?_ | refine sp2 ?_ ?_ | refine sp3 ?_ ?_ | refine sp4 ?_ ?_ | refine sp5 ?_ ?_ | refine sp6 ?_ ?_ | refine sp7 ?_ ?_) <;> intro hb) <;> (simp only [go_sem, hb, hb])) | ((first | refine wm_done ?_ | refine wt_done ?_ | refine wg_run ?_ | refine fk ?_ ?_) <;> (simp only [go_sem, hb]))) | ((first | refine mx 6 [] follows ?_ | refine mx 5 [] follows ?_ | refine mx 4 [] follows ?_ | refine mx 3 [] follows ?_ | refine mx 2 [] follows ?_ | refine mx 1 [] follows ?_ | refine mx 0 [] follows ?_ | fail); (simp only [go_sem, hb])))
      refine wm_any (acalls_own (.cons (.same (by (simp only [go_sem]); first | done | rfl)) .nil) (iOwnTyO (n + 1) (by omega) t.type hty) (fun _ h => h) ren_agg) (by (simp only [go_sem]); first | done | rfl) (by (simp only [go_sem]); first | done | rfl) ?_
      rintro _ h' ⟨cs1, d1, ids1, rfl, a1, a2, a3, a4, a5⟩
      obtain ⟨T1, rfl, b1, b2⟩ := pre2 a4 a5
      obtain ⟨x1, rfl, z1⟩ := owL_ty a1
      (simp only [go_sem])
      repeat' (first | (first | (simp only [go_sem, hb]) | (((first | refine sp1 ?_ ?_ | refine sp2 ?_ ?_ | refine sp3 ?_ ?_ | refine sp4 ?_ ?_ | refine sp5 ?_ ?_ | refine sp6 ?_ ?_ | refine sp7 ?_ ?_) <;> intro hb) <;> (simp only [go_sem, hb, hb])) | ((first | refine wm_done ?_ | refine wt_done ?_ | refine wg_run ?_ | refine fk ?_ ?_) <;> (simp only [go_sem, hb]))) | ((first | refine mx 6 [] follows ?_ | refine mx 5 [] follows ?_ | refine mx 4 [] follows ?_ | refine mx 3 [] follows ?_ | refine mx 2 [] follows ?_ | refine mx 1 [] follows ?_ | refine mx 0 [] follows ?_ | fail); (simp only [go_sem, hb])))
      refine wm_any (acalls_own (.cons (.same (by (simp only [go_sem]); first | done | rfl)) .nil) (iOwnTyO (n + 1) (by omega) t.frm hfr) (fun _ h => h) ren_agg) (by (simp only [go_sem]); first | done | rfl) (by (simp only [go_sem]); first | done | rfl) ?_
      rintro _ h' ⟨cs2, d2, ids2, rfl, p1, p2, p3, p4, p5⟩
      obtain ⟨T2, rfl, q1, q2⟩ := pre2 p4 p5
      obtain ⟨x2, rfl, z2⟩ := owL_ty p1
      (simp only [go_sem])
      repeat' (first | (first | (simp only [go_sem, hb]) | (((first | refine sp1 ?_ ?_ | refine sp2 ?_ ?_ | refine sp3 ?_ ?_ | refine sp4 ?_ ?_ | refine sp5 ?_ ?_ | refine sp6 ?_ ?_ | refine sp7 ?_ ?_) <;> intro hb) <;> (simp only [go_sem, hb, hb])) | ((first | refine wm_done ?_ | refine wt_done ?_ | refine wg_run ?_ | refine fk ?_ ?_) <;> (simp only [go_sem, hb]))) | ((first | refine mx 6 [] follows ?_ | refine mx 5 [] follows ?_ | refine mx 4 [] follows ?_ | refine mx 3 [] follows ?_ | refine mx 2 [] follows ?_ | refine mx 1 [] follows ?_ | refine mx 0 [] follows ?_ | fail); (simp only [go_sem, hb])))
      have hx1 : ∀ b ∈ ids1, T.length + 2 ≤ b ∧ b < T1.length + 2 := fun b hb => by have := a3 b hb; simp at this; omega
      have hx2 : ∀ b ∈ ids2, T1.length + 2 ≤ b ∧ b < T2.length + 2 := fun b hb => by have := p3 b hb; simp at this; omega
      have hjs : ∀ b ∈ js, b < T.length + 2 := fun b hb => by
        have := (ow_mut (g1 [⟨0, 0, .dead, []⟩, ⟨0, 0, .dead, []⟩] rfl) b hb).lt
        simpa only [List.length_append, List.length_cons, List.length_nil, Nat.zero_add, Nat.add_comm] using this
      have hd := fun (pre : List Blk) (hp : pre.length = 2) => owL_te_of (t := t.kidsOf (t.kids.map (Tm.mapT φ)))
        (ow_pre (pre := [_, _]) (pre' := pre) (by rw [hp]; rfl) q2 z1 (fun b hb => by have := hx1 b hb; simp only [List.length_cons, List.length_nil]; omega))
        (ow_pre (pre := [_, _]) (pre' := pre) (T' := T2) (by rw [hp]; rfl) (fun _ _ => rfl) z2 (fun b hb => by have := hx2 b hb; simp only [List.length_cons, List.length_nil]; omega))
        (ow_pre (pre := pre) (pre' := pre) (T' := T2) rfl (fun i hi => by rw [q2 i (by omega), b2 i hi]) (g1 pre hp) (fun b hb => by have := g3 b hb; omega))
      obtain ⟨d, hd⟩ := hd [_, _] rfl
      obtain ⟨ks, hgk⟩ := hg _ _ _ d _ (hI t hj) hd (nodup3 a2 p2 g2 hjs hx1 hx2 (by omega))
      refine wd_any hgk ?_
      rintro _ h' ⟨cs3, d3, ids3, rfl, u1, u2, u3, u4, u5⟩
      obtain ⟨T3, rfl, v1, v2⟩ := pre2 u4 u5
      have hcs3 : cs3.length = 9 := by rw [← fzL_len u1, teC_length]
      (simp only [go_sem, hcs3])
      repeat' (first | (simp only [go_sem, hcs3]) | (((first | refine sp1 ?_ ?_ | refine sp2 ?_ ?_ | refine sp3 ?_ ?_ | refine sp4 ?_ ?_ | refine sp5 ?_ ?_ | refine sp6 ?_ ?_ | refine sp7 ?_ ?_) <;> intro hb) <;> (simp only [go_sem, hb, hcs3])) | ((first | refine wm_done ?_ | refine wt_done ?_ | refine wg_run ?_ | refine fk ?_ ?_) <;> (simp only [go_sem, hcs3])))
      have htk : cs3.take 9 = cs3 := List.take_of_length_le (by omega)
      refine hR _ (ret_ownK (d := d3) (ids := ids3) (cs := cs3) (by (simp only [go_sem, hcs3, htk]); first | done | rfl) ?_ u2 (fun _ => prVs_agg))
      rw [mapT_eq]
      refine owL_frame (h := _ :: _ :: T3) u1 (fun b hb => ?_)
      have hb2 : 2 ≤ b := by
        rcases u3 b hb with hb | hb
        · rcases List.mem_append.1 hb with hb | hb
          · have := hx1 b hb; omega
          · rcases List.mem_append.1 hb with hb | hb
            · have := hx2 b hb; omega
            · have := g3 b hb; omega
        · have hb : (_ :: _ :: T2 : List Blk).length ≤ b := hb
          simp only [List.length_cons] at hb; omega
      obtain ⟨b, rfl⟩ : ∃ x, b = x + 2 := ⟨b - 2, by omega⟩
      rfl
theorem iOwn1O (x : Tm) (h : List Blk) (cs : List C) (d : Nat) (ids : List Nat) (e : fzL (ow h d) cs = some (teC x, ids)) (hn : ids.Nodup) : ∃ ks, ACalls Try.prog 147 [.agg cs] h ks (Changed h ids (teC (id x))) := by
  have hcs : cs.length = 9 := by rw [← fzL_len e, teC_length]
  have htk : cs.take 9 = cs := List.take_of_length_le (by omega)
  have hc : ACl Try.prog 147 [.agg cs] h (fun r h' => r = .agg cs ∧ ∃ T, h' = h ++ T) := by
    refine acl_in Try.func147 rfl isfn_147 (Nat.le_of_ble_eq_true rfl) (fun R hR => ?_); rw [Try.results147] at hR; refine wg_run ?_; (simp only [Try.f147, go_sem, hcs])
    repeat' (first | (simp only [go_sem, hcs, htk]) | (((first | refine sp1 ?_ ?_ | refine sp2 ?_ ?_ | refine sp3 ?_ ?_ | refine sp4 ?_ ?_ | refine sp5 ?_ ?_ | refine sp6 ?_ ?_ | refine sp7 ?_ ?_) <;> intro hb) <;> (simp only [go_sem, hb, hcs, htk])) | ((first | refine wm_done ?_ | refine wt_done ?_ | refine wg_run ?_ | refine fk ?_ ?_) <;> (simp only [go_sem, hcs, htk])))
    refine hR _ (ret_all (by (simp only [go_sem, htk, hcs]); first | done | rfl) ⟨rfl, [⟨9, 35, .mut, [cs]⟩, ⟨9, 35, .mut, [cs]⟩], ?_⟩)
    simp
  refine ⟨_, (acalls_full hc).mono ?_⟩
  rintro r h' ⟨rfl, T, rfl⟩
  exact ⟨cs, d, ids, rfl, owL_frame e (fun b hb => List.getElem?_append_left ((owL_mut e b hb).lt)), hn, fun b hb => .inl hb, by simp, fun b hb => List.getElem?_append_left hb⟩
theorem iOwnO (t : Tm) (ht : t.size < 1000000000) : ACl Try.prog 125 [.agg (teC t)] [] (OwnK (teC t) .agg) := by
  have hm := iMappedO 147 id (fun _ => True) (fun _ => True) (fun _ _ _ _ => trivial) (fun _ _ => trivial) (fun x h cs d ids _ e hn => iOwn1O x h cs d ids e hn) 1000000000 (by omega) t ht trivial
  rw [mapT_id] at hm
  refine acl_in Try.func125 rfl isfn_125 (Nat.le_of_ble_eq_true rfl) (fun R hR => ?_); rw [Try.results125] at hR; refine wg_run ?_; (simp only [Try.f125, go_sem])
  repeat' (first | (((first | refine sp1 ?_ ?_ | refine sp2 ?_ ?_ | refine sp3 ?_ ?_ | refine sp4 ?_ ?_ | refine sp5 ?_ ?_ | refine sp6 ?_ ?_ | refine sp7 ?_ ?_) <;> intro hb) <;> (simp only [go_sem, hb])) | ((first | refine wm_done ?_ | refine wt_done ?_ | refine wg_run ?_ | refine fk ?_ ?_) <;> (simp only [go_sem])))
  refine wd_any (acalls_own (.cons (.same (by (simp only [go_sem]); first | done | rfl)) (.cons .fn .nil)) hm (fun _ h => h) ren_agg) ?_
  rintro _ h' ⟨cs, d, ids, rfl, e1, e2, e3, e4, e5⟩
  obtain ⟨T, rfl, f1, f2⟩ := pre2 e4 e5
  have hcs : cs.length = 9 := by rw [← fzL_len e1, teC_length]
  have htk : cs.take 9 = cs := List.take_of_length_le (by omega)
  (simp only [go_sem, hcs])
  repeat' (first | (simp only [go_sem, hcs]) | (((first | refine sp1 ?_ ?_ | refine sp2 ?_ ?_ | refine sp3 ?_ ?_ | refine sp4 ?_ ?_ | refine sp5 ?_ ?_ | refine sp6 ?_ ?_ | refine sp7 ?_ ?_) <;> intro hb) <;> (simp only [go_sem, hb, hcs])) | ((first | refine wm_done ?_ | refine wt_done ?_ | refine wg_run ?_ | refine fk ?_ ?_) <;> (simp only [go_sem, hcs])))
  refine hR _ (ret_ownK (d := d) (ids := ids) (cs := cs) (by (simp only [go_sem, hcs, htk]); first | done | rfl) ?_ e2 (fun _ => prVs_agg))
  refine owL_frame (h := _ :: _ :: T) e1 (fun b hb => ?_)
  have hb2 : 2 ≤ b := by have := (e3 b hb).1; simp only [List.length_cons] at this; omega
  obtain ⟨b, rfl⟩ : ∃ x, b = x + 2 := ⟨b - 2, by omega⟩
  rfl
end Go.Proofs.Ytchcbfbnffhifaa
/- Terms: equality and search of lists, on shadows. -/
namespace Go.Proofs.Sh
open Go.Proofs.Grad
def teall2 (f : Tm → Tm → Bool) : List Tm → List Tm → Bool
  | [], [] => true
  | a :: l, b :: m => f a b && teall2 f l m
  | _, _ => false
theorem teall2_kid {f : Tm → Tm → Bool} {a b : List Tm} {i : Nat} (ha : i < a.length) (hb : i < b.length) : teall2 f (a.drop i) (b.drop i) = (f (teKid a i) (teKid b i) && teall2 f (a.drop (i + 1)) (b.drop (i + 1))) := by
  rw [tedrop_kid ha, tedrop_kid hb]; rfl
theorem teall2_end {f : Tm → Tm → Bool} {a b : List Tm} {i : Nat} (ha : ¬ i < a.length) (hb : a.length = b.length) : teall2 f (a.drop i) (b.drop i) = true := by
  rw [List.drop_eq_nil_of_le (by omega), List.drop_eq_nil_of_le (by omega)]; rfl
theorem teall2_len {f : Tm → Tm → Bool} : ∀ {a b : List Tm}, a.length ≠ b.length → teall2 f a b = false
  | [], [], h => by simp at h
  | [], _ :: _, _ => rfl
  | _ :: _, [], _ => rfl
  | _ :: a, _ :: b, h => by simp only [teall2]; rw [teall2_len (by simpa using h)]; simp
theorem tesames_all2 : ∀ a b : List Tm, Tm.sames a b = teall2 Tm.same a b
  | [], [] => rfl
  | [], _ :: _ => rfl
  | _ :: _, [] => rfl
  | _ :: a, _ :: b => by simp only [Tm.sames, teall2, tesames_all2 a b]
/-- the index of the first one, -1 for none -/
def teidx (p : Tm → Bool) : Nat → List Tm → Int
  | _, [] => -1
  | k, t :: l => if p t then (k : Nat) else teidx p (k + 1) l
theorem teidx_any (p : Tm → Bool) : ∀ (l : List Tm) (k : Nat), decide (0 ≤ teidx p k l) = l.any p
  | [], k => by simp [teidx]
  | t :: l, k => by
    simp only [teidx, List.any_cons]
    split
    · rename_i h; simp [h]
    · rename_i h; rw [teidx_any p l (k + 1)]; simp [h]
end Go.Proofs.Sh
namespace Go.Proofs.Ytchcbfbnffhifaa
open Go.RowKit Go.Proofs.Sh Go.Proofs.Grad
set_option maxRecDepth 100000
set_option maxHeartbeats 4000000
theorem teIndexFunc0 (g : FuncId) (p : Tm → Bool) (l : List Tm) (hl : l.length < 4611686018427387904)
    (hg : ∀ k, k < l.length → ACl Try.prog g [.agg (teC (teKid l k))] [] (fun r H' => r = .one (.sc (.bool (p (teKid l k)))) ∧ H' = [])) :
    ACl Try.prog 141 [.one (.sl (teR l)), .one (.fn g [])] [] (fun r H' => r = .one (.sc (.int .i64 (teidx p 0 l))) ∧ H' = []) := by
  refine acl_in Try.func141 rfl isfn_141 (Nat.le_of_ble_eq_true rfl) (fun R hR => ?_); rw [Try.results141] at hR; refine wg_run ?_; (simp only [Try.f141, go_sem])
  refine wd_for [0, 1, 7, 8] (fun k => [.one (.sl (teR l)), .one (.fn g []), .one (.sc (.int .i64 l.length)), .one (.sc (.int .i64 (k : Nat)))]) (fun k => [])
      (fun k => k ≤ l.length ∧ teidx p k (l.drop k) = teidx p 0 l) (fun k => l.length - k) 0 ⟨Nat.zero_le _, rfl⟩ (hat [] (hI := ⟨rfl, rfl⟩)) ?_
  rintro k ⟨hk, hs⟩ G hG
  refine wg_run ?_
  (simp only [go_sem])
  ((first | refine sp1 ?_ ?_ | refine sp2 ?_ ?_ | refine sp3 ?_ ?_ | refine sp4 ?_ ?_ | refine sp5 ?_ ?_ | refine sp6 ?_ ?_ | refine sp7 ?_ ?_) <;> intro hb) <;> (simp only [go_sem, hb])
  · have hk1 : k < l.length := by have := of_decide_eq_true hb; omega
    rw [tedrop_kid hk1, teidx] at hs
    have hw1 := wrap_succ hk1 (by omega)
    (first | refine kd [] (hc := hg k hk1) (hK := ?_) | refine km [] (hc := hg k hk1) (hK := ?_) | refine kt [] (hc := hg k hk1) (hK := ?_)); rintro _ _ ⟨rfl, rfl⟩; (simp only [go_sem])
    repeat' (first | (simp only [go_sem, hw1]) | (((first | refine sp1 ?_ ?_ | refine sp2 ?_ ?_ | refine sp3 ?_ ?_ | refine sp4 ?_ ?_ | refine sp5 ?_ ?_ | refine sp6 ?_ ?_ | refine sp7 ?_ ?_) <;> intro hb) <;> (simp only [go_sem, hb, hw1])) | ((first | refine wm_done ?_ | refine wt_done ?_ | refine wg_run ?_ | refine fk ?_ ?_) <;> (simp only [go_sem, hw1])))
    · (refine hR _ (rat [] (hK := ⟨?_, ?_⟩)))
      · simpa [hb] using hs
      · rfl
    · exact hG (k + 1) _ _ ⟨by omega, by simpa [hb] using hs⟩ (by omega) (hat [] (hI := ⟨rfl, rfl⟩))
  · have hk1 : ¬ k < l.length := by have := of_decide_eq_false hb; omega
    rw [List.drop_eq_nil_of_le (by omega), teidx] at hs
    (refine hR _ (rat [] (hK := ⟨?_, ?_⟩)))
    · rw [← hs]
    · rfl
theorem teContainsFunc0 (g : FuncId) (p : Tm → Bool) (l : List Tm) (hl : l.length < 4611686018427387904)
    (hg : ∀ k, k < l.length → ACl Try.prog g [.agg (teC (teKid l k))] [] (fun r H' => r = .one (.sc (.bool (p (teKid l k)))) ∧ H' = [])) :
    ACl Try.prog 106 [.one (.sl (teR l)), .one (.fn g [])] [] (fun r H' => r = .one (.sc (.bool (l.any p))) ∧ H' = []) := by
  have hi := teIndexFunc0 g p l hl hg
  refine acl_in Try.func106 rfl isfn_106 (Nat.le_of_ble_eq_true rfl) (fun R hR => ?_); rw [Try.results106] at hR; refine wg_run ?_; (simp only [Try.f106, go_sem])
  (first | refine kd [] (hc := hi) (hK := ?_) | refine km [] (hc := hi) (hK := ?_) | refine kt [] (hc := hi) (hK := ?_)); rintro _ _ ⟨rfl, rfl⟩; (simp only [go_sem])
  (refine hR _ (rat [] (hK := ⟨?_, ?_⟩)))
  · rw [← teidx_any p l 0]
  · rfl
theorem teIndexFunc1 (g : FuncId) (d : Int) (p : Tm → Bool) (l : List Tm) (hl : l.length < 4611686018427387904)
    (hg : ∀ k, k < l.length → ACl Try.prog g [.agg (teC (teKid l k)), .one (.ptr 1 0 0 0)] [⟨1, 3, .mut, [[.sc (.int .i64 d)]]⟩] (fun r H' => r = .one (.sc (.bool (p (teKid l k)))) ∧ H' = [⟨1, 3, .mut, [[.sc (.int .i64 d)]]⟩])) :
    ACl Try.prog 141 [.one (.sl (teR l)), .one (.fn g [.ptr 1 0 0 0])] [⟨1, 3, .mut, [[.sc (.int .i64 d)]]⟩] (fun r H' => r = .one (.sc (.int .i64 (teidx p 0 l))) ∧ H' = [⟨1, 3, .mut, [[.sc (.int .i64 d)]]⟩]) := by
  refine acl_in Try.func141 rfl isfn_141 (Nat.le_of_ble_eq_true rfl) (fun R hR => ?_); rw [Try.results141] at hR; refine wg_run ?_; (simp only [Try.f141, go_sem])
  refine wd_for [0, 1, 7, 8] (fun k => [.one (.sl (teR l)), .one (.fn g [.ptr 1 0 0 0]), .one (.sc (.int .i64 l.length)), .one (.sc (.int .i64 (k : Nat)))]) (fun k => [⟨1, 3, .mut, [[.sc (.int .i64 d)]]⟩])
      (fun k => k ≤ l.length ∧ teidx p k (l.drop k) = teidx p 0 l) (fun k => l.length - k) 0 ⟨Nat.zero_le _, rfl⟩ (hat [] (hI := ⟨rfl, rfl⟩)) ?_
  rintro k ⟨hk, hs⟩ G hG
  refine wg_run ?_
  (simp only [go_sem])
  ((first | refine sp1 ?_ ?_ | refine sp2 ?_ ?_ | refine sp3 ?_ ?_ | refine sp4 ?_ ?_ | refine sp5 ?_ ?_ | refine sp6 ?_ ?_ | refine sp7 ?_ ?_) <;> intro hb) <;> (simp only [go_sem, hb])
  · have hk1 : k < l.length := by have := of_decide_eq_true hb; omega
    rw [tedrop_kid hk1, teidx] at hs
    have hw1 := wrap_succ hk1 (by omega)
    (first | refine kd [0] (hc := hg k hk1) (hK := ?_) | refine km [0] (hc := hg k hk1) (hK := ?_) | refine kt [0] (hc := hg k hk1) (hK := ?_)); rintro _ _ ⟨rfl, rfl⟩; (simp only [go_sem])
    repeat' (first | (simp only [go_sem, hw1]) | (((first | refine sp1 ?_ ?_ | refine sp2 ?_ ?_ | refine sp3 ?_ ?_ | refine sp4 ?_ ?_ | refine sp5 ?_ ?_ | refine sp6 ?_ ?_ | refine sp7 ?_ ?_) <;> intro hb) <;> (simp only [go_sem, hb, hw1])) | ((first | refine wm_done ?_ | refine wt_done ?_ | refine wg_run ?_ | refine fk ?_ ?_) <;> (simp only [go_sem, hw1])))
    · (refine hR _ (rat [] (hK := ⟨?_, ?_⟩)))
      · simpa [hb] using hs
      · rfl
    · exact hG (k + 1) _ _ ⟨by omega, by simpa [hb] using hs⟩ (by omega) (hat [] (hI := ⟨rfl, rfl⟩))
  · have hk1 : ¬ k < l.length := by have := of_decide_eq_false hb; omega
    rw [List.drop_eq_nil_of_le (by omega), teidx] at hs
    (refine hR _ (rat [] (hK := ⟨?_, ?_⟩)))
    · rw [← hs]
    · rfl
theorem teContainsFunc1 (g : FuncId) (d : Int) (p : Tm → Bool) (l : List Tm) (hl : l.length < 4611686018427387904)
    (hg : ∀ k, k < l.length → ACl Try.prog g [.agg (teC (teKid l k)), .one (.ptr 1 0 0 0)] [⟨1, 3, .mut, [[.sc (.int .i64 d)]]⟩] (fun r H' => r = .one (.sc (.bool (p (teKid l k)))) ∧ H' = [⟨1, 3, .mut, [[.sc (.int .i64 d)]]⟩])) :
    ACl Try.prog 106 [.one (.sl (teR l)), .one (.fn g [.ptr 1 0 0 0])] [⟨1, 3, .mut, [[.sc (.int .i64 d)]]⟩] (fun r H' => r = .one (.sc (.bool (l.any p))) ∧ H' = [⟨1, 3, .mut, [[.sc (.int .i64 d)]]⟩]) := by
  have hi := teIndexFunc1 g d p l hl hg
  refine acl_in Try.func106 rfl isfn_106 (Nat.le_of_ble_eq_true rfl) (fun R hR => ?_); rw [Try.results106] at hR; refine wg_run ?_; (simp only [Try.f106, go_sem])
  (first | refine kd [0] (hc := hi) (hK := ?_) | refine km [0] (hc := hi) (hK := ?_) | refine kt [0] (hc := hi) (hK := ?_)); rintro _ _ ⟨rfl, rfl⟩; (simp only [go_sem])
  (refine hR _ (rat [] (hK := ⟨?_, ?_⟩)))
  · rw [← teidx_any p l 0]
  · rfl
end Go.Proofs.Ytchcbfbnffhifaa
/- Types: the program's checks, on shadows. -/
namespace Go.Proofs.Sh
open Go.Proofs.Grad
theorem all2_kid {f : Ty → Ty → Bool} {a b : List Ty} {i : Nat} (ha : i < a.length) (hb : i < b.length) : all2 f (a.drop i) (b.drop i) = (f (kid a i) (kid b i) && all2 f (a.drop (i + 1)) (b.drop (i + 1))) := by
  rw [all2_drop ha hb, kid_eq ha, kid_eq hb]
theorem all2_end {f : Ty → Ty → Bool} {a b : List Ty} {i : Nat} (ha : ¬ i < a.length) (hb : a.length = b.length) : all2 f (a.drop i) (b.drop i) = true := by
  rw [List.drop_eq_nil_of_le (by omega), List.drop_eq_nil_of_le (by omega)]; rfl
/-- a type of a size that numbers hold -/
def Big : Nat := 4611686018427387904
end Go.Proofs.Sh
namespace Go.Proofs.Ytchcbfbnffhifaa
open Go.RowKit Go.Proofs.Sh Go.Proofs.Grad
set_option maxRecDepth 100000
set_option maxHeartbeats 4000000
theorem eqFunc (g : FuncId) (Q : Ty → Ty → Bool) (l m : List Ty) (hl : l.length < 4611686018427387904)
    (hg : ∀ k, k < l.length → k < m.length → AFn Try.prog g [.agg (tyC (kid l k)), .agg (tyC (kid m k))] (.one (.sc (.bool (Q (kid l k) (kid m k)))))) :
    AFn Try.prog 145 [.one (.sl (tyR l)), .one (.sl (tyR m)), .one (.fn g [])] (.one (.sc (.bool (all2 Q l m)))) := by
  refine fn_in ?_; refine acl_in Try.func145 rfl isfn_145 (Nat.le_of_ble_eq_true rfl) (fun R hR => ?_); rw [Try.results145] at hR; refine wg_run ?_; (simp only [Try.f145, go_sem])
  repeat' (first | (((first | refine sp1 ?_ ?_ | refine sp2 ?_ ?_ | refine sp3 ?_ ?_ | refine sp4 ?_ ?_ | refine sp5 ?_ ?_ | refine sp6 ?_ ?_ | refine sp7 ?_ ?_) <;> intro hb) <;> (simp only [go_sem, hb])) | ((first | refine wm_done ?_ | refine wt_done ?_ | refine wg_run ?_ | refine fk ?_ ?_) <;> (simp only [go_sem])))
  · (refine hR _ (rat [] (hK := ⟨?_, rfl⟩)))
    rw [all2_len]
    intro h; simp [h] at hb
  · have hlm : l.length = m.length := by simp at hb; omega
    clear hb
    refine wd_for [0, 1, 2, 15, 16, 17] (fun k => [.one (.sl (tyR l)), .one (.sl (tyR m)), .one (.fn g []), .one (.sl (tyR l)), .one (.sc (.int .i64 l.length)), .one (.sc (.int .i64 (k : Nat)))]) (fun k => [])
      (fun k => k ≤ l.length ∧ all2 Q (l.drop k) (m.drop k) = all2 Q l m) (fun k => l.length - k) 0 ⟨Nat.zero_le _, rfl⟩ (hat [] (hI := ⟨rfl, rfl⟩)) ?_
    rintro k ⟨hk, hs⟩ G hG
    refine wg_run ?_
    (simp only [go_sem])
    ((first | refine sp1 ?_ ?_ | refine sp2 ?_ ?_ | refine sp3 ?_ ?_ | refine sp4 ?_ ?_ | refine sp5 ?_ ?_ | refine sp6 ?_ ?_ | refine sp7 ?_ ?_) <;> intro hb) <;> (simp only [go_sem, hb])
    · have hk1 : k < l.length := by have := of_decide_eq_true hb; omega
      have hk2 : decide ((k : Int) < (m.length : Int)) = true := by simp; omega
      rw [all2_kid hk1 (by omega)] at hs
      have hw1 := wrap_succ hk1 (by omega)
      (simp only [go_sem, hk2])
      (first | refine cd (hc := hg k hk1 (by omega)) (hK := ?_) | refine cm (hc := hg k hk1 (by omega)) (hK := ?_) | refine ct (hc := hg k hk1 (by omega)) (hK := ?_)); (simp only [go_sem])
      repeat' (first | (simp only [go_sem, hw1]) | (((first | refine sp1 ?_ ?_ | refine sp2 ?_ ?_ | refine sp3 ?_ ?_ | refine sp4 ?_ ?_ | refine sp5 ?_ ?_ | refine sp6 ?_ ?_ | refine sp7 ?_ ?_) <;> intro hb) <;> (simp only [go_sem, hb, hw1])) | ((first | refine wm_done ?_ | refine wt_done ?_ | refine wg_run ?_ | refine fk ?_ ?_) <;> (simp only [go_sem, hw1])))
      · exact hG (k + 1) _ _ ⟨by omega, by simpa [hb] using hs⟩ (by omega) (hat [] (hI := ⟨rfl, rfl⟩))
      · (refine hR _ (rat [] (hK := ⟨?_, rfl⟩)))
        simpa [hb] using hs
    · have hk1 : ¬ k < l.length := by have := of_decide_eq_false hb; omega
      rw [all2_end hk1 hlm] at hs
      (refine hR _ (rat [] (hK := ⟨?_, rfl⟩)))
      simpa using hs
theorem iSame (n : Nat) (hn : n ≤ 4611686018427387904) : ∀ a b : Ty, a.size < n → AFn Try.prog 118 [.agg (tyC a), .agg (tyC b)] (.one (.sc (.bool (a.same b)))) := by
  induction n with
  | zero => intro a b h; omega
  | succ n ih =>
    intro a b h
    have hl : a.kids.length < 4611686018427387904 := by have := Ty.length_le_sizes a.kids; cases a; simp only [Ty.size, Ty.kids] at *; omega
    have hk : ∀ k, k < a.kids.length → k < b.kids.length → AFn Try.prog 118 [.agg (tyC (kid a.kids k)), .agg (tyC (kid b.kids k))] (.one (.sc (.bool ((kid a.kids k).same (kid b.kids k))))) := fun k h1 h2 => ih (by omega) _ _ (by have := kid_lt h1; omega)
    have hf := eqFunc _ Ty.same a.kids b.kids hl hk
    clear hk ih
    rw [Ty.same_eq, Ty.sames_all2]
    refine fn_in ?_; refine acl_in Try.func118 rfl isfn_118 (Nat.le_of_ble_eq_true rfl) (fun R hR => ?_); rw [Try.results118] at hR; refine wg_run ?_; (simp only [Try.f118, go_sem])
    repeat' (first | (first | (((first | refine sp1 ?_ ?_ | refine sp2 ?_ ?_ | refine sp3 ?_ ?_ | refine sp4 ?_ ?_ | refine sp5 ?_ ?_ | refine sp6 ?_ ?_ | refine sp7 ?_ ?_) <;> intro hb) <;> (simp only [go_sem, hb])) | ((first | refine wm_done ?_ | refine wt_done ?_ | refine wg_run ?_ | refine fk ?_ ?_) <;> (simp only [go_sem]))) | (first | refine cd (hc := hf) (hK := ?_) | refine cm (hc := hf) (hK := ?_) | refine ct (hc := hf) (hK := ?_)); (simp only [go_sem]) | ((first | refine mx 6 [] follows ?_ | refine mx 5 [] follows ?_ | refine mx 4 [] follows ?_ | refine mx 3 [] follows ?_ | refine mx 2 [] follows ?_ | refine mx 1 [] follows ?_ | refine mx 0 [] follows ?_ | fail); (simp only [go_sem])))
    all_goals (refine hR _ (rat [] (hK := ⟨?_, rfl⟩)))
    all_goals simp_all
theorem iCons (n : Nat) (hn : n ≤ 4611686018427387904) : ∀ a b : Ty, a.size < n → AFn Try.prog 160 [.agg (tyC a), .agg (tyC b)] (.one (.sc (.bool (a.cons b)))) := by
  induction n with
  | zero => intro a b h; omega
  | succ n ih =>
    intro a b h
    have hl : a.kids.length < 4611686018427387904 := by have := Ty.length_le_sizes a.kids; cases a; simp only [Ty.size, Ty.kids] at *; omega
    have hk : ∀ k, k < a.kids.length → k < b.kids.length → AFn Try.prog 160 [.agg (tyC (kid a.kids k)), .agg (tyC (kid b.kids k))] (.one (.sc (.bool ((kid a.kids k).cons (kid b.kids k))))) := fun k h1 h2 => ih (by omega) _ _ (by have := kid_lt h1; omega)
    have hf := eqFunc _ Ty.cons a.kids b.kids hl hk
    clear hk ih
    rw [Ty.cons_eq]
    refine fn_in ?_; refine acl_in Try.func160 rfl isfn_160 (Nat.le_of_ble_eq_true rfl) (fun R hR => ?_); rw [Try.results160] at hR; refine wg_run ?_; (simp only [Try.f160, go_sem])
    repeat' (first | (first | (((first | refine sp1 ?_ ?_ | refine sp2 ?_ ?_ | refine sp3 ?_ ?_ | refine sp4 ?_ ?_ | refine sp5 ?_ ?_ | refine sp6 ?_ ?_ | refine sp7 ?_ ?_) <;> intro hb) <;> (simp only [go_sem, hb])) | ((first | refine wm_done ?_ | refine wt_done ?_ | refine wg_run ?_ | refine fk ?_ ?_) <;> (simp only [go_sem]))) | (first | refine cd (hc := hf) (hK := ?_) | refine cm (hc := hf) (hK := ?_) | refine ct (hc := hf) (hK := ?_)); (simp only [go_sem]) | ((first | refine mx 6 [] follows ?_ | refine mx 5 [] follows ?_ | refine mx 4 [] follows ?_ | refine mx 3 [] follows ?_ | refine mx 2 [] follows ?_ | refine mx 1 [] follows ?_ | refine mx 0 [] follows ?_ | fail); (simp only [go_sem])))
    all_goals (refine hR _ (rat [] (hK := ⟨?_, rfl⟩)))
    all_goals simp_all
/-- the index of the first one, -1 for none -/
def idx (p : Ty → Bool) : Nat → List Ty → Int
  | _, [] => -1
  | k, t :: l => if p t then (k : Nat) else idx p (k + 1) l
theorem idx_lt (p : Ty → Bool) : ∀ (l : List Ty) (k : Nat), idx p k l < 0 ∨ (k : Int) ≤ idx p k l
  | [], k => .inl (by simp [idx])
  | t :: l, k => by
    simp only [idx]
    split
    · right; omega
    · rcases idx_lt p l (k + 1) with h | h
      · exact .inl h
      · right; omega
theorem idx_any (p : Ty → Bool) : ∀ (l : List Ty) (k : Nat), decide (0 ≤ idx p k l) = l.any p
  | [], k => by simp [idx]
  | t :: l, k => by
    simp only [idx, List.any_cons]
    split
    · rename_i h; simp [h]
    · rename_i h; rw [idx_any p l (k + 1)]; simp [h]
theorem indexFunc1 (g : FuncId) (d : Int) (p : Ty → Bool) (l : List Ty) (hl : l.length < 4611686018427387904)
    (hg : ∀ k, k < l.length → ACl Try.prog g [.agg (tyC (kid l k)), .one (.ptr 1 0 0 0)] [⟨1, 3, .mut, [[.sc (.int .i64 d)]]⟩] (fun r H' => r = .one (.sc (.bool (p (kid l k)))) ∧ H' = [⟨1, 3, .mut, [[.sc (.int .i64 d)]]⟩])) :
    ACl Try.prog 163 [.one (.sl (tyR l)), .one (.fn g [.ptr 1 0 0 0])] [⟨1, 3, .mut, [[.sc (.int .i64 d)]]⟩] (fun r H' => r = .one (.sc (.int .i64 (idx p 0 l))) ∧ H' = [⟨1, 3, .mut, [[.sc (.int .i64 d)]]⟩]) := by
  refine acl_in Try.func163 rfl isfn_163 (Nat.le_of_ble_eq_true rfl) (fun R hR => ?_); rw [Try.results163] at hR; refine wg_run ?_; (simp only [Try.f163, go_sem])
  refine wd_for [0, 1, 7, 8] (fun k => [.one (.sl (tyR l)), .one (.fn g [.ptr 1 0 0 0]), .one (.sc (.int .i64 l.length)), .one (.sc (.int .i64 (k : Nat)))]) (fun k => [⟨1, 3, .mut, [[.sc (.int .i64 d)]]⟩])
      (fun k => k ≤ l.length ∧ idx p k (l.drop k) = idx p 0 l) (fun k => l.length - k) 0 ⟨Nat.zero_le _, rfl⟩ (hat [] (hI := ⟨rfl, rfl⟩)) ?_
  rintro k ⟨hk, hs⟩ G hG
  refine wg_run ?_
  (simp only [go_sem])
  ((first | refine sp1 ?_ ?_ | refine sp2 ?_ ?_ | refine sp3 ?_ ?_ | refine sp4 ?_ ?_ | refine sp5 ?_ ?_ | refine sp6 ?_ ?_ | refine sp7 ?_ ?_) <;> intro hb) <;> (simp only [go_sem, hb])
  · have hk1 : k < l.length := by have := of_decide_eq_true hb; omega
    rw [drop_kid hk1, idx] at hs
    have hw1 := wrap_succ hk1 (by omega)
    (first | refine kd [0] (hc := hg k hk1) (hK := ?_) | refine km [0] (hc := hg k hk1) (hK := ?_) | refine kt [0] (hc := hg k hk1) (hK := ?_)); rintro _ _ ⟨rfl, rfl⟩; (simp only [go_sem])
    repeat' (first | (simp only [go_sem, hw1]) | (((first | refine sp1 ?_ ?_ | refine sp2 ?_ ?_ | refine sp3 ?_ ?_ | refine sp4 ?_ ?_ | refine sp5 ?_ ?_ | refine sp6 ?_ ?_ | refine sp7 ?_ ?_) <;> intro hb) <;> (simp only [go_sem, hb, hw1])) | ((first | refine wm_done ?_ | refine wt_done ?_ | refine wg_run ?_ | refine fk ?_ ?_) <;> (simp only [go_sem, hw1])))
    · (refine hR _ (rat [] (hK := ⟨?_, ?_⟩)))
      · simpa [hb] using hs
      · rfl
    · exact hG (k + 1) _ _ ⟨by omega, by simpa [hb] using hs⟩ (by omega) (hat [] (hI := ⟨rfl, rfl⟩))
  · have hk1 : ¬ k < l.length := by have := of_decide_eq_false hb; omega
    rw [List.drop_eq_nil_of_le (by omega), idx] at hs
    (refine hR _ (rat [] (hK := ⟨?_, ?_⟩)))
    · rw [← hs]
    · rfl
theorem containsFunc1 (g : FuncId) (d : Int) (p : Ty → Bool) (l : List Ty) (hl : l.length < 4611686018427387904)
    (hg : ∀ k, k < l.length → ACl Try.prog g [.agg (tyC (kid l k)), .one (.ptr 1 0 0 0)] [⟨1, 3, .mut, [[.sc (.int .i64 d)]]⟩] (fun r H' => r = .one (.sc (.bool (p (kid l k)))) ∧ H' = [⟨1, 3, .mut, [[.sc (.int .i64 d)]]⟩])) :
    ACl Try.prog 161 [.one (.sl (tyR l)), .one (.fn g [.ptr 1 0 0 0])] [⟨1, 3, .mut, [[.sc (.int .i64 d)]]⟩] (fun r H' => r = .one (.sc (.bool (l.any p))) ∧ H' = [⟨1, 3, .mut, [[.sc (.int .i64 d)]]⟩]) := by
  have hi := indexFunc1 g d p l hl hg
  refine acl_in Try.func161 rfl isfn_161 (Nat.le_of_ble_eq_true rfl) (fun R hR => ?_); rw [Try.results161] at hR; refine wg_run ?_; (simp only [Try.f161, go_sem])
  (first | refine kd [0] (hc := hi) (hK := ?_) | refine km [0] (hc := hi) (hK := ?_) | refine kt [0] (hc := hi) (hK := ?_)); rintro _ _ ⟨rfl, rfl⟩; (simp only [go_sem])
  (refine hR _ (rat [] (hK := ⟨?_, ?_⟩)))
  · rw [← idx_any p l 0]
  · rfl
end Go.Proofs.Ytchcbfbnffhifaa
/- Types: validity in the program; checks behind validity. On shadows. -/
namespace Go.Proofs.Ytchcbfbnffhifaa
open Go.RowKit Go.Proofs.Sh Go.Proofs.Grad
set_option maxRecDepth 100000
set_option maxHeartbeats 4000000
theorem kidsN_le (k : Int) : kidsN k ≤ 2 := by unfold kidsN; split <;> (try split) <;> omega
theorem iScan (m : Nat) (hm : m ≤ 4) : ∀ t : Ty, AFn Try.prog 159 [.agg (tyC t), .one (.sc (.int .i64 (5 - (m : Int))))] (.one (.sc (.bool (t.shape m)))) := by
  induction m with
  | zero =>
    intro t
    refine fn_in ?_; refine acl_in Try.func159 rfl isfn_159 (Nat.le_of_ble_eq_true rfl) (fun R hR => ?_); rw [Try.results159] at hR; refine wg_run ?_; (simp only [Try.f159, go_sem])
    repeat' (first | (((first | refine sp1 ?_ ?_ | refine sp2 ?_ ?_ | refine sp3 ?_ ?_ | refine sp4 ?_ ?_ | refine sp5 ?_ ?_ | refine sp6 ?_ ?_ | refine sp7 ?_ ?_) <;> intro hb) <;> (simp only [go_sem, hb])) | ((first | refine wm_done ?_ | refine wt_done ?_ | refine wg_run ?_ | refine fk ?_ ?_) <;> (simp only [go_sem])))
    all_goals (refine hR _ (rat [] (hK := ⟨?_, rfl⟩)))
    all_goals rfl
  | succ m ih =>
    intro t
    have hd : decide (5 - ((m + 1 : Nat) : Int) ≤ 4) = true := by simp; omega
    have hw : IntKind.i64.wrap (5 - ((m + 1 : Nat) : Int) + 1) = 5 - (m : Int) := by rw [IntWalk.i64_in _ (by omega)]; omega
    have hc : t.kids.length < 3 → ACl Try.prog 161 [.one (.sl (tyR t.kids)), .one (.fn 162 [.ptr 1 0 0 0])] [⟨1, 3, .mut, [[.sc (.int .i64 (5 - ((m + 1 : Nat) : Int)))]]⟩] (fun r H' => r = .one (.sc (.bool (t.kids.any (fun x => !x.shape m)))) ∧ H' = [⟨1, 3, .mut, [[.sc (.int .i64 (5 - ((m + 1 : Nat) : Int)))]]⟩]) := by
      intro hl
      refine containsFunc1 _ _ (fun x => !x.shape m) _ (by omega) ?_
      intro k hk
      refine acl_in Try.func162 rfl isfn_162 (Nat.le_of_ble_eq_true rfl) (fun R hR => ?_); rw [Try.results162] at hR; refine wg_run ?_; (simp only [Try.f162, go_sem])
      (simp only [go_sem, hw])
      (first | refine cd (hc := ih (by omega) _) (hK := ?_) | refine cm (hc := ih (by omega) _) (hK := ?_) | refine ct (hc := ih (by omega) _) (hK := ?_)); (simp only [go_sem])
      (refine hR _ (rat [] (hK := ⟨?_, ?_⟩)))
      · rfl
      · rfl
    clear ih
    refine fn_in ?_; refine acl_in Try.func159 rfl isfn_159 (Nat.le_of_ble_eq_true rfl) (fun R hR => ?_); rw [Try.results159] at hR; refine wg_run ?_; (simp only [Try.f159, go_sem])
    repeat' (first | (first | (simp only [go_sem, hd]) | (((first | refine sp1 ?_ ?_ | refine sp2 ?_ ?_ | refine sp3 ?_ ?_ | refine sp4 ?_ ?_ | refine sp5 ?_ ?_ | refine sp6 ?_ ?_ | refine sp7 ?_ ?_) <;> intro hb) <;> (simp only [go_sem, hb, hd])) | ((first | refine wm_done ?_ | refine wt_done ?_ | refine wg_run ?_ | refine fk ?_ ?_) <;> (simp only [go_sem, hd]))) | (first | refine kd [1] (hc := hc (by have := beq_iff_eq.1 hb; omega)) (hK := ?_) | refine km [1] (hc := hc (by have := beq_iff_eq.1 hb; omega)) (hK := ?_) | refine kt [1] (hc := hc (by have := beq_iff_eq.1 hb; omega)) (hK := ?_)); rintro _ _ ⟨rfl, rfl⟩; (simp only [go_sem]))
    all_goals (refine hR _ (rat [] (hK := ⟨?_, rfl⟩)))
    all_goals clear hR hc
    all_goals simp_all [Ty.shape, kidsN, List.all_eq_not_any_not]
theorem iValid (t : Ty) : AFn Try.prog 154 [.agg (tyC t)] (.one (.sc (.bool t.valid))) := by
  refine fn_in ?_; refine acl_in Try.func154 rfl isfn_154 (Nat.le_of_ble_eq_true rfl) (fun R hR => ?_); rw [Try.results154] at hR; refine wg_run ?_; (simp only [Try.f154, go_sem])
  (first | refine cd (hc := iScan 4 (by omega) _) (hK := ?_) | refine cm (hc := iScan 4 (by omega) _) (hK := ?_) | refine ct (hc := iScan 4 (by omega) _) (hK := ?_)); (simp only [go_sem])
  (refine hR _ (rat [] (hK := ⟨?_, rfl⟩)))
  rfl
theorem Ty.valid_16 {t : Ty} (h : t.valid = true) : t.size < 16 := by
  obtain ⟨x, rfl, hx⟩ := (Ty.valid_iff t).1 h
  rw [T.ty_size]
  have : ∀ (x : T) (d : Nat), x.depth ≤ d → d ≤ 4 → x.size < 2 ^ d := by
    intro x
    induction x with
    | any | int | bool => intro d h1 h2; simp only [T.depth, T.size] at *; exact Nat.one_lt_two_pow (by omega)
    | fn a b iha ihb | pr a b iha ihb =>
      intro d h1 h2
      simp only [T.depth, T.size] at *
      obtain ⟨d, rfl⟩ : ∃ e, d = e + 1 := ⟨d - 1, by omega⟩
      have := iha d (by omega) (by omega); have := ihb d (by omega) (by omega)
      rw [Nat.pow_succ]; omega
  have := this x 4 hx (Nat.le_refl _)
  omega
theorem Ty.valid_size {t : Ty} (h : t.valid = true) : t.size < 4611686018427387904 := by have := Ty.valid_16 h; omega
-- written by gen_on.py
theorem iConsistent (a b : Ty) : AFn Try.prog 156 [.agg (tyC a), .agg (tyC b)] (.one (.sc (.bool (onT T.cons a b)))) := by
  have va := iValid a
  have vb := iValid b
  by_cases ha : a.valid = true
  · rw [ha] at va
    by_cases hb' : b.valid = true
    · rw [hb'] at vb
      have hf := fun (x y : T) (e1 : x.ty = a) (e2 : y.ty = b) => by have h := iCons _ (Nat.le_refl _) a b (Ty.valid_size ha); rw [← e1, ← e2, T.cons_ty] at h; exact h
      obtain ⟨x, rfl, hx⟩ := (Ty.valid_iff a).1 ha
      obtain ⟨y, rfl, hy⟩ := (Ty.valid_iff b).1 hb'
      have hf := hf x y rfl rfl
      rw [onT_ty _ hx hy]
      clear ha hb'
      refine fn_in ?_; refine acl_in Try.func156 rfl isfn_156 (Nat.le_of_ble_eq_true rfl) (fun R hR => ?_); rw [Try.results156] at hR; refine wg_run ?_; (simp only [Try.f156, go_sem])
      repeat' (first | (first | (((first | refine sp1 ?_ ?_ | refine sp2 ?_ ?_ | refine sp3 ?_ ?_ | refine sp4 ?_ ?_ | refine sp5 ?_ ?_ | refine sp6 ?_ ?_ | refine sp7 ?_ ?_) <;> intro hb) <;> (simp only [go_sem, hb])) | ((first | refine wm_done ?_ | refine wt_done ?_ | refine wg_run ?_ | refine fk ?_ ?_) <;> (simp only [go_sem]))) | (first | refine cd (hc := va) (hK := ?_) | refine cm (hc := va) (hK := ?_) | refine ct (hc := va) (hK := ?_)); (simp only [go_sem]) | (first | refine cd (hc := vb) (hK := ?_) | refine cm (hc := vb) (hK := ?_) | refine ct (hc := vb) (hK := ?_)); (simp only [go_sem]) | (first | refine cd (hc := hf) (hK := ?_) | refine cm (hc := hf) (hK := ?_) | refine ct (hc := hf) (hK := ?_)); (simp only [go_sem]) | ((first | refine mx 6 [] follows ?_ | refine mx 5 [] follows ?_ | refine mx 4 [] follows ?_ | refine mx 3 [] follows ?_ | refine mx 2 [] follows ?_ | refine mx 1 [] follows ?_ | refine mx 0 [] follows ?_ | fail); (simp only [go_sem])))
      all_goals (refine hR _ (rat [] (hK := ⟨rfl, rfl⟩)))
    · rw [Bool.not_eq_true] at hb'
      rw [onT_off _ (by simp [hb'])]
      rw [hb'] at vb
      clear ha hb'
      refine fn_in ?_; refine acl_in Try.func156 rfl isfn_156 (Nat.le_of_ble_eq_true rfl) (fun R hR => ?_); rw [Try.results156] at hR; refine wg_run ?_; (simp only [Try.f156, go_sem])
      repeat' (first | (first | (((first | refine sp1 ?_ ?_ | refine sp2 ?_ ?_ | refine sp3 ?_ ?_ | refine sp4 ?_ ?_ | refine sp5 ?_ ?_ | refine sp6 ?_ ?_ | refine sp7 ?_ ?_) <;> intro hb) <;> (simp only [go_sem, hb])) | ((first | refine wm_done ?_ | refine wt_done ?_ | refine wg_run ?_ | refine fk ?_ ?_) <;> (simp only [go_sem]))) | (first | refine cd (hc := va) (hK := ?_) | refine cm (hc := va) (hK := ?_) | refine ct (hc := va) (hK := ?_)); (simp only [go_sem]) | (first | refine cd (hc := vb) (hK := ?_) | refine cm (hc := vb) (hK := ?_) | refine ct (hc := vb) (hK := ?_)); (simp only [go_sem]) | ((first | refine mx 6 [] follows ?_ | refine mx 5 [] follows ?_ | refine mx 4 [] follows ?_ | refine mx 3 [] follows ?_ | refine mx 2 [] follows ?_ | refine mx 1 [] follows ?_ | refine mx 0 [] follows ?_ | fail); (simp only [go_sem])))
      all_goals (refine hR _ (rat [] (hK := ⟨rfl, rfl⟩)))
  · rw [Bool.not_eq_true] at ha
    rw [onT_off _ (by simp [ha])]
    rw [ha] at va
    clear ha
    refine fn_in ?_; refine acl_in Try.func156 rfl isfn_156 (Nat.le_of_ble_eq_true rfl) (fun R hR => ?_); rw [Try.results156] at hR; refine wg_run ?_; (simp only [Try.f156, go_sem])
    repeat' (first | (first | (((first | refine sp1 ?_ ?_ | refine sp2 ?_ ?_ | refine sp3 ?_ ?_ | refine sp4 ?_ ?_ | refine sp5 ?_ ?_ | refine sp6 ?_ ?_ | refine sp7 ?_ ?_) <;> intro hb) <;> (simp only [go_sem, hb])) | ((first | refine wm_done ?_ | refine wt_done ?_ | refine wg_run ?_ | refine fk ?_ ?_) <;> (simp only [go_sem]))) | (first | refine cd (hc := va) (hK := ?_) | refine cm (hc := va) (hK := ?_) | refine ct (hc := va) (hK := ?_)); (simp only [go_sem]) | ((first | refine mx 6 [] follows ?_ | refine mx 5 [] follows ?_ | refine mx 4 [] follows ?_ | refine mx 3 [] follows ?_ | refine mx 2 [] follows ?_ | refine mx 1 [] follows ?_ | refine mx 0 [] follows ?_ | fail); (simp only [go_sem])))
    all_goals (refine hR _ (rat [] (hK := ⟨rfl, rfl⟩)))
-- end
end Go.Proofs.Ytchcbfbnffhifaa
/- Numbers and labels, on shadows. -/
namespace Go.Proofs.Ytchcbfbnffhifaa
open Go.RowKit Go.Proofs.Sh Go.Proofs.Grad
set_option maxRecDepth 100000
set_option maxHeartbeats 4000000
theorem within (n lo hi : Int) : AFn Try.prog 90 [.one (.sc (.int .i64 n)), .one (.sc (.int .i64 lo)), .one (.sc (.int .i64 hi))] (.one (.sc (.bool (decide (lo ≤ n) && decide (n ≤ hi))))) := by
  refine fn_in ?_; refine acl_in Try.func90 rfl isfn_90 (Nat.le_of_ble_eq_true rfl) (fun R hR => ?_); rw [Try.results90] at hR; refine wg_run ?_; (simp only [Try.f90, go_sem])
  repeat' (first | (((first | refine sp1 ?_ ?_ | refine sp2 ?_ ?_ | refine sp3 ?_ ?_ | refine sp4 ?_ ?_ | refine sp5 ?_ ?_ | refine sp6 ?_ ?_ | refine sp7 ?_ ?_) <;> intro hb) <;> (simp only [go_sem, hb])) | ((first | refine wm_done ?_ | refine wt_done ?_ | refine wg_run ?_ | refine fk ?_ ?_) <;> (simp only [go_sem])))
  all_goals (refine hR _ (rat [] (hK := ⟨?_, rfl⟩)))
  all_goals simp [hb]
theorem isLabel (n : Int) : AFn Try.prog 63 [.one (.sc (.int .i64 n))] (.one (.sc (.bool (lab n)))) := by
  refine fn_in ?_; refine acl_in Try.func63 rfl isfn_63 (Nat.le_of_ble_eq_true rfl) (fun R hR => ?_); rw [Try.results63] at hR; refine wg_run ?_; (simp only [Try.f63, go_sem])
  repeat' (first | (first | (((first | refine sp1 ?_ ?_ | refine sp2 ?_ ?_ | refine sp3 ?_ ?_ | refine sp4 ?_ ?_ | refine sp5 ?_ ?_ | refine sp6 ?_ ?_ | refine sp7 ?_ ?_) <;> intro hb) <;> (simp only [go_sem, hb])) | ((first | refine wm_done ?_ | refine wt_done ?_ | refine wg_run ?_ | refine fk ?_ ?_) <;> (simp only [go_sem]))) | (first | refine cd (hc := within _ _ _) (hK := ?_) | refine cm (hc := within _ _ _) (hK := ?_) | refine ct (hc := within _ _ _) (hK := ?_)); (simp only [go_sem]))
  all_goals (refine hR _ (rat [] (hK := ⟨?_, rfl⟩)))
  all_goals simp_all [lab]
  all_goals (intros; omega)
/-- the absolute value of a label, 0 for none -/
def labN (n : Int) : Int := if n < -99 ∨ n > 99 then 0 else if n < 0 then -n else n
theorem l1Abs (n : Int) : AFn Try.prog 109 [.one (.sc (.int .i64 n))] (.one (.sc (.int .i64 (labN n)))) := by
  by_cases h1 : n < -99
  · have d1 : decide (n < -99) = true := by simp; omega
    have e : labN n = 0 := by unfold labN; rw [if_pos (by omega)]
    rw [e]
    refine fn_in ?_; refine acl_in Try.func109 rfl isfn_109 (Nat.le_of_ble_eq_true rfl) (fun R hR => ?_); rw [Try.results109] at hR; refine wg_run ?_; (simp only [Try.f109, go_sem, d1])
    (refine hR _ (rat [] (hK := ⟨rfl, rfl⟩)))
  · have d1 : decide (n < -99) = false := by simp; omega
    by_cases h2 : n > 99
    · have d2 : decide (n > 99) = true := by simp; omega
      have e : labN n = 0 := by unfold labN; rw [if_pos (by omega)]
      rw [e]
      refine fn_in ?_; refine acl_in Try.func109 rfl isfn_109 (Nat.le_of_ble_eq_true rfl) (fun R hR => ?_); rw [Try.results109] at hR; refine wg_run ?_; (simp only [Try.f109, go_sem, d1, d2])
      (refine hR _ (rat [] (hK := ⟨rfl, rfl⟩)))
    · have d2 : decide (n > 99) = false := by simp; omega
      have hw : IntKind.i64.wrap (0 - n) = -n := by rw [IntWalk.i64_in _ (by omega)]; omega
      by_cases h3 : n < 0
      · have d3 : decide (n < 0) = true := by simp; omega
        have e : labN n = -n := by unfold labN; rw [if_neg (by omega), if_pos h3]
        rw [e]
        refine fn_in ?_; refine acl_in Try.func109 rfl isfn_109 (Nat.le_of_ble_eq_true rfl) (fun R hR => ?_); rw [Try.results109] at hR; refine wg_run ?_; (simp only [Try.f109, go_sem, d1, d2, d3, hw])
        (refine hR _ (rat [] (hK := ⟨rfl, rfl⟩)))
      · have d3 : decide (n < 0) = false := by simp; omega
        have e : labN n = n := by unfold labN; rw [if_neg (by omega), if_neg h3]
        rw [e]
        refine fn_in ?_; refine acl_in Try.func109 rfl isfn_109 (Nat.le_of_ble_eq_true rfl) (fun R hR => ?_); rw [Try.results109] at hR; refine wg_run ?_; (simp only [Try.f109, go_sem, d1, d2, d3])
        (refine hR _ (rat [] (hK := ⟨rfl, rfl⟩)))
theorem l6Label (n : Int) : AFn Try.prog 61 [.one (.sc (.int .i64 n))] (.one (.sc (.bool (lab n)))) := by
  refine fn_in ?_; refine acl_in Try.func61 rfl isfn_61 (Nat.le_of_ble_eq_true rfl) (fun R hR => ?_); rw [Try.results61] at hR; refine wg_run ?_; (simp only [Try.f61, go_sem])
  (first | refine cd (hc := l1Abs _) (hK := ?_) | refine cm (hc := l1Abs _) (hK := ?_) | refine ct (hc := l1Abs _) (hK := ?_)); (simp only [go_sem])
  (refine hR _ (rat [] (hK := ⟨?_, rfl⟩)))
  have : decide (labN n ≥ 1) = lab n := by
    rw [Bool.eq_iff_iff]; unfold labN lab; simp; split <;> (try split) <;> omega
  rw [this]
end Go.Proofs.Ytchcbfbnffhifaa
/- Terms: validity as a form. No program, no world. -/
namespace Go.Proofs.Grad
theorem E.depth_pos (e : E) : 1 ≤ e.depth := by cases e <;> simp [E.depth]
theorem E.shapeC_tm (e : E) : ∀ d, e.tm.shape 14 d = (e.wf && (e.noC && decide (e.depth ≤ d))) := by
  induction e with
  | var _ | num _ | tru | fls =>
    intro d
    cases d with
    | zero => simp [Tm.shape, E.depth]
    | succ d =>
      rw [Tm.shape, E.nodeOk_tm]
      simp [E.tm, nd, Tm.kind, Tm.kids, E.wf, E.noC, E.depth]
  | lam _ _ a ih | fst a ih | snd a ih | asc _ a ih =>
    intro d
    cases d with
    | zero => simp [Tm.shape, E.depth]
    | succ d =>
      rw [Tm.shape, E.nodeOk_tm]
      simp only [E.tm, nd, Tm.kind, Tm.kids, E.wf, E.noC, E.depth, List.all_cons, List.all_nil, ih]
      rw [Bool.eq_iff_iff]; simp; try grind
  | cast s t l a ih =>
    intro d
    cases d with
    | zero => simp [Tm.shape, E.depth]
    | succ d =>
      rw [Tm.shape, E.nodeOk_tm]
      simp [E.tm, Tm.kind, E.noC]
  | app a b iha ihb | add a b iha ihb | less a b iha ihb | pair a b iha ihb =>
    intro d
    cases d with
    | zero => simp [Tm.shape, E.depth]
    | succ d =>
      rw [Tm.shape, E.nodeOk_tm]
      simp only [E.tm, nd, Tm.kind, Tm.kids, E.wf, E.noC, E.depth, List.all_cons, List.all_nil, iha, ihb]
      rw [Bool.eq_iff_iff]; simp; grind
  | ite a b c iha ihb ihc =>
    intro d
    cases d with
    | zero => simp [Tm.shape, E.depth]
    | succ d =>
      rw [Tm.shape, E.nodeOk_tm]
      simp only [E.tm, nd, Tm.kind, Tm.kids, E.wf, E.noC, E.depth, List.all_cons, List.all_nil, iha, ihb, ihc]
      rw [Bool.eq_iff_iff]; simp; grind
theorem E.shapeA_tm (e : E) : ∀ d, e.tm.shape 13 d = (e.wf && (e.noA && decide (e.depth ≤ d))) := by
  induction e with
  | var _ | num _ | tru | fls =>
    intro d
    cases d with
    | zero => simp [Tm.shape, E.depth]
    | succ d =>
      rw [Tm.shape, E.nodeOk_tm]
      simp [E.tm, nd, Tm.kind, Tm.kids, E.wf, E.noA, E.depth]
  | lam _ _ a ih | fst a ih | snd a ih | cast _ _ _ a ih =>
    intro d
    cases d with
    | zero => simp [Tm.shape, E.depth]
    | succ d =>
      rw [Tm.shape, E.nodeOk_tm]
      simp only [E.tm, nd, Tm.kind, Tm.kids, E.wf, E.noA, E.depth, List.all_cons, List.all_nil, ih]
      rw [Bool.eq_iff_iff]; simp; try grind
  | asc t a ih =>
    intro d
    cases d with
    | zero => simp [Tm.shape, E.depth]
    | succ d =>
      rw [Tm.shape, E.nodeOk_tm]
      simp [E.tm, Tm.kind, E.noA]
  | app a b iha ihb | add a b iha ihb | less a b iha ihb | pair a b iha ihb =>
    intro d
    cases d with
    | zero => simp [Tm.shape, E.depth]
    | succ d =>
      rw [Tm.shape, E.nodeOk_tm]
      simp only [E.tm, nd, Tm.kind, Tm.kids, E.wf, E.noA, E.depth, List.all_cons, List.all_nil, iha, ihb]
      rw [Bool.eq_iff_iff]; simp; grind
  | ite a b c iha ihb ihc =>
    intro d
    cases d with
    | zero => simp [Tm.shape, E.depth]
    | succ d =>
      rw [Tm.shape, E.nodeOk_tm]
      simp only [E.tm, nd, Tm.kind, Tm.kids, E.wf, E.noA, E.depth, List.all_cons, List.all_nil, iha, ihb, ihc]
      rw [Bool.eq_iff_iff]; simp; grind
theorem opN_cases (k : Int) : (1 ≤ k ∧ k ≤ 14) ∨ opN k = -1 := by
  by_cases h : 1 ≤ k ∧ k ≤ 14
  · exact .inl h
  · right; unfold opN; repeat' (first | rw [if_neg (by omega)])
theorem bs_nil {s : ByteArray} (h : s.size = 0) : s = ByteArray.empty := by
  obtain ⟨⟨l⟩⟩ := s
  rw [size_mk] at h
  simp at h; subst h; rfl
theorem onT_cons_some {a b : Ty} (h : onT T.cons a b = true) : ∃ x y : T, a = x.ty ∧ b = y.ty ∧ x.depth ≤ 4 ∧ y.depth ≤ 4 ∧ x.cons y = true := by
  classical
  unfold onT at h
  obtain ⟨x, y, rfl, rfl, hx, hy, h⟩ := of_decide_eq_true h
  exact ⟨x, y, rfl, rfl, hx, hy, h⟩
theorem Tm.shape_E (no : Int) : ∀ (d : Nat) (t : Tm), t.shape no d = true → ∃ e : E, e.tm = t := by
  intro d
  induction d with
  | zero => intro t h; simp [Tm.shape] at h
  | succ d ih =>
    intro t h
    obtain ⟨k, n, m, ty, f, l, ks⟩ := t
    simp only [Tm.shape, Bool.and_eq_true, Tm.kids, List.all_eq_true] at h
    obtain ⟨_, h1, h2⟩ := h
    simp only [Tm.nodeOk, Tm.kind, Tm.name, Tm.num, Tm.type, Tm.frm, Tm.label, Tm.kids, Bool.and_eq_true, beq_iff_eq, decide_eq_true_eq] at h1
    obtain ⟨q1, q2, q3, q4, q5⟩ := h1
    have hk : 1 ≤ k ∧ k ≤ 14 := by
      rcases opN_cases k with h | h
      · exact h
      · rw [h] at q1; omega
    have e0 : (ks.length : Int) = 0 → ks = [] := fun h => List.eq_nil_of_length_eq_zero (by omega)
    have e1 : (ks.length : Int) = 1 → ∃ a : E, ks = [a.tm] := fun h => by
      match ks, h with
      | [a], _ => obtain ⟨x, hx⟩ := ih a (h2 a (by simp)); exact ⟨x, by rw [hx]⟩
      | [], h => simp at h
      | _ :: _ :: _, h => simp at h; omega
    have e2 : (ks.length : Int) = 2 → ∃ a b : E, ks = [a.tm, b.tm] := fun h => by
      match ks, h with
      | [a, b], _ => obtain ⟨x, hx⟩ := ih a (h2 a (by simp)); obtain ⟨y, hy⟩ := ih b (h2 b (by simp)); exact ⟨x, y, by rw [hx, hy]⟩
      | [], h => simp at h
      | [_], h => simp at h
      | _ :: _ :: _ :: _, h => simp at h; omega
    have e3 : (ks.length : Int) = 3 → ∃ a b c : E, ks = [a.tm, b.tm, c.tm] := fun h => by
      match ks, h with
      | [a, b, c], _ => obtain ⟨x, hx⟩ := ih a (h2 a (by simp)); obtain ⟨y, hy⟩ := ih b (h2 b (by simp)); obtain ⟨z, hz⟩ := ih c (h2 c (by simp)); exact ⟨x, y, z, by rw [hx, hy, hz]⟩
      | [], h => simp at h
      | [_], h => simp at h
      | [_, _], h => simp at h
      | _ :: _ :: _ :: _ :: _, h => simp at h; omega
    clear ih h2
    obtain rfl | rfl | rfl | rfl | rfl | rfl | rfl | rfl | rfl | rfl | rfl | rfl | rfl | rfl : k = 1 ∨ k = 2 ∨ k = 3 ∨ k = 4 ∨ k = 5 ∨ k = 6 ∨ k = 7 ∨ k = 8 ∨ k = 9 ∨ k = 10 ∨ k = 11 ∨ k = 12 ∨ k = 13 ∨ k = 14 := by omega
    all_goals
      simp only [opN, Int.reduceEq, reduceIte, if_true, if_false, or_true, true_or, or_false, or_self, Bool.and_eq_true, beq_iff_eq, decide_eq_true_eq] at q1 q2 q3 q4 q5
    · skip
      obtain ⟨x, rfl, hx⟩ := nmOk_some q2
      obtain rfl := e0 q1.symm
      obtain rfl := Ty.isNo_iff q4; obtain rfl := Ty.isNo_iff q5.1
      obtain rfl : m = 0 := by first | omega | (have a1 := of_decide_eq_true q3.1; have a2 := q3.2; omega)
      exact ⟨.var x, by rw [E.tm, q5.2]⟩
    · obtain rfl := bs_nil q2
      obtain rfl := e0 q1.symm
      obtain rfl := Ty.isNo_iff q4; obtain rfl := Ty.isNo_iff q5.1
      exact ⟨.num m, by rw [E.tm, q5.2]⟩
    · obtain rfl := bs_nil q2
      obtain rfl := e0 q1.symm
      obtain rfl := Ty.isNo_iff q4; obtain rfl := Ty.isNo_iff q5.1
      obtain rfl : m = 0 := by first | omega | (have a1 := of_decide_eq_true q3.1; have a2 := q3.2; omega)
      exact ⟨.tru, by rw [E.tm, q5.2]; rfl⟩
    · obtain rfl := bs_nil q2
      obtain rfl := e0 q1.symm
      obtain rfl := Ty.isNo_iff q4; obtain rfl := Ty.isNo_iff q5.1
      obtain rfl : m = 0 := by first | omega | (have a1 := of_decide_eq_true q3.1; have a2 := q3.2; omega)
      exact ⟨.fls, by rw [E.tm, q5.2]; rfl⟩
    · obtain ⟨x, rfl, hx⟩ := nmOk_some q2
      obtain ⟨a, rfl⟩ := e1 q1.symm
      obtain ⟨t, rfl, ht⟩ := (Ty.valid_iff ty).1 q4
      obtain rfl := Ty.isNo_iff q5.1
      obtain rfl : m = 0 := by first | omega | (have a1 := of_decide_eq_true q3.1; have a2 := q3.2; omega)
      exact ⟨.lam x t a, by rw [E.tm, q5.2]⟩
    all_goals obtain rfl := bs_nil q2
    all_goals obtain rfl : m = 0 := by first | omega | (have a1 := of_decide_eq_true q3.1; have a2 := q3.2; omega)
    all_goals try
      (obtain ⟨a, b, rfl⟩ := e2 q1.symm
       obtain rfl := Ty.isNo_iff q4; obtain rfl := Ty.isNo_iff q5.1
       first
         | exact ⟨.app a b, by rw [E.tm, q5.2]; rfl⟩
         | exact ⟨.add a b, by rw [E.tm, q5.2]; rfl⟩
         | exact ⟨.less a b, by rw [E.tm, q5.2]; rfl⟩
         | exact ⟨.pair a b, by rw [E.tm, q5.2]; rfl⟩
       done)
    · obtain ⟨a, b, c, rfl⟩ := e3 q1.symm
      obtain rfl := Ty.isNo_iff q4; obtain rfl := Ty.isNo_iff q5.1
      exact ⟨.ite a b c, by rw [E.tm, q5.2]; rfl⟩
    · obtain ⟨a, rfl⟩ := e1 q1.symm
      obtain rfl := Ty.isNo_iff q4; obtain rfl := Ty.isNo_iff q5.1
      exact ⟨.fst a, by rw [E.tm, q5.2]; rfl⟩
    · obtain ⟨a, rfl⟩ := e1 q1.symm
      obtain rfl := Ty.isNo_iff q4; obtain rfl := Ty.isNo_iff q5.1
      exact ⟨.snd a, by rw [E.tm, q5.2]; rfl⟩
    · obtain ⟨a, rfl⟩ := e1 q1.symm
      obtain ⟨t, rfl, ht⟩ := (Ty.valid_iff ty).1 q4
      obtain rfl := Ty.isNo_iff q5.1
      exact ⟨.asc t a, by rw [E.tm, q5.2]⟩
    · obtain ⟨a, rfl⟩ := e1 q1.symm
      obtain ⟨s, t, rfl, rfl, hs, ht, hc⟩ := onT_cons_some q5.1
      exact ⟨.cast s t l a, rfl⟩
/-- a valid term's form -/
def E.okT (e : E) : Bool := e.wf && (e.noC && (decide (e.depth ≤ 12) && decide (e.nodes ≤ 30)))
/-- .. with casts -/
def E.okC (e : E) : Bool := e.wf && (e.noA && (decide (e.depth ≤ 40) && decide (e.nodes ≤ 200)))
theorem E.termV_tm (e : E) : e.tm.termV = e.okT := by simp only [Tm.termV, E.shapeC_tm, E.tm_nodes, E.okT, Bool.and_assoc]
theorem E.castV_tm (e : E) : e.tm.castV = e.okC := by simp only [Tm.castV, E.shapeA_tm, E.tm_nodes, E.okC, Bool.and_assoc]
theorem Tm.termV_E {t : Tm} (h : t.termV = true) : ∃ e : E, e.tm = t ∧ e.okT = true := by
  have h' := h
  simp only [Tm.termV, Bool.and_eq_true] at h'
  obtain ⟨e, rfl⟩ := Tm.shape_E _ _ _ h'.1
  exact ⟨e, rfl, by rwa [← E.termV_tm]⟩
theorem Tm.castV_E {t : Tm} (h : t.castV = true) : ∃ e : E, e.tm = t ∧ e.okC = true := by
  have h' := h
  simp only [Tm.castV, Bool.and_eq_true] at h'
  obtain ⟨e, rfl⟩ := Tm.shape_E _ _ _ h'.1
  exact ⟨e, rfl, by rwa [← E.castV_tm]⟩
theorem nm_inj {a b : UInt8} (h : nm a = nm b) : a = b := by simpa [nm] using h
theorem E.tm_inj : ∀ a b : E, a.tm = b.tm → a = b := by
  intro a
  induction a with
  | var x => intro b h; cases b <;> simp [E.tm, nd] at h; rw [nm_inj h]
  | num x => intro b h; cases b <;> simp [E.tm, nd] at h; rw [h]
  | tru | fls => intro b h; cases b <;> simp [E.tm, nd] at h; rfl
  | lam x t a ih =>
    intro b h; cases b <;> simp [E.tm, nd] at h
    obtain ⟨h1, h2, h3⟩ := h
    rw [nm_inj h1, T.ty_inj _ _ h2, ih _ h3]
  | app a b iha ihb | add a b iha ihb | less a b iha ihb | pair a b iha ihb =>
    intro c h; cases c <;> simp [E.tm, nd] at h
    obtain ⟨h1, h2⟩ := h
    rw [iha _ h1, ihb _ h2]
  | ite a b c iha ihb ihc =>
    intro d h; cases d <;> simp [E.tm, nd] at h
    obtain ⟨h1, h2, h3⟩ := h
    rw [iha _ h1, ihb _ h2, ihc _ h3]
  | fst a ih | snd a ih =>
    intro b h; cases b <;> simp [E.tm, nd] at h
    rw [ih _ h]
  | asc t a ih =>
    intro b h; cases b <;> simp [E.tm, nd] at h
    obtain ⟨h1, h2⟩ := h
    rw [T.ty_inj _ _ h1, ih _ h2]
  | cast s t l a ih =>
    intro b h; cases b <;> simp [E.tm, nd] at h
    obtain ⟨h1, h2, h3, h4⟩ := h
    rw [T.ty_inj _ _ h1, T.ty_inj _ _ h2, h3, ih _ h4]
end Go.Proofs.Grad
/- Terms: the program's checks, on shadows. -/
namespace Go.Proofs.Sh
open Go.Proofs.Grad
theorem bytes_nil (s : ByteArray) : (s.toList == ByteArray.toList { data := { toList := [] } }) = (s.size == 0) := by
  rw [Bool.eq_iff_iff, beq_iff_eq, beq_iff_eq]
  constructor
  · intro h; rw [bytes_ext h]; rfl
  · intro h; rw [bs_nil h]; rfl
theorem nm_iff (s : ByteArray) : nmOk s = (s.size == 1 && (match s[0]? with | some b => decide (97 ≤ (b.toNat : Int)) && decide ((b.toNat : Int) ≤ 122) | none => false)) := rfl
@[go_sem] theorem opN_1 : opN 1 = 0 := rfl
@[go_sem] theorem opN_2 : opN 2 = 0 := rfl
@[go_sem] theorem opN_3 : opN 3 = 0 := rfl
@[go_sem] theorem opN_4 : opN 4 = 0 := rfl
@[go_sem] theorem opN_5 : opN 5 = 1 := rfl
@[go_sem] theorem opN_6 : opN 6 = 2 := rfl
@[go_sem] theorem opN_7 : opN 7 = 2 := rfl
@[go_sem] theorem opN_8 : opN 8 = 2 := rfl
@[go_sem] theorem opN_9 : opN 9 = 3 := rfl
@[go_sem] theorem opN_10 : opN 10 = 2 := rfl
@[go_sem] theorem opN_11 : opN 11 = 1 := rfl
@[go_sem] theorem opN_12 : opN 12 = 1 := rfl
@[go_sem] theorem opN_13 : opN 13 = 1 := rfl
@[go_sem] theorem opN_14 : opN 14 = 1 := rfl
theorem kinds {k : Int} (h : 1 ≤ k ∧ k ≤ 14) : k = 1 ∨ k = 2 ∨ k = 3 ∨ k = 4 ∨ k = 5 ∨ k = 6 ∨ k = 7 ∨ k = 8 ∨ k = 9 ∨ k = 10 ∨ k = 11 ∨ k = 12 ∨ k = 13 ∨ k = 14 := by omega
theorem opN_bound (k : Int) : opN k ≤ 3 := by unfold opN; repeat' (first | omega | split)
end Go.Proofs.Sh
namespace Go.Proofs.Grad
/-- what is asked of a node but for the number of its operands -/
noncomputable def Tm.ownOk (t : Tm) : Bool :=
  ((if t.kind = 1 ∨ t.kind = 5 then nmOk t.name else t.name.size == 0) &&
  ((decide (0 ≤ t.num) && decide (t.num ≤ if t.kind = 2 then 999 else 0)) &&
  ((if t.kind = 5 ∨ t.kind = 13 ∨ t.kind = 14 then t.type.valid else t.type.isNo) &&
  (if t.kind = 14 then onT T.cons t.frm t.type && lab t.label else t.frm.isNo && t.label == 0))))
theorem Tm.nodeOk_own (t : Tm) : t.nodeOk = (opN t.kind == (t.kids.length : Int) && t.ownOk) := rfl
end Go.Proofs.Grad
namespace Go.Proofs.Ytchcbfbnffhifaa
open Go.RowKit Go.Proofs.Sh Go.Proofs.Grad
set_option maxRecDepth 100000
set_option maxHeartbeats 8000000
theorem iIsName (s : ByteArray) : AFn Try.prog 153 [.one (.sc (.string s))] (.one (.sc (.bool (nmOk s)))) := by
  rw [nm_iff]
  by_cases h : s.size = 1
  · have h0 : s[0]? = some s[0] := getElem?_pos s 0 (by omega)
    have h1 : ((s.size : Int) == 1) = true := by simp; omega
    have h2 : (s.size == 1) = true := by simp; omega
    rw [h0, h2]
    refine fn_in ?_; refine acl_in Try.func153 rfl isfn_153 (Nat.le_of_ble_eq_true rfl) (fun R hR => ?_); rw [Try.results153] at hR; refine wg_run ?_; (simp only [Try.f153, go_sem, h0, h1])
    repeat' (first | (simp only [go_sem, h0]) | (((first | refine sp1 ?_ ?_ | refine sp2 ?_ ?_ | refine sp3 ?_ ?_ | refine sp4 ?_ ?_ | refine sp5 ?_ ?_ | refine sp6 ?_ ?_ | refine sp7 ?_ ?_) <;> intro hb) <;> (simp only [go_sem, hb, h0])) | ((first | refine wm_done ?_ | refine wt_done ?_ | refine wg_run ?_ | refine fk ?_ ?_) <;> (simp only [go_sem, h0])))
    all_goals (refine hR _ (rat [] (hK := ⟨?_, rfl⟩)))
    all_goals simp_all
    all_goals (try (intros; omega))
  · have h1 : ((s.size : Int) == 1) = false := by simp; omega
    have h2 : (s.size == 1) = false := by simp; omega
    rw [h2]
    refine fn_in ?_; refine acl_in Try.func153 rfl isfn_153 (Nat.le_of_ble_eq_true rfl) (fun R hR => ?_); rw [Try.results153] at hR; refine wg_run ?_; (simp only [Try.f153, go_sem, h1])
    repeat' (first | (((first | refine sp1 ?_ ?_ | refine sp2 ?_ ?_ | refine sp3 ?_ ?_ | refine sp4 ?_ ?_ | refine sp5 ?_ ?_ | refine sp6 ?_ ?_ | refine sp7 ?_ ?_) <;> intro hb) <;> (simp only [go_sem, hb])) | ((first | refine wm_done ?_ | refine wt_done ?_ | refine wg_run ?_ | refine fk ?_ ?_) <;> (simp only [go_sem])))
    all_goals (refine hR _ (rat [] (hK := ⟨?_, rfl⟩)))
    all_goals simp_all
theorem iIsNo (t : Ty) : AFn Try.prog 155 [.agg (tyC t)] (.one (.sc (.bool t.isNo))) := by
  have e : t.isNo = (t.kind == 0 && ((t.kids.length : Int) == 0)) := by
    simp only [Ty.isNo]; congr 1; rw [Bool.eq_iff_iff]; simp
  rw [e]
  refine fn_in ?_; refine acl_in Try.func155 rfl isfn_155 (Nat.le_of_ble_eq_true rfl) (fun R hR => ?_); rw [Try.results155] at hR; refine wg_run ?_; (simp only [Try.f155, go_sem])
  repeat' (first | (((first | refine sp1 ?_ ?_ | refine sp2 ?_ ?_ | refine sp3 ?_ ?_ | refine sp4 ?_ ?_ | refine sp5 ?_ ?_ | refine sp6 ?_ ?_ | refine sp7 ?_ ?_) <;> intro hb) <;> (simp only [go_sem, hb])) | ((first | refine wm_done ?_ | refine wt_done ?_ | refine wg_run ?_ | refine fk ?_ ?_) <;> (simp only [go_sem])))
  all_goals (refine hR _ (rat [] (hK := ⟨?_, rfl⟩)))
  all_goals simp_all
theorem iOperands (k : Int) : AFn Try.prog 152 [.one (.sc (.int .i64 k))] (.one (.sc (.int .i64 (opN k)))) := by
  have hw := within k 1 14
  by_cases h : 1 ≤ k ∧ k ≤ 14
  · obtain rfl | rfl | rfl | rfl | rfl | rfl | rfl | rfl | rfl | rfl | rfl | rfl | rfl | rfl := kinds h
    all_goals
      refine fn_in ?_; refine acl_in Try.func152 rfl isfn_152 (Nat.le_of_ble_eq_true rfl) (fun R hR => ?_); rw [Try.results152] at hR; refine wg_run ?_; (simp only [Try.f152, go_sem])
      repeat' (first | (first | (((first | refine sp1 ?_ ?_ | refine sp2 ?_ ?_ | refine sp3 ?_ ?_ | refine sp4 ?_ ?_ | refine sp5 ?_ ?_ | refine sp6 ?_ ?_ | refine sp7 ?_ ?_) <;> intro hb) <;> (simp only [go_sem, hb])) | ((first | refine wm_done ?_ | refine wt_done ?_ | refine wg_run ?_ | refine fk ?_ ?_) <;> (simp only [go_sem]))) | (first | refine cd (hc := hw) (hK := ?_) | refine cm (hc := hw) (hK := ?_) | refine ct (hc := hw) (hK := ?_)); (simp only [go_sem]))
      (refine hR _ (rat [] (hK := ⟨?_, rfl⟩)))
      rfl
  · have hf : (decide (1 ≤ k) && decide (k ≤ 14)) = false := by simp; omega
    rw [hf] at hw
    refine fn_in ?_; refine acl_in Try.func152 rfl isfn_152 (Nat.le_of_ble_eq_true rfl) (fun R hR => ?_); rw [Try.results152] at hR; refine wg_run ?_; (simp only [Try.f152, go_sem])
    repeat' (first | (first | (((first | refine sp1 ?_ ?_ | refine sp2 ?_ ?_ | refine sp3 ?_ ?_ | refine sp4 ?_ ?_ | refine sp5 ?_ ?_ | refine sp6 ?_ ?_ | refine sp7 ?_ ?_) <;> intro hb) <;> (simp only [go_sem, hb])) | ((first | refine wm_done ?_ | refine wt_done ?_ | refine wg_run ?_ | refine fk ?_ ?_) <;> (simp only [go_sem]))) | (first | refine cd (hc := hw) (hK := ?_) | refine cm (hc := hw) (hK := ?_) | refine ct (hc := hw) (hK := ?_)); (simp only [go_sem]))
    (refine hR _ (rat [] (hK := ⟨?_, rfl⟩)))
    rcases opN_cases k with h' | h'
    · exact absurd h' h
    · rw [h']
theorem iNodeOk (t : Tm) : AFn Try.prog 138 [.agg (teC t)] (.one (.sc (.bool t.nodeOk))) := by
  have ho := iOperands t.kind
  have hn := iIsName t.name
  have ht := iValid t.type
  have ht0 := iIsNo t.type
  have hf0 := iIsNo t.frm
  have hc := iConsistent t.frm t.type
  have hl := isLabel t.label
  rw [Tm.nodeOk_own]
  by_cases hlen : opN t.kind = (t.kids.length : Int)
  · have hk : 1 ≤ t.kind ∧ t.kind ≤ 14 := by
      rcases opN_cases t.kind with h | h
      · exact h
      · rw [h] at hlen; omega
    rw [← hlen, beq_self_eq_true, Bool.true_and]
    unfold Tm.ownOk
    obtain h | h | h | h | h | h | h | h | h | h | h | h | h | h := kinds hk
    all_goals rw [h] at hlen ho ⊢
    all_goals simp only [Int.reduceEq, or_true, true_or, or_false, or_self, if_true, if_false, reduceIte, opN_1, opN_2, opN_3, opN_4, opN_5, opN_6, opN_7, opN_8, opN_9, opN_10, opN_11, opN_12, opN_13, opN_14] at hlen ho ⊢
    all_goals
      refine fn_in ?_; refine acl_in Try.func138 rfl isfn_138 (Nat.le_of_ble_eq_true rfl) (fun R hR => ?_); rw [Try.results138] at hR; refine wg_run ?_; (simp only [Try.f138, go_sem, h])
      repeat' (first | (first | (simp only [go_sem, h, ← hlen, bytes_nil, int_bne]) | (((first | refine sp1 ?_ ?_ | refine sp2 ?_ ?_ | refine sp3 ?_ ?_ | refine sp4 ?_ ?_ | refine sp5 ?_ ?_ | refine sp6 ?_ ?_ | refine sp7 ?_ ?_) <;> intro hb) <;> (simp only [go_sem, hb, h, ← hlen, bytes_nil, int_bne])) | ((first | refine wm_done ?_ | refine wt_done ?_ | refine wg_run ?_ | refine fk ?_ ?_) <;> (simp only [go_sem, h, ← hlen, bytes_nil, int_bne]))) | ((first | refine mx 6 [] follows ?_ | refine mx 5 [] follows ?_ | refine mx 4 [] follows ?_ | refine mx 3 [] follows ?_ | refine mx 2 [] follows ?_ | refine mx 1 [] follows ?_ | refine mx 0 [] follows ?_ | fail); (simp only [go_sem, h, ← hlen, bytes_nil, int_bne])) | (first | refine cd (hc := ho) (hK := ?_) | refine cm (hc := ho) (hK := ?_) | refine ct (hc := ho) (hK := ?_)); (simp only [go_sem]) | (first | refine cd (hc := hn) (hK := ?_) | refine cm (hc := hn) (hK := ?_) | refine ct (hc := hn) (hK := ?_)); (simp only [go_sem]) | (first | refine cd (hc := within _ _ _) (hK := ?_) | refine cm (hc := within _ _ _) (hK := ?_) | refine ct (hc := within _ _ _) (hK := ?_)); (simp only [go_sem]) | (first | refine cd (hc := ht) (hK := ?_) | refine cm (hc := ht) (hK := ?_) | refine ct (hc := ht) (hK := ?_)); (simp only [go_sem]) | (first | refine cd (hc := ht0) (hK := ?_) | refine cm (hc := ht0) (hK := ?_) | refine ct (hc := ht0) (hK := ?_)); (simp only [go_sem]) | (first | refine cd (hc := hf0) (hK := ?_) | refine cm (hc := hf0) (hK := ?_) | refine ct (hc := hf0) (hK := ?_)); (simp only [go_sem]) | (first | refine cd (hc := hc) (hK := ?_) | refine cm (hc := hc) (hK := ?_) | refine ct (hc := hc) (hK := ?_)); (simp only [go_sem]) | (first | refine cd (hc := hl) (hK := ?_) | refine cm (hc := hl) (hK := ?_) | refine ct (hc := hl) (hK := ?_)); (simp only [go_sem]))
      all_goals (refine hR _ (rat [] (hK := ⟨?_, rfl⟩)))
      all_goals clear hR ho hn ht ht0 hf0 hc hl
      all_goals simp_all
      all_goals (try grind)
  · have hb0 : (opN t.kind == (t.kids.length : Int)) = false := by simp [hlen]
    rw [hb0]
    refine fn_in ?_; refine acl_in Try.func138 rfl isfn_138 (Nat.le_of_ble_eq_true rfl) (fun R hR => ?_); rw [Try.results138] at hR; refine wg_run ?_; (simp only [Try.f138, go_sem])
    repeat' (first | (first | (simp only [go_sem, hb0, int_bne]) | (((first | refine sp1 ?_ ?_ | refine sp2 ?_ ?_ | refine sp3 ?_ ?_ | refine sp4 ?_ ?_ | refine sp5 ?_ ?_ | refine sp6 ?_ ?_ | refine sp7 ?_ ?_) <;> intro hb) <;> (simp only [go_sem, hb, hb0, int_bne])) | ((first | refine wm_done ?_ | refine wt_done ?_ | refine wg_run ?_ | refine fk ?_ ?_) <;> (simp only [go_sem, hb0, int_bne]))) | ((first | refine mx 6 [] follows ?_ | refine mx 5 [] follows ?_ | refine mx 4 [] follows ?_ | refine mx 3 [] follows ?_ | refine mx 2 [] follows ?_ | refine mx 1 [] follows ?_ | refine mx 0 [] follows ?_ | fail); (simp only [go_sem, hb0, int_bne])) | (first | refine cd (hc := ho) (hK := ?_) | refine cm (hc := ho) (hK := ?_) | refine ct (hc := ho) (hK := ?_)); (simp only [go_sem]))
    (refine hR _ (rat [] (hK := ⟨rfl, rfl⟩)))
end Go.Proofs.Ytchcbfbnffhifaa
/- Terms: validity in the program, on shadows. -/
namespace Go.Proofs.Grad
theorem Tm.nodess_take {l : List Tm} {k : Nat} (h : k < l.length) : Tm.nodess (l.take (k + 1)) = Tm.nodess (l.take k) + (Sh.teKid l k).nodes := by
  rw [Sh.tetake_kid h]
  induction l.take k with
  | nil => simp [Tm.nodess]
  | cons x m ih => simp only [List.cons_append, Tm.nodess, ih]; omega
theorem Tm.nodess_le_take (l : List Tm) : ∀ k, Tm.nodess (l.take k) ≤ Tm.nodess l := by
  induction l with
  | nil => intro k; simp [Tm.nodess]
  | cons x l ih => intro k; cases k with
    | zero => simp [Tm.nodess]
    | succ k => have := ih k; simp only [List.take_succ_cons, Tm.nodess]; omega
theorem Tm.shape_succ (no : Int) (m : Nat) (t : Tm) : t.shape no (m + 1) = (!(t.kind == no) && (t.nodeOk && t.kids.all (Tm.shape no m))) := rfl
theorem Tm.nodeOk_len {t : Tm} (h : t.nodeOk = true) : t.kids.length ≤ 3 := by
  rw [Tm.nodeOk_own, Bool.and_eq_true, beq_iff_eq] at h
  have := Sh.opN_bound t.kind
  omega
end Go.Proofs.Grad
namespace Go.Proofs.Ytchcbfbnffhifaa
open Go.RowKit Go.Proofs.Sh Go.Proofs.Grad
set_option maxRecDepth 100000
set_option maxHeartbeats 8000000
theorem iScanT (no : Int) (most D : Nat) (hmost : most ≤ 100000) (hD : D ≤ 100) (m : Nat) (hm : m ≤ D) : ∀ (t : Tm) (c : Nat), c ≤ most → ACl Try.prog 101 [.agg (teC t), .one (.sc (.int .i64 ((D : Int) + 1 - (m : Int)))), .one (.sc (.int .i64 (most : Nat))), .one (.sc (.int .i64 (D : Nat))), .one (.sc (.int .i64 no)), .one (.ptr 1 0 0 0)] [⟨1, 3, .mut, [[.sc (.int .i64 (c : Nat))]]⟩]
    (fun r H' => ∃ (b : Bool) (c' : Nat), r = .one (.sc (.bool b)) ∧ H' = [⟨1, 3, .mut, [[.sc (.int .i64 (c' : Nat))]]⟩] ∧ b = (t.shape no m && decide (c + t.nodes ≤ most)) ∧ (b = true → c' = c + t.nodes)) := by
  induction m with
  | zero =>
    intro t c hc
    have hw : IntKind.i64.wrap ((c : Int) + 1) = ((c + 1 : Nat) : Int) := by rw [IntWalk.i64_in _ (by omega)]; omega
    have hd : decide ((D : Int) + 1 - ((0 : Nat) : Int) > (D : Int)) = true := by simp; omega
    simp only [Int.natCast_zero] at hd ⊢
    refine acl_in Try.func101 rfl isfn_101 (Nat.le_of_ble_eq_true rfl) (fun R hR => ?_); rw [Try.results101] at hR; refine wg_run ?_; (simp only [Try.f101, go_sem, hw])
    repeat' (first | (simp only [go_sem, hd]) | (((first | refine sp1 ?_ ?_ | refine sp2 ?_ ?_ | refine sp3 ?_ ?_ | refine sp4 ?_ ?_ | refine sp5 ?_ ?_ | refine sp6 ?_ ?_ | refine sp7 ?_ ?_) <;> intro hb) <;> (simp only [go_sem, hb, hd])) | ((first | refine wm_done ?_ | refine wt_done ?_ | refine wg_run ?_ | refine fk ?_ ?_) <;> (simp only [go_sem, hd])))
    all_goals refine hR _ (rat [] (hK := ⟨false, _, rfl, rfl, ?_, by simp⟩))
    all_goals rfl
  | succ m ih =>
    intro t c hc
    have hw : IntKind.i64.wrap ((c : Int) + 1) = ((c + 1 : Nat) : Int) := by rw [IntWalk.i64_in _ (by omega)]; omega
    have hd : decide ((D : Int) + 1 - ((m + 1 : Nat) : Int) > (D : Int)) = false := by simp; omega
    have hw2 : IntKind.i64.wrap ((D : Int) + 1 - ((m + 1 : Nat) : Int) + 1) = (D : Int) + 1 - (m : Int) := by rw [IntWalk.i64_in _ (by omega)]; omega
    have hno := iNodeOk t
    have hnodes := t.nodes_eq
    by_cases hover : c + 1 ≤ most
    · have ho : decide (((c + 1 : Nat) : Int) > (most : Int)) = false := by simp; omega
      cases hk : (t.kind == no)
      · cases hok : t.nodeOk
        · rw [hok] at hno
          have he : t.shape no (m + 1) = false := by rw [Tm.shape_succ, hok]; simp
          rw [he]
          refine acl_in Try.func101 rfl isfn_101 (Nat.le_of_ble_eq_true rfl) (fun R hR => ?_); rw [Try.results101] at hR; refine wg_run ?_; (simp only [Try.f101, go_sem, hw])
          repeat' (first | (first | (simp only [go_sem, hd, ho, hk]) | (((first | refine sp1 ?_ ?_ | refine sp2 ?_ ?_ | refine sp3 ?_ ?_ | refine sp4 ?_ ?_ | refine sp5 ?_ ?_ | refine sp6 ?_ ?_ | refine sp7 ?_ ?_) <;> intro hb) <;> (simp only [go_sem, hb, hd, ho, hk])) | ((first | refine wm_done ?_ | refine wt_done ?_ | refine wg_run ?_ | refine fk ?_ ?_) <;> (simp only [go_sem, hd, ho, hk]))) | (first | refine cd (hc := hno) (hK := ?_) | refine cm (hc := hno) (hK := ?_) | refine ct (hc := hno) (hK := ?_)); (simp only [go_sem]))
          refine hR _ (rat [] (hK := ⟨false, _, rfl, rfl, rfl, by simp⟩))
        · rw [hok] at hno
          have hlen := Tm.nodeOk_len hok
          have he : t.shape no (m + 1) = t.kids.all (Tm.shape no m) := by rw [Tm.shape_succ, hok, hk]; simp
          rw [he]
          have ih := ih (by omega)
          refine acl_in Try.func101 rfl isfn_101 (Nat.le_of_ble_eq_true rfl) (fun R hR => ?_); rw [Try.results101] at hR; refine wg_run ?_; (simp only [Try.f101, go_sem, hw])
          repeat' (first | (first | (simp only [go_sem, hd, ho, hk]) | (((first | refine sp1 ?_ ?_ | refine sp2 ?_ ?_ | refine sp3 ?_ ?_ | refine sp4 ?_ ?_ | refine sp5 ?_ ?_ | refine sp6 ?_ ?_ | refine sp7 ?_ ?_) <;> intro hb) <;> (simp only [go_sem, hb, hd, ho, hk])) | ((first | refine wm_done ?_ | refine wt_done ?_ | refine wg_run ?_ | refine fk ?_ ?_) <;> (simp only [go_sem, hd, ho, hk]))) | (first | refine cd (hc := hno) (hK := ?_) | refine cm (hc := hno) (hK := ?_) | refine ct (hc := hno) (hK := ?_)); (simp only [go_sem]))
          refine wd_for [1, 2, 3, 4, 5, 42, 43, 44] (fun k => [.one (.sc (.int .i64 ((D : Int) + 1 - ((m + 1 : Nat) : Int)))), .one (.sc (.int .i64 (most : Nat))), .one (.sc (.int .i64 (D : Nat))), .one (.sc (.int .i64 no)), .one (.ptr 1 0 0 0), .one (.sl (teR t.kids)), .one (.sc (.int .i64 t.kids.length)), .one (.sc (.int .i64 (k : Nat)))])
            (fun k => [⟨1, 3, .mut, [[.sc (.int .i64 ((c + 1 + Tm.nodess (t.kids.take k) : Nat) : Int))]]⟩])
            (fun k => k ≤ t.kids.length ∧ c + 1 + Tm.nodess (t.kids.take k) ≤ most ∧ (t.kids.drop k).all (Tm.shape no m) = t.kids.all (Tm.shape no m)) (fun k => t.kids.length - k) 0 ⟨Nat.zero_le _, by simp [Tm.nodess]; omega, rfl⟩ (hat [] (hI := ⟨rfl, by simp [Tm.nodess]⟩)) ?_
          rintro k ⟨hk0, hs, ha⟩ G hG
          refine wg_run ?_
          (simp only [go_sem])
          ((first | refine sp1 ?_ ?_ | refine sp2 ?_ ?_ | refine sp3 ?_ ?_ | refine sp4 ?_ ?_ | refine sp5 ?_ ?_ | refine sp6 ?_ ?_ | refine sp7 ?_ ?_) <;> intro hb) <;> (simp only [go_sem, hb])
          · have hk1 : k < t.kids.length := by have := of_decide_eq_true hb; omega
            have hw1 := wrap_succ hk1 (by omega)
            have hc := ih (teKid t.kids k) (c + 1 + Tm.nodess (t.kids.take k)) hs
            have hnt := Tm.nodess_take hk1
            have hle := Tm.nodess_le_take t.kids (k + 1)
            rw [tedrop_kid hk1, List.all_cons] at ha
            repeat' (first | (first | (simp only [go_sem, hw1, hw2, hb]) | (((first | refine sp1 ?_ ?_ | refine sp2 ?_ ?_ | refine sp3 ?_ ?_ | refine sp4 ?_ ?_ | refine sp5 ?_ ?_ | refine sp6 ?_ ?_ | refine sp7 ?_ ?_) <;> intro hb) <;> (simp only [go_sem, hb, hw1, hw2, hb])) | ((first | refine wm_done ?_ | refine wt_done ?_ | refine wg_run ?_ | refine fk ?_ ?_) <;> (simp only [go_sem, hw1, hw2, hb]))) | ((first | refine kd [0] (hc := hc) (hK := ?_) | refine km [0] (hc := hc) (hK := ?_) | refine kt [0] (hc := hc) (hK := ?_)); rintro _ _ ⟨b, c', rfl, rfl, hbq, hcq⟩ <;> (simp only [go_sem])))
            · have hb2 : b = true := by simpa using hb
              subst hb2
              have := hcq rfl
              subst this
              have hbq := hbq.symm
              rw [Bool.and_eq_true, decide_eq_true_eq] at hbq
              refine hG (k + 1) _ _ ⟨by omega, by omega, ?_⟩ (by omega) (hat [] (hI := ⟨rfl, ?_⟩))
              · rw [← ha, hbq.1]; rfl
              · rw [hnt, Nat.add_assoc (c + 1)]
            · have hb2 : b = false := by simpa using hb
              subst hb2
              refine hR _ (rat [] (hK := ⟨false, _, rfl, rfl, ?_, by simp⟩))
              have hbq := hbq.symm
              rw [Bool.and_eq_false_iff] at hbq
              rcases hbq with h | h
              · rw [← ha, h]; rfl
              · have h := of_decide_eq_false h
                have : ¬ c + t.nodes ≤ most := by omega
                simp [this]
          · have hk1 : k = t.kids.length := by have := of_decide_eq_false hb; omega
            subst hk1
            rw [List.take_length] at hs
            rw [List.drop_length, List.all_nil] at ha
            refine hR _ (rat [] (hK := ⟨true, _, rfl, rfl, ?_, ?_⟩))
            · rw [← ha]
              have : c + t.nodes ≤ most := by omega
              simp [this]
            · intro _; rw [List.take_length]; omega
      · have he : t.shape no (m + 1) = false := by rw [Tm.shape_succ, hk]; simp
        rw [he]
        refine acl_in Try.func101 rfl isfn_101 (Nat.le_of_ble_eq_true rfl) (fun R hR => ?_); rw [Try.results101] at hR; refine wg_run ?_; (simp only [Try.f101, go_sem, hw])
        repeat' (first | (simp only [go_sem, hd, ho, hk]) | (((first | refine sp1 ?_ ?_ | refine sp2 ?_ ?_ | refine sp3 ?_ ?_ | refine sp4 ?_ ?_ | refine sp5 ?_ ?_ | refine sp6 ?_ ?_ | refine sp7 ?_ ?_) <;> intro hb) <;> (simp only [go_sem, hb, hd, ho, hk])) | ((first | refine wm_done ?_ | refine wt_done ?_ | refine wg_run ?_ | refine fk ?_ ?_) <;> (simp only [go_sem, hd, ho, hk])))
        refine hR _ (rat [] (hK := ⟨false, _, rfl, rfl, rfl, by simp⟩))
    · have ho : decide (((c + 1 : Nat) : Int) > (most : Int)) = true := by simp; omega
      have he : decide (c + t.nodes ≤ most) = false := by simp; omega
      rw [he]
      refine acl_in Try.func101 rfl isfn_101 (Nat.le_of_ble_eq_true rfl) (fun R hR => ?_); rw [Try.results101] at hR; refine wg_run ?_; (simp only [Try.f101, go_sem, hw])
      repeat' (first | (simp only [go_sem, ho]) | (((first | refine sp1 ?_ ?_ | refine sp2 ?_ ?_ | refine sp3 ?_ ?_ | refine sp4 ?_ ?_ | refine sp5 ?_ ?_ | refine sp6 ?_ ?_ | refine sp7 ?_ ?_) <;> intro hb) <;> (simp only [go_sem, hb, ho])) | ((first | refine wm_done ?_ | refine wt_done ?_ | refine wg_run ?_ | refine fk ?_ ?_) <;> (simp only [go_sem, ho])))
      refine hR _ (rat [] (hK := ⟨false, _, rfl, rfl, by simp, by simp⟩))
theorem iTermV (t : Tm) : AFn Try.prog 74 [.agg (teC t)] (.one (.sc (.bool t.termV))) := by
  have hc := iScanT 14 30 12 (by omega) (by omega) 12 (by omega) t 0 (by omega)
  have e1 : ((12 : Nat) : Int) + 1 - ((12 : Nat) : Int) = 1 := by omega
  rw [e1] at hc
  simp only [Int.cast_ofNat_Int, Int.natCast_zero] at hc
  refine fn_in ?_; refine acl_in Try.func74 rfl isfn_74 (Nat.le_of_ble_eq_true rfl) (fun R hR => ?_); rw [Try.results74] at hR; refine wg_run ?_; (simp only [Try.f74, go_sem])
  repeat' (first | (first | (((first | refine sp1 ?_ ?_ | refine sp2 ?_ ?_ | refine sp3 ?_ ?_ | refine sp4 ?_ ?_ | refine sp5 ?_ ?_ | refine sp6 ?_ ?_ | refine sp7 ?_ ?_) <;> intro hb) <;> (simp only [go_sem, hb])) | ((first | refine wm_done ?_ | refine wt_done ?_ | refine wg_run ?_ | refine fk ?_ ?_) <;> (simp only [go_sem]))) | ((first | refine kd [1] (hc := hc) (hK := ?_) | refine km [1] (hc := hc) (hK := ?_) | refine kt [1] (hc := hc) (hK := ?_)); rintro _ _ ⟨b, c', rfl, rfl, hbq, hcq⟩ <;> (simp only [go_sem])))
  (refine hR _ (rat [] (hK := ⟨?_, rfl⟩)))
  rw [hbq, Nat.zero_add]
  rfl
theorem iCastV (t : Tm) : AFn Try.prog 54 [.agg (teC t)] (.one (.sc (.bool t.castV))) := by
  have hc := iScanT 13 200 40 (by omega) (by omega) 40 (by omega) t 0 (by omega)
  have e1 : ((40 : Nat) : Int) + 1 - ((40 : Nat) : Int) = 1 := by omega
  rw [e1] at hc
  simp only [Int.cast_ofNat_Int, Int.natCast_zero] at hc
  refine fn_in ?_; refine acl_in Try.func54 rfl isfn_54 (Nat.le_of_ble_eq_true rfl) (fun R hR => ?_); rw [Try.results54] at hR; refine wg_run ?_; (simp only [Try.f54, go_sem])
  repeat' (first | (first | (((first | refine sp1 ?_ ?_ | refine sp2 ?_ ?_ | refine sp3 ?_ ?_ | refine sp4 ?_ ?_ | refine sp5 ?_ ?_ | refine sp6 ?_ ?_ | refine sp7 ?_ ?_) <;> intro hb) <;> (simp only [go_sem, hb])) | ((first | refine wm_done ?_ | refine wt_done ?_ | refine wg_run ?_ | refine fk ?_ ?_) <;> (simp only [go_sem]))) | ((first | refine kd [1] (hc := hc) (hK := ?_) | refine km [1] (hc := hc) (hK := ?_) | refine kt [1] (hc := hc) (hK := ?_)); rintro _ _ ⟨b, c', rfl, rfl, hbq, hcq⟩ <;> (simp only [go_sem])))
  (refine hR _ (rat [] (hK := ⟨?_, rfl⟩)))
  rw [hbq, Nat.zero_add]
  rfl
end Go.Proofs.Ytchcbfbnffhifaa
/- Types: the relations of subtyping, on shadows. -/
namespace Go.Proofs.Sh
open Go.Proofs.Grad
@[go_sem] theorem ty_any_kind : T.any.ty.kind = 1 := rfl
@[go_sem] theorem ty_int_kind : T.int.ty.kind = 2 := rfl
@[go_sem] theorem ty_bool_kind : T.bool.ty.kind = 3 := rfl
@[go_sem] theorem ty_fn_kind (a b : T) : (T.fn a b).ty.kind = 4 := rfl
@[go_sem] theorem ty_pr_kind (a b : T) : (T.pr a b).ty.kind = 5 := rfl
@[go_sem] theorem ty_any_kids : T.any.ty.kids = [] := rfl
@[go_sem] theorem ty_int_kids : T.int.ty.kids = [] := rfl
@[go_sem] theorem ty_bool_kids : T.bool.ty.kids = [] := rfl
@[go_sem] theorem ty_fn_kids (a b : T) : (T.fn a b).ty.kids = [a.ty, b.ty] := rfl
@[go_sem] theorem ty_pr_kids (a b : T) : (T.pr a b).ty.kids = [a.ty, b.ty] := rfl
def subM (a b : T) : Nat := 2 * a.size + 2 * b.size + (match b with | .any => 5 | _ => 0)
attribute [go_sem] T.ground
end Go.Proofs.Sh
namespace Go.Proofs.Ytchcbfbnffhifaa
open Go.RowKit Go.Proofs.Sh Go.Proofs.Grad
set_option maxRecDepth 100000
set_option maxHeartbeats 4000000
theorem l1Any : AFn Try.prog 88 [] (.agg (tyC T.any.ty)) := by
  refine fn_in ?_; refine acl_in Try.func88 rfl isfn_88 (Nat.le_of_ble_eq_true rfl) (fun R hR => ?_); rw [Try.results88] at hR; refine wg_run ?_; (simp only [Try.f88, go_sem])
  (refine hR _ (rat [] (hK := ⟨rfl, rfl⟩)))
theorem l1Ground (a : T) : AFn Try.prog 142 [.agg (tyC a.ty)] (.agg (tyC a.ground.ty)) := by
  cases a
  all_goals
    refine fn_in ?_; refine acl_in Try.func142 rfl isfn_142 (Nat.le_of_ble_eq_true rfl) (fun R hR => ?_); rw [Try.results142] at hR; refine wg_run ?_; (simp only [Try.f142, go_sem])
    repeat' (first | (first | (((first | refine sp1 ?_ ?_ | refine sp2 ?_ ?_ | refine sp3 ?_ ?_ | refine sp4 ?_ ?_ | refine sp5 ?_ ?_ | refine sp6 ?_ ?_ | refine sp7 ?_ ?_) <;> intro hb) <;> (simp only [go_sem, hb])) | ((first | refine wm_done ?_ | refine wt_done ?_ | refine wg_run ?_ | refine fk ?_ ?_) <;> (simp only [go_sem]))) | (first | refine cd (hc := l1Any) (hK := ?_) | refine cm (hc := l1Any) (hK := ?_) | refine ct (hc := l1Any) (hK := ?_)); (simp only [go_sem]) | (first | (refine wl_next (wg_run ?_); (simp only [go_sem])) | refine wd_rounds 6 ?_) | ((first | refine mx 6 [] follows ?_ | refine mx 5 [] follows ?_ | refine mx 4 [] follows ?_ | refine mx 3 [] follows ?_ | refine mx 2 [] follows ?_ | refine mx 1 [] follows ?_ | refine mx 0 [] follows ?_ | fail); (simp only [go_sem])))
    all_goals (refine hR _ (rat [] (hK := ⟨?_, rfl⟩)))
    all_goals rfl
theorem subM_le (a b : T) : subM a b ≤ 2 * (a.size + b.size) + 5 := by unfold subM; split <;> omega
theorem le_subM (a b : T) : 2 * (a.size + b.size) ≤ subM a b := by unfold subM; split <;> omega
theorem base (k : Int) : AFn Try.prog 83 [.one (.sc (.int .i64 k))] (.agg (tyC (.mk k []))) := by
  refine fn_in ?_; refine acl_in Try.func83 rfl isfn_83 (Nat.le_of_ble_eq_true rfl) (fun R hR => ?_); rw [Try.results83] at hR; refine wg_run ?_; (simp only [Try.f83, go_sem])
  (refine hR _ (rat [] (hK := ⟨rfl, rfl⟩)))
theorem both (k : Int) (a b : Ty) : AFn Try.prog 157 [.one (.sc (.int .i64 k)), .agg (tyC a), .agg (tyC b)] (.agg (tyC (.mk k [a, b]))) := by
  refine fn_in ?_; refine acl_in Try.func157 rfl isfn_157 (Nat.le_of_ble_eq_true rfl) (fun R hR => ?_); rw [Try.results157] at hR; refine wg_run ?_; (simp only [Try.f157, go_sem])
  (refine hR _ (rat [] (hK := ⟨rfl, rfl⟩)))
theorem iGround (a : T) : AFn Try.prog 144 [.one (.sc (.int .i64 a.kind))] (.agg (tyC a.ground.ty)) := by
  rcases a with _ | _ | _ | ⟨a1, a2⟩ | ⟨a1, a2⟩
  all_goals
    simp only [T.kind]
    refine fn_in ?_; refine acl_in Try.func144 rfl isfn_144 (Nat.le_of_ble_eq_true rfl) (fun R hR => ?_); rw [Try.results144] at hR; refine wg_run ?_; (simp only [Try.f144, go_sem])
    repeat' (first | (first | (((first | refine sp1 ?_ ?_ | refine sp2 ?_ ?_ | refine sp3 ?_ ?_ | refine sp4 ?_ ?_ | refine sp5 ?_ ?_ | refine sp6 ?_ ?_ | refine sp7 ?_ ?_) <;> intro hb) <;> (simp only [go_sem, hb])) | ((first | refine wm_done ?_ | refine wt_done ?_ | refine wg_run ?_ | refine fk ?_ ?_) <;> (simp only [go_sem]))) | (first | refine cd (hc := base _) (hK := ?_) | refine cm (hc := base _) (hK := ?_) | refine ct (hc := base _) (hK := ?_)); (simp only [go_sem]) | (first | refine cd (hc := both 4 T.any.ty T.any.ty) (hK := ?_) | refine cm (hc := both 4 T.any.ty T.any.ty) (hK := ?_) | refine ct (hc := both 4 T.any.ty T.any.ty) (hK := ?_)); (simp only [go_sem]) | (first | refine cd (hc := both 5 T.any.ty T.any.ty) (hK := ?_) | refine cm (hc := both 5 T.any.ty T.any.ty) (hK := ?_) | refine ct (hc := both 5 T.any.ty T.any.ty) (hK := ?_)); (simp only [go_sem]) | ((first | refine mx 6 [] follows ?_ | refine mx 5 [] follows ?_ | refine mx 4 [] follows ?_ | refine mx 3 [] follows ?_ | refine mx 2 [] follows ?_ | refine mx 1 [] follows ?_ | refine mx 0 [] follows ?_ | fail); (simp only [go_sem])))
  all_goals (refine hR _ (rat [] (hK := ⟨rfl, rfl⟩)))
theorem iSub (fs fo : FuncId) (S O : T → T → Bool) (a b : T) (hs : ∀ x y : T, 2 * (x.size + y.size) + 5 < 2 * (a.size + b.size) → AFn Try.prog fs [.agg (tyC x.ty), .agg (tyC y.ty)] (.one (.sc (.bool (S x y)))))
    (ho : ∀ x y : T, 2 * (x.size + y.size) + 5 < 2 * (a.size + b.size) → AFn Try.prog fo [.agg (tyC x.ty), .agg (tyC y.ty)] (.one (.sc (.bool (O x y))))) :
    AFn Try.prog 143 [.agg (tyC a.ty), .agg (tyC b.ty), .one (.fn fs []), .one (.fn fo [])] (.one (.sc (.bool (subF S O a b)))) := by
  rcases a with _ | _ | _ | ⟨a1, a2⟩ | ⟨a1, a2⟩ <;> rcases b with _ | _ | _ | ⟨b1, b2⟩ | ⟨b1, b2⟩
  all_goals
    ((try have p1 := T.size_pos a1); (try have p2 := T.size_pos a2); (try have p3 := T.size_pos b1); (try have p4 := T.size_pos b2))
    refine fn_in ?_; refine acl_in Try.func143 rfl isfn_143 (Nat.le_of_ble_eq_true rfl) (fun R hR => ?_); rw [Try.results143] at hR; refine wg_run ?_; (simp only [Try.f143, go_sem])
    repeat' (first | (first | (((first | refine sp1 ?_ ?_ | refine sp2 ?_ ?_ | refine sp3 ?_ ?_ | refine sp4 ?_ ?_ | refine sp5 ?_ ?_ | refine sp6 ?_ ?_ | refine sp7 ?_ ?_) <;> intro hb) <;> (simp only [go_sem, hb])) | ((first | refine wm_done ?_ | refine wt_done ?_ | refine wg_run ?_ | refine fk ?_ ?_) <;> (simp only [go_sem]))) | (first | refine cd (hc := ho _ _ (by simp only [subM, T.size, T.ground]; (try split) <;> (try simp only [T.size]) <;> omega)) (hK := ?_) | refine cm (hc := ho _ _ (by simp only [subM, T.size, T.ground]; (try split) <;> (try simp only [T.size]) <;> omega)) (hK := ?_) | refine ct (hc := ho _ _ (by simp only [subM, T.size, T.ground]; (try split) <;> (try simp only [T.size]) <;> omega)) (hK := ?_)); (simp only [go_sem]) | (first | refine cd (hc := hs _ _ (by simp only [subM, T.size, T.ground]; (try split) <;> (try simp only [T.size]) <;> omega)) (hK := ?_) | refine cm (hc := hs _ _ (by simp only [subM, T.size, T.ground]; (try split) <;> (try simp only [T.size]) <;> omega)) (hK := ?_) | refine ct (hc := hs _ _ (by simp only [subM, T.size, T.ground]; (try split) <;> (try simp only [T.size]) <;> omega)) (hK := ?_)); (simp only [go_sem]) | ((first | refine mx 6 [] follows ?_ | refine mx 5 [] follows ?_ | refine mx 4 [] follows ?_ | refine mx 3 [] follows ?_ | refine mx 2 [] follows ?_ | refine mx 1 [] follows ?_ | refine mx 0 [] follows ?_ | fail); (simp only [go_sem])))
  all_goals (refine hR _ (rat [] (hK := ⟨?_, rfl⟩)))
  all_goals clear hR hs ho
  all_goals simp_all [subF]
end Go.Proofs.Ytchcbfbnffhifaa
