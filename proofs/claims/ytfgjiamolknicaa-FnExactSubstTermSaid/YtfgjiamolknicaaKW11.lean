/- Texts of the proof, one behind another. -/
import Derived.IntWalk
import Derived.Laws.BitsAllLaws
import Derived.Test.YtfgjiamolknicaaKW7
import Derived.Test.YtfgjiamolknicaaKW8
import Derived.Test.YtfgjiamolknicaaKW10
set_option linter.unusedSimpArgs false
set_option linter.unusedVariables false
/- Terms as shadows. -/
namespace Go.Proofs.Sh
open Go.RowKit Go.Proofs.Grad

mutual
def teC : Tm → List C
  | .mk x0 x1 x2 x3 x4 x5 x6 => [.sc (.int .i64 (x0)), .sc (.string (x1)), .sc (.int .i64 (x2)), .sc (.int .i64 (x3).kind), .sl (tyR (x3).kids), .sc (.int .i64 (x4).kind), .sl (tyR (x4).kids), .sc (.int .i64 (x5)), .sl (teR (x6))]
def teR : List Tm → List (List C)
  | [] => []
  | t :: l => teC t :: teR l
end
theorem teC_eq (t : Tm) : teC t = [.sc (.int .i64 (t.kind)), .sc (.string (t.name)), .sc (.int .i64 (t.num)), .sc (.int .i64 (t.type).kind), .sl (tyR (t.type).kids), .sc (.int .i64 (t.frm).kind), .sl (tyR (t.frm).kids), .sc (.int .i64 (t.label)), .sl (teR (t.kids))] := by cases t; rfl
@[go_sem] theorem teC_length (t : Tm) : (teC t).length = 9 := by rw [teC_eq]; rfl
@[go_sem] theorem teC_take (t : Tm) : (teC t).take 9 = teC t := by rw [teC_eq]; rfl
@[go_sem] theorem teC_drop (t : Tm) : (teC t).drop 0 = teC t := rfl
@[go_sem] theorem teC_dropn (t : Tm) : (teC t).drop 9 = [] := by rw [teC_eq]; rfl
@[go_sem] theorem teC_treeL (t : Tm) : treeL (teC t) = true := by rw [teC_eq]; rfl
@[go_sem] theorem teC_0 (t : Tm) : (teC t)[0]? = some (.sc (.int .i64 (t.kind))) := by rw [teC_eq]; rfl
@[go_sem] theorem teC_1 (t : Tm) : (teC t)[1]? = some (.sc (.string (t.name))) := by rw [teC_eq]; rfl
@[go_sem] theorem teC_2 (t : Tm) : (teC t)[2]? = some (.sc (.int .i64 (t.num))) := by rw [teC_eq]; rfl
@[go_sem] theorem teC_3 (t : Tm) : (teC t)[3]? = some (.sc (.int .i64 (t.type).kind)) := by rw [teC_eq]; rfl
@[go_sem] theorem teC_4 (t : Tm) : (teC t)[4]? = some (.sl (tyR (t.type).kids)) := by rw [teC_eq]; rfl
@[go_sem] theorem teC_dlen3 (t : Tm) : ((teC t).drop 3).length = 6 := by rw [teC_eq]; rfl
@[go_sem] theorem teC_part3 (t : Tm) : ((teC t).drop 3).take 2 = tyC t.type := by rw [teC_eq, tyC_eq]; rfl
@[go_sem] theorem teC_5 (t : Tm) : (teC t)[5]? = some (.sc (.int .i64 (t.frm).kind)) := by rw [teC_eq]; rfl
@[go_sem] theorem teC_6 (t : Tm) : (teC t)[6]? = some (.sl (tyR (t.frm).kids)) := by rw [teC_eq]; rfl
@[go_sem] theorem teC_dlen5 (t : Tm) : ((teC t).drop 5).length = 4 := by rw [teC_eq]; rfl
@[go_sem] theorem teC_part5 (t : Tm) : ((teC t).drop 5).take 2 = tyC t.frm := by rw [teC_eq, tyC_eq]; rfl
@[go_sem] theorem teC_7 (t : Tm) : (teC t)[7]? = some (.sc (.int .i64 (t.label))) := by rw [teC_eq]; rfl
@[go_sem] theorem teC_8 (t : Tm) : (teC t)[8]? = some (.sl (teR (t.kids))) := by rw [teC_eq]; rfl
@[go_sem] theorem tyC_app (t : Ty) (l : List C) : tyC t ++ l = .sc (.int .i64 t.kind) :: .sl (tyR t.kids) :: l := by rw [tyC_eq]; rfl
@[go_sem] theorem teC_splice0 (t : Tm) (x : C) : splice (teC t) 0 [x] = [x, .sc (.string (t.name)), .sc (.int .i64 (t.num)), .sc (.int .i64 (t.type).kind), .sl (tyR (t.type).kids), .sc (.int .i64 (t.frm).kind), .sl (tyR (t.frm).kids), .sc (.int .i64 (t.label)), .sl (teR (t.kids))] := by rw [teC_eq]; rfl
@[go_sem] theorem teC_splice1 (t : Tm) (x : C) : splice (teC t) 1 [x] = [.sc (.int .i64 (t.kind)), x, .sc (.int .i64 (t.num)), .sc (.int .i64 (t.type).kind), .sl (tyR (t.type).kids), .sc (.int .i64 (t.frm).kind), .sl (tyR (t.frm).kids), .sc (.int .i64 (t.label)), .sl (teR (t.kids))] := by rw [teC_eq]; rfl
@[go_sem] theorem teC_splice2 (t : Tm) (x : C) : splice (teC t) 2 [x] = [.sc (.int .i64 (t.kind)), .sc (.string (t.name)), x, .sc (.int .i64 (t.type).kind), .sl (tyR (t.type).kids), .sc (.int .i64 (t.frm).kind), .sl (tyR (t.frm).kids), .sc (.int .i64 (t.label)), .sl (teR (t.kids))] := by rw [teC_eq]; rfl
@[go_sem] theorem teC_splice3 (t : Tm) (x : C) : splice (teC t) 3 [x] = [.sc (.int .i64 (t.kind)), .sc (.string (t.name)), .sc (.int .i64 (t.num)), x, .sl (tyR (t.type).kids), .sc (.int .i64 (t.frm).kind), .sl (tyR (t.frm).kids), .sc (.int .i64 (t.label)), .sl (teR (t.kids))] := by rw [teC_eq]; rfl
@[go_sem] theorem teC_splice4 (t : Tm) (x : C) : splice (teC t) 4 [x] = [.sc (.int .i64 (t.kind)), .sc (.string (t.name)), .sc (.int .i64 (t.num)), .sc (.int .i64 (t.type).kind), x, .sc (.int .i64 (t.frm).kind), .sl (tyR (t.frm).kids), .sc (.int .i64 (t.label)), .sl (teR (t.kids))] := by rw [teC_eq]; rfl
@[go_sem] theorem teC_splice5 (t : Tm) (x : C) : splice (teC t) 5 [x] = [.sc (.int .i64 (t.kind)), .sc (.string (t.name)), .sc (.int .i64 (t.num)), .sc (.int .i64 (t.type).kind), .sl (tyR (t.type).kids), x, .sl (tyR (t.frm).kids), .sc (.int .i64 (t.label)), .sl (teR (t.kids))] := by rw [teC_eq]; rfl
@[go_sem] theorem teC_splice6 (t : Tm) (x : C) : splice (teC t) 6 [x] = [.sc (.int .i64 (t.kind)), .sc (.string (t.name)), .sc (.int .i64 (t.num)), .sc (.int .i64 (t.type).kind), .sl (tyR (t.type).kids), .sc (.int .i64 (t.frm).kind), x, .sc (.int .i64 (t.label)), .sl (teR (t.kids))] := by rw [teC_eq]; rfl
@[go_sem] theorem teC_splice7 (t : Tm) (x : C) : splice (teC t) 7 [x] = [.sc (.int .i64 (t.kind)), .sc (.string (t.name)), .sc (.int .i64 (t.num)), .sc (.int .i64 (t.type).kind), .sl (tyR (t.type).kids), .sc (.int .i64 (t.frm).kind), .sl (tyR (t.frm).kids), x, .sl (teR (t.kids))] := by rw [teC_eq]; rfl
@[go_sem] theorem teC_splice8 (t : Tm) (x : C) : splice (teC t) 8 [x] = [.sc (.int .i64 (t.kind)), .sc (.string (t.name)), .sc (.int .i64 (t.num)), .sc (.int .i64 (t.type).kind), .sl (tyR (t.type).kids), .sc (.int .i64 (t.frm).kind), .sl (tyR (t.frm).kids), .sc (.int .i64 (t.label)), x] := by rw [teC_eq]; rfl
@[go_sem] theorem teC_splice3ty (t : Tm) (x y : C) : splice (teC t) 3 [x, y] = [.sc (.int .i64 (t.kind)), .sc (.string (t.name)), .sc (.int .i64 (t.num)), x, y, .sc (.int .i64 (t.frm).kind), .sl (tyR (t.frm).kids), .sc (.int .i64 (t.label)), .sl (teR (t.kids))] := by rw [teC_eq]; rfl
@[go_sem] theorem teC_splice3tyC (t : Tm) (u : Ty) : splice (teC t) 3 (tyC u) = teC (.mk t.kind t.name t.num u t.frm t.label t.kids) := by rw [teC_eq, tyC_eq]; rfl
@[go_sem] theorem teC_splice5ty (t : Tm) (x y : C) : splice (teC t) 5 [x, y] = [.sc (.int .i64 (t.kind)), .sc (.string (t.name)), .sc (.int .i64 (t.num)), .sc (.int .i64 (t.type).kind), .sl (tyR (t.type).kids), x, y, .sc (.int .i64 (t.label)), .sl (teR (t.kids))] := by rw [teC_eq]; rfl
@[go_sem] theorem teC_splice5tyC (t : Tm) (u : Ty) : splice (teC t) 5 (tyC u) = teC (.mk t.kind t.name t.num t.type u t.label t.kids) := by rw [teC_eq, tyC_eq]; rfl
@[go_sem] theorem teR_length (l : List Tm) : (teR l).length = l.length := by
  induction l with
  | nil => rfl
  | cons t l ih => simp [teR, ih]
theorem teR_get (l : List Tm) (i : Nat) : (teR l)[i]? = (l[i]?).map teC := by
  induction l generalizing i with
  | nil => simp [teR]
  | cons t l ih => cases i <;> simp [teR, ih]
/-- the k-th one -/
def teKid (l : List Tm) (k : Nat) : Tm := l.getD k (.mk 0 ByteArray.empty 0 (.mk 0 []) (.mk 0 []) 0 [])
theorem teKid_eq {l : List Tm} {k : Nat} (h : k < l.length) : teKid l k = l[k] := by simp [teKid, h]
@[go_sem] theorem teR_at (l : List Tm) (i : Nat) : (teR l)[i]? = match decide ((i : Int) < (l.length : Int)) with | true => some (teC (teKid l i)) | false => none := by
  rw [teR_get]
  by_cases h : i < l.length
  · have h' : (i : Int) < (l.length : Int) := by omega
    simp [h, h', teKid]
  · have h' : ¬ (i : Int) < (l.length : Int) := by omega
    simp [h, h']
theorem tesizes_mem {t : Tm} {l : List Tm} (h : t ∈ l) : t.size ≤ Tm.sizes l := by
  induction l with
  | nil => simp at h
  | cons x l ih =>
    simp only [Tm.sizes]
    rcases List.mem_cons.1 h with rfl | h
    · omega
    · have := ih h; omega
theorem telen_sizes (l : List Tm) : l.length ≤ Tm.sizes l := by
  induction l with
  | nil => simp [Tm.sizes]
  | cons x l ih => cases x; simp only [Tm.sizes, Tm.size, List.length_cons]; omega
theorem tekids_lt (t : Tm) : Tm.sizes t.kids < t.size := by cases t; simp only [Tm.size, Tm.kids]; omega
theorem telen_lt (t : Tm) : t.kids.length < t.size := Nat.lt_of_le_of_lt (telen_sizes _) (tekids_lt t)
theorem teKid_lt {t : Tm} {k : Nat} (h : k < t.kids.length) : (teKid t.kids k).size < t.size := by
  rw [teKid_eq h]
  exact Nat.lt_of_le_of_lt (tesizes_mem (List.getElem_mem h)) (tekids_lt t)
theorem tetake_kid {l : List Tm} {k : Nat} (h : k < l.length) : l.take (k + 1) = l.take k ++ [teKid l k] := by
  rw [teKid_eq h, List.take_succ_eq_append_getElem h]
theorem tedrop_kid {l : List Tm} {k : Nat} (h : k < l.length) : l.drop k = teKid l k :: l.drop (k + 1) := by
  rw [teKid_eq h, List.drop_eq_getElem_cons h]
theorem teR_append (l m : List Tm) : teR (l ++ m) = teR l ++ teR m := by
  induction l with
  | nil => rfl
  | cons t l ih => simp [teR, ih]
theorem teR_take {l : List Tm} {k : Nat} (h : k < l.length) : teR (l.take (k + 1)) = teR (l.take k) ++ [teC (teKid l k)] := by
  rw [tetake_kid h, teR_append]; rfl
@[go_sem] theorem teR_tree (l : List Tm) : treeRows (teR l) = true := by
  induction l with
  | nil => rfl
  | cons t l ih => simp only [teR, treeRows_cons, teC_treeL, Bool.true_and]; exact ih
@[go_sem] theorem teR_len (l : List Tm) : rowsLen 9 (teR l) = true := by
  induction l with
  | nil => rfl
  | cons t l ih => simp only [teR, rowsLen_cons, teC_length, beq_self_eq_true, Bool.true_and]; exact ih
attribute [go_sem] teR
@[go_sem] theorem tekind_mk (x0 : Int) (x1 : ByteArray) (x2 : Int) (x3 : Ty) (x4 : Ty) (x5 : Int) (x6 : List Tm) : (Tm.mk x0 x1 x2 x3 x4 x5 x6).kind = x0 := rfl
@[go_sem] theorem tename_mk (x0 : Int) (x1 : ByteArray) (x2 : Int) (x3 : Ty) (x4 : Ty) (x5 : Int) (x6 : List Tm) : (Tm.mk x0 x1 x2 x3 x4 x5 x6).name = x1 := rfl
@[go_sem] theorem tenum_mk (x0 : Int) (x1 : ByteArray) (x2 : Int) (x3 : Ty) (x4 : Ty) (x5 : Int) (x6 : List Tm) : (Tm.mk x0 x1 x2 x3 x4 x5 x6).num = x2 := rfl
@[go_sem] theorem tetype_mk (x0 : Int) (x1 : ByteArray) (x2 : Int) (x3 : Ty) (x4 : Ty) (x5 : Int) (x6 : List Tm) : (Tm.mk x0 x1 x2 x3 x4 x5 x6).type = x3 := rfl
@[go_sem] theorem tefrm_mk (x0 : Int) (x1 : ByteArray) (x2 : Int) (x3 : Ty) (x4 : Ty) (x5 : Int) (x6 : List Tm) : (Tm.mk x0 x1 x2 x3 x4 x5 x6).frm = x4 := rfl
@[go_sem] theorem telabel_mk (x0 : Int) (x1 : ByteArray) (x2 : Int) (x3 : Ty) (x4 : Ty) (x5 : Int) (x6 : List Tm) : (Tm.mk x0 x1 x2 x3 x4 x5 x6).label = x5 := rfl
@[go_sem] theorem tekids_mk (x0 : Int) (x1 : ByteArray) (x2 : Int) (x3 : Ty) (x4 : Ty) (x5 : Int) (x6 : List Tm) : (Tm.mk x0 x1 x2 x3 x4 x5 x6).kids = x6 := rfl
end Go.Proofs.Sh
/- Owned types and terms. -/
namespace Go.Proofs.Sh
open Go.RowKit Go.Proofs.Grad

theorem ow_sc {h : List Blk} {d : Nat} {c : C} {v : Value} {ids : List Nat} (hv : v ≠ .slice none 0 0) (e : ow h d c = some (.sc v, ids)) : c = .sc v ∧ ids = [] := by
  cases c with
  | row s b n => obtain ⟨_, _, _, _, _, _, _, _, _, _, _, h, _⟩ := ow_row e; cases h
  | _ =>
    rw [ow_leaf (by simp)] at e
    obtain ⟨rfl, ⟨h1, h2⟩ | ⟨v, h1, _, h2⟩ | ⟨h1, h2⟩⟩ := leaf_cases e
    · cases h2
    · cases h2; exact ⟨h1, rfl⟩
    · cases h2
theorem fzL_cons {f : C → Option (C × List Nat)} {cs : List C} {x : C} {xs : List C} {ids : List Nat} (e : fzL f cs = some (x :: xs, ids)) : ∃ c cs' i j, cs = c :: cs' ∧ f c = some (x, i) ∧ fzL f cs' = some (xs, j) ∧ ids = i ++ j := by
  cases cs with
  | nil => simp [fzL] at e
  | cons c cs' =>
    simp only [fzL] at e
    split at e
    · rename_i c1 i c2 j h1 h2
      simp only [Option.some.injEq, Prod.mk.injEq, List.cons.injEq] at e
      obtain ⟨⟨rfl, rfl⟩, rfl⟩ := e
      exact ⟨c, cs', i, j, rfl, h1, h2, rfl⟩
    · cases e
theorem fzL_nil {f : C → Option (C × List Nat)} {cs : List C} {ids : List Nat} (e : fzL f cs = some ([], ids)) : cs = [] ∧ ids = [] := by
  cases cs with
  | nil => simp only [fzL, Option.some.injEq, Prod.mk.injEq] at e; exact ⟨rfl, e.2.symm⟩
  | cons c cs' =>
    simp only [fzL] at e
    split at e
    · simp at e
    · cases e
theorem owL_ty {h : List Blk} {d : Nat} {cs : List C} {t : Ty} {ids : List Nat} (e : fzL (ow h d) cs = some (tyC t, ids)) : ∃ c, cs = [.sc (.int .i64 t.kind), c] ∧ ow h d c = some (.sl (tyR t.kids), ids) := by
  rw [tyC_eq] at e
  obtain ⟨c0, cs1, i0, j0, rfl, e0, f0, rfl⟩ := fzL_cons e
  obtain ⟨c1, cs2, i1, j1, rfl, e1, f1, rfl⟩ := fzL_cons f0
  obtain ⟨rfl, rfl⟩ := fzL_nil f1
  obtain ⟨rfl, rfl⟩ := ow_sc (by simp) e0
  exact ⟨c1, rfl, by simpa using e1⟩
/-- a term's cells: the cells of its types' and its own operands -/
def teO (t : Tm) (c1 c2 c3 : C) : List C := [.sc (.int .i64 t.kind), .sc (.string t.name), .sc (.int .i64 t.num), .sc (.int .i64 t.type.kind), c1, .sc (.int .i64 t.frm.kind), c2, .sc (.int .i64 t.label), c3]
theorem owL_te {h : List Blk} {d : Nat} {cs : List C} {t : Tm} {ids : List Nat} (e : fzL (ow h d) cs = some (teC t, ids)) : ∃ c1 c2 c3 i1 i2 i3, cs = teO t c1 c2 c3 ∧ ids = i1 ++ (i2 ++ i3) ∧ ow h d c1 = some (.sl (tyR t.type.kids), i1) ∧ ow h d c2 = some (.sl (tyR t.frm.kids), i2) ∧ ow h d c3 = some (.sl (teR t.kids), i3) := by
  rw [teC_eq] at e
  obtain ⟨c0, cs1, i0, j0, rfl, e0, f0, rfl⟩ := fzL_cons e
  obtain ⟨c1, cs2, i1, j1, rfl, e1, f1, rfl⟩ := fzL_cons f0
  obtain ⟨c2, cs3, i2, j2, rfl, e2, f2, rfl⟩ := fzL_cons f1
  obtain ⟨c3, cs4, i3, j3, rfl, e3, f3, rfl⟩ := fzL_cons f2
  obtain ⟨c4, cs5, i4, j4, rfl, e4, f4, rfl⟩ := fzL_cons f3
  obtain ⟨c5, cs6, i5, j5, rfl, e5, f5, rfl⟩ := fzL_cons f4
  obtain ⟨c6, cs7, i6, j6, rfl, e6, f6, rfl⟩ := fzL_cons f5
  obtain ⟨c7, cs8, i7, j7, rfl, e7, f7, rfl⟩ := fzL_cons f6
  obtain ⟨c8, cs9, i8, j8, rfl, e8, f8, rfl⟩ := fzL_cons f7
  obtain ⟨rfl, rfl⟩ := fzL_nil f8
  obtain ⟨rfl, rfl⟩ := ow_sc (by simp) e0
  obtain ⟨rfl, rfl⟩ := ow_sc (by simp) e1
  obtain ⟨rfl, rfl⟩ := ow_sc (by simp) e2
  obtain ⟨rfl, rfl⟩ := ow_sc (by simp) e3
  obtain ⟨rfl, rfl⟩ := ow_sc (by simp) e5
  obtain ⟨rfl, rfl⟩ := ow_sc (by simp) e7
  exact ⟨c4, c6, c8, i4, i6, i8, rfl, by simp, e4, e6, e8⟩
theorem owL_te_of {h : List Blk} {d1 d2 d3 : Nat} {t : Tm} {c1 c2 c3 : C} {i1 i2 i3 : List Nat} (h1 : ow h d1 c1 = some (.sl (tyR t.type.kids), i1)) (h2 : ow h d2 c2 = some (.sl (tyR t.frm.kids), i2)) (h3 : ow h d3 c3 = some (.sl (teR t.kids), i3)) : ∃ d, fzL (ow h d) (teO t c1 c2 c3) = some (teC t, i1 ++ (i2 ++ i3)) := by
  refine ⟨max d1 (max d2 d3), ?_⟩
  have h1 := ow_le (Nat.le_max_left d1 (max d2 d3)) h1
  have h2 := ow_le (Nat.le_trans (Nat.le_max_left d2 d3) (Nat.le_max_right d1 (max d2 d3))) h2
  have h3 := ow_le (Nat.le_trans (Nat.le_max_right d2 d3) (Nat.le_max_right d1 (max d2 d3))) h3
  rw [teC_eq]
  simp only [teO, fzL, ow_int, ow_str, h1, h2, h3, List.nil_append, List.append_nil]
@[go_sem] theorem teO_length (t : Tm) (c1 c2 c3 : C) : (teO t c1 c2 c3).length = 9 := rfl
end Go.Proofs.Sh
namespace Go.Proofs.Grad
mutual
def Tm.mapT (φ : Tm → Tm) : Tm → Tm
  | .mk k n m t f l a => φ (.mk k n m t f l (Tm.mapTs φ a))
def Tm.mapTs (φ : Tm → Tm) : List Tm → List Tm
  | [] => []
  | t :: l => t.mapT φ :: Tm.mapTs φ l
end
theorem mapTs_eq (φ : Tm → Tm) : ∀ l : List Tm, Tm.mapTs φ l = l.map (Tm.mapT φ)
  | [] => rfl
  | t :: l => by simp [Tm.mapTs, mapTs_eq φ l]
/-- a node with other operands -/
def Tm.kidsOf (t : Tm) (l : List Tm) : Tm := .mk t.kind t.name t.num t.type t.frm t.label l
theorem mapT_eq (φ : Tm → Tm) (t : Tm) : t.mapT φ = φ (t.kidsOf (t.kids.map (Tm.mapT φ))) := by cases t; simp only [Tm.mapT, Tm.kidsOf, mapTs_eq]; rfl
mutual
theorem mapT_id : ∀ t : Tm, t.mapT id = t
  | .mk k n m t f l a => by simp only [Tm.mapT, mapTs_id a, id]
theorem mapTs_id : ∀ l : List Tm, Tm.mapTs id l = l
  | [] => rfl
  | t :: l => by simp only [Tm.mapTs, mapT_id t, mapTs_id l]
end
end Go.Proofs.Grad
namespace Go.Proofs.Sh
open Go.RowKit Go.Proofs.Grad
theorem take_map {φ : Tm → Tm} {l : List Tm} {k : Nat} (h : k < l.length) : (l.take (k + 1)).map (Tm.mapT φ) = (l.take k).map (Tm.mapT φ) ++ [(teKid l k).mapT φ] := by
  rw [tetake_kid h]; simp
/-- what a change of a node leaves -/
def Changed (h : List Blk) (ids : List Nat) (enc : List C) (r : AV) (h' : List Blk) : Prop := ∃ cs d ids', r = .agg cs ∧ fzL (ow h' d) cs = some (enc, ids') ∧ ids'.Nodup ∧ (∀ b ∈ ids', b ∈ ids ∨ h.length ≤ b) ∧ h.length ≤ h'.length ∧ ∀ b, b < h.length → h'[b]? = h[b]?
theorem nodup3 {i1 i2 i3 : List Nat} {a b c : Nat} (h1 : i1.Nodup) (h2 : i2.Nodup) (h3 : i3.Nodup) (b3 : ∀ x ∈ i3, x < a) (b1 : ∀ x ∈ i1, a ≤ x ∧ x < b) (b2 : ∀ x ∈ i2, b ≤ x ∧ x < c) (hab : a ≤ b) : (i1 ++ (i2 ++ i3)).Nodup := by
  refine List.nodup_append.2 ⟨h1, List.nodup_append.2 ⟨h2, h3, fun x hx y hy e => ?_⟩, fun x hx y hy e => ?_⟩
  · subst e; have := b2 x hx; have := b3 x hy; omega
  · subst e
    have := b1 x hx
    rcases List.mem_append.1 hy with hy | hy
    · have := b2 x hy; omega
    · have := b3 x hy; omega
theorem nodup3' {i1 i2 i3 : List Nat} {a b c : Nat} (h1 : i1.Nodup) (h2 : i2.Nodup) (h3 : i3.Nodup) (b1 : ∀ x ∈ i1, a ≤ x ∧ x < b) (b2 : ∀ x ∈ i2, b ≤ x ∧ x < c) (b3 : ∀ x ∈ i3, c ≤ x) (hbc : b ≤ c) : (i1 ++ (i2 ++ i3)).Nodup := by
  refine List.nodup_append.2 ⟨h1, List.nodup_append.2 ⟨h2, h3, fun x hx y hy e => ?_⟩, fun x hx y hy e => ?_⟩
  · subst e; have := b2 x hx; have := b3 x hy; omega
  · subst e
    have := b1 x hx
    rcases List.mem_append.1 hy with hy | hy
    · have := b2 x hy; omega
    · have := b3 x hy; omega
end Go.Proofs.Sh
/- Terms: terms mapped by a function, owned. On shadows. -/
namespace Go.Proofs.Ytfgjiamolknicaa
open Go.RowKit Go.Proofs.Sh Go.Proofs.Grad
set_option maxRecDepth 100000
set_option maxHeartbeats 8000000
theorem iMappedO (g : FuncId) (φ : Tm → Tm) (J I : Tm → Prop) (hJ : ∀ t k, J t → k < t.kids.length → J (teKid t.kids k)) (hI : ∀ t, J t → I (t.kidsOf (t.kids.map (Tm.mapT φ))))
    (hg : ∀ (x : Tm) (h : List Blk) (cs : List C) (d : Nat) (ids : List Nat), I x → fzL (ow h d) cs = some (teC x, ids) → ids.Nodup → ∃ ks, ACalls Try.prog g [.agg cs] h ks (Changed h ids (teC (φ x))))
    (n : Nat) (hn : n ≤ 1000000000) : ∀ t : Tm, t.size < n → J t → ACl Try.prog 82 [.agg (teC t), .one (.fn g [])] [] (OwnK (teC (t.mapT φ)) .agg) := by
  induction n with
  | zero => intro t h; omega
  | succ n ih =>
    intro t h hj
    have hl : t.kids.length < 1000000000 := by have := telen_lt t; omega
    have hty : t.type.size < n + 1 := by cases t; simp only [Tm.size, Tm.type] at *; omega
    have hfr : t.frm.size < n + 1 := by cases t; simp only [Tm.size, Tm.frm] at *; omega
    refine acl_in Try.func82 rfl isfn_82 (Nat.le_of_ble_eq_true rfl) (fun R hR => ?_); rw [Try.results82] at hR; refine wg_run ?_; (simp only [Try.f82, go_sem])
    refine wd_for (σ := Nat × C × List Blk) [1, 2, 4, 5, 9, 10, 11] (fun x => [.one (.fn g []), .one (.ptr 9 0 0 0), .one (.ptr 9 1 0 0), .one x.2.1, .one (.sl (teR t.kids)), .one (.sc (.int .i64 t.kids.length)), .one (.sc (.int .i64 (x.1 : Nat)))])
      (fun x => ⟨9, 28, .mut, [teC t]⟩ :: ⟨9, 28, .mut, [[.sc (.int .i64 0), .sc (.string ByteArray.empty), .sc (.int .i64 0), .sc (.int .i64 0), .sc (.slice none 0 0), .sc (.int .i64 0), .sc (.slice none 0 0), .sc (.int .i64 0), .sc (.slice none 0 0)]]⟩ :: x.2.2)
      (fun x => x.1 ≤ t.kids.length ∧ Grown 9 28 2 (teR ((t.kids.take x.1).map (Tm.mapT φ))) x.2.1 x.2.2) (fun x => t.kids.length - x.1) (0, .sc (.slice none 0 0), []) ⟨Nat.zero_le _, .inl ⟨rfl, rfl⟩⟩ (head_all (by (simp only [go_sem]); first | done | rfl) ⟨rfl, rfl⟩) ?_
    rintro ⟨k, c, T⟩ ⟨hk, hG⟩ G hGo
    simp only at hk hG hGo ⊢
    refine wg_run ?_
    (simp only [go_sem])
    ((first | apply sp1 | apply sp2 | apply sp3 | apply sp4 | apply sp5 | apply sp6 | apply sp7) <;> intro hb) <;> (simp only [go_sem, hb])
    · have hk1 : k < t.kids.length := by have := of_decide_eq_true hb; omega
      repeat' (first | (first | (simp only [go_sem, hb]) | (((first | apply sp1 | apply sp2 | apply sp3 | apply sp4 | apply sp5 | apply sp6 | apply sp7) <;> intro hb) <;> (simp only [go_sem, hb, hb])) | ((first | apply wm_done | apply wt_done | apply wg_run | refine fk ?_ ?_) <;> (simp only [go_sem, hb]))) | ((first | refine mxq6 [] ?_ | refine mxq5 [] ?_ | refine mxq4 [] ?_ | refine mxq3 [] ?_ | refine mxq2 [] ?_ | refine mxq1 [] ?_ | refine mxq0 [] ?_ | fail); (simp only [go_sem, hb])))
      refine wd_any (acalls_own (.cons (.same (by (simp only [go_sem]); first | done | rfl)) (.cons .fn .nil)) (ih (by omega) (teKid t.kids k) (by have := teKid_lt hk1; omega) (hJ t k hj hk1)) (fun _ h => h) ren_agg) ?_
      rintro _ h' ⟨cs, d, ids, rfl, e1, e2, e3, e4, e5⟩
      obtain ⟨T', rfl, f1, f2⟩ := pre2 e4 e5
      have hcs : cs.length = 9 := by rw [← fzL_len e1, teC_length]
      have hlen : ((t.kids.take k).map (Tm.mapT φ)).length = k := by rw [List.length_map, List.length_take]; omega
      have hcap : (k + 1) * 128 ≤ 140737488355328 := by omega
      have hw1 : IntKind.i64.wrap (((k : Nat) : Int) + 1) = ((k + 1 : Nat) : Int) := wrap_succ hk1 (by omega)
      rcases hG.more (pre := [_, _]) rfl (Nat.le_trans (by simp) f1) (fun i hi => by rw [f2 i (by simp; omega), List.getElem?_append_left hi]) e1 hcs e2 (fun b hb => by have := (e3 b hb).1; simp at this; omega) with ⟨rfl, h0, hy⟩ | ⟨j, rows, rfl, hpos, hj, hrl, hrs, hy⟩
      · (simp only [go_sem, hcs])
        repeat' (first | (simp only [go_sem, hcs, hw1, hlen, hcap]) | (((first | apply sp1 | apply sp2 | apply sp3 | apply sp4 | apply sp5 | apply sp6 | apply sp7) <;> intro hb) <;> (simp only [go_sem, hb, hcs, hw1, hlen, hcap])) | ((first | apply wm_done | apply wt_done | apply wg_run | refine fk ?_ ?_) <;> (simp only [go_sem, hcs, hw1, hlen, hcap])))
        refine hGo (k + 1, _, _) _ _ ⟨by omega, ?_⟩ (by simp only; omega) (head_all (by (simp only [go_sem]); first | done | rfl) ⟨rfl, rfl⟩)
        simp only [take_map hk1, teR_append, teR]
        exact hy _
      · have hj2 := fun U => get_app hj U
        rw [teR_length, hlen] at hrl hpos hy
        (simp only [go_sem, hcs, hj2, hlen])
        repeat' (first | (simp only [go_sem, hcs, hw1, hlen, hcap, hj2, hrl, hrs]) | (((first | apply sp1 | apply sp2 | apply sp3 | apply sp4 | apply sp5 | apply sp6 | apply sp7) <;> intro hb) <;> (simp only [go_sem, hb, hcs, hw1, hlen, hcap, hj2, hrl, hrs])) | ((first | apply wm_done | apply wt_done | apply wg_run | refine fk ?_ ?_) <;> (simp only [go_sem, hcs, hw1, hlen, hcap, hj2, hrl, hrs])))
        refine hGo (k + 1, _, _) _ _ ⟨by omega, ?_⟩ (by simp only; omega) (head_all (by (simp only [go_sem]); first | done | rfl) ⟨rfl, rfl⟩)
        simp only [take_map hk1, teR_append, teR]
        exact hy _
    · have hk1 : k = t.kids.length := by have := of_decide_eq_false hb; omega
      rw [hk1, List.take_length] at hG
      obtain ⟨d0, js, g1, g2, g3⟩ := hG.ow
      repeat' (first | (first | (simp only [go_sem, hb]) | (((first | apply sp1 | apply sp2 | apply sp3 | apply sp4 | apply sp5 | apply sp6 | apply sp7) <;> intro hb) <;> (simp only [go_sem, hb, hb])) | ((first | apply wm_done | apply wt_done | apply wg_run | refine fk ?_ ?_) <;> (simp only [go_sem, hb]))) | ((first | refine mxq6 [] ?_ | refine mxq5 [] ?_ | refine mxq4 [] ?_ | refine mxq3 [] ?_ | refine mxq2 [] ?_ | refine mxq1 [] ?_ | refine mxq0 [] ?_ | fail); (simp only [go_sem, hb])))
      refine wm_any (acalls_own (.cons (.same (by (simp only [go_sem]); first | done | rfl)) .nil) (iOwnTyO (n + 1) (by omega) t.type hty) (fun _ h => h) ren_agg) (by (simp only [go_sem]); first | done | rfl) (by (simp only [go_sem]); first | done | rfl) ?_
      rintro _ h' ⟨cs1, d1, ids1, rfl, a1, a2, a3, a4, a5⟩
      obtain ⟨T1, rfl, b1, b2⟩ := pre2 a4 a5
      obtain ⟨x1, rfl, z1⟩ := owL_ty a1
      (simp only [go_sem])
      repeat' (first | (first | (simp only [go_sem, hb]) | (((first | apply sp1 | apply sp2 | apply sp3 | apply sp4 | apply sp5 | apply sp6 | apply sp7) <;> intro hb) <;> (simp only [go_sem, hb, hb])) | ((first | apply wm_done | apply wt_done | apply wg_run | refine fk ?_ ?_) <;> (simp only [go_sem, hb]))) | ((first | refine mxq6 [] ?_ | refine mxq5 [] ?_ | refine mxq4 [] ?_ | refine mxq3 [] ?_ | refine mxq2 [] ?_ | refine mxq1 [] ?_ | refine mxq0 [] ?_ | fail); (simp only [go_sem, hb])))
      refine wm_any (acalls_own (.cons (.same (by (simp only [go_sem]); first | done | rfl)) .nil) (iOwnTyO (n + 1) (by omega) t.frm hfr) (fun _ h => h) ren_agg) (by (simp only [go_sem]); first | done | rfl) (by (simp only [go_sem]); first | done | rfl) ?_
      rintro _ h' ⟨cs2, d2, ids2, rfl, p1, p2, p3, p4, p5⟩
      obtain ⟨T2, rfl, q1, q2⟩ := pre2 p4 p5
      obtain ⟨x2, rfl, z2⟩ := owL_ty p1
      (simp only [go_sem])
      repeat' (first | (first | (simp only [go_sem, hb]) | (((first | apply sp1 | apply sp2 | apply sp3 | apply sp4 | apply sp5 | apply sp6 | apply sp7) <;> intro hb) <;> (simp only [go_sem, hb, hb])) | ((first | apply wm_done | apply wt_done | apply wg_run | refine fk ?_ ?_) <;> (simp only [go_sem, hb]))) | ((first | refine mxq6 [] ?_ | refine mxq5 [] ?_ | refine mxq4 [] ?_ | refine mxq3 [] ?_ | refine mxq2 [] ?_ | refine mxq1 [] ?_ | refine mxq0 [] ?_ | fail); (simp only [go_sem, hb])))
      have hx1 : ∀ b ∈ ids1, T.length + 2 ≤ b ∧ b < T1.length + 2 := fun b hb => by have := a3 b hb; simp at this; omega
      have hx2 : ∀ b ∈ ids2, T1.length + 2 ≤ b ∧ b < T2.length + 2 := fun b hb => by have := p3 b hb; simp at this; omega
      have hjs : ∀ b ∈ js, b < T.length + 2 := fun b hb => by
        have := (ow_mut (g1 [⟨0, 0, .dead, []⟩, ⟨0, 0, .dead, []⟩] rfl) b hb).lt
        simpa only [List.length_append, List.length_cons, List.length_nil, Nat.zero_add, Nat.add_comm] using this
      have hd := fun (pre : List Blk) (hp : pre.length = 2) => owL_te_of (t := t.kidsOf (t.kids.map (Tm.mapT φ)))
        (ow_pre (pre := [_, _]) (pre' := pre) (by rw [hp]; rfl) q2 z1 (fun b hb => by have := hx1 b hb; simp only [List.length_cons, List.length_nil]; omega))
        (ow_pre (pre := [_, _]) (pre' := pre) (T' := T2) (by rw [hp]; rfl) (fun _ _ => rfl) z2 (fun b hb => by have := hx2 b hb; simp only [List.length_cons, List.length_nil]; omega))
        (ow_pre (pre := pre) (pre' := pre) (T' := T2) rfl (fun i hi => by rw [q2 i (by omega), b2 i hi]) (g1 pre hp) (fun b hb => by have := g3 b hb; omega))
      obtain ⟨d, hd⟩ := hd [_, _] rfl
      obtain ⟨ks, hgk⟩ := hg _ _ _ d _ (hI t hj) hd (nodup3 a2 p2 g2 hjs hx1 hx2 (by omega))
      refine wd_any hgk ?_
      rintro _ h' ⟨cs3, d3, ids3, rfl, u1, u2, u3, u4, u5⟩
      obtain ⟨T3, rfl, v1, v2⟩ := pre2 u4 u5
      have hcs3 : cs3.length = 9 := by rw [← fzL_len u1, teC_length]
      (simp only [go_sem, hcs3])
      repeat' (first | (simp only [go_sem, hcs3]) | (((first | apply sp1 | apply sp2 | apply sp3 | apply sp4 | apply sp5 | apply sp6 | apply sp7) <;> intro hb) <;> (simp only [go_sem, hb, hcs3])) | ((first | apply wm_done | apply wt_done | apply wg_run | refine fk ?_ ?_) <;> (simp only [go_sem, hcs3])))
      have htk : cs3.take 9 = cs3 := List.take_of_length_le (by omega)
      refine hR _ (ret_ownK (d := d3) (ids := ids3) (cs := cs3) (by (simp only [go_sem, hcs3, htk]); first | done | rfl) ?_ u2 (fun _ => prVs_agg))
      rw [mapT_eq]
      refine owL_frame (h := _ :: _ :: T3) u1 (fun b hb => ?_)
      have hb2 : 2 ≤ b := by
        rcases u3 b hb with hb | hb
        · rcases List.mem_append.1 hb with hb | hb
          · have := hx1 b hb; omega
          · rcases List.mem_append.1 hb with hb | hb
            · have := hx2 b hb; omega
            · have := g3 b hb; omega
        · have hb : (_ :: _ :: T2 : List Blk).length ≤ b := hb
          simp only [List.length_cons] at hb; omega
      obtain ⟨b, rfl⟩ : ∃ x, b = x + 2 := ⟨b - 2, by omega⟩
      rfl
theorem iOwn1O (x : Tm) (h : List Blk) (cs : List C) (d : Nat) (ids : List Nat) (e : fzL (ow h d) cs = some (teC x, ids)) (hn : ids.Nodup) : ∃ ks, ACalls Try.prog 137 [.agg cs] h ks (Changed h ids (teC (id x))) := by
  have hcs : cs.length = 9 := by rw [← fzL_len e, teC_length]
  have htk : cs.take 9 = cs := List.take_of_length_le (by omega)
  have hc : ACl Try.prog 137 [.agg cs] h (fun r h' => r = .agg cs ∧ ∃ T, h' = h ++ T) := by
    refine acl_in Try.func137 rfl isfn_137 (Nat.le_of_ble_eq_true rfl) (fun R hR => ?_); rw [Try.results137] at hR; refine wg_run ?_; (simp only [Try.f137, go_sem, hcs])
    repeat' (first | (simp only [go_sem, hcs, htk]) | (((first | apply sp1 | apply sp2 | apply sp3 | apply sp4 | apply sp5 | apply sp6 | apply sp7) <;> intro hb) <;> (simp only [go_sem, hb, hcs, htk])) | ((first | apply wm_done | apply wt_done | apply wg_run | refine fk ?_ ?_) <;> (simp only [go_sem, hcs, htk])))
    refine hR _ (ret_all (by (simp only [go_sem, htk, hcs]); first | done | rfl) ⟨rfl, [⟨9, 28, .mut, [cs]⟩, ⟨9, 28, .mut, [cs]⟩], ?_⟩)
    simp
  refine ⟨_, (acalls_full hc).mono ?_⟩
  rintro r h' ⟨rfl, T, rfl⟩
  exact ⟨cs, d, ids, rfl, owL_frame e (fun b hb => List.getElem?_append_left ((owL_mut e b hb).lt)), hn, fun b hb => .inl hb, by simp, fun b hb => List.getElem?_append_left hb⟩
theorem iOwnO (t : Tm) (ht : t.size < 1000000000) : ACl Try.prog 70 [.agg (teC t)] [] (OwnK (teC t) .agg) := by
  have hm := iMappedO 137 id (fun _ => True) (fun _ => True) (fun _ _ _ _ => trivial) (fun _ _ => trivial) (fun x h cs d ids _ e hn => iOwn1O x h cs d ids e hn) 1000000000 (by omega) t ht trivial
  rw [mapT_id] at hm
  refine acl_in Try.func70 rfl isfn_70 (Nat.le_of_ble_eq_true rfl) (fun R hR => ?_); rw [Try.results70] at hR; refine wg_run ?_; (simp only [Try.f70, go_sem])
  repeat' (first | (((first | apply sp1 | apply sp2 | apply sp3 | apply sp4 | apply sp5 | apply sp6 | apply sp7) <;> intro hb) <;> (simp only [go_sem, hb])) | ((first | apply wm_done | apply wt_done | apply wg_run | refine fk ?_ ?_) <;> (simp only [go_sem])))
  refine wd_any (acalls_own (.cons (.same (by (simp only [go_sem]); first | done | rfl)) (.cons .fn .nil)) hm (fun _ h => h) ren_agg) ?_
  rintro _ h' ⟨cs, d, ids, rfl, e1, e2, e3, e4, e5⟩
  obtain ⟨T, rfl, f1, f2⟩ := pre2 e4 e5
  have hcs : cs.length = 9 := by rw [← fzL_len e1, teC_length]
  have htk : cs.take 9 = cs := List.take_of_length_le (by omega)
  (simp only [go_sem, hcs])
  repeat' (first | (simp only [go_sem, hcs]) | (((first | apply sp1 | apply sp2 | apply sp3 | apply sp4 | apply sp5 | apply sp6 | apply sp7) <;> intro hb) <;> (simp only [go_sem, hb, hcs])) | ((first | apply wm_done | apply wt_done | apply wg_run | refine fk ?_ ?_) <;> (simp only [go_sem, hcs])))
  refine hR _ (ret_ownK (d := d) (ids := ids) (cs := cs) (by (simp only [go_sem, hcs, htk]); first | done | rfl) ?_ e2 (fun _ => prVs_agg))
  refine owL_frame (h := _ :: _ :: T) e1 (fun b hb => ?_)
  have hb2 : 2 ≤ b := by have := (e3 b hb).1; simp only [List.length_cons] at this; omega
  obtain ⟨b, rfl⟩ : ∃ x, b = x + 2 := ⟨b - 2, by omega⟩
  rfl
end Go.Proofs.Ytfgjiamolknicaa
/- The reference's reader, on shadows. -/
namespace Go.Proofs.Sh
open Go.RowKit
def byC (x : Int) : List C := [.sc (.int .u8 x)]
def byR (l : List Int) : List (List C) := l.map byC
def byte (l : List Int) (k : Nat) : Int := l.getD k 0
@[go_sem] theorem byC_length (x : Int) : (byC x).length = 1 := rfl
@[go_sem] theorem byC_0 (x : Int) : (byC x)[0]? = some (.sc (.int .u8 x)) := rfl
@[go_sem] theorem byR_length (l : List Int) : (byR l).length = l.length := by simp [byR]
@[go_sem] theorem byR_at (l : List Int) (i : Nat) : (byR l)[i]? = match decide ((i : Int) < (l.length : Int)) with | true => some (byC (byte l i)) | false => none := by
  by_cases h : i < l.length
  · have h' : (i : Int) < (l.length : Int) := by omega
    simp [byR, byte, h, h']
  · have h' : ¬ (i : Int) < (l.length : Int) := by omega
    simp [byR, h, h']
@[go_sem] theorem byR_tree (l : List Int) : treeRows (byR l) = true := by
  simp [byR, treeRows, treeL, byC, C.tree]
@[go_sem] theorem byR_len (l : List Int) : rowsLen 1 (byR l) = true := by
  simp [byR, rowsLen, byC]
/-- bytes -/
structure Bs (l : List Int) : Prop where
  len : l.length ≤ 2000
  all : ∀ k, 0 ≤ byte l k ∧ byte l k < 256
theorem i64_xor' (a b : Nat) (ha : a < 9223372036854775808) (hb : b < 9223372036854775808) : IntKind.i64.wrap ((BitVec.ofInt 64 (a : Int) ^^^ BitVec.ofInt 64 (b : Int)).toNat : Int) = ((a ^^^ b : Nat) : Int) := by
  have hx : a ^^^ b < 2 ^ 63 := Nat.xor_lt_two_pow (by omega) (by omega)
  rw [BitVec.toNat_xor, ofInt_u64 a (by omega), ofInt_u64 b (by omega), IntKind.wrap_i64]
  omega
end Go.Proofs.Sh
namespace Go.Proofs.Ytfgjiamolknicaa
open Go.RowKit Go.Proofs.Sh
set_option maxRecDepth 100000
set_option maxHeartbeats 4000000
theorem pick (bs : List Int) (hB : Bs bs) (p : Nat) (hp : p < 1099511627776) (n : Int) (hn1 : -1099511627776 ≤ n) (hn2 : n ≤ 1099511627776) :
    ACl Try.prog 60 [.one (.ptr 2 0 0 0), .one (.sc (.int .i64 n))] [(⟨2, 106, .mut, [[.sl (byR bs), .sc (.int .i64 ((p : Nat) : Int))]]⟩ : Blk)] (fun r H' => ∃ z : Int, r = .one (.sc (.int .i64 z)) ∧ 0 ≤ z ∧ (z < n ∨ z = 0) ∧ H' = [(⟨2, 106, .mut, [[.sl (byR bs), .sc (.int .i64 ((p + 1 : Nat) : Int))]]⟩ : Blk)]) := by
  have wq : IntKind.i64.wrap ((p : Int) + 1) = ((p + 1 : Nat) : Int) := by rw [IntWalk.i64_in _ (by omega)]; omega
  have wr : IntKind.i64.wrap (((p + 1 : Nat) : Int) - 1) = (p : Int) := by rw [IntWalk.i64_in _ (by omega)]; omega
  by_cases hz : n < 1
  · have hd : decide (n < 1) = true := by simp [hz]
    refine acl_in Try.func60 rfl isfn_60 (Nat.le_of_ble_eq_true rfl) (fun R hR => ?_); rw [Try.results60] at hR; refine wg_run ?_; (simp only [Try.f60, go_sem, hd, wq])
    exact hR _ (rat [] (hK := ⟨0, rfl, Int.le_refl _, .inr rfl, rfl⟩))
  · have hd : decide (n < 1) = false := by simp; omega
    have hl := hB.len
    by_cases hm : bs.length = 0
    · have hm1 : (((bs.length : Nat) : Int) == 0) = true := by simp [hm]
      refine acl_in Try.func60 rfl isfn_60 (Nat.le_of_ble_eq_true rfl) (fun R hR => ?_); rw [Try.results60] at hR; refine wg_run ?_; (simp only [Try.f60, go_sem, hd, wq, hm1])
      exact hR _ (rat [] (hK := ⟨0, rfl, Int.le_refl _, .inr rfl, rfl⟩))
    · have hm1 : (((bs.length : Nat) : Int) == 0) = false := by rw [beq_eq_false_iff_ne]; omega
      have hn0 : decide (n = 0) = false := by simp; omega
      have hn00 : (n == 0) = false := by simp; omega
      by_cases hpl : p < bs.length
      · have hpp : decide ((p : Int) < (bs.length : Int)) = true := by simp; omega
        have hb := hB.all p
        have wx : IntKind.i64.wrap (byte bs p) = byte bs p := IntWalk.i64_in _ (by omega)
        have hrem : 0 ≤ (byte bs p).tmod n ∧ (byte bs p).tmod n < n := ⟨Int.tmod_nonneg _ hb.1, Int.tmod_lt_of_pos _ (by omega)⟩
        refine acl_in Try.func60 rfl isfn_60 (Nat.le_of_ble_eq_true rfl) (fun R hR => ?_); rw [Try.results60] at hR; refine wg_run ?_; (simp only [Try.f60, go_sem, hd, wq, hm1, wr, hpp, wx, hn0])
        exact hR _ (rat [] (hK := ⟨_, rfl, hrem.1, .inl hrem.2, rfl⟩))
      · have hpp : decide ((p : Int) < (bs.length : Int)) = false := by simp; omega
        have hm0 : decide (((bs.length : Nat) : Int) = 0) = false := by rw [decide_eq_false_iff_not]; omega
        have hx := hB.all (p % bs.length)
        have hy := hB.all ((p * 7 + 3) % bs.length)
        have t1 : (p : Int).tmod (bs.length : Int) = ((p % bs.length : Nat) : Int) := by rw [Int.tmod_eq_emod_of_nonneg (by omega)]; simp
        have t2 : ((p : Int) * 7 + 3).tmod (bs.length : Int) = (((p * 7 + 3) % bs.length : Nat) : Int) := by rw [Int.tmod_eq_emod_of_nonneg (by omega)]; simp
        have t3 : (p : Int).tdiv (bs.length : Int) = ((p / bs.length : Nat) : Int) := by rw [Int.tdiv_eq_ediv_of_nonneg (by omega)]; simp
        have g1 : decide (((p % bs.length : Nat) : Int) < (bs.length : Int)) = true := by have := Nat.mod_lt p (show 0 < bs.length by omega); simp only [decide_eq_true_eq]; omega
        have g2 : decide ((((p * 7 + 3) % bs.length : Nat) : Int) < (bs.length : Int)) = true := by have := Nat.mod_lt (p * 7 + 3) (show 0 < bs.length by omega); simp only [decide_eq_true_eq]; omega
        have hdv : p / bs.length ≤ p := Nat.div_le_self _ _
        generalize hxe : byte bs (p % bs.length) = x at *
        generalize hye : byte bs ((p * 7 + 3) % bs.length) = y at *
        generalize hdd : p / bs.length = dd at *
        have w1 : IntKind.i64.wrap ((p : Int) * 7) = (p : Int) * 7 := IntWalk.i64_in _ (by omega)
        have w2 : IntKind.i64.wrap ((p : Int) * 7 + 3) = (p : Int) * 7 + 3 := IntWalk.i64_in _ (by omega)
        have w3 : IntKind.i64.wrap (x * 131) = x * 131 := IntWalk.i64_in _ (by omega)
        have w4 : IntKind.i64.wrap (y * 1117) = y * 1117 := IntWalk.i64_in _ (by omega)
        have w5 : IntKind.i64.wrap (x * 131 + y * 1117) = x * 131 + y * 1117 := IntWalk.i64_in _ (by omega)
        have w6 : IntKind.i64.wrap ((p : Int) * 29) = (p : Int) * 29 := IntWalk.i64_in _ (by omega)
        have w7 : IntKind.i64.wrap (x * 131 + y * 1117 + (p : Int) * 29) = x * 131 + y * 1117 + (p : Int) * 29 := IntWalk.i64_in _ (by omega)
        have w8 : IntKind.i64.wrap ((dd : Int) * 53) = (dd : Int) * 53 := IntWalk.i64_in _ (by omega)
        have w9 : IntKind.i64.wrap (x * 131 + y * 1117 + (p : Int) * 29 + (dd : Int) * 53) = x * 131 + y * 1117 + (p : Int) * 29 + (dd : Int) * 53 := IntWalk.i64_in _ (by omega)
        have wx : IntKind.i64.wrap x = x := IntWalk.i64_in _ (by omega)
        have wy : IntKind.i64.wrap y = y := IntWalk.i64_in _ (by omega)
        have wd : IntKind.i64.wrap (dd : Int) = (dd : Int) := IntWalk.i64_in _ (by omega)
        obtain ⟨s, hs, hs2⟩ : ∃ s : Nat, x * 131 + y * 1117 + (p : Int) * 29 + (dd : Int) * 53 = (s : Int) ∧ s < 4611686018427387904 := ⟨(x * 131 + y * 1117 + (p : Int) * 29 + (dd : Int) * 53).toNat, by omega, by omega⟩
        have t4 : (s : Int).tdiv 64 = ((s / 64 : Nat) : Int) := by rw [Int.tdiv_eq_ediv_of_nonneg (by omega)]; simp
        have w10 : IntKind.i64.wrap ((s / 64 : Nat) : Int) = ((s / 64 : Nat) : Int) := IntWalk.i64_in _ (by omega)
        have w11 : IntKind.i64.wrap (s : Int) = (s : Int) := IntWalk.i64_in _ (by omega)
        have hxo : IntKind.i64.wrap ((BitVec.ofInt 64 (s : Int) ^^^ BitVec.ofInt 64 ((s / 64 : Nat) : Int)).toNat : Int) = ((s ^^^ (s / 64) : Nat) : Int) := i64_xor' s (s / 64) (by omega) (by omega)
        generalize hze : s ^^^ (s / 64) = z at *
        have hrem : 0 ≤ (z : Int).tmod n ∧ (z : Int).tmod n < n := ⟨Int.tmod_nonneg _ (by omega), Int.tmod_lt_of_pos _ (by omega)⟩
        refine acl_in Try.func60 rfl isfn_60 (Nat.le_of_ble_eq_true rfl) (fun R hR => ?_); rw [Try.results60] at hR; refine wg_run ?_; (simp only [Try.f60, go_sem, hd, wq, hm1, wr, hpp])
        refine wd_mix 0 [] follows (by kernel_rfl) (by (simp only [go_sem]); first | done | rfl) ?_
        (simp only [go_sem, hm0, hxe, hye, t1, t2, t3, g1, g2, w1, w2, w3, w4, w5, w6, w7, w8, w9, wx, wy, wd, hs])
        refine wm_done ?_
        (simp only [go_sem, hn0, t4, w10, w11, hxo])
        refine hR _ (rat [] (hK := ⟨_, rfl, ?_, .inl ?_, rfl⟩))
        · have h := hrem.1; rw [← hxo] at h; exact h
        · have h := hrem.2; rw [← hxo] at h; exact h
/-- whole numbers as rows of a slice -/
theorem num (bs : List Int) (hB : Bs bs) (p : Nat) (hp : p < 1099511627776) (l : List Int) (h1 : 0 < l.length) (h2 : l.length < 1000) :
    ACl Try.prog 59 [.one (.ptr 2 0 0 0), .one (.sl (l.map fun x => [.sc (.int .i64 x)]))] [(⟨2, 106, .mut, [[.sl (byR bs), .sc (.int .i64 ((p : Nat) : Int))]]⟩ : Blk)] (fun r H' => ∃ z : Int, r = .one (.sc (.int .i64 z)) ∧ z ∈ l ∧ H' = [(⟨2, 106, .mut, [[.sl (byR bs), .sc (.int .i64 ((p + 1 : Nat) : Int))]]⟩ : Blk)]) := by
  have hk := pick bs hB p hp (l.length : Nat) (by omega) (by omega)
  refine acl_in Try.func59 rfl isfn_59 (Nat.le_of_ble_eq_true rfl) (fun R hR => ?_); rw [Try.results59] at hR; refine wg_run ?_; (simp only [Try.f59, go_sem, List.length_map])
  refine wd_cl [0] (by (simp only [go_sem]); first | done | rfl) hk ?_
  rintro _ _ ⟨z, rfl, hz0, hz1, rfl⟩
  obtain ⟨z, rfl⟩ := Int.eq_ofNat_of_zero_le hz0
  have hz : z < l.length := by omega
  have hm : (l.map fun x => [C.sc (.int .i64 x)])[z]? = some [C.sc (.int .i64 l[z])] := by simp [hz]
  have hz2 : decide ((0 : Int) ≤ (z : Int)) = true := by simp
  (simp only [go_sem, hm, hz2])
  exact hR _ (rat [] (hK := ⟨_, rfl, List.getElem_mem hz, rfl⟩))
end Go.Proofs.Ytfgjiamolknicaa
/- Types: the relations of subtyping, on shadows. -/
namespace Go.Proofs.Sh
open Go.Proofs.Grad
@[go_sem] theorem ty_any_kind : T.any.ty.kind = 1 := rfl
@[go_sem] theorem ty_int_kind : T.int.ty.kind = 2 := rfl
@[go_sem] theorem ty_bool_kind : T.bool.ty.kind = 3 := rfl
@[go_sem] theorem ty_fn_kind (a b : T) : (T.fn a b).ty.kind = 4 := rfl
@[go_sem] theorem ty_pr_kind (a b : T) : (T.pr a b).ty.kind = 5 := rfl
@[go_sem] theorem ty_any_kids : T.any.ty.kids = [] := rfl
@[go_sem] theorem ty_int_kids : T.int.ty.kids = [] := rfl
@[go_sem] theorem ty_bool_kids : T.bool.ty.kids = [] := rfl
@[go_sem] theorem ty_fn_kids (a b : T) : (T.fn a b).ty.kids = [a.ty, b.ty] := rfl
@[go_sem] theorem ty_pr_kids (a b : T) : (T.pr a b).ty.kids = [a.ty, b.ty] := rfl
attribute [go_sem] T.ground
end Go.Proofs.Sh
namespace Go.Proofs.Ytfgjiamolknicaa
open Go.RowKit Go.Proofs.Sh Go.Proofs.Grad
set_option maxRecDepth 100000
set_option maxHeartbeats 4000000
theorem l1Any : AFn Try.prog 94 [] (.agg (tyC T.any.ty)) := by
  refine fn_in ?_; refine acl_in Try.func94 rfl isfn_94 (Nat.le_of_ble_eq_true rfl) (fun R hR => ?_); rw [Try.results94] at hR; refine wg_run ?_; (simp only [Try.f94, go_sem])
  (refine hR _ (rat [] (hK := ⟨rfl, rfl⟩)))
theorem base (k : Int) : AFn Try.prog 92 [.one (.sc (.int .i64 k))] (.agg (tyC (.mk k []))) := by
  refine fn_in ?_; refine acl_in Try.func92 rfl isfn_92 (Nat.le_of_ble_eq_true rfl) (fun R hR => ?_); rw [Try.results92] at hR; refine wg_run ?_; (simp only [Try.f92, go_sem])
  (refine hR _ (rat [] (hK := ⟨rfl, rfl⟩)))
theorem both (k : Int) (a b : Ty) : AFn Try.prog 155 [.one (.sc (.int .i64 k)), .agg (tyC a), .agg (tyC b)] (.agg (tyC (.mk k [a, b]))) := by
  refine fn_in ?_; refine acl_in Try.func155 rfl isfn_155 (Nat.le_of_ble_eq_true rfl) (fun R hR => ?_); rw [Try.results155] at hR; refine wg_run ?_; (simp only [Try.f155, go_sem])
  (refine hR _ (rat [] (hK := ⟨rfl, rfl⟩)))
end Go.Proofs.Ytfgjiamolknicaa
