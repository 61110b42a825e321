/- Texts of the proof, one behind another. -/
import Derived.Test.YtnaebafafhamjaaKZ7
import Derived.Test.YtnaebafafhamjaaKZ8
set_option linter.unusedSimpArgs false
set_option linter.unusedVariables false
/- Types as trees: plain functions and laws. No program, no world. -/
namespace Go.Proofs.Grad

inductive Ty where
  | mk (kind : Int) (kids : List Ty)

def Ty.kind : Ty → Int | .mk k _ => k
def Ty.kids : Ty → List Ty | .mk _ l => l

mutual
def Ty.size : Ty → Nat
  | .mk _ l => 1 + Ty.sizes l
def Ty.sizes : List Ty → Nat
  | [] => 0
  | t :: l => t.size + Ty.sizes l
end

theorem Ty.sizes_mem {t : Ty} {l : List Ty} (h : t ∈ l) : t.size ≤ Ty.sizes l := by
  induction l with
  | nil => cases h
  | cons x l ih =>
    simp only [Ty.sizes]
    rcases List.mem_cons.1 h with rfl | h
    · omega
    · have := ih h; omega
theorem Ty.length_le_sizes (l : List Ty) : l.length ≤ Ty.sizes l := by
  induction l with
  | nil => simp
  | cons x l ih => cases x; simp only [Ty.sizes, Ty.size, List.length_cons]; omega

theorem Ty.kid_lt {l : List Ty} {k : Nat} (h : k < l.length) : Ty.sizes l[k].kids < Ty.sizes l := by
  have h1 := Ty.sizes_mem (List.getElem_mem h)
  generalize l[k] = t at *
  cases t
  simp only [Ty.size, Ty.kids] at *
  omega


mutual
def Ty.same : Ty → Ty → Bool
  | .mk k l, .mk k' l' => k == k' && Ty.sames l l'
def Ty.sames : List Ty → List Ty → Bool
  | [], [] => true
  | t :: l, t' :: l' => t.same t' && Ty.sames l l'
  | [], _ :: _ => false
  | _ :: _, [] => false
end
mutual
theorem Ty.same_iff : ∀ a b : Ty, a.same b = true ↔ a = b
  | .mk k l, .mk k' l' => by simp [Ty.same, Ty.sames_iff l l']
theorem Ty.sames_iff : ∀ a b : List Ty, Ty.sames a b = true ↔ a = b
  | [], [] => by simp [Ty.sames]
  | t :: l, t' :: l' => by simp [Ty.sames, Ty.same_iff t t', Ty.sames_iff l l']
  | [], _ :: _ => by simp [Ty.sames]
  | _ :: _, [] => by simp [Ty.sames]
end
theorem Ty.same_eq (a b : Ty) : a.same b = (a.kind == b.kind && Ty.sames a.kids b.kids) := by cases a; cases b; rfl
theorem Ty.same_refl (a : Ty) : a.same a = true := (Ty.same_iff a a).2 rfl
/-- a relation, element by element -/
def all2 (f : Ty → Ty → Bool) : List Ty → List Ty → Bool
  | [], [] => true
  | t :: l, t' :: l' => f t t' && all2 f l l'
  | [], _ :: _ => false
  | _ :: _, [] => false
theorem Ty.sames_all2 : ∀ a b : List Ty, Ty.sames a b = all2 Ty.same a b
  | [], [] => rfl
  | t :: l, t' :: l' => by simp [Ty.sames, all2, Ty.sames_all2 l l']
  | [], _ :: _ => rfl
  | _ :: _, [] => rfl
theorem all2_drop {f : Ty → Ty → Bool} {a b : List Ty} {i : Nat} (ha : i < a.length) (hb : i < b.length) : all2 f (a.drop i) (b.drop i) = (f a[i] b[i] && all2 f (a.drop (i + 1)) (b.drop (i + 1))) := by
  rw [List.drop_eq_getElem_cons ha, List.drop_eq_getElem_cons hb, all2]
theorem all2_len {f : Ty → Ty → Bool} : ∀ {a b : List Ty}, a.length ≠ b.length → all2 f a b = false
  | [], [], h => by simp at h
  | t :: l, t' :: l', h => by simp [all2, all2_len (f := f) (a := l) (b := l') (by simpa using h)]
  | [], _ :: _, _ => rfl
  | _ :: _, [], _ => rfl

/-! ### Validity -/
def kidsN (k : Int) : Int := if k = 1 ∨ k = 2 ∨ k = 3 then 0 else if k = 4 ∨ k = 5 then 2 else -1
def Ty.shape : Nat → Ty → Bool
  | 0, _ => false
  | d + 1, t => (kidsN t.kind == (t.kids.length : Int)) && t.kids.all (Ty.shape d)
def Ty.valid (t : Ty) : Bool := t.shape 4

/-- valid types -/
inductive T where
  | any | int | bool
  | fn (a b : T)
  | pr (a b : T)
  deriving DecidableEq, Repr
def T.kind : T → Int | .any => 1 | .int => 2 | .bool => 3 | .fn _ _ => 4 | .pr _ _ => 5
def T.kids : T → List T | .fn a b => [a, b] | .pr a b => [a, b] | _ => []
def T.ty : T → Ty
  | .any => .mk 1 [] | .int => .mk 2 [] | .bool => .mk 3 []
  | .fn a b => .mk 4 [a.ty, b.ty] | .pr a b => .mk 5 [a.ty, b.ty]
def T.depth : T → Nat
  | .fn a b => max a.depth b.depth + 1 | .pr a b => max a.depth b.depth + 1 | _ => 1
def T.size : T → Nat
  | .fn a b => a.size + b.size + 1 | .pr a b => a.size + b.size + 1 | _ => 1
theorem T.ty_size (t : T) : t.ty.size = t.size := by
  induction t <;> simp [T.ty, Ty.size, Ty.sizes, T.size, *] <;> omega
theorem T.ty_inj : ∀ a b : T, a.ty = b.ty → a = b := by
  intro a
  induction a with
  | any => intro b h; cases b <;> simp [T.ty] at h ⊢
  | int => intro b h; cases b <;> simp [T.ty] at h ⊢
  | bool => intro b h; cases b <;> simp [T.ty] at h ⊢
  | fn x y hx hy => intro b h; cases b <;> simp [T.ty] at h ⊢; exact ⟨hx _ h.1, hy _ h.2⟩
  | pr x y hx hy => intro b h; cases b <;> simp [T.ty] at h ⊢; exact ⟨hx _ h.1, hy _ h.2⟩

theorem T.shape_ty : ∀ (t : T) (d : Nat), t.ty.shape d = decide (t.depth ≤ d)
  | .any, d => by cases d <;> simp [T.ty, Ty.shape, kidsN, Ty.kind, Ty.kids, T.depth]
  | .int, d => by cases d <;> simp [T.ty, Ty.shape, kidsN, Ty.kind, Ty.kids, T.depth]
  | .bool, d => by cases d <;> simp [T.ty, Ty.shape, kidsN, Ty.kind, Ty.kids, T.depth]
  | .fn a b, d => by
    cases d with
    | zero => simp [Ty.shape, T.depth]
    | succ d => simp [T.ty, Ty.shape, kidsN, Ty.kind, Ty.kids, T.depth, T.shape_ty a d, T.shape_ty b d, Nat.max_le]
  | .pr a b, d => by
    cases d with
    | zero => simp [Ty.shape, T.depth]
    | succ d => simp [T.ty, Ty.shape, kidsN, Ty.kind, Ty.kids, T.depth, T.shape_ty a d, T.shape_ty b d, Nat.max_le]

theorem Ty.shape_T : ∀ (d : Nat) (t : Ty), t.shape d = true → ∃ x : T, x.ty = t ∧ x.depth ≤ d
  | 0, t, h => by simp [Ty.shape] at h
  | d + 1, .mk k l, h => by
    simp only [Ty.shape, Ty.kind, Ty.kids, Bool.and_eq_true, beq_iff_eq, List.all_eq_true] at h
    obtain ⟨h1, h2⟩ := h
    unfold kidsN at h1
    split at h1
    · rename_i hk
      have : l = [] := List.eq_nil_of_length_eq_zero (by omega)
      subst this
      rcases hk with rfl | rfl | rfl
      · exact ⟨.any, rfl, by simp [T.depth]⟩
      · exact ⟨.int, rfl, by simp [T.depth]⟩
      · exact ⟨.bool, rfl, by simp [T.depth]⟩
    · split at h1
      · rename_i hk
        match l, h1 with
        | [a, b], _ =>
          obtain ⟨x, hx, dx⟩ := Ty.shape_T d a (h2 a (by simp))
          obtain ⟨y, hy, dy⟩ := Ty.shape_T d b (h2 b (by simp))
          subst hx hy
          rcases hk with rfl | rfl
          · exact ⟨.fn x y, rfl, by simp [T.depth]; omega⟩
          · exact ⟨.pr x y, rfl, by simp [T.depth]; omega⟩
        | [], h1 => simp at h1
        | [_], h1 => simp at h1
        | _ :: _ :: _ :: _, h1 => simp at h1; omega
      · omega

theorem Ty.valid_iff (t : Ty) : t.valid = true ↔ ∃ x : T, x.ty = t ∧ x.depth ≤ 4 :=
  ⟨Ty.shape_T 4 t, fun ⟨x, hx, hd⟩ => by subst hx; simp [Ty.valid, T.shape_ty, hd]⟩

/-! ### Relations on valid types -/
def T.ground : T → T | .fn _ _ => .fn .any .any | .pr _ _ => .pr .any .any | t => t
def T.cons : T → T → Bool
  | .any, _ => true | _, .any => true
  | .int, .int => true | .bool, .bool => true
  | .fn a b, .fn c d => a.cons c && b.cons d
  | .pr a b, .pr c d => a.cons c && b.cons d
  | _, _ => false
def T.prec : T → T → Bool
  | _, .any => true
  | .int, .int => true | .bool, .bool => true
  | .fn a b, .fn c d => a.prec c && b.prec d
  | .pr a b, .pr c d => a.prec c && b.prec d
  | _, _ => false
mutual
def T.pos : T → T → Bool
  | _, .any => true
  | .int, .int => true | .bool, .bool => true
  | .fn a b, .fn c d => T.neg c a && T.pos b d
  | .pr a b, .pr c d => T.pos a c && T.pos b d
  | _, _ => false
termination_by a b => a.size + b.size
decreasing_by all_goals (simp only [T.size]; omega)
/-- against the unknown type as against the ground type -/
def T.neg : T → T → Bool
  | .any, _ => true
  | .fn a b, .any => T.pos .any a && T.neg b .any
  | .pr a b, .any => T.neg a .any && T.neg b .any
  | .int, .any => true | .bool, .any => true
  | .int, .int => true | .bool, .bool => true
  | .fn a b, .fn c d => T.pos c a && T.neg b d
  | .pr a b, .pr c d => T.neg a c && T.neg b d
  | _, _ => false
termination_by a b => a.size + b.size
decreasing_by all_goals (simp only [T.size]; omega)
end
def T.sub : T → T → Bool
  | .any, .any => true
  | .any, _ => false
  | .fn a b, .any => T.sub .any a && T.sub b .any
  | .pr a b, .any => T.sub a .any && T.sub b .any
  | .int, .any => true | .bool, .any => true
  | .int, .int => true | .bool, .bool => true
  | .fn a b, .fn c d => T.sub c a && T.sub b d
  | .pr a b, .pr c d => T.sub a c && T.sub b d
  | _, _ => false
termination_by a b => a.size + b.size
decreasing_by all_goals (simp only [T.size]; omega)
def T.count : T → Nat
  | .any => 1 | .fn a b => a.count + b.count | .pr a b => a.count + b.count | _ => 0

mutual
def Ty.cons : Ty → Ty → Bool
  | .mk k l, .mk k' l' => k == 1 || (k' == 1 || (k == k' && Ty.conss l l'))
def Ty.conss : List Ty → List Ty → Bool
  | [], [] => true
  | t :: l, t' :: l' => t.cons t' && Ty.conss l l'
  | [], _ :: _ => false
  | _ :: _, [] => false
end
theorem Ty.conss_all2 : ∀ a b : List Ty, Ty.conss a b = all2 Ty.cons a b
  | [], [] => rfl
  | t :: l, t' :: l' => by simp [Ty.conss, all2, Ty.conss_all2 l l']
  | [], _ :: _ => rfl
  | _ :: _, [] => rfl
theorem Ty.cons_eq (a b : Ty) : a.cons b = (a.kind == 1 || (b.kind == 1 || (a.kind == b.kind && all2 Ty.cons a.kids b.kids))) := by
  cases a; cases b; simp [Ty.cons, Ty.conss_all2, Ty.kind, Ty.kids]
mutual
def Ty.prec : Ty → Ty → Bool
  | .mk k l, .mk k' l' => k' == 1 || (k == k' && Ty.precs l l')
def Ty.precs : List Ty → List Ty → Bool
  | [], [] => true
  | t :: l, t' :: l' => t.prec t' && Ty.precs l l'
  | [], _ :: _ => false
  | _ :: _, [] => false
end
theorem Ty.precs_all2 : ∀ a b : List Ty, Ty.precs a b = all2 Ty.prec a b
  | [], [] => rfl
  | t :: l, t' :: l' => by simp [Ty.precs, all2, Ty.precs_all2 l l']
  | [], _ :: _ => rfl
  | _ :: _, [] => rfl
theorem Ty.prec_eq (a b : Ty) : a.prec b = (b.kind == 1 || (a.kind == b.kind && all2 Ty.prec a.kids b.kids)) := by
  cases a; cases b; simp [Ty.prec, Ty.precs_all2, Ty.kind, Ty.kids]
theorem T.cons_ty (a : T) : ∀ b : T, a.ty.cons b.ty = a.cons b := by
  induction a with
  | any => intro b; cases b <;> rfl
  | int => intro b; cases b <;> rfl
  | bool => intro b; cases b <;> rfl
  | fn x y hx hy => intro b; cases b <;> simp [T.ty, Ty.cons, Ty.conss, T.cons, hx, hy]
  | pr x y hx hy => intro b; cases b <;> simp [T.ty, Ty.cons, Ty.conss, T.cons, hx, hy]
theorem T.prec_ty (a : T) : ∀ b : T, a.ty.prec b.ty = a.prec b := by
  induction a with
  | any => intro b; cases b <;> rfl
  | int => intro b; cases b <;> rfl
  | bool => intro b; cases b <;> rfl
  | fn x y hx hy => intro b; cases b <;> simp [T.ty, Ty.prec, Ty.precs, T.prec, hx, hy]
  | pr x y hx hy => intro b; cases b <;> simp [T.ty, Ty.prec, Ty.precs, T.prec, hx, hy]
/- how many nodes are unknown; below an unknown node none is looked at -/
mutual
def Ty.count : Ty → Nat
  | .mk k l => if k = 1 then 1 else Ty.counts l
def Ty.counts : List Ty → Nat
  | [] => 0
  | t :: l => t.count + Ty.counts l
end
end Go.Proofs.Grad
/- Types as shadows. -/
namespace Go.Proofs.Sh
open Go.RowKit Go.Proofs.Grad

mutual
def tyC : Ty → List C
  | .mk k l => [.sc (.int .i64 k), .sl (tyR l)]
def tyR : List Ty → List (List C)
  | [] => []
  | t :: l => tyC t :: tyR l
end
theorem tyC_eq (t : Ty) : tyC t = [.sc (.int .i64 t.kind), .sl (tyR t.kids)] := by cases t; rfl
@[go_sem] theorem tyC_length (t : Ty) : (tyC t).length = 2 := by rw [tyC_eq]; rfl
@[go_sem] theorem tyC_0 (t : Ty) : (tyC t)[0]? = some (.sc (.int .i64 t.kind)) := by rw [tyC_eq]; rfl
@[go_sem] theorem tyC_1 (t : Ty) : (tyC t)[1]? = some (.sl (tyR t.kids)) := by rw [tyC_eq]; rfl
@[go_sem] theorem tyC_take (t : Ty) : (tyC t).take 2 = tyC t := by rw [tyC_eq]; rfl
@[go_sem] theorem tyC_drop2 (t : Ty) : (tyC t).drop 2 = [] := by rw [tyC_eq]; rfl
@[go_sem] theorem tyC_tree (t : Ty) : (tyC t).all C.tree = true := by rw [tyC_eq]; rfl
@[go_sem] theorem tyC_treeL (t : Ty) : treeL (tyC t) = true := by rw [tyC_eq]; rfl
@[go_sem] theorem tyR_length (l : List Ty) : (tyR l).length = l.length := by
  induction l with
  | nil => rfl
  | cons t l ih => simp [tyR, ih]
theorem tyR_get (l : List Ty) (i : Nat) : (tyR l)[i]? = (l[i]?).map tyC := by
  induction l generalizing i with
  | nil => simp [tyR]
  | cons t l ih => cases i <;> simp [tyR, ih]
@[go_sem] theorem tyC_splice1 (t : Ty) (x : C) : splice (tyC t) 1 [x] = [.sc (.int .i64 t.kind), x] := by rw [tyC_eq]; rfl
@[go_sem] theorem tyC_splice0 (t : Ty) (x : C) : splice (tyC t) 0 [x] = [x, .sl (tyR t.kids)] := by rw [tyC_eq]; rfl
@[go_sem] theorem tyC_splice2 (t : Ty) (x y : C) : splice (tyC t) 0 [x, y] = [x, y] := by rw [tyC_eq]; rfl
/-- the k-th one of a list of types -/
def kid (l : List Ty) (k : Nat) : Ty := l.getD k (.mk 0 [])
theorem kid_eq {l : List Ty} {k : Nat} (h : k < l.length) : kid l k = l[k] := by simp [kid, h]
@[go_sem] theorem tyR_at (l : List Ty) (i : Nat) : (tyR l)[i]? = match decide ((i : Int) < (l.length : Int)) with | true => some (tyC (kid l i)) | false => none := by
  rw [tyR_get]
  by_cases h : i < l.length
  · have h' : (i : Int) < (l.length : Int) := by omega
    simp [h, h', kid]
  · have h' : ¬ (i : Int) < (l.length : Int) := by omega
    simp [h, h']
theorem kid_lt {t : Ty} {k : Nat} (h : k < t.kids.length) : (kid t.kids k).size < t.size := by
  rw [kid_eq h]
  have := Ty.sizes_mem (List.getElem_mem h)
  cases t; simp only [Ty.size, Ty.kids] at *; omega
theorem take_kid {l : List Ty} {k : Nat} (h : k < l.length) : l.take (k + 1) = l.take k ++ [kid l k] := by
  rw [kid_eq h, List.take_succ_eq_append_getElem h]
theorem drop_kid {l : List Ty} {k : Nat} (h : k < l.length) : l.drop k = kid l k :: l.drop (k + 1) := by
  rw [kid_eq h, List.drop_eq_getElem_cons h]
theorem tyR_take {l : List Ty} {k : Nat} (h : k < l.length) : tyR (l.take (k + 1)) = tyR (l.take k) ++ [tyC (kid l k)] := by
  rw [take_kid h]
  induction l.take k with
  | nil => rfl
  | cons x m ih => simp only [List.cons_append, tyR, ih]
@[go_sem] theorem tyR_tree (l : List Ty) : treeRows (tyR l) = true := by
  induction l with
  | nil => rfl
  | cons t l ih =>
    simp only [treeRows, tyR, List.all_cons, tyC_treeL, Bool.true_and]
    exact ih
@[go_sem] theorem tyR_len (l : List Ty) : rowsLen 2 (tyR l) = true := by
  induction l with
  | nil => rfl
  | cons t l ih =>
    simp only [rowsLen, tyR, List.all_cons, tyC_length, beq_self_eq_true, Bool.true_and]
    exact ih
theorem tyR_append (l m : List Ty) : tyR (l ++ m) = tyR l ++ tyR m := by
  induction l with
  | nil => rfl
  | cons t l ih => simp [tyR, ih]
attribute [go_sem] tyR
end Go.Proofs.Sh
/- Types: the reference's functions, on shadows. -/
namespace Go.Proofs.Ytnaebafafhamjaa
open Go.RowKit Go.Proofs.Sh Go.Proofs.Grad
set_option maxRecDepth 100000
set_option maxHeartbeats 1000000
@[go_sem] theorem kind_mk (k : Int) (l : List Ty) : (Ty.mk k l).kind = k := rfl
@[go_sem] theorem kids_mk (k : Int) (l : List Ty) : (Ty.mk k l).kids = l := rfl
theorem l1Kids (k : Int) : AFn Try.prog 134 [.one (.sc (.int .i64 k))] (.one (.sc (.int .i64 (kidsN k)))) := by
  refine fn_in ?_; refine acl_in Try.func134 rfl isfn_134 (Nat.le_of_ble_eq_true rfl) (fun R hR => ?_); rw [Try.results134] at hR; refine wg_run ?_; (simp only [Try.f134, go_sem])
  repeat' (first | (((first | apply sp1 | apply sp2 | apply sp3 | apply sp4 | apply sp5 | apply sp6 | apply sp7) <;> intro hb) <;> (simp only [go_sem, hb])) | ((first | apply wm_done | apply wt_done | apply wg_run | refine fk ?_ ?_) <;> (simp only [go_sem])))
  all_goals (refine hR _ (rat [] (hK := ⟨?_, rfl⟩)))
  all_goals simp_all [kidsN]
@[go_sem] theorem kidsN_1 : kidsN 1 = 0 := rfl
@[go_sem] theorem kidsN_2 : kidsN 2 = 0 := rfl
@[go_sem] theorem kidsN_3 : kidsN 3 = 0 := rfl
@[go_sem] theorem kidsN_4 : kidsN 4 = 2 := rfl
@[go_sem] theorem kidsN_5 : kidsN 5 = 2 := rfl
theorem l1Shape (m : Nat) (hm : m ≤ 4) : ∀ t : Ty, AFn Try.prog 138 [.agg (tyC t), .one (.sc (.int .i64 m))] (.one (.sc (.bool (t.shape m)))) := by
  induction m with
  | zero =>
    intro t
    refine fn_in ?_; refine acl_in Try.func138 rfl isfn_138 (Nat.le_of_ble_eq_true rfl) (fun R hR => ?_); rw [Try.results138] at hR; refine wg_run ?_; (simp only [Try.f138, go_sem])
    (refine wd_mix 0 [] follows (by kernel_rfl) (by (simp only [go_sem]); first | done | rfl) ?_; (simp only [go_sem]))
    repeat' (first | (((first | apply sp1 | apply sp2 | apply sp3 | apply sp4 | apply sp5 | apply sp6 | apply sp7) <;> intro hb) <;> (simp only [go_sem, hb])) | ((first | apply wm_done | apply wt_done | apply wg_run | refine fk ?_ ?_) <;> (simp only [go_sem])))
    all_goals (refine hR _ (rat [] (hK := ⟨?_, rfl⟩)))
    all_goals rfl
  | succ m ih =>
    intro t
    have hd : decide ((((m + 1 : Nat) : Int) < 1)) = false := by simp; omega
    have hw : IntKind.i64.wrap (((m + 1 : Nat) : Int) - 1) = (m : Int) := by rw [IntWalk.i64_in _ (by omega)]; omega
    refine fn_in ?_; refine acl_in Try.func138 rfl isfn_138 (Nat.le_of_ble_eq_true rfl) (fun R hR => ?_); rw [Try.results138] at hR; refine wg_run ?_; (simp only [Try.f138, go_sem])
    (refine wd_mix 0 [] follows (by kernel_rfl) (by (simp only [go_sem]); first | done | rfl) ?_; (simp only [go_sem]))
    (simp only [go_sem, hd])
    (first | refine cdq ?_ (hc := l1Kids _) | refine cmq ?_ (hc := l1Kids _) | refine ctq ?_ (hc := l1Kids _)); (simp only [go_sem])
    repeat' (first | (((first | apply sp1 | apply sp2 | apply sp3 | apply sp4 | apply sp5 | apply sp6 | apply sp7) <;> intro hb) <;> (simp only [go_sem, hb])) | ((first | apply wm_done | apply wt_done | apply wg_run | refine fk ?_ ?_) <;> (simp only [go_sem])))
    · (refine hR _ (rat [] (hK := ⟨?_, rfl⟩)))
      simp_all [Ty.shape]
    · refine wd_for [1, 2, 5] (fun k => [.one (.sc (.int .i64 ((m + 1 : Nat) : Int))), .one (.ptr 2 0 0 0), .one (.sc (.int .i64 (k : Nat)))]) (fun k => [⟨2, 25, .mut, [tyC t]⟩])
        (fun k => k ≤ t.kids.length ∧ (t.kids.drop k).all (Ty.shape m) = t.shape (m + 1)) (fun k => t.kids.length - k) 0 ⟨Nat.zero_le _, ?_⟩ (hat [0] (hI := ⟨rfl, rfl⟩)) ?_
      · clear hR
        simp_all [Ty.shape]
      rintro k ⟨hk, hs⟩ G hG
      refine wg_run ?_
      (simp only [go_sem])
      have hl : t.kids.length < 3 := by simp [kidsN] at hb; split at hb <;> try split at hb
                                        all_goals omega
      ((first | apply sp1 | apply sp2 | apply sp3 | apply sp4 | apply sp5 | apply sp6 | apply sp7) <;> intro hb) <;> (simp only [go_sem, hb, hw])
      · have hk1 : k < t.kids.length := by have := of_decide_eq_true hb; omega
        rw [drop_kid hk1, List.all_cons] at hs
        have hw1 := wrap_succ hk1 (by omega)
        (first | refine cdq ?_ (hc := ih (by omega) _) | refine cmq ?_ (hc := ih (by omega) _) | refine ctq ?_ (hc := ih (by omega) _)); (simp only [go_sem])
        repeat' (first | (simp only [go_sem, hw1]) | (((first | apply sp1 | apply sp2 | apply sp3 | apply sp4 | apply sp5 | apply sp6 | apply sp7) <;> intro hb) <;> (simp only [go_sem, hb, hw1])) | ((first | apply wm_done | apply wt_done | apply wg_run | refine fk ?_ ?_) <;> (simp only [go_sem, hw1])))
        · exact hG (k + 1) _ _ ⟨by omega, by simpa [hb] using hs⟩ (by omega) (hat [0] (hI := ⟨rfl, rfl⟩))
        · (refine hR _ (rat [] (hK := ⟨?_, rfl⟩)))
          simpa [hb] using hs
      · have hk1 : ¬ k < t.kids.length := by have := of_decide_eq_false hb; omega
        rw [List.drop_eq_nil_of_le (by omega)] at hs
        (refine hR _ (rat [] (hK := ⟨?_, rfl⟩)))
        simpa using hs
theorem sValid (t : Ty) : AFn Try.prog 99 [.agg (tyC t)] (.one (.sc (.bool t.valid))) := by
  refine fn_in ?_; refine acl_in Try.func99 rfl isfn_99 (Nat.le_of_ble_eq_true rfl) (fun R hR => ?_); rw [Try.results99] at hR; refine wg_run ?_; (simp only [Try.f99, go_sem])
  repeat' (first | (first | (((first | apply sp1 | apply sp2 | apply sp3 | apply sp4 | apply sp5 | apply sp6 | apply sp7) <;> intro hb) <;> (simp only [go_sem, hb])) | ((first | apply wm_done | apply wt_done | apply wg_run | refine fk ?_ ?_) <;> (simp only [go_sem]))) | (first | refine cdq ?_ (hc := l1Shape 4 (by omega) _) | refine cmq ?_ (hc := l1Shape 4 (by omega) _) | refine ctq ?_ (hc := l1Shape 4 (by omega) _)); (simp only [go_sem]))
  (refine hR _ (rat [] (hK := ⟨?_, rfl⟩)))
  rfl
end Go.Proofs.Ytnaebafafhamjaa
/- Types: the relations of subtyping, on shadows. -/
namespace Go.Proofs.Sh
open Go.Proofs.Grad
@[go_sem] theorem ty_any_kind : T.any.ty.kind = 1 := rfl
@[go_sem] theorem ty_int_kind : T.int.ty.kind = 2 := rfl
@[go_sem] theorem ty_bool_kind : T.bool.ty.kind = 3 := rfl
@[go_sem] theorem ty_fn_kind (a b : T) : (T.fn a b).ty.kind = 4 := rfl
@[go_sem] theorem ty_pr_kind (a b : T) : (T.pr a b).ty.kind = 5 := rfl
@[go_sem] theorem ty_any_kids : T.any.ty.kids = [] := rfl
@[go_sem] theorem ty_int_kids : T.int.ty.kids = [] := rfl
@[go_sem] theorem ty_bool_kids : T.bool.ty.kids = [] := rfl
@[go_sem] theorem ty_fn_kids (a b : T) : (T.fn a b).ty.kids = [a.ty, b.ty] := rfl
@[go_sem] theorem ty_pr_kids (a b : T) : (T.pr a b).ty.kids = [a.ty, b.ty] := rfl
attribute [go_sem] T.ground
end Go.Proofs.Sh
namespace Go.Proofs.Ytnaebafafhamjaa
open Go.RowKit Go.Proofs.Sh Go.Proofs.Grad
set_option maxRecDepth 100000
set_option maxHeartbeats 4000000
theorem l1Any : AFn Try.prog 87 [] (.agg (tyC T.any.ty)) := by
  refine fn_in ?_; refine acl_in Try.func87 rfl isfn_87 (Nat.le_of_ble_eq_true rfl) (fun R hR => ?_); rw [Try.results87] at hR; refine wg_run ?_; (simp only [Try.f87, go_sem])
  (refine hR _ (rat [] (hK := ⟨rfl, rfl⟩)))
theorem base (k : Int) : AFn Try.prog 179 [.one (.sc (.int .i64 k))] (.agg (tyC (.mk k []))) := by
  refine fn_in ?_; refine acl_in Try.func179 rfl isfn_179 (Nat.le_of_ble_eq_true rfl) (fun R hR => ?_); rw [Try.results179] at hR; refine wg_run ?_; (simp only [Try.f179, go_sem])
  (refine hR _ (rat [] (hK := ⟨rfl, rfl⟩)))
theorem both (k : Int) (a b : Ty) : AFn Try.prog 93 [.one (.sc (.int .i64 k)), .agg (tyC a), .agg (tyC b)] (.agg (tyC (.mk k [a, b]))) := by
  refine fn_in ?_; refine acl_in Try.func93 rfl isfn_93 (Nat.le_of_ble_eq_true rfl) (fun R hR => ?_); rw [Try.results93] at hR; refine wg_run ?_; (simp only [Try.f93, go_sem])
  (refine hR _ (rat [] (hK := ⟨rfl, rfl⟩)))
end Go.Proofs.Ytnaebafafhamjaa
/- Types: copies, on shadows. -/
namespace Go.Proofs.Ytnaebafafhamjaa
open Go.RowKit Go.Proofs.Sh Go.Proofs.Grad
set_option maxRecDepth 100000
set_option maxHeartbeats 4000000
theorem l1Copy (n : Nat) (hn : n ≤ 4398046511104) : ∀ t : Ty, t.size < n → AFn Try.prog 98 [.agg (tyC t)] (.agg (tyC t)) := by
  induction n with
  | zero => intro t h; omega
  | succ n ih =>
    intro t h
    have hl : t.kids.length < 4398046511104 := by have := Ty.length_le_sizes t.kids; cases t; simp only [Ty.size, Ty.kids] at *; omega
    refine fn_in ?_; refine acl_in Try.func98 rfl isfn_98 (Nat.le_of_ble_eq_true rfl) (fun R hR => ?_); rw [Try.results98] at hR; refine wg_run ?_; (simp only [Try.f98, go_sem])
    refine wd_for [1, 2, 3, 4] (fun k => [.one (.ptr 2 0 0 0), .one (.ptr 2 1 0 0), .one (.ptr 2 2 0 0), .one (.sc (.int .i64 (k : Nat)))])
      (fun k => [⟨2, 25, .mut, [tyC t]⟩, ⟨2, 25, .mut, [[.sc (.int .i64 0), .sc (.slice none 0 0)]]⟩] ++ (match k with | 0 => [⟨2, 25, .mut, [[.sc (.int .i64 t.kind), .sc (.slice none 0 0)]]⟩] | k + 1 => [⟨2, 25, .mut, [[.sc (.int .i64 t.kind), .row 2 3 (k + 1)]]⟩, ⟨2, 25, .mut, tyR (t.kids.take (k + 1))⟩]))
      (fun k => k ≤ t.kids.length) (fun k => t.kids.length - k) 0 (Nat.zero_le _) (hat [0, 1, 2] (hI := ⟨rfl, rfl⟩)) ?_
    rintro (_ | k) hk G hG
    · refine wg_run ?_
      (simp only [go_sem])
      ((first | apply sp1 | apply sp2 | apply sp3 | apply sp4 | apply sp5 | apply sp6 | apply sp7) <;> intro hb) <;> (simp only [go_sem, hb])
      · have hk1 : 0 < t.kids.length := by have := of_decide_eq_true hb; omega
        ((first | refine mxq6 [] ?_ | refine mxq5 [] ?_ | refine mxq4 [] ?_ | refine mxq3 [] ?_ | refine mxq2 [] ?_ | refine mxq1 [] ?_ | refine mxq0 [] ?_ | fail); (simp only [go_sem]))
        (simp only [go_sem, hb])
        (first | refine cdq ?_ (hc := ih (by omega) _ (by have := kid_lt hk1; omega)) | refine cmq ?_ (hc := ih (by omega) _ (by have := kid_lt hk1; omega)) | refine ctq ?_ (hc := ih (by omega) _ (by have := kid_lt hk1; omega))); (simp only [go_sem])
        repeat' (first | (((first | apply sp1 | apply sp2 | apply sp3 | apply sp4 | apply sp5 | apply sp6 | apply sp7) <;> intro hb) <;> (simp only [go_sem, hb])) | ((first | apply wm_done | apply wt_done | apply wg_run | refine fk ?_ ?_) <;> (simp only [go_sem])))
        refine hG 1 _ _ (by omega) (by omega) (hat [0, 1, 2, 4] (hI := ⟨rfl, ?_⟩))
        simp only [tyR_take hk1, List.take_zero, tyR, List.nil_append, List.cons_append]
      · have hk1 : t.kids = [] := by have := of_decide_eq_false hb; exact List.eq_nil_of_length_eq_zero (by omega)
        (refine hR _ (rat [] (hK := ⟨?_, rfl⟩)))
        rw [tyC_eq, hk1]; rfl
    · refine wg_run ?_
      have hw1 : k + 1 < t.kids.length → IntKind.i64.wrap (((k + 1 : Nat) : Int) + 1) = ((k + 1 + 1 : Nat) : Int) := fun h => wrap_succ h (by omega)
      (simp only [go_sem])
      ((first | apply sp1 | apply sp2 | apply sp3 | apply sp4 | apply sp5 | apply sp6 | apply sp7) <;> intro hb) <;> (simp only [go_sem, hb])
      · have hk1 : k + 1 < t.kids.length := by have := of_decide_eq_true hb; omega
        have hw1 := hw1 hk1
        ((first | refine mxq6 [] ?_ | refine mxq5 [] ?_ | refine mxq4 [] ?_ | refine mxq3 [] ?_ | refine mxq2 [] ?_ | refine mxq1 [] ?_ | refine mxq0 [] ?_ | fail); (simp only [go_sem]))
        (simp only [go_sem, hb])
        have hlen : (t.kids.take (k + 1)).length = k + 1 := by rw [List.length_take]; omega
        have hcap : (k + 1 + 1) * 32 ≤ 140737488355328 := by omega
        (first | refine cdq ?_ (hc := ih (by omega) _ (by have := kid_lt hk1; omega)) | refine cmq ?_ (hc := ih (by omega) _ (by have := kid_lt hk1; omega)) | refine ctq ?_ (hc := ih (by omega) _ (by have := kid_lt hk1; omega))); (simp only [go_sem])
        repeat' (first | (simp only [go_sem, hlen, hcap, hw1]) | (((first | apply sp1 | apply sp2 | apply sp3 | apply sp4 | apply sp5 | apply sp6 | apply sp7) <;> intro hb) <;> (simp only [go_sem, hb, hlen, hcap, hw1])) | ((first | apply wm_done | apply wt_done | apply wg_run | refine fk ?_ ?_) <;> (simp only [go_sem, hlen, hcap, hw1])))
        refine hG (k + 2) _ _ (by omega) (by omega) (hat [0, 1, 2, 5] (hI := ⟨rfl, ?_⟩))
        rw [← tyR_take hk1]
        rfl
      · have hk1 : t.kids.take (k + 1) = t.kids := by have := of_decide_eq_false hb; exact List.take_of_length_le (by omega)
        have hlen : t.kids.length = k + 1 := by have := of_decide_eq_false hb; omega
        rw [hk1]
        (refine hR _ (ret_at [] (by (simp only [go_sem, hlen]); first | done | rfl) (by (simp only [go_sem, hlen]); first | done | rfl) ⟨?_, rfl⟩))
        rw [tyC_eq]
/-- a copy, its uppermost slice its own -/
def OwnTy (t : Ty) (r : AV) (H' : List Blk) : Prop := (t.kids = [] ∧ r = .agg [.sc (.int .i64 t.kind), .sc (.slice none 0 0)] ∧ H' = []) ∨ (0 < t.kids.length ∧ r = .agg [.sc (.int .i64 t.kind), .row 2 0 t.kids.length] ∧ H' = [⟨2, 25, .mut, tyR t.kids⟩])
theorem l1CopyO (n : Nat) (hn : n ≤ 4398046511104) (t : Ty) (h : t.size < n) : ACl Try.prog 98 [.agg (tyC t)] [] (OwnTy t) := by
  have ih := l1Copy n hn
  have hl : t.kids.length < 4398046511104 := by have := Ty.length_le_sizes t.kids; cases t; simp only [Ty.size, Ty.kids] at *; omega
  refine acl_in Try.func98 rfl isfn_98 (Nat.le_of_ble_eq_true rfl) (fun R hR => ?_); rw [Try.results98] at hR; refine wg_run ?_; (simp only [Try.f98, go_sem])
  refine wd_for [1, 2, 3, 4] (fun k => [.one (.ptr 2 0 0 0), .one (.ptr 2 1 0 0), .one (.ptr 2 2 0 0), .one (.sc (.int .i64 (k : Nat)))])
    (fun k => [⟨2, 25, .mut, [tyC t]⟩, ⟨2, 25, .mut, [[.sc (.int .i64 0), .sc (.slice none 0 0)]]⟩] ++ (match k with | 0 => [⟨2, 25, .mut, [[.sc (.int .i64 t.kind), .sc (.slice none 0 0)]]⟩] | k + 1 => [⟨2, 25, .mut, [[.sc (.int .i64 t.kind), .row 2 3 (k + 1)]]⟩, ⟨2, 25, .mut, tyR (t.kids.take (k + 1))⟩]))
    (fun k => k ≤ t.kids.length) (fun k => t.kids.length - k) 0 (Nat.zero_le _) (hat [0, 1, 2] (hI := ⟨rfl, rfl⟩)) ?_
  rintro (_ | k) hk G hG
  · refine wg_run ?_
    (simp only [go_sem])
    ((first | apply sp1 | apply sp2 | apply sp3 | apply sp4 | apply sp5 | apply sp6 | apply sp7) <;> intro hb) <;> (simp only [go_sem, hb])
    · have hk1 : 0 < t.kids.length := by have := of_decide_eq_true hb; omega
      ((first | refine mxq6 [] ?_ | refine mxq5 [] ?_ | refine mxq4 [] ?_ | refine mxq3 [] ?_ | refine mxq2 [] ?_ | refine mxq1 [] ?_ | refine mxq0 [] ?_ | fail); (simp only [go_sem]))
      (simp only [go_sem, hb])
      (first | refine cdq ?_ (hc := ih _ (by have := kid_lt hk1; omega)) | refine cmq ?_ (hc := ih _ (by have := kid_lt hk1; omega)) | refine ctq ?_ (hc := ih _ (by have := kid_lt hk1; omega))); (simp only [go_sem])
      repeat' (first | (((first | apply sp1 | apply sp2 | apply sp3 | apply sp4 | apply sp5 | apply sp6 | apply sp7) <;> intro hb) <;> (simp only [go_sem, hb])) | ((first | apply wm_done | apply wt_done | apply wg_run | refine fk ?_ ?_) <;> (simp only [go_sem])))
      refine hG 1 _ _ (by omega) (by omega) (hat [0, 1, 2, 4] (hI := ⟨rfl, ?_⟩))
      simp only [tyR_take hk1, List.take_zero, tyR, List.nil_append, List.cons_append]
    · have hk1 : t.kids = [] := by have := of_decide_eq_false hb; exact List.eq_nil_of_length_eq_zero (by omega)
      exact hR _ (rwn [] (hK := (.inl ⟨hk1, rfl, rfl⟩)))
  · refine wg_run ?_
    have hw1 : k + 1 < t.kids.length → IntKind.i64.wrap (((k + 1 : Nat) : Int) + 1) = ((k + 1 + 1 : Nat) : Int) := fun h => wrap_succ h (by omega)
    (simp only [go_sem])
    ((first | apply sp1 | apply sp2 | apply sp3 | apply sp4 | apply sp5 | apply sp6 | apply sp7) <;> intro hb) <;> (simp only [go_sem, hb])
    · have hk1 : k + 1 < t.kids.length := by have := of_decide_eq_true hb; omega
      have hw1 := hw1 hk1
      ((first | refine mxq6 [] ?_ | refine mxq5 [] ?_ | refine mxq4 [] ?_ | refine mxq3 [] ?_ | refine mxq2 [] ?_ | refine mxq1 [] ?_ | refine mxq0 [] ?_ | fail); (simp only [go_sem]))
      (simp only [go_sem, hb])
      have hlen : (t.kids.take (k + 1)).length = k + 1 := by rw [List.length_take]; omega
      have hcap : (k + 1 + 1) * 32 ≤ 140737488355328 := by omega
      (first | refine cdq ?_ (hc := ih _ (by have := kid_lt hk1; omega)) | refine cmq ?_ (hc := ih _ (by have := kid_lt hk1; omega)) | refine ctq ?_ (hc := ih _ (by have := kid_lt hk1; omega))); (simp only [go_sem])
      repeat' (first | (simp only [go_sem, hlen, hcap, hw1]) | (((first | apply sp1 | apply sp2 | apply sp3 | apply sp4 | apply sp5 | apply sp6 | apply sp7) <;> intro hb) <;> (simp only [go_sem, hb, hlen, hcap, hw1])) | ((first | apply wm_done | apply wt_done | apply wg_run | refine fk ?_ ?_) <;> (simp only [go_sem, hlen, hcap, hw1])))
      refine hG (k + 2) _ _ (by omega) (by omega) (hat [0, 1, 2, 5] (hI := ⟨rfl, ?_⟩))
      rw [← tyR_take hk1]
      rfl
    · have hk1 : t.kids.take (k + 1) = t.kids := by have := of_decide_eq_false hb; exact List.take_of_length_le (by omega)
      have hlen : t.kids.length = k + 1 := by have := of_decide_eq_false hb; omega
      rw [hk1]
      exact hR _ (ret_own [3] (by (simp only [go_sem, hlen]); first | done | rfl) (by (simp only [go_sem, hlen]); first | done | rfl) (.inr ⟨by omega, by rw [hlen], rfl⟩))
end Go.Proofs.Ytnaebafafhamjaa
/- The reference's draws of types, on shadows. -/
namespace Go.Proofs.Ytnaebafafhamjaa
open Go.RowKit Go.Proofs.Sh Go.Proofs.Grad
set_option maxRecDepth 100000
set_option maxHeartbeats 4000000
/-- a draw: of a type of depth at most d, at a cost of at most c -/
def DrawsT (bs : List Int) (p c d : Nat) (r : AV) (H' : List Blk) : Prop := ∃ (x : T) (p' : Nat), r = .agg (tyC x.ty) ∧ x.depth ≤ d ∧ p' ≤ p + c ∧ H' = [(⟨2, 83, .mut, [[.sl (byR bs), .sc (.int .i64 ((p' : Nat) : Int))]]⟩ : Blk)]
theorem l1Draw1 (bs : List Int) (hB : Bs bs) (p : Nat) (hp : p < 1099511627776) : ACl Try.prog 80 [.one (.ptr 2 0 0 0), .one (.sc (.int .i64 1))] [(⟨2, 83, .mut, [[.sl (byR bs), .sc (.int .i64 ((p : Nat) : Int))]]⟩ : Blk)] (DrawsT bs p 2 1) := by
  have hk := num bs hB p hp [2, 1, 4, 3, 5, 2, 4] (by decide) (by decide)
  refine acl_in Try.func80 rfl isfn_80 (Nat.le_of_ble_eq_true rfl) (fun R hR => ?_); rw [Try.results80] at hR; refine wg_run ?_; (simp only [Try.f80, go_sem])
  refine wd_cl [0] (by (simp only [go_sem]); first | done | rfl) hk ?_
  clear hk
  rintro _ _ ⟨z, rfl, hz, rfl⟩
  simp only [List.mem_cons, List.not_mem_nil, or_false] at hz
  rcases hz with rfl | rfl | rfl | rfl | rfl | rfl | rfl
  all_goals
    (simp only [go_sem])
    repeat' (first | (first | (((first | apply sp1 | apply sp2 | apply sp3 | apply sp4 | apply sp5 | apply sp6 | apply sp7) <;> intro hb) <;> (simp only [go_sem, hb])) | ((first | apply wm_done | apply wt_done | apply wg_run | refine fk ?_ ?_) <;> (simp only [go_sem]))) | (first | refine cdq ?_ (hc := l1Kids _) | refine cmq ?_ (hc := l1Kids _) | refine ctq ?_ (hc := l1Kids _)); (simp only [go_sem]) | (first | (refine wl_next (wg_run ?_); (simp only [go_sem])) | refine wd_rounds 6 ?_) | ((first | refine mxq6 [0] ?_ | refine mxq5 [0] ?_ | refine mxq4 [0] ?_ | refine mxq3 [0] ?_ | refine mxq2 [0] ?_ | refine mxq1 [0] ?_ | refine mxq0 [0] ?_ | fail); (simp only [go_sem])))
    first
      | exact hR _ (rat [] (hK := ⟨.any, p + 1, rfl, by decide, by omega, rfl⟩))
      | exact hR _ (rat [] (hK := ⟨.int, p + 1, rfl, by decide, by omega, rfl⟩))
      | exact hR _ (rat [] (hK := ⟨.bool, p + 1, rfl, by decide, by omega, rfl⟩))
theorem l1DrawN (bs : List Int) (hB : Bs bs) (d c : Nat) (hd : 1 ≤ d) (hd4 : d ≤ 4) (M : Nat) (hM : M + c + 2 ≤ 1099511627776) (ih : ∀ p, p < M + c + 2 → ACl Try.prog 80 [.one (.ptr 2 0 0 0), .one (.sc (.int .i64 (d : Nat)))] [(⟨2, 83, .mut, [[.sl (byR bs), .sc (.int .i64 ((p : Nat) : Int))]]⟩ : Blk)] (DrawsT bs p c d)) :
    ∀ p, p < M → ACl Try.prog 80 [.one (.ptr 2 0 0 0), .one (.sc (.int .i64 ((d + 1 : Nat) : Int)))] [(⟨2, 83, .mut, [[.sl (byR bs), .sc (.int .i64 ((p : Nat) : Int))]]⟩ : Blk)] (DrawsT bs p (1 + 2 * c) (d + 1)) := by
  intro p hp
  have hd2 : decide (((d + 1 : Nat) : Int) < 2) = false := by simp; omega
  have hw : IntKind.i64.wrap (((d + 1 : Nat) : Int) - 1) = (d : Int) := by rw [IntWalk.i64_in _ (by omega)]; omega
  have hk := num bs hB p (by omega) [2, 1, 4, 3, 5, 2, 4] (by decide) (by decide)
  refine acl_in Try.func80 rfl isfn_80 (Nat.le_of_ble_eq_true rfl) (fun R hR => ?_); rw [Try.results80] at hR; refine wg_run ?_; (simp only [Try.f80, go_sem])
  refine wd_cl [0] (by (simp only [go_sem]); first | done | rfl) hk ?_
  clear hk
  rintro _ _ ⟨z, rfl, hz, rfl⟩
  simp only [List.mem_cons, List.not_mem_nil, or_false] at hz
  rcases hz with rfl | rfl | rfl | rfl | rfl | rfl | rfl
  all_goals
    (simp only [go_sem, hd2])
    repeat' (first | (first | (((first | apply sp1 | apply sp2 | apply sp3 | apply sp4 | apply sp5 | apply sp6 | apply sp7) <;> intro hb) <;> (simp only [go_sem, hb])) | ((first | apply wm_done | apply wt_done | apply wg_run | refine fk ?_ ?_) <;> (simp only [go_sem]))) | (first | refine cdq ?_ (hc := l1Kids _) | refine cmq ?_ (hc := l1Kids _) | refine ctq ?_ (hc := l1Kids _)); (simp only [go_sem]) | (first | (refine wl_next (wg_run ?_); (simp only [go_sem])) | refine wd_rounds 6 ?_) | ((first | refine mxq6 [0] ?_ | refine mxq5 [0] ?_ | refine mxq4 [0] ?_ | refine mxq3 [0] ?_ | refine mxq2 [0] ?_ | refine mxq1 [0] ?_ | refine mxq0 [0] ?_ | fail); (simp only [go_sem])))
  all_goals
    first
      | exact hR _ (rat [] (hK := ⟨.any, p + 1, rfl, by simp [T.depth], by omega, rfl⟩))
      | exact hR _ (rat [] (hK := ⟨.int, p + 1, rfl, by simp [T.depth], by omega, rfl⟩))
      | exact hR _ (rat [] (hK := ⟨.bool, p + 1, rfl, by simp [T.depth], by omega, rfl⟩))
      | skip
  all_goals
    (simp only [go_sem, hw])
    ((first | refine kdq [0] ?_ (hc := ih _ (by omega)) | refine kmq [0] ?_ (hc := ih _ (by omega)) | refine ktq [0] ?_ (hc := ih _ (by omega))); rintro _ _ ⟨x1, p1, rfl, hx1, hp1, rfl⟩; (simp only [go_sem]))
    repeat' (first | (first | (((first | apply sp1 | apply sp2 | apply sp3 | apply sp4 | apply sp5 | apply sp6 | apply sp7) <;> intro hb) <;> (simp only [go_sem, hb])) | ((first | apply wm_done | apply wt_done | apply wg_run | refine fk ?_ ?_) <;> (simp only [go_sem]))) | (first | refine cdq ?_ (hc := l1Kids _) | refine cmq ?_ (hc := l1Kids _) | refine ctq ?_ (hc := l1Kids _)); (simp only [go_sem]) | (first | (refine wl_next (wg_run ?_); (simp only [go_sem])) | refine wd_rounds 6 ?_) | ((first | refine mxq6 [0] ?_ | refine mxq5 [0] ?_ | refine mxq4 [0] ?_ | refine mxq3 [0] ?_ | refine mxq2 [0] ?_ | refine mxq1 [0] ?_ | refine mxq0 [0] ?_ | fail); (simp only [go_sem])))
    (simp only [go_sem, hw])
    ((first | refine kdq [0] ?_ (hc := ih _ (by omega)) | refine kmq [0] ?_ (hc := ih _ (by omega)) | refine ktq [0] ?_ (hc := ih _ (by omega))); rintro _ _ ⟨x2, p2, rfl, hx2, hp2, rfl⟩; (simp only [go_sem]))
    repeat' (first | (first | (((first | apply sp1 | apply sp2 | apply sp3 | apply sp4 | apply sp5 | apply sp6 | apply sp7) <;> intro hb) <;> (simp only [go_sem, hb])) | ((first | apply wm_done | apply wt_done | apply wg_run | refine fk ?_ ?_) <;> (simp only [go_sem]))) | (first | refine cdq ?_ (hc := l1Kids _) | refine cmq ?_ (hc := l1Kids _) | refine ctq ?_ (hc := l1Kids _)); (simp only [go_sem]) | (first | (refine wl_next (wg_run ?_); (simp only [go_sem])) | refine wd_rounds 6 ?_) | ((first | refine mxq6 [0] ?_ | refine mxq5 [0] ?_ | refine mxq4 [0] ?_ | refine mxq3 [0] ?_ | refine mxq2 [0] ?_ | refine mxq1 [0] ?_ | refine mxq0 [0] ?_ | fail); (simp only [go_sem])))
    first
      | exact hR _ (rat [] (hK := ⟨.fn x1 x2, p2, rfl, by simp only [T.depth]; omega, by omega, rfl⟩))
      | exact hR _ (rat [] (hK := ⟨.pr x1 x2, p2, rfl, by simp only [T.depth]; omega, by omega, rfl⟩))
theorem DrawsT.mono {bs : List Int} {p c d c' d' : Nat} {r : AV} {H' : List Blk} (h : DrawsT bs p c d r H') (hc : c ≤ c') (hd : d ≤ d') : DrawsT bs p c' d' r H' := by
  obtain ⟨x, p', h1, h2, h3, h4⟩ := h
  exact ⟨x, p', h1, by omega, by omega, h4⟩
/-- a draw of a type of depth at most d costs at most 23 -/
theorem l1Draw (bs : List Int) (hB : Bs bs) (d : Nat) (hd : 1 ≤ d) (hd4 : d ≤ 4) (p : Nat) (hp : p < 1000000000) : ACl Try.prog 80 [.one (.ptr 2 0 0 0), .one (.sc (.int .i64 (d : Nat)))] [(⟨2, 83, .mut, [[.sl (byR bs), .sc (.int .i64 ((p : Nat) : Int))]]⟩ : Blk)] (DrawsT bs p 23 d) := by
  have h1 : ∀ p, p < 1000001000 → ACl Try.prog 80 [.one (.ptr 2 0 0 0), .one (.sc (.int .i64 ((1 : Nat) : Int)))] [(⟨2, 83, .mut, [[.sl (byR bs), .sc (.int .i64 ((p : Nat) : Int))]]⟩ : Blk)] (DrawsT bs p 2 1) := fun p hp => l1Draw1 bs hB p (by omega)
  have h2 := l1DrawN bs hB 1 2 (by omega) (by omega) 1000000900 (by omega) (fun p hp => h1 p (by omega))
  have h3 := l1DrawN bs hB 2 5 (by omega) (by omega) 1000000800 (by omega) (fun p hp => h2 p (by omega))
  have h4 := l1DrawN bs hB 3 11 (by omega) (by omega) 1000000000 (by omega) (fun p hp => h3 p (by omega))
  obtain rfl | rfl | rfl | rfl : d = 1 ∨ d = 2 ∨ d = 3 ∨ d = 4 := by omega
  · exact (h1 p (by omega)).mono fun r H' h => h.mono (by omega) (by omega)
  · exact (h2 p (by omega)).mono fun r H' h => h.mono (by omega) (by omega)
  · exact (h3 p (by omega)).mono fun r H' h => h.mono (by omega) (by omega)
  · exact (h4 p hp).mono fun r H' h => h.mono (by omega) (by omega)
theorem l1Type (bs : List Int) (hB : Bs bs) (p : Nat) (hp : p < 999999000) : ACl Try.prog 86 [.one (.ptr 2 0 0 0)] [(⟨2, 83, .mut, [[.sl (byR bs), .sc (.int .i64 ((p : Nat) : Int))]]⟩ : Blk)] (DrawsT bs p 24 4) := by
  have hk := num bs hB p (by omega) [3, 2, 4, 1, 3] (by decide) (by decide)
  have hd : ∀ d : Nat, 1 ≤ d → d ≤ 4 → ∀ p, p < 1000000000 → ACl Try.prog 80 [.one (.ptr 2 0 0 0), .one (.sc (.int .i64 (d : Nat)))] [(⟨2, 83, .mut, [[.sl (byR bs), .sc (.int .i64 ((p : Nat) : Int))]]⟩ : Blk)] (DrawsT bs p 23 d) := fun d h1 h2 p hp => l1Draw bs hB d h1 h2 p hp
  refine acl_in Try.func86 rfl isfn_86 (Nat.le_of_ble_eq_true rfl) (fun R hR => ?_); rw [Try.results86] at hR; refine wg_run ?_; (simp only [Try.f86, go_sem])
  ((first | refine kdq [0] ?_ (hc := hk) | refine kmq [0] ?_ (hc := hk) | refine ktq [0] ?_ (hc := hk)); rintro _ _ ⟨z, rfl, hz, rfl⟩; (simp only [go_sem]))
  simp only [List.mem_cons, List.not_mem_nil, or_false] at hz
  obtain ⟨d, rfl, hd1, hd4⟩ : ∃ d : Nat, z = (d : Int) ∧ 1 ≤ d ∧ d ≤ 4 := ⟨z.toNat, by omega, by omega, by omega⟩
  ((first | refine kdq [0] ?_ (hc := hd d hd1 hd4 (p + 1) (by omega)) | refine kmq [0] ?_ (hc := hd d hd1 hd4 (p + 1) (by omega)) | refine ktq [0] ?_ (hc := hd d hd1 hd4 (p + 1) (by omega))); rintro _ _ ⟨x1, p1, rfl, hx1, hp1, rfl⟩; (simp only [go_sem]))
  exact hR _ (rat [] (hK := ⟨x1, p1, rfl, by omega, by omega, rfl⟩))
theorem tys (d : Nat) (x : T) (h : x.depth ≤ d) : x.size < 2 ^ d := by
  induction x generalizing d with
  | any | int | bool => simp only [T.depth, T.size] at *; exact Nat.one_lt_two_pow (by omega)
  | fn a b iha ihb | pr a b iha ihb =>
    simp only [T.depth, T.size] at *
    obtain ⟨d, rfl⟩ : ∃ e, d = e + 1 := ⟨d - 1, by omega⟩
    have := iha d (by omega); have := ihb d (by omega)
    rw [Nat.pow_succ]; omega
theorem sizes_append (l m : List Ty) : Ty.sizes (l ++ m) = Ty.sizes l + Ty.sizes m := by
  induction l with
  | nil => simp [Ty.sizes]
  | cons x l ih => simp only [List.cons_append, Ty.sizes, ih]; omega
/-- a draw of some type, not too large -/
def DrawsY (bs : List Int) (p c n : Nat) (r : AV) (H' : List Blk) : Prop := ∃ (x : Ty) (p' : Nat), r = .agg (tyC x) ∧ x.size ≤ n ∧ p' ≤ p + c ∧ H' = [(⟨2, 83, .mut, [[.sl (byR bs), .sc (.int .i64 ((p' : Nat) : Int))]]⟩ : Blk)]
theorem l1Mutate (bs : List Int) (hB : Bs bs) (p : Nat) (hp : p < 999999000) (t : Ty) (ht : t.size < 1000000) : ACl Try.prog 85 [.one (.ptr 2 0 0 0), .agg (tyC t)] [(⟨2, 83, .mut, [[.sl (byR bs), .sc (.int .i64 ((p : Nat) : Int))]]⟩ : Blk)] (DrawsY bs p 2 (t.size + 8)) := by
  have hc := l1CopyO 1000000 (by omega) t ht
  have hk := pick bs hB p (by omega) 40 (by omega) (by omega)
  have hl : t.kids.length < 1000000 := by have := Ty.length_le_sizes t.kids; cases t; simp only [Ty.size, Ty.kids] at *; omega
  have hn := num bs hB (p + 1) (by omega) [0, 6, 1, 4, -1] (by decide) (by decide)
  have hcap : (t.kids.length + 1) * 32 ≤ 140737488355328 := by omega
  obtain ⟨k, l⟩ := t
  simp only [Ty.kids, Ty.kind] at hl hcap
  refine acl_in Try.func85 rfl isfn_85 (Nat.le_of_ble_eq_true rfl) (fun R hR => ?_); rw [Try.results85] at hR; refine wg_run ?_; (simp only [Try.f85, go_sem])
  ((first | refine kdq [] ?_ (hc := hc) | refine kmq [] ?_ (hc := hc) | refine ktq [] ?_ (hc := hc)); rintro _ _ (⟨hk0, rfl, rfl⟩ | ⟨hk0, rfl, rfl⟩) <;> (simp only [go_sem]))
  · simp only [Ty.kids] at hk0
    subst hk0
    ((first | refine kdq [0] ?_ (hc := hk) | refine kmq [0] ?_ (hc := hk) | refine ktq [0] ?_ (hc := hk)); rintro _ _ ⟨z, rfl, hz, hz1, rfl⟩; (simp only [go_sem]))
    repeat' (first | (((first | apply sp1 | apply sp2 | apply sp3 | apply sp4 | apply sp5 | apply sp6 | apply sp7) <;> intro hb) <;> (simp only [go_sem, hb])) | ((first | apply wm_done | apply wt_done | apply wg_run | refine fk ?_ ?_) <;> (simp only [go_sem])))
    · ((first | refine kdq [0] ?_ (hc := hn) | refine kmq [0] ?_ (hc := hn) | refine ktq [0] ?_ (hc := hn)); rintro _ _ ⟨y, rfl, hy, rfl⟩; (simp only [go_sem]))
      exact hR _ (rat [] (hK := ⟨.mk y [], p + 2, rfl, by simp [Ty.size, Ty.sizes], by omega, rfl⟩))
    · ((first | refine mxq6 [0] ?_ | refine mxq5 [0] ?_ | refine mxq4 [0] ?_ | refine mxq3 [0] ?_ | refine mxq2 [0] ?_ | refine mxq1 [0] ?_ | refine mxq0 [0] ?_ | fail); (simp only [go_sem]))
      repeat' (first | (first | (((first | apply sp1 | apply sp2 | apply sp3 | apply sp4 | apply sp5 | apply sp6 | apply sp7) <;> intro hb) <;> (simp only [go_sem, hb])) | ((first | apply wm_done | apply wt_done | apply wg_run | refine fk ?_ ?_) <;> (simp only [go_sem]))) | (first | refine cdq ?_ (hc := l1Any) | refine cmq ?_ (hc := l1Any) | refine ctq ?_ (hc := l1Any)); (simp only [go_sem]))
      exact hR _ (rat [] (hK := ⟨.mk k [.mk 1 []], p + 1, rfl, by simp [Ty.size, Ty.sizes], by omega, rfl⟩))
    · repeat' (first | (first | (((first | apply sp1 | apply sp2 | apply sp3 | apply sp4 | apply sp5 | apply sp6 | apply sp7) <;> intro hb) <;> (simp only [go_sem, hb])) | ((first | apply wm_done | apply wt_done | apply wg_run | refine fk ?_ ?_) <;> (simp only [go_sem]))) | (first | (refine wl_next (wg_run ?_); (simp only [go_sem])) | refine wd_rounds 6 ?_) | (first | refine cdq ?_ (hc := l1Any) | refine cmq ?_ (hc := l1Any) | refine ctq ?_ (hc := l1Any)); (simp only [go_sem]) | ((first | refine mxq6 [0] ?_ | refine mxq5 [0] ?_ | refine mxq4 [0] ?_ | refine mxq3 [0] ?_ | refine mxq2 [0] ?_ | refine mxq1 [0] ?_ | refine mxq0 [0] ?_ | fail); (simp only [go_sem])))
      exact hR _ (rat [] (hK := ⟨.mk 4 [.mk 1 [], .mk 4 [.mk 1 [], .mk 4 [.mk 1 [], .mk 4 [.mk 1 [], .mk k []]]]], p + 1, rfl, by simp [Ty.size, Ty.sizes], by omega, rfl⟩))
    · exact hR _ (rat [] (hK := ⟨.mk k [], p + 1, rfl, by simp [Ty.size, Ty.sizes], by omega, rfl⟩))
  · simp only [Ty.kids] at hk0
    ((first | refine kdq [0] ?_ (hc := hk) | refine kmq [0] ?_ (hc := hk) | refine ktq [0] ?_ (hc := hk)); rintro _ _ ⟨z, rfl, hz, hz1, rfl⟩; (simp only [go_sem]))
    repeat' (first | (((first | apply sp1 | apply sp2 | apply sp3 | apply sp4 | apply sp5 | apply sp6 | apply sp7) <;> intro hb) <;> (simp only [go_sem, hb])) | ((first | apply wm_done | apply wt_done | apply wg_run | refine fk ?_ ?_) <;> (simp only [go_sem])))
    · ((first | refine kdq [0] ?_ (hc := hn) | refine kmq [0] ?_ (hc := hn) | refine ktq [0] ?_ (hc := hn)); rintro _ _ ⟨y, rfl, hy, rfl⟩; (simp only [go_sem]))
      exact hR _ (rat [] (hK := ⟨.mk y l, p + 2, rfl, by simp [Ty.size, Ty.sizes], by omega, rfl⟩))
    · ((first | refine mxq6 [0] ?_ | refine mxq5 [0] ?_ | refine mxq4 [0] ?_ | refine mxq3 [0] ?_ | refine mxq2 [0] ?_ | refine mxq1 [0] ?_ | refine mxq0 [0] ?_ | fail); (simp only [go_sem]))
      repeat' (first | (first | (simp only [go_sem, hcap]) | (((first | apply sp1 | apply sp2 | apply sp3 | apply sp4 | apply sp5 | apply sp6 | apply sp7) <;> intro hb) <;> (simp only [go_sem, hb, hcap])) | ((first | apply wm_done | apply wt_done | apply wg_run | refine fk ?_ ?_) <;> (simp only [go_sem, hcap]))) | (first | refine cdq ?_ (hc := l1Any) | refine cmq ?_ (hc := l1Any) | refine ctq ?_ (hc := l1Any)); (simp only [go_sem]))
      refine hR _ (rat [] (hK := ⟨Ty.mk k (l ++ [Ty.mk 1 []]), p + 1, ?_, ?_, by omega, rfl⟩))
      · rw [tyC_eq (Ty.mk k (l ++ [Ty.mk 1 []])), kind_mk, kids_mk, tyR_append]; rfl
      · simp only [Ty.size, sizes_append, Ty.sizes]; omega
    · repeat' (first | (first | (((first | apply sp1 | apply sp2 | apply sp3 | apply sp4 | apply sp5 | apply sp6 | apply sp7) <;> intro hb) <;> (simp only [go_sem, hb])) | ((first | apply wm_done | apply wt_done | apply wg_run | refine fk ?_ ?_) <;> (simp only [go_sem]))) | (first | (refine wl_next (wg_run ?_); (simp only [go_sem])) | refine wd_rounds 6 ?_) | (first | refine cdq ?_ (hc := l1Any) | refine cmq ?_ (hc := l1Any) | refine ctq ?_ (hc := l1Any)); (simp only [go_sem]) | ((first | refine mxq6 [0] ?_ | refine mxq5 [0] ?_ | refine mxq4 [0] ?_ | refine mxq3 [0] ?_ | refine mxq2 [0] ?_ | refine mxq1 [0] ?_ | refine mxq0 [0] ?_ | fail); (simp only [go_sem])))
      exact hR _ (rat [] (hK := ⟨.mk 4 [.mk 1 [], .mk 4 [.mk 1 [], .mk 4 [.mk 1 [], .mk 4 [.mk 1 [], .mk k l]]]], p + 1, rfl, by simp [Ty.size, Ty.sizes]; omega, by omega, rfl⟩))
    · exact hR _ (rat [] (hK := ⟨.mk k l, p + 1, rfl, by simp [Ty.size, Ty.sizes], by omega, rfl⟩))
end Go.Proofs.Ytnaebafafhamjaa
