/- Texts of the proof, one behind another. -/
import Derived.Laws.Strings
import Derived.WalkKit
import Derived.ProofKit
import Derived.Deep.AppendLies
set_option linter.unusedSimpArgs false
set_option linter.unusedVariables false
/- Types as trees: plain functions and laws. No program, no world. -/
namespace Go.Proofs.Grad

inductive Ty where
  | mk (kind : Int) (kids : List Ty)

def Ty.kind : Ty → Int | .mk k _ => k
def Ty.kids : Ty → List Ty | .mk _ l => l

mutual
def Ty.size : Ty → Nat
  | .mk _ l => 1 + Ty.sizes l
def Ty.sizes : List Ty → Nat
  | [] => 0
  | t :: l => t.size + Ty.sizes l
end

theorem Ty.sizes_mem {t : Ty} {l : List Ty} (h : t ∈ l) : t.size ≤ Ty.sizes l := by
  induction l with
  | nil => cases h
  | cons x l ih =>
    simp only [Ty.sizes]
    rcases List.mem_cons.1 h with rfl | h
    · omega
    · have := ih h; omega
theorem Ty.length_le_sizes (l : List Ty) : l.length ≤ Ty.sizes l := by
  induction l with
  | nil => simp
  | cons x l ih => cases x; simp only [Ty.sizes, Ty.size, List.length_cons]; omega

theorem Ty.kid_lt {l : List Ty} {k : Nat} (h : k < l.length) : Ty.sizes l[k].kids < Ty.sizes l := by
  have h1 := Ty.sizes_mem (List.getElem_mem h)
  generalize l[k] = t at *
  cases t
  simp only [Ty.size, Ty.kids] at *
  omega


theorem Ty.eta (t : Ty) : t = .mk t.kind t.kids := by cases t; rfl

/-! ### Equality -/
mutual
def Ty.same : Ty → Ty → Bool
  | .mk k l, .mk k' l' => k == k' && Ty.sames l l'
def Ty.sames : List Ty → List Ty → Bool
  | [], [] => true
  | t :: l, t' :: l' => t.same t' && Ty.sames l l'
  | [], _ :: _ => false
  | _ :: _, [] => false
end
mutual
theorem Ty.same_iff : ∀ a b : Ty, a.same b = true ↔ a = b
  | .mk k l, .mk k' l' => by simp [Ty.same, Ty.sames_iff l l']
theorem Ty.sames_iff : ∀ a b : List Ty, Ty.sames a b = true ↔ a = b
  | [], [] => by simp [Ty.sames]
  | t :: l, t' :: l' => by simp [Ty.sames, Ty.same_iff t t', Ty.sames_iff l l']
  | [], _ :: _ => by simp [Ty.sames]
  | _ :: _, [] => by simp [Ty.sames]
end
theorem Ty.same_eq (a b : Ty) : a.same b = (a.kind == b.kind && Ty.sames a.kids b.kids) := by cases a; cases b; rfl
theorem Ty.same_refl (a : Ty) : a.same a = true := (Ty.same_iff a a).2 rfl
theorem Ty.same_comm (a b : Ty) : a.same b = b.same a := by
  rw [Bool.eq_iff_iff, Ty.same_iff, Ty.same_iff]; exact eq_comm

/-- a relation, element by element -/
def all2 (f : Ty → Ty → Bool) : List Ty → List Ty → Bool
  | [], [] => true
  | t :: l, t' :: l' => f t t' && all2 f l l'
  | [], _ :: _ => false
  | _ :: _, [] => false
theorem Ty.sames_all2 : ∀ a b : List Ty, Ty.sames a b = all2 Ty.same a b
  | [], [] => rfl
  | t :: l, t' :: l' => by simp [Ty.sames, all2, Ty.sames_all2 l l']
  | [], _ :: _ => rfl
  | _ :: _, [] => rfl
theorem all2_drop {f : Ty → Ty → Bool} {a b : List Ty} {i : Nat} (ha : i < a.length) (hb : i < b.length) : all2 f (a.drop i) (b.drop i) = (f a[i] b[i] && all2 f (a.drop (i + 1)) (b.drop (i + 1))) := by
  rw [List.drop_eq_getElem_cons ha, List.drop_eq_getElem_cons hb, all2]
theorem all2_len {f : Ty → Ty → Bool} : ∀ {a b : List Ty}, a.length ≠ b.length → all2 f a b = false
  | [], [], h => by simp at h
  | t :: l, t' :: l', h => by simp [all2, all2_len (f := f) (a := l) (b := l') (by simpa using h)]
  | [], _ :: _, _ => rfl
  | _ :: _, [], _ => rfl

/-! ### Validity -/
def kidsN (k : Int) : Int := if k = 1 ∨ k = 2 ∨ k = 3 then 0 else if k = 4 ∨ k = 5 then 2 else -1
def Ty.shape : Nat → Ty → Bool
  | 0, _ => false
  | d + 1, t => (kidsN t.kind == (t.kids.length : Int)) && t.kids.all (Ty.shape d)
def Ty.valid (t : Ty) : Bool := t.shape 4

/-- valid types -/
inductive T where
  | any | int | bool
  | fn (a b : T)
  | pr (a b : T)
  deriving DecidableEq, Repr
def T.kind : T → Int | .any => 1 | .int => 2 | .bool => 3 | .fn _ _ => 4 | .pr _ _ => 5
def T.kids : T → List T | .fn a b => [a, b] | .pr a b => [a, b] | _ => []
def T.ty : T → Ty
  | .any => .mk 1 [] | .int => .mk 2 [] | .bool => .mk 3 []
  | .fn a b => .mk 4 [a.ty, b.ty] | .pr a b => .mk 5 [a.ty, b.ty]
def T.depth : T → Nat
  | .fn a b => max a.depth b.depth + 1 | .pr a b => max a.depth b.depth + 1 | _ => 1
def T.size : T → Nat
  | .fn a b => a.size + b.size + 1 | .pr a b => a.size + b.size + 1 | _ => 1
theorem T.size_pos (t : T) : 0 < t.size := by cases t <;> simp [T.size]
theorem T.ty_kind (t : T) : t.ty.kind = t.kind := by cases t <;> rfl
theorem T.ty_kids (t : T) : t.ty.kids = t.kids.map T.ty := by cases t <;> rfl
theorem T.ty_size (t : T) : t.ty.size = t.size := by
  induction t <;> simp [T.ty, Ty.size, Ty.sizes, T.size, *] <;> omega
theorem T.ty_inj : ∀ a b : T, a.ty = b.ty → a = b := by
  intro a
  induction a with
  | any => intro b h; cases b <;> simp [T.ty] at h ⊢
  | int => intro b h; cases b <;> simp [T.ty] at h ⊢
  | bool => intro b h; cases b <;> simp [T.ty] at h ⊢
  | fn x y hx hy => intro b h; cases b <;> simp [T.ty] at h ⊢; exact ⟨hx _ h.1, hy _ h.2⟩
  | pr x y hx hy => intro b h; cases b <;> simp [T.ty] at h ⊢; exact ⟨hx _ h.1, hy _ h.2⟩

theorem T.shape_ty : ∀ (t : T) (d : Nat), t.ty.shape d = decide (t.depth ≤ d)
  | .any, d => by cases d <;> simp [T.ty, Ty.shape, kidsN, Ty.kind, Ty.kids, T.depth]
  | .int, d => by cases d <;> simp [T.ty, Ty.shape, kidsN, Ty.kind, Ty.kids, T.depth]
  | .bool, d => by cases d <;> simp [T.ty, Ty.shape, kidsN, Ty.kind, Ty.kids, T.depth]
  | .fn a b, d => by
    cases d with
    | zero => simp [Ty.shape, T.depth]
    | succ d => simp [T.ty, Ty.shape, kidsN, Ty.kind, Ty.kids, T.depth, T.shape_ty a d, T.shape_ty b d, Nat.max_le]
  | .pr a b, d => by
    cases d with
    | zero => simp [Ty.shape, T.depth]
    | succ d => simp [T.ty, Ty.shape, kidsN, Ty.kind, Ty.kids, T.depth, T.shape_ty a d, T.shape_ty b d, Nat.max_le]

theorem Ty.shape_T : ∀ (d : Nat) (t : Ty), t.shape d = true → ∃ x : T, x.ty = t ∧ x.depth ≤ d
  | 0, t, h => by simp [Ty.shape] at h
  | d + 1, .mk k l, h => by
    simp only [Ty.shape, Ty.kind, Ty.kids, Bool.and_eq_true, beq_iff_eq, List.all_eq_true] at h
    obtain ⟨h1, h2⟩ := h
    unfold kidsN at h1
    split at h1
    · rename_i hk
      have : l = [] := List.eq_nil_of_length_eq_zero (by omega)
      subst this
      rcases hk with rfl | rfl | rfl
      · exact ⟨.any, rfl, by simp [T.depth]⟩
      · exact ⟨.int, rfl, by simp [T.depth]⟩
      · exact ⟨.bool, rfl, by simp [T.depth]⟩
    · split at h1
      · rename_i hk
        match l, h1 with
        | [a, b], _ =>
          obtain ⟨x, hx, dx⟩ := Ty.shape_T d a (h2 a (by simp))
          obtain ⟨y, hy, dy⟩ := Ty.shape_T d b (h2 b (by simp))
          subst hx hy
          rcases hk with rfl | rfl
          · exact ⟨.fn x y, rfl, by simp [T.depth]; omega⟩
          · exact ⟨.pr x y, rfl, by simp [T.depth]; omega⟩
        | [], h1 => simp at h1
        | [_], h1 => simp at h1
        | _ :: _ :: _ :: _, h1 => simp at h1; omega
      · omega

theorem Ty.valid_iff (t : Ty) : t.valid = true ↔ ∃ x : T, x.ty = t ∧ x.depth ≤ 4 :=
  ⟨Ty.shape_T 4 t, fun ⟨x, hx, hd⟩ => by subst hx; simp [Ty.valid, T.shape_ty, hd]⟩

/-! ### Relations on valid types -/
def T.ground : T → T | .fn _ _ => .fn .any .any | .pr _ _ => .pr .any .any | t => t
def T.cons : T → T → Bool
  | .any, _ => true | _, .any => true
  | .int, .int => true | .bool, .bool => true
  | .fn a b, .fn c d => a.cons c && b.cons d
  | .pr a b, .pr c d => a.cons c && b.cons d
  | _, _ => false
def T.prec : T → T → Bool
  | _, .any => true
  | .int, .int => true | .bool, .bool => true
  | .fn a b, .fn c d => a.prec c && b.prec d
  | .pr a b, .pr c d => a.prec c && b.prec d
  | _, _ => false
def subF (s o : T → T → Bool) : T → T → Bool
  | .any, .any => true | .int, .int => true | .bool, .bool => true
  | .fn a b, .fn c d => o c a && s b d
  | .pr a b, .pr c d => s a c && s b d
  | _, _ => false
mutual
def T.pos : T → T → Bool
  | _, .any => true
  | .int, .int => true | .bool, .bool => true
  | .fn a b, .fn c d => T.neg c a && T.pos b d
  | .pr a b, .pr c d => T.pos a c && T.pos b d
  | _, _ => false
termination_by a b => a.size + b.size
decreasing_by all_goals (simp only [T.size]; omega)
/-- against the unknown type as against the ground type -/
def T.neg : T → T → Bool
  | .any, _ => true
  | .fn a b, .any => T.pos .any a && T.neg b .any
  | .pr a b, .any => T.neg a .any && T.neg b .any
  | .int, .any => true | .bool, .any => true
  | .int, .int => true | .bool, .bool => true
  | .fn a b, .fn c d => T.pos c a && T.neg b d
  | .pr a b, .pr c d => T.neg a c && T.neg b d
  | _, _ => false
termination_by a b => a.size + b.size
decreasing_by all_goals (simp only [T.size]; omega)
end
def T.sub : T → T → Bool
  | .any, .any => true
  | .any, _ => false
  | .fn a b, .any => T.sub .any a && T.sub b .any
  | .pr a b, .any => T.sub a .any && T.sub b .any
  | .int, .any => true | .bool, .any => true
  | .int, .int => true | .bool, .bool => true
  | .fn a b, .fn c d => T.sub c a && T.sub b d
  | .pr a b, .pr c d => T.sub a c && T.sub b d
  | _, _ => false
termination_by a b => a.size + b.size
decreasing_by all_goals (simp only [T.size]; omega)
def T.count : T → Nat
  | .any => 1 | .fn a b => a.count + b.count | .pr a b => a.count + b.count | _ => 0

theorem T.pos_any (a : T) : a.pos .any = true := by cases a <;> simp [T.pos]
theorem T.any_pos (a : T) : T.any.pos a = decide (a = .any) := by cases a <;> simp [T.pos]
theorem T.any_neg (a : T) : T.any.neg a = true := by simp [T.neg]
theorem T.pos_eq (a b : T) (h : b ≠ .any) : a.pos b = subF T.pos T.neg a b := by
  cases a <;> cases b <;> simp [T.pos, subF] at h ⊢
theorem T.neg_eq (a b : T) (ha : a ≠ .any) (hb : b ≠ .any) : a.neg b = subF T.neg T.pos a b := by
  cases a <;> cases b <;> simp [T.neg, subF] at ha hb ⊢
theorem T.neg_ground (a : T) (ha : a ≠ .any) : a.neg .any = subF T.neg T.pos a a.ground := by
  cases a <;> simp [T.neg, subF, T.ground] at ha ⊢
theorem T.sub_eq (a b : T) (ha : a ≠ .any) (hb : b ≠ .any) : a.sub b = subF T.sub T.sub a b := by
  cases a <;> cases b <;> simp [T.sub, subF] at ha hb ⊢
theorem T.sub_ground (a : T) (ha : a ≠ .any) : a.sub .any = subF T.sub T.sub a a.ground := by
  cases a <;> simp [T.sub, subF, T.ground] at ha ⊢
theorem T.any_sub (b : T) : T.any.sub b = decide (b = .any) := by cases b <;> simp [T.sub]

/-! ### The same relations on types as they come -/
mutual
def Ty.cons : Ty → Ty → Bool
  | .mk k l, .mk k' l' => k == 1 || (k' == 1 || (k == k' && Ty.conss l l'))
def Ty.conss : List Ty → List Ty → Bool
  | [], [] => true
  | t :: l, t' :: l' => t.cons t' && Ty.conss l l'
  | [], _ :: _ => false
  | _ :: _, [] => false
end
theorem Ty.conss_all2 : ∀ a b : List Ty, Ty.conss a b = all2 Ty.cons a b
  | [], [] => rfl
  | t :: l, t' :: l' => by simp [Ty.conss, all2, Ty.conss_all2 l l']
  | [], _ :: _ => rfl
  | _ :: _, [] => rfl
theorem Ty.cons_eq (a b : Ty) : a.cons b = (a.kind == 1 || (b.kind == 1 || (a.kind == b.kind && all2 Ty.cons a.kids b.kids))) := by
  cases a; cases b; simp [Ty.cons, Ty.conss_all2, Ty.kind, Ty.kids]
mutual
def Ty.prec : Ty → Ty → Bool
  | .mk k l, .mk k' l' => k' == 1 || (k == k' && Ty.precs l l')
def Ty.precs : List Ty → List Ty → Bool
  | [], [] => true
  | t :: l, t' :: l' => t.prec t' && Ty.precs l l'
  | [], _ :: _ => false
  | _ :: _, [] => false
end
theorem Ty.precs_all2 : ∀ a b : List Ty, Ty.precs a b = all2 Ty.prec a b
  | [], [] => rfl
  | t :: l, t' :: l' => by simp [Ty.precs, all2, Ty.precs_all2 l l']
  | [], _ :: _ => rfl
  | _ :: _, [] => rfl
theorem Ty.prec_eq (a b : Ty) : a.prec b = (b.kind == 1 || (a.kind == b.kind && all2 Ty.prec a.kids b.kids)) := by
  cases a; cases b; simp [Ty.prec, Ty.precs_all2, Ty.kind, Ty.kids]
theorem T.cons_ty (a : T) : ∀ b : T, a.ty.cons b.ty = a.cons b := by
  induction a with
  | any => intro b; cases b <;> rfl
  | int => intro b; cases b <;> rfl
  | bool => intro b; cases b <;> rfl
  | fn x y hx hy => intro b; cases b <;> simp [T.ty, Ty.cons, Ty.conss, T.cons, hx, hy]
  | pr x y hx hy => intro b; cases b <;> simp [T.ty, Ty.cons, Ty.conss, T.cons, hx, hy]
theorem T.prec_ty (a : T) : ∀ b : T, a.ty.prec b.ty = a.prec b := by
  induction a with
  | any => intro b; cases b <;> rfl
  | int => intro b; cases b <;> rfl
  | bool => intro b; cases b <;> rfl
  | fn x y hx hy => intro b; cases b <;> simp [T.ty, Ty.prec, Ty.precs, T.prec, hx, hy]
  | pr x y hx hy => intro b; cases b <;> simp [T.ty, Ty.prec, Ty.precs, T.prec, hx, hy]
/- how many nodes are unknown; below an unknown node none is looked at -/
mutual
def Ty.count : Ty → Nat
  | .mk k l => if k = 1 then 1 else Ty.counts l
def Ty.counts : List Ty → Nat
  | [] => 0
  | t :: l => t.count + Ty.counts l
end
theorem T.count_ty (a : T) : a.ty.count = a.count := by
  induction a <;> simp [T.ty, Ty.count, Ty.counts, T.count, *]
mutual
theorem Ty.count_le : ∀ t : Ty, t.count ≤ t.size
  | .mk k l => by
    rw [Ty.count, Ty.size]
    have := Ty.counts_le l
    split <;> omega
theorem Ty.counts_le : ∀ l : List Ty, Ty.counts l ≤ Ty.sizes l
  | [] => by simp [Ty.counts, Ty.sizes]
  | t :: l => by rw [Ty.counts, Ty.sizes]; have := Ty.count_le t; have := Ty.counts_le l; omega
end
theorem Ty.counts_take {l : List Ty} {k : Nat} (h : k < l.length) : Ty.counts (l.take (k + 1)) = Ty.counts (l.take k) + l[k].count := by
  induction l generalizing k with
  | nil => simp at h
  | cons t l ih =>
    cases k with
    | zero => simp [Ty.counts]
    | succ k => simp only [List.take_succ_cons, Ty.counts, List.getElem_cons_succ]; rw [ih (by simpa using h)]; omega
theorem Ty.counts_take_le (l : List Ty) (k : Nat) : Ty.counts (l.take k) ≤ Ty.counts l := by
  induction l generalizing k with
  | nil => simp [Ty.counts]
  | cons t l ih =>
    cases k with
    | zero => simp [Ty.counts]
    | succ k => simp only [List.take_succ_cons, Ty.counts]; have := ih k; omega
end Go.Proofs.Grad
/- Coercions as trees, and their pure functions. No program, no world. -/
namespace Go.Proofs.Grad

/-- coercions as they come -/
inductive Co where
  | mk (k tag label : Int) (kids : List Co)
def Co.kind : Co → Int | .mk k _ _ _ => k
def Co.tag : Co → Int | .mk _ t _ _ => t
def Co.label : Co → Int | .mk _ _ l _ => l
def Co.kids : Co → List Co | .mk _ _ _ l => l
mutual
def Co.size : Co → Nat
  | .mk _ _ _ l => 1 + Co.sizes l
def Co.sizes : List Co → Nat
  | [] => 0
  | t :: l => t.size + Co.sizes l
end
theorem Co.eta (c : Co) : c = .mk c.kind c.tag c.label c.kids := by cases c; rfl

/-- coercions that are valid but for depth and labels, where of a form -/
inductive K where
  | id (g : Int) | fn (a b : K) | pr (a b : K) | inj (c : K) | prj (l : Int) (c : K) | fail (l g : Int)
def K.co : K → Co
  | .id g => .mk 1 g 0 []
  | .fn a b => .mk 2 0 0 [a.co, b.co]
  | .pr a b => .mk 3 0 0 [a.co, b.co]
  | .inj c => .mk 4 0 0 [c.co]
  | .prj l c => .mk 5 0 l [c.co]
  | .fail l g => .mk 6 g l []
def K.plain : K → Bool
  | .fn _ _ => true | .pr _ _ => true | .id g => g != 1 | _ => false
def K.isAny : K → Bool
  | .id g => g == 1 | _ => false
def K.isPrj : K → Bool
  | .prj _ _ => true | _ => false
/-- a label -/
def lab (n : Int) : Bool := (decide (1 ≤ n) && decide (n ≤ 99)) || (decide (-99 ≤ n) && decide (n ≤ -1))
def K.wf : K → Bool
  | .id g => decide (1 ≤ g) && decide (g ≤ 3)
  | .fn a b => a.wf && b.wf
  | .pr a b => a.wf && b.wf
  | .inj c => c.plain && c.wf
  | .prj l c => lab l && !c.isPrj && !c.isAny && c.wf
  | .fail l g => lab l && decide (2 ≤ g) && decide (g ≤ 5)
def K.depth : K → Nat
  | .id _ => 1 | .fail _ _ => 1
  | .fn a b => max a.depth b.depth + 1
  | .pr a b => max a.depth b.depth + 1
  | .inj c => c.depth + 1
  | .prj _ c => c.depth + 1
def K.size : K → Nat
  | .id _ => 1 | .fail _ _ => 1
  | .fn a b => a.size + b.size + 1
  | .pr a b => a.size + b.size + 1
  | .inj c => c.size + 1
  | .prj _ c => c.size + 1
def K.tag : K → Int
  | .id g => g | .fn _ _ => 4 | .pr _ _ => 5 | .inj c => c.tag | .prj _ _ => 0 | .fail _ g => g
def K.height : K → Nat
  | .id _ => 1 | .fail _ _ => 1
  | .fn a b => max a.height b.height + 1
  | .pr a b => max a.height b.height + 1
  | .inj c => c.height
  | .prj _ c => c.height
def K.labels : K → List Int
  | .id _ => [] | .fail l _ => [l]
  | .fn a b => a.labels ++ b.labels
  | .pr a b => a.labels ++ b.labels
  | .inj c => c.labels
  | .prj l c => l :: c.labels
def K.ident : K → Bool
  | .id _ => true | .fn a b => a.ident && b.ident | .pr a b => a.ident && b.ident | _ => false
theorem K.size_pos (c : K) : 0 < c.size := by cases c <;> simp [K.size]
/-- first a, then b, where they fit -/
def K.comp (a b : K) : Option K :=
  match a, b with
  | .id g, b => if g = 1 then (if b.isPrj || b.isAny then some b else none) else
      match b with
      | .fail l t => if g = t then some (.fail l t) else none
      | .inj c => (K.comp (.id g) c).map .inj
      | .id g' => if g = g' then some (.id g) else none
      | _ => none
  | .prj l c, b => (K.comp c b).map (.prj l)
  | .fail l g, _ => some (.fail l g)
  | .inj c, .prj l d => if c.tag = d.tag then K.comp c d else some (.fail l c.tag)
  | .inj c, b => if b.isAny then some (.inj c) else none
  | .fn a1 a2, .fail l t => if t = 4 then some (.fail l t) else none
  | .pr a1 a2, .fail l t => if t = 5 then some (.fail l t) else none
  | .fn a1 a2, .inj c => (K.comp (.fn a1 a2) c).map .inj
  | .pr a1 a2, .inj c => (K.comp (.pr a1 a2) c).map .inj
  | .fn a1 a2, .fn b1 b2 => match K.comp b1 a1, K.comp a2 b2 with | some x, some y => some (.fn x y) | _, _ => none
  | .pr a1 a2, .pr b1 b2 => match K.comp a1 b1, K.comp a2 b2 with | some x, some y => some (.pr x y) | _, _ => none
  | _, _ => none
termination_by a.size + b.size
decreasing_by all_goals (simp only [K.size]; omega)

/-! ### Coercions as they come -/
mutual
def Co.same : Co → Co → Bool
  | .mk k t l a, .mk k' t' l' b => k == k' && (t == t' && (l == l' && Co.sames a b))
def Co.sames : List Co → List Co → Bool
  | [], [] => true
  | a :: l, b :: m => a.same b && Co.sames l m
  | _, _ => false
end
mutual
theorem Co.same_iff : ∀ a b : Co, a.same b = true ↔ a = b
  | .mk k t l a, .mk k' t' l' b => by simp [Co.same, Co.sames_iff a b]
theorem Co.sames_iff : ∀ a b : List Co, Co.sames a b = true ↔ a = b
  | [], [] => by simp [Co.sames]
  | [], _ :: _ => by simp [Co.sames]
  | _ :: _, [] => by simp [Co.sames]
  | a :: l, b :: m => by simp [Co.sames, Co.same_iff a b, Co.sames_iff l m]
end
theorem Co.same_refl (a : Co) : a.same a = true := (Co.same_iff a a).2 rfl
def Co.plain (c : Co) : Bool := c.kind == 2 || (c.kind == 3 || (c.kind == 1 && c.tag != 1))
def Co.okN (c : Co) : Bool :=
  match c with
  | .mk k t l ks =>
    if k = 1 then ks.length == 0 && (l == 0 && (decide (1 ≤ t) && decide (t ≤ 3)))
    else if k = 2 ∨ k = 3 then ks.length == 2 && (l == 0 && t == 0)
    else if k = 4 then (match ks with | [c] => l == 0 && (t == 0 && c.plain) | _ => false)
    else if k = 5 then (match ks with | [c] => lab l && (t == 0 && (c.kind != 5 && (c.kind != 1 || c.tag != 1))) | _ => false)
    else if k = 6 then ks.length == 0 && (lab l && (decide (2 ≤ t) && decide (t ≤ 5)))
    else false
def Co.shape : Nat → Co → Bool
  | 0, _ => false
  | d + 1, c => c.okN && c.kids.all (Co.shape d)
def Co.valid (c : Co) : Bool := c.shape 9

theorem K.co_plain (k : K) : k.co.plain = k.plain := by cases k <;> simp [K.co, Co.plain, Co.kind, Co.tag, K.plain]
theorem K.co_any (k : K) : (k.co.kind == 1 && k.co.tag == 1) = k.isAny := by cases k <;> simp [K.co, Co.kind, Co.tag, K.isAny]
theorem K.co_prj (k : K) : (k.co.kind == 5) = k.isPrj := by cases k <;> simp [K.co, Co.kind, K.isPrj]
theorem K.shape_co : ∀ (k : K) (d : Nat), k.co.shape d = (k.wf && decide (k.depth ≤ d))
  | k, 0 => by cases k <;> simp [Co.shape, K.depth]
  | .id g, d + 1 => by simp [K.co, Co.shape, Co.okN, Co.kids, K.wf, K.depth]
  | .fail l g, d + 1 => by simp [K.co, Co.shape, Co.okN, Co.kids, K.wf, K.depth, Bool.and_assoc]
  | .fn a b, d + 1 => by
    simp only [K.co, Co.shape, Co.okN, Co.kids, K.wf, K.depth, List.all_cons, List.all_nil, K.shape_co a d, K.shape_co b d]
    rw [Bool.eq_iff_iff]; simp; grind
  | .pr a b, d + 1 => by
    simp only [K.co, Co.shape, Co.okN, Co.kids, K.wf, K.depth, List.all_cons, List.all_nil, K.shape_co a d, K.shape_co b d]
    rw [Bool.eq_iff_iff]; simp; grind
  | .inj a, d + 1 => by
    simp only [K.co, Co.shape, Co.okN, Co.kids, K.wf, K.depth, List.all_cons, List.all_nil, K.shape_co a d, K.co_plain]
    rw [Bool.eq_iff_iff]; simp; grind
  | .prj l a, d + 1 => by
    have h1 := K.co_any a
    have h2 := K.co_prj a
    simp only [K.co, Co.shape, Co.okN, Co.kids, K.wf, K.depth, List.all_cons, List.all_nil, K.shape_co a d, ← h1, ← h2]
    rw [Bool.eq_iff_iff]; simp [bne]; grind
theorem Co.shape_K : ∀ (d : Nat) (c : Co), c.shape d = true → ∃ k : K, k.co = c ∧ k.wf = true ∧ k.depth ≤ d := by
  intro d
  induction d with
  | zero => intro c h; simp [Co.shape] at h
  | succ d ih =>
    intro c h
    obtain ⟨k, t, l, ks⟩ := c
    have h0 := h
    simp only [Co.shape, Bool.and_eq_true, Co.kids, List.all_eq_true] at h
    obtain ⟨h1, h2⟩ := h
    have fin : ∀ x : K, x.co = Co.mk k t l ks → ∃ k' : K, k'.co = Co.mk k t l ks ∧ k'.wf = true ∧ k'.depth ≤ d + 1 := by
      intro x hx
      rw [← hx, K.shape_co] at h0
      simp only [Bool.and_eq_true, decide_eq_true_eq] at h0
      exact ⟨x, hx, h0.1, h0.2⟩
    simp only [Co.okN] at h1
    split at h1
    · rename_i hk; simp at h1
      obtain ⟨rfl, rfl, _⟩ := h1
      subst hk
      exact fin (.id t) rfl
    · split at h1
      · rename_i hk; simp at h1
        obtain ⟨hl, rfl, rfl⟩ := h1
        obtain ⟨a, b, rfl⟩ : ∃ a b, ks = [a, b] := by
          match ks, hl with
          | [a, b], _ => exact ⟨a, b, rfl⟩
        obtain ⟨x, hx, _⟩ := ih a (h2 a (by simp))
        obtain ⟨y, hy, _⟩ := ih b (h2 b (by simp))
        rcases hk with rfl | rfl
        · exact fin (.fn x y) (by rw [K.co, hx, hy])
        · exact fin (.pr x y) (by rw [K.co, hx, hy])
      · split at h1
        · rename_i hk; subst hk
          split at h1
          · rename_i a; simp at h1
            obtain ⟨rfl, rfl, _⟩ := h1
            obtain ⟨x, hx, _⟩ := ih a (h2 a (by simp))
            exact fin (.inj x) (by rw [K.co, hx])
          · cases h1
        · split at h1
          · rename_i hk; subst hk
            split at h1
            · rename_i a; simp at h1
              obtain ⟨_, rfl, _⟩ := h1
              obtain ⟨x, hx, _⟩ := ih a (h2 a (by simp))
              exact fin (.prj l x) (by rw [K.co, hx])
            · cases h1
          · split at h1
            · rename_i hk; subst hk
              simp at h1
              obtain ⟨rfl, _⟩ := h1
              exact fin (.fail l t) rfl
            · cases h1
theorem Co.valid_iff (c : Co) : c.valid = true ↔ ∃ k : K, k.co = c ∧ k.wf = true ∧ k.depth ≤ 9 :=
  ⟨Co.shape_K 9 c, fun ⟨k, e, h1, h2⟩ => by rw [← e, Co.valid, K.shape_co, h1]; simpa using h2⟩
end Go.Proofs.Grad
/- Relations on types that are valid. No program, no world. -/
namespace Go.Proofs.Grad
open Classical in
/-- the relation, where both types are valid -/
noncomputable def onT (R : T → T → Bool) (a b : Ty) : Bool := decide (∃ x y : T, x.ty = a ∧ y.ty = b ∧ x.depth ≤ 4 ∧ y.depth ≤ 4 ∧ R x y = true)

open Classical in
theorem onT_ty (R : T → T → Bool) {x y : T} (hx : x.depth ≤ 4) (hy : y.depth ≤ 4) : onT R x.ty y.ty = R x y := by
  unfold onT
  rw [Bool.eq_iff_iff, decide_eq_true_iff]
  constructor
  · rintro ⟨x', y', h1, h2, _, _, h⟩
    rw [← T.ty_inj _ _ h1, ← T.ty_inj _ _ h2]; exact h
  · intro h; exact ⟨x, y, rfl, rfl, hx, hy, h⟩
open Classical in
theorem onT_off (R : T → T → Bool) {a b : Ty} (h : (a.valid && b.valid) = false) : onT R a b = false := by
  unfold onT
  rw [decide_eq_false_iff_not]
  rintro ⟨x, y, rfl, rfl, hx, hy, _⟩
  simp [Ty.valid, T.shape_ty, hx, hy] at h
theorem onT_and (R : T → T → Bool) (a b : Ty) : onT R a b = (a.valid && (b.valid && onT R a b)) := by
  cases ha : a.valid
  · rw [onT_off R (by simp [ha])]; rfl
  · cases hb : b.valid
    · rw [onT_off R (by simp [hb])]; rfl
    · rfl
end Go.Proofs.Grad
/- Terms as trees, their checks and their forms. No program, no world. -/
namespace Go.Proofs.Grad

/-- terms as they come -/
inductive Tm where
  | mk (kind : Int) (name : ByteArray) (num : Int) (type frm : Ty) (label : Int) (kids : List Tm)
def Tm.kind : Tm → Int | .mk k _ _ _ _ _ _ => k
def Tm.name : Tm → ByteArray | .mk _ n _ _ _ _ _ => n
def Tm.num : Tm → Int | .mk _ _ n _ _ _ _ => n
def Tm.type : Tm → Ty | .mk _ _ _ t _ _ _ => t
def Tm.frm : Tm → Ty | .mk _ _ _ _ t _ _ => t
def Tm.label : Tm → Int | .mk _ _ _ _ _ l _ => l
def Tm.kids : Tm → List Tm | .mk _ _ _ _ _ _ l => l
theorem Tm.eta (t : Tm) : t = .mk t.kind t.name t.num t.type t.frm t.label t.kids := by cases t; rfl
mutual
def Tm.size : Tm → Nat
  | .mk _ _ _ t f _ l => 1 + (t.size + f.size + Tm.sizes l)
def Tm.sizes : List Tm → Nat
  | [] => 0
  | t :: l => t.size + Tm.sizes l
end
mutual
def Tm.nodes : Tm → Nat
  | .mk _ _ _ _ _ _ l => 1 + Tm.nodess l
def Tm.nodess : List Tm → Nat
  | [] => 0
  | t :: l => t.nodes + Tm.nodess l
end
mutual
theorem Tm.nodes_le : ∀ t : Tm, t.nodes ≤ t.size
  | .mk _ _ _ _ _ _ l => by have := Tm.nodess_le l; simp only [Tm.nodes, Tm.size]; omega
theorem Tm.nodess_le : ∀ l : List Tm, Tm.nodess l ≤ Tm.sizes l
  | [] => Nat.le_refl _
  | t :: l => by have := Tm.nodes_le t; have := Tm.nodess_le l; simp only [Tm.nodess, Tm.sizes]; omega
end
theorem Tm.nodes_eq (t : Tm) : t.nodes = 1 + Tm.nodess t.kids := by cases t; simp only [Tm.nodes, Tm.kids]
theorem bytes_ext {a b : ByteArray} (h : a.toList = b.toList) : a = b := by
  rw [Go.ByteArray.toList_eq, Go.ByteArray.toList_eq] at h
  obtain ⟨⟨a⟩⟩ := a; obtain ⟨⟨b⟩⟩ := b
  simp at h; subst h; rfl
mutual
def Tm.same : Tm → Tm → Bool
  | .mk k n m t f l a, .mk k' n' m' t' f' l' b => k == k' && (n.toList == n'.toList && (m == m' && (t.same t' && (f.same f' && (l == l' && Tm.sames a b)))))
def Tm.sames : List Tm → List Tm → Bool
  | [], [] => true
  | a :: l, b :: m => a.same b && Tm.sames l m
  | _, _ => false
end
mutual
theorem Tm.same_iff : ∀ a b : Tm, a.same b = true ↔ a = b
  | .mk k n m t f l a, .mk k' n' m' t' f' l' b => by
    simp only [Tm.same, Bool.and_eq_true, beq_iff_eq, Ty.same_iff, Tm.sames_iff a b, Tm.mk.injEq]
    exact ⟨fun ⟨h1, h2, h3, h4, h5, h6, h7⟩ => ⟨h1, bytes_ext h2, h3, h4, h5, h6, h7⟩, fun ⟨h1, h2, h3, h4, h5, h6, h7⟩ => ⟨h1, by rw [h2], h3, h4, h5, h6, h7⟩⟩
theorem Tm.sames_iff : ∀ a b : List Tm, Tm.sames a b = true ↔ a = b
  | [], [] => by simp [Tm.sames]
  | [], _ :: _ => by simp [Tm.sames]
  | _ :: _, [] => by simp [Tm.sames]
  | a :: l, b :: m => by simp [Tm.sames, Tm.same_iff a b, Tm.sames_iff l m]
end
theorem Tm.same_refl (a : Tm) : a.same a = true := (Tm.same_iff a a).2 rfl

/-! ### checks of a node -/
/-- a name -/
def nmOk (s : ByteArray) : Bool := s.size == 1 && (match s[0]? with | some b => decide (97 ≤ (b.toNat : Int)) && decide ((b.toNat : Int) ≤ 122) | none => false)
def nm (b : UInt8) : ByteArray := ⟨#[b]⟩
def nmB (b : UInt8) : Bool := decide (97 ≤ (b.toNat : Int)) && decide ((b.toNat : Int) ≤ 122)
theorem nmOk_nm (b : UInt8) : nmOk (nm b) = nmB b := rfl
theorem nm_size (b : UInt8) : (nm b).size = 1 := rfl
theorem bs_empty_size : ByteArray.empty.size = 0 := rfl
theorem size_mk (l : Array UInt8) : (ByteArray.mk l).size = l.size := rfl
theorem nmOk_some {s : ByteArray} (h : nmOk s = true) : ∃ b, s = nm b ∧ nmB b = true := by
  obtain ⟨⟨l⟩⟩ := s
  match l, h with
  | [b], h => exact ⟨b, rfl, by rw [← nmOk_nm]; exact h⟩
  | [], h => rw [nmOk, size_mk] at h; simp at h
  | _ :: _ :: _, h => rw [nmOk, size_mk] at h; simp at h
/-- how many operands -/
def opN (k : Int) : Int := if k = 1 then 0 else if k = 2 then 0 else if k = 3 then 0 else if k = 4 then 0 else if k = 5 then 1 else if k = 6 then 2 else if k = 7 then 2 else if k = 8 then 2 else if k = 9 then 3 else if k = 10 then 2 else if k = 11 then 1 else if k = 12 then 1 else if k = 13 then 1 else if k = 14 then 1 else -1
def noTy : Ty := .mk 0 []
def Ty.isNo (t : Ty) : Bool := t.kind == 0 && t.kids.length == 0
theorem Ty.isNo_iff {t : Ty} (h : t.isNo = true) : t = noTy := by
  obtain ⟨k, l⟩ := t
  simp only [Ty.isNo, Ty.kind, Ty.kids, Bool.and_eq_true, beq_iff_eq] at h
  rw [h.1, List.eq_nil_of_length_eq_zero h.2]; rfl
noncomputable def Tm.nodeOk (t : Tm) : Bool :=
  opN t.kind == (t.kids.length : Int) &&
  ((if t.kind = 1 ∨ t.kind = 5 then nmOk t.name else t.name.size == 0) &&
  ((decide (0 ≤ t.num) && decide (t.num ≤ if t.kind = 2 then 999 else 0)) &&
  ((if t.kind = 5 ∨ t.kind = 13 ∨ t.kind = 14 then t.type.valid else t.type.isNo) &&
  (if t.kind = 14 then onT T.cons t.frm t.type && lab t.label else t.frm.isNo && t.label == 0))))
noncomputable def Tm.shape (no : Int) : Nat → Tm → Bool
  | 0, _ => false
  | d + 1, t => t.kind != no && (t.nodeOk && t.kids.all (Tm.shape no d))
noncomputable def Tm.termV (t : Tm) : Bool := t.shape 14 12 && decide (t.nodes ≤ 30)
noncomputable def Tm.castV (t : Tm) : Bool := t.shape 13 40 && decide (t.nodes ≤ 200)

/-! ### forms -/
inductive E where
  | var (x : UInt8) | num (n : Int) | tru | fls | lam (x : UInt8) (t : T) (e : E) | app (a b : E) | add (a b : E) | less (a b : E) | ite (a b c : E) | pair (a b : E) | fst (a : E) | snd (a : E) | asc (t : T) (a : E) | cast (s t : T) (l : Int) (a : E)
/-- a node with no name, no number, no types, no label -/
def nd (k : Int) (l : List Tm) : Tm := .mk k ByteArray.empty 0 noTy noTy 0 l
def E.tm : E → Tm
  | .var x => .mk 1 (nm x) 0 noTy noTy 0 []
  | .num n => .mk 2 ByteArray.empty n noTy noTy 0 []
  | .tru => nd 3 []
  | .fls => nd 4 []
  | .lam x t e => .mk 5 (nm x) 0 t.ty noTy 0 [e.tm]
  | .app a b => nd 6 [a.tm, b.tm]
  | .add a b => nd 7 [a.tm, b.tm]
  | .less a b => nd 8 [a.tm, b.tm]
  | .ite a b c => nd 9 [a.tm, b.tm, c.tm]
  | .pair a b => nd 10 [a.tm, b.tm]
  | .fst a => nd 11 [a.tm]
  | .snd a => nd 12 [a.tm]
  | .asc t a => .mk 13 ByteArray.empty 0 t.ty noTy 0 [a.tm]
  | .cast s t l a => .mk 14 ByteArray.empty 0 t.ty s.ty l [a.tm]
def E.kids : E → List E
  | .var _ | .num _ | .tru | .fls => []
  | .lam _ _ a | .fst a | .snd a | .asc _ a | .cast _ _ _ a => [a]
  | .app a b | .add a b | .less a b | .pair a b => [a, b]
  | .ite a b c => [a, b, c]
def E.wf : E → Bool
  | .var x => nmB x
  | .num n => decide (0 ≤ n) && decide (n ≤ 999)
  | .tru | .fls => true
  | .lam x t a => nmB x && (decide (t.depth ≤ 4) && a.wf)
  | .app a b | .add a b | .less a b | .pair a b => a.wf && b.wf
  | .ite a b c => a.wf && (b.wf && c.wf)
  | .fst a | .snd a => a.wf
  | .asc t a => decide (t.depth ≤ 4) && a.wf
  | .cast s t l a => (decide (s.depth ≤ 4) && decide (t.depth ≤ 4)) && (s.cons t && (lab l && a.wf))
/-- no casts; no annotations -/
def E.noC : E → Bool
  | .var _ | .num _ | .tru | .fls => true
  | .lam _ _ a | .fst a | .snd a | .asc _ a => a.noC
  | .app a b | .add a b | .less a b | .pair a b => a.noC && b.noC
  | .ite a b c => a.noC && (b.noC && c.noC)
  | .cast _ _ _ _ => false
def E.noA : E → Bool
  | .var _ | .num _ | .tru | .fls => true
  | .lam _ _ a | .fst a | .snd a | .cast _ _ _ a => a.noA
  | .app a b | .add a b | .less a b | .pair a b => a.noA && b.noA
  | .ite a b c => a.noA && (b.noA && c.noA)
  | .asc _ _ => false
def E.depth : E → Nat
  | .var _ | .num _ | .tru | .fls => 1
  | .lam _ _ a | .fst a | .snd a | .asc _ a | .cast _ _ _ a => a.depth + 1
  | .app a b | .add a b | .less a b | .pair a b => max a.depth b.depth + 1
  | .ite a b c => max a.depth (max b.depth c.depth) + 1
def E.nodes : E → Nat
  | .var _ | .num _ | .tru | .fls => 1
  | .lam _ _ a | .fst a | .snd a | .asc _ a | .cast _ _ _ a => 1 + a.nodes
  | .app a b | .add a b | .less a b | .pair a b => 1 + (a.nodes + b.nodes)
  | .ite a b c => 1 + (a.nodes + (b.nodes + c.nodes))
theorem E.nodes_pos (e : E) : 0 < e.nodes := by cases e <;> simp only [E.nodes] <;> omega
theorem E.depth_nodes (e : E) : e.depth ≤ e.nodes := by
  induction e <;> simp only [E.depth, E.nodes] <;> omega
theorem E.tm_nodes (e : E) : e.tm.nodes = e.nodes := by
  induction e <;> simp only [E.tm, nd, Tm.nodes, Tm.nodess, E.nodes, *] <;> omega
theorem noTy_isNo : noTy.isNo = true := rfl
theorem noTy_eq : (noTy : Ty) = .mk 0 [] := rfl
theorem onT_cons_ty (x y : T) : onT T.cons x.ty y.ty = (decide (x.depth ≤ 4) && (decide (y.depth ≤ 4) && x.cons y)) := by
  have h : ∀ t : T, t.ty.valid = decide (t.depth ≤ 4) := fun t => T.shape_ty t 4
  by_cases hx : x.depth ≤ 4
  · by_cases hy : y.depth ≤ 4
    · rw [onT_ty _ hx hy]; simp [hx, hy]
    · rw [onT_off _ (by simp [h, hy])]; simp [hy]
  · rw [onT_off _ (by simp [h, hx])]; simp [hx]
theorem T.valid_ty (t : T) : t.ty.valid = decide (t.depth ≤ 4) := T.shape_ty t 4
theorem E.nodeOk_tm (e : E) : e.tm.nodeOk = (match e with
  | .var x => nmB x | .num n => decide (0 ≤ n) && decide (n ≤ 999) | .lam x t _ => nmB x && decide (t.depth ≤ 4) | .asc t _ => decide (t.depth ≤ 4)
  | .cast s t l _ => (decide (s.depth ≤ 4) && decide (t.depth ≤ 4)) && (s.cons t && lab l) | _ => true) := by
  cases e <;> simp [Tm.nodeOk, E.tm, nd, Tm.kind, Tm.name, Tm.num, Tm.type, Tm.frm, Tm.label, Tm.kids, opN, nmOk_nm, noTy_isNo, T.valid_ty, onT_cons_ty, bs_empty_size, -ByteArray.size_data]
  all_goals (try grind)
end Go.Proofs.Grad
/- Terms: validity as a form. No program, no world. -/
namespace Go.Proofs.Grad
theorem E.depth_pos (e : E) : 1 ≤ e.depth := by cases e <;> simp [E.depth]
theorem E.shapeC_tm (e : E) : ∀ d, e.tm.shape 14 d = (e.wf && (e.noC && decide (e.depth ≤ d))) := by
  induction e with
  | var _ | num _ | tru | fls =>
    intro d
    cases d with
    | zero => simp [Tm.shape, E.depth]
    | succ d =>
      rw [Tm.shape, E.nodeOk_tm]
      simp [E.tm, nd, Tm.kind, Tm.kids, E.wf, E.noC, E.depth]
  | lam _ _ a ih | fst a ih | snd a ih | asc _ a ih =>
    intro d
    cases d with
    | zero => simp [Tm.shape, E.depth]
    | succ d =>
      rw [Tm.shape, E.nodeOk_tm]
      simp only [E.tm, nd, Tm.kind, Tm.kids, E.wf, E.noC, E.depth, List.all_cons, List.all_nil, ih]
      rw [Bool.eq_iff_iff]; simp; try grind
  | cast s t l a ih =>
    intro d
    cases d with
    | zero => simp [Tm.shape, E.depth]
    | succ d =>
      rw [Tm.shape, E.nodeOk_tm]
      simp [E.tm, Tm.kind, E.noC]
  | app a b iha ihb | add a b iha ihb | less a b iha ihb | pair a b iha ihb =>
    intro d
    cases d with
    | zero => simp [Tm.shape, E.depth]
    | succ d =>
      rw [Tm.shape, E.nodeOk_tm]
      simp only [E.tm, nd, Tm.kind, Tm.kids, E.wf, E.noC, E.depth, List.all_cons, List.all_nil, iha, ihb]
      rw [Bool.eq_iff_iff]; simp; grind
  | ite a b c iha ihb ihc =>
    intro d
    cases d with
    | zero => simp [Tm.shape, E.depth]
    | succ d =>
      rw [Tm.shape, E.nodeOk_tm]
      simp only [E.tm, nd, Tm.kind, Tm.kids, E.wf, E.noC, E.depth, List.all_cons, List.all_nil, iha, ihb, ihc]
      rw [Bool.eq_iff_iff]; simp; grind
theorem E.shapeA_tm (e : E) : ∀ d, e.tm.shape 13 d = (e.wf && (e.noA && decide (e.depth ≤ d))) := by
  induction e with
  | var _ | num _ | tru | fls =>
    intro d
    cases d with
    | zero => simp [Tm.shape, E.depth]
    | succ d =>
      rw [Tm.shape, E.nodeOk_tm]
      simp [E.tm, nd, Tm.kind, Tm.kids, E.wf, E.noA, E.depth]
  | lam _ _ a ih | fst a ih | snd a ih | cast _ _ _ a ih =>
    intro d
    cases d with
    | zero => simp [Tm.shape, E.depth]
    | succ d =>
      rw [Tm.shape, E.nodeOk_tm]
      simp only [E.tm, nd, Tm.kind, Tm.kids, E.wf, E.noA, E.depth, List.all_cons, List.all_nil, ih]
      rw [Bool.eq_iff_iff]; simp; try grind
  | asc t a ih =>
    intro d
    cases d with
    | zero => simp [Tm.shape, E.depth]
    | succ d =>
      rw [Tm.shape, E.nodeOk_tm]
      simp [E.tm, Tm.kind, E.noA]
  | app a b iha ihb | add a b iha ihb | less a b iha ihb | pair a b iha ihb =>
    intro d
    cases d with
    | zero => simp [Tm.shape, E.depth]
    | succ d =>
      rw [Tm.shape, E.nodeOk_tm]
      simp only [E.tm, nd, Tm.kind, Tm.kids, E.wf, E.noA, E.depth, List.all_cons, List.all_nil, iha, ihb]
      rw [Bool.eq_iff_iff]; simp; grind
  | ite a b c iha ihb ihc =>
    intro d
    cases d with
    | zero => simp [Tm.shape, E.depth]
    | succ d =>
      rw [Tm.shape, E.nodeOk_tm]
      simp only [E.tm, nd, Tm.kind, Tm.kids, E.wf, E.noA, E.depth, List.all_cons, List.all_nil, iha, ihb, ihc]
      rw [Bool.eq_iff_iff]; simp; grind
theorem opN_cases (k : Int) : (1 ≤ k ∧ k ≤ 14) ∨ opN k = -1 := by
  by_cases h : 1 ≤ k ∧ k ≤ 14
  · exact .inl h
  · right; unfold opN; repeat' (first | rw [if_neg (by omega)])
theorem bs_nil {s : ByteArray} (h : s.size = 0) : s = ByteArray.empty := by
  obtain ⟨⟨l⟩⟩ := s
  rw [size_mk] at h
  simp at h; subst h; rfl
theorem onT_cons_some {a b : Ty} (h : onT T.cons a b = true) : ∃ x y : T, a = x.ty ∧ b = y.ty ∧ x.depth ≤ 4 ∧ y.depth ≤ 4 ∧ x.cons y = true := by
  classical
  unfold onT at h
  obtain ⟨x, y, rfl, rfl, hx, hy, h⟩ := of_decide_eq_true h
  exact ⟨x, y, rfl, rfl, hx, hy, h⟩
theorem Tm.shape_E (no : Int) : ∀ (d : Nat) (t : Tm), t.shape no d = true → ∃ e : E, e.tm = t := by
  intro d
  induction d with
  | zero => intro t h; simp [Tm.shape] at h
  | succ d ih =>
    intro t h
    obtain ⟨k, n, m, ty, f, l, ks⟩ := t
    simp only [Tm.shape, Bool.and_eq_true, Tm.kids, List.all_eq_true] at h
    obtain ⟨_, h1, h2⟩ := h
    simp only [Tm.nodeOk, Tm.kind, Tm.name, Tm.num, Tm.type, Tm.frm, Tm.label, Tm.kids, Bool.and_eq_true, beq_iff_eq, decide_eq_true_eq] at h1
    obtain ⟨q1, q2, q3, q4, q5⟩ := h1
    have hk : 1 ≤ k ∧ k ≤ 14 := by
      rcases opN_cases k with h | h
      · exact h
      · rw [h] at q1; omega
    have e0 : (ks.length : Int) = 0 → ks = [] := fun h => List.eq_nil_of_length_eq_zero (by omega)
    have e1 : (ks.length : Int) = 1 → ∃ a : E, ks = [a.tm] := fun h => by
      match ks, h with
      | [a], _ => obtain ⟨x, hx⟩ := ih a (h2 a (by simp)); exact ⟨x, by rw [hx]⟩
      | [], h => simp at h
      | _ :: _ :: _, h => simp at h; omega
    have e2 : (ks.length : Int) = 2 → ∃ a b : E, ks = [a.tm, b.tm] := fun h => by
      match ks, h with
      | [a, b], _ => obtain ⟨x, hx⟩ := ih a (h2 a (by simp)); obtain ⟨y, hy⟩ := ih b (h2 b (by simp)); exact ⟨x, y, by rw [hx, hy]⟩
      | [], h => simp at h
      | [_], h => simp at h
      | _ :: _ :: _ :: _, h => simp at h; omega
    have e3 : (ks.length : Int) = 3 → ∃ a b c : E, ks = [a.tm, b.tm, c.tm] := fun h => by
      match ks, h with
      | [a, b, c], _ => obtain ⟨x, hx⟩ := ih a (h2 a (by simp)); obtain ⟨y, hy⟩ := ih b (h2 b (by simp)); obtain ⟨z, hz⟩ := ih c (h2 c (by simp)); exact ⟨x, y, z, by rw [hx, hy, hz]⟩
      | [], h => simp at h
      | [_], h => simp at h
      | [_, _], h => simp at h
      | _ :: _ :: _ :: _ :: _, h => simp at h; omega
    clear ih h2
    obtain rfl | rfl | rfl | rfl | rfl | rfl | rfl | rfl | rfl | rfl | rfl | rfl | rfl | rfl : k = 1 ∨ k = 2 ∨ k = 3 ∨ k = 4 ∨ k = 5 ∨ k = 6 ∨ k = 7 ∨ k = 8 ∨ k = 9 ∨ k = 10 ∨ k = 11 ∨ k = 12 ∨ k = 13 ∨ k = 14 := by omega
    all_goals
      simp only [opN, Int.reduceEq, reduceIte, if_true, if_false, or_true, true_or, or_false, or_self, Bool.and_eq_true, beq_iff_eq, decide_eq_true_eq] at q1 q2 q3 q4 q5
    · skip
      obtain ⟨x, rfl, hx⟩ := nmOk_some q2
      obtain rfl := e0 q1.symm
      obtain rfl := Ty.isNo_iff q4; obtain rfl := Ty.isNo_iff q5.1
      obtain rfl : m = 0 := by first | omega | (have a1 := of_decide_eq_true q3.1; have a2 := q3.2; omega)
      exact ⟨.var x, by rw [E.tm, q5.2]⟩
    · obtain rfl := bs_nil q2
      obtain rfl := e0 q1.symm
      obtain rfl := Ty.isNo_iff q4; obtain rfl := Ty.isNo_iff q5.1
      exact ⟨.num m, by rw [E.tm, q5.2]⟩
    · obtain rfl := bs_nil q2
      obtain rfl := e0 q1.symm
      obtain rfl := Ty.isNo_iff q4; obtain rfl := Ty.isNo_iff q5.1
      obtain rfl : m = 0 := by first | omega | (have a1 := of_decide_eq_true q3.1; have a2 := q3.2; omega)
      exact ⟨.tru, by rw [E.tm, q5.2]; rfl⟩
    · obtain rfl := bs_nil q2
      obtain rfl := e0 q1.symm
      obtain rfl := Ty.isNo_iff q4; obtain rfl := Ty.isNo_iff q5.1
      obtain rfl : m = 0 := by first | omega | (have a1 := of_decide_eq_true q3.1; have a2 := q3.2; omega)
      exact ⟨.fls, by rw [E.tm, q5.2]; rfl⟩
    · obtain ⟨x, rfl, hx⟩ := nmOk_some q2
      obtain ⟨a, rfl⟩ := e1 q1.symm
      obtain ⟨t, rfl, ht⟩ := (Ty.valid_iff ty).1 q4
      obtain rfl := Ty.isNo_iff q5.1
      obtain rfl : m = 0 := by first | omega | (have a1 := of_decide_eq_true q3.1; have a2 := q3.2; omega)
      exact ⟨.lam x t a, by rw [E.tm, q5.2]⟩
    all_goals obtain rfl := bs_nil q2
    all_goals obtain rfl : m = 0 := by first | omega | (have a1 := of_decide_eq_true q3.1; have a2 := q3.2; omega)
    all_goals try
      (obtain ⟨a, b, rfl⟩ := e2 q1.symm
       obtain rfl := Ty.isNo_iff q4; obtain rfl := Ty.isNo_iff q5.1
       first
         | exact ⟨.app a b, by rw [E.tm, q5.2]; rfl⟩
         | exact ⟨.add a b, by rw [E.tm, q5.2]; rfl⟩
         | exact ⟨.less a b, by rw [E.tm, q5.2]; rfl⟩
         | exact ⟨.pair a b, by rw [E.tm, q5.2]; rfl⟩
       done)
    · obtain ⟨a, b, c, rfl⟩ := e3 q1.symm
      obtain rfl := Ty.isNo_iff q4; obtain rfl := Ty.isNo_iff q5.1
      exact ⟨.ite a b c, by rw [E.tm, q5.2]; rfl⟩
    · obtain ⟨a, rfl⟩ := e1 q1.symm
      obtain rfl := Ty.isNo_iff q4; obtain rfl := Ty.isNo_iff q5.1
      exact ⟨.fst a, by rw [E.tm, q5.2]; rfl⟩
    · obtain ⟨a, rfl⟩ := e1 q1.symm
      obtain rfl := Ty.isNo_iff q4; obtain rfl := Ty.isNo_iff q5.1
      exact ⟨.snd a, by rw [E.tm, q5.2]; rfl⟩
    · obtain ⟨a, rfl⟩ := e1 q1.symm
      obtain ⟨t, rfl, ht⟩ := (Ty.valid_iff ty).1 q4
      obtain rfl := Ty.isNo_iff q5.1
      exact ⟨.asc t a, by rw [E.tm, q5.2]⟩
    · obtain ⟨a, rfl⟩ := e1 q1.symm
      obtain ⟨s, t, rfl, rfl, hs, ht, hc⟩ := onT_cons_some q5.1
      exact ⟨.cast s t l a, rfl⟩
/-- a valid term's form -/
def E.okT (e : E) : Bool := e.wf && (e.noC && (decide (e.depth ≤ 12) && decide (e.nodes ≤ 30)))
/-- .. with casts -/
def E.okC (e : E) : Bool := e.wf && (e.noA && (decide (e.depth ≤ 40) && decide (e.nodes ≤ 200)))
theorem E.termV_tm (e : E) : e.tm.termV = e.okT := by simp only [Tm.termV, E.shapeC_tm, E.tm_nodes, E.okT, Bool.and_assoc]
theorem E.castV_tm (e : E) : e.tm.castV = e.okC := by simp only [Tm.castV, E.shapeA_tm, E.tm_nodes, E.okC, Bool.and_assoc]
theorem Tm.termV_E {t : Tm} (h : t.termV = true) : ∃ e : E, e.tm = t ∧ e.okT = true := by
  have h' := h
  simp only [Tm.termV, Bool.and_eq_true] at h'
  obtain ⟨e, rfl⟩ := Tm.shape_E _ _ _ h'.1
  exact ⟨e, rfl, by rwa [← E.termV_tm]⟩
theorem Tm.castV_E {t : Tm} (h : t.castV = true) : ∃ e : E, e.tm = t ∧ e.okC = true := by
  have h' := h
  simp only [Tm.castV, Bool.and_eq_true] at h'
  obtain ⟨e, rfl⟩ := Tm.shape_E _ _ _ h'.1
  exact ⟨e, rfl, by rwa [← E.castV_tm]⟩
theorem nm_inj {a b : UInt8} (h : nm a = nm b) : a = b := by simpa [nm] using h
theorem E.tm_inj : ∀ a b : E, a.tm = b.tm → a = b := by
  intro a
  induction a with
  | var x => intro b h; cases b <;> simp [E.tm, nd] at h; rw [nm_inj h]
  | num x => intro b h; cases b <;> simp [E.tm, nd] at h; rw [h]
  | tru | fls => intro b h; cases b <;> simp [E.tm, nd] at h; rfl
  | lam x t a ih =>
    intro b h; cases b <;> simp [E.tm, nd] at h
    obtain ⟨h1, h2, h3⟩ := h
    rw [nm_inj h1, T.ty_inj _ _ h2, ih _ h3]
  | app a b iha ihb | add a b iha ihb | less a b iha ihb | pair a b iha ihb =>
    intro c h; cases c <;> simp [E.tm, nd] at h
    obtain ⟨h1, h2⟩ := h
    rw [iha _ h1, ihb _ h2]
  | ite a b c iha ihb ihc =>
    intro d h; cases d <;> simp [E.tm, nd] at h
    obtain ⟨h1, h2, h3⟩ := h
    rw [iha _ h1, ihb _ h2, ihc _ h3]
  | fst a ih | snd a ih =>
    intro b h; cases b <;> simp [E.tm, nd] at h
    rw [ih _ h]
  | asc t a ih =>
    intro b h; cases b <;> simp [E.tm, nd] at h
    obtain ⟨h1, h2⟩ := h
    rw [T.ty_inj _ _ h1, ih _ h2]
  | cast s t l a ih =>
    intro b h; cases b <;> simp [E.tm, nd] at h
    obtain ⟨h1, h2, h3, h4⟩ := h
    rw [T.ty_inj _ _ h1, T.ty_inj _ _ h2, h3, ih _ h4]
end Go.Proofs.Grad
/- Steps of terms with casts. No program, no world. -/
namespace Go.Proofs.Grad
/-- v in place of x -/
def E.subst : E → UInt8 → E → E
  | .var y, x, v => match y == x with | true => v | false => .var y
  | .lam y t a, x, v => match y == x with | true => .lam y t a | false => .lam y t (a.subst x v)
  | .num n, x, v => .num n
  | .tru, x, v => .tru
  | .fls, x, v => .fls
  | .app a b, x, v => .app (a.subst x v) (b.subst x v)
  | .add a b, x, v => .add (a.subst x v) (b.subst x v)
  | .less a b, x, v => .less (a.subst x v) (b.subst x v)
  | .ite a b c, x, v => .ite (a.subst x v) (b.subst x v) (c.subst x v)
  | .pair a b, x, v => .pair (a.subst x v) (b.subst x v)
  | .fst a, x, v => .fst (a.subst x v)
  | .snd a, x, v => .snd (a.subst x v)
  | .asc t a, x, v => .asc t (a.subst x v)
  | .cast s t l a, x, v => .cast s t l (a.subst x v)
def T.isFn : T → Bool | .fn _ _ => true | _ => false
def T.isPr : T → Bool | .pr _ _ => true | _ => false
/-- a ground type -/
def T.isG : T → Bool | .any => false | .fn .any .any => true | .fn _ _ => false | .pr .any .any => true | .pr _ _ => false | _ => true
def proxyT (s t : T) : Bool := (s.isFn && t.isFn) || (s.isPr && t.isPr)
def injT (s t : T) : Bool := (t.ty.kind == 1) && s.isG
def E.val : E → Bool
  | .num _ | .tru | .fls | .lam _ _ _ => true
  | .pair a b => a.val && b.val
  | .cast s t _ a => (proxyT s t || injT s t) && a.val
  | _ => false
/-- what a step makes -/
inductive SR where
  | took (e : E) | blame (l : Int) | stuck
def SR.code : SR → Int | .took _ => 1 | .blame _ => 2 | .stuck => 3
def SR.lab : SR → Int | .blame l => l | _ => 0
def SR.map (f : E → E) : SR → SR | .took e => .took (f e) | .blame l => .blame l | .stuck => .stuck
def ruleApp : E → E → SR
  | .lam x _ b, v => .took (b.subst x v)
  | .cast (.fn s1 s2) (.fn t1 t2) l f, v => .took (.cast s2 t2 l (.app f (.cast t1 s1 (-l) v)))
  | _, _ => .stuck
def ruleAdd : E → E → SR
  | .num n, .num m => .took (.num ((n + m).tmod 1000))
  | _, _ => .stuck
def ruleLess : E → E → SR
  | .num n, .num m => match decide (n < m) with | true => .took .tru | false => .took .fls
  | _, _ => .stuck
def ruleIte : E → E → E → SR
  | .tru, b, _ => .took b
  | .fls, _, c => .took c
  | _, _, _ => .stuck
def ruleFst : E → SR
  | .pair a _ => .took a
  | .cast (.pr s1 _) (.pr t1 _) l v => .took (.cast s1 t1 l (.fst v))
  | _ => .stuck
def ruleSnd : E → SR
  | .pair _ b => .took b
  | .cast (.pr _ s2) (.pr _ t2) l v => .took (.cast s2 t2 l (.snd v))
  | _ => .stuck
/-- the type g, of which there is an injection below, and the type t: the same, or not -/
def ruleOut (t : T) (l : Int) : E → SR
  | .cast s' t' _ w => match injT s' t' with | true => (match s'.ty.kind == t.ty.kind with | true => .took w | false => .blame l) | false => .stuck
  | _ => .stuck
def ruleCast (s t : T) (l : Int) (v : E) : SR :=
  match s.ty.kind == t.ty.kind with
  | true => .took v
  | false => match t.ty.kind == 1 with
    | true => .took (.cast s.ground .any l (.cast s s.ground l v))
    | false => match t.isG with
      | false => .took (.cast t.ground t l (.cast s t.ground l v))
      | true => ruleOut t l v
/-- a step of a term with casts that is no value -/
def E.step : E → SR
  | .app a b => match a.val with | false => a.step.map (.app · b) | true => (match b.val with | false => b.step.map (.app a ·) | true => ruleApp a b)
  | .add a b => match a.val with | false => a.step.map (.add · b) | true => (match b.val with | false => b.step.map (.add a ·) | true => ruleAdd a b)
  | .less a b => match a.val with | false => a.step.map (.less · b) | true => (match b.val with | false => b.step.map (.less a ·) | true => ruleLess a b)
  | .ite a b c => match a.val with | false => a.step.map (.ite · b c) | true => ruleIte a b c
  | .pair a b => match a.val with | false => a.step.map (.pair · b) | true => (match b.val with | false => b.step.map (.pair a ·) | true => .stuck)
  | .fst a => match a.val with | false => a.step.map .fst | true => ruleFst a
  | .snd a => match a.val with | false => a.step.map .snd | true => ruleSnd a
  | .cast s t l a => match a.val with | false => a.step.map (.cast s t l) | true => ruleCast s t l a
  | _ => .stuck
/-! what steps keep -/
theorem E.subst_wf {x : UInt8} {v : E} (hv : v.wf = true) : ∀ e : E, e.wf = true → (e.subst x v).wf = true := by
  intro e
  induction e with
  | var y => intro h; simp only [E.subst]; split <;> assumption
  | lam y t a ih => intro h; simp only [E.subst]; split <;> simp_all [E.wf]
  | _ => intro h; simp_all [E.subst, E.wf]
theorem E.subst_noA {x : UInt8} {v : E} (hv : v.noA = true) : ∀ e : E, e.noA = true → (e.subst x v).noA = true := by
  intro e
  induction e with
  | var y => intro h; simp only [E.subst]; split <;> assumption
  | lam y t a ih => intro h; simp only [E.subst]; split <;> simp_all [E.noA]
  | _ => intro h; simp_all [E.subst, E.noA]
theorem T.cons_any' (a : T) : a.cons .any = true := by cases a <;> rfl
theorem T.cons_comm (a : T) : ∀ b : T, a.cons b = b.cons a := by
  induction a with
  | fn a1 a2 ih1 ih2 | pr a1 a2 ih1 ih2 => intro b; cases b <;> simp [T.cons, *]
  | _ => intro b; cases b <;> rfl
theorem lab_neg' {l : Int} (h : lab l = true) : lab (-l) = true := by
  simp [lab] at *; omega
theorem lab_bd2 {l : Int} (h : lab l = true) : -99 ≤ l ∧ l ≤ 99 := by simp [lab] at h; omega
theorem T.ground_cons (t : T) : t.cons t.ground = true := by cases t <;> simp [T.ground, T.cons, T.cons_any']
theorem T.ground_depth (t : T) : t.ground.depth ≤ t.depth := by
  have hp : ∀ x : T, 1 ≤ x.depth := fun x => by cases x <;> simp [T.depth]
  cases t with
  | fn a b | pr a b => have := hp a; simp only [T.ground, T.depth]; omega
  | _ => exact Nat.le_refl _
def SR.ok : SR → Bool | .took e => e.wf && e.noA | .blame l => Grad.lab l | .stuck => true
theorem SR.map_ok {r : SR} {f : E → E} (h : r.ok = true) (hf : ∀ e, e.wf = true → e.noA = true → (f e).wf = true ∧ (f e).noA = true) : (r.map f).ok = true := by
  cases r with
  | took e => simp only [SR.ok, Bool.and_eq_true, SR.map] at h ⊢; exact hf e h.1 h.2
  | _ => exact h
theorem ruleApp_ok {a b : E} (ha : a.wf = true) (na : a.noA = true) (hb : b.wf = true) (nb : b.noA = true) : (ruleApp a b).ok = true := by
  cases a with
  | lam x t c =>
    simp only [E.wf, E.noA, Bool.and_eq_true] at ha na
    simp only [ruleApp, SR.ok, Bool.and_eq_true]
    exact ⟨E.subst_wf hb _ ha.2.2, E.subst_noA nb _ na⟩
  | cast s t l f =>
    cases s <;> cases t <;> try rfl
    rename_i s1 s2 t1 t2
    simp only [E.wf, E.noA, T.cons, Bool.and_eq_true, decide_eq_true_eq] at ha na
    obtain ⟨⟨d1, d2⟩, ⟨c1, c2⟩, hl, hf⟩ := ha
    simp only [T.depth] at d1 d2
    simp only [ruleApp, SR.ok, E.wf, E.noA, Bool.and_eq_true, decide_eq_true_eq]
    exact ⟨⟨⟨by omega, by omega⟩, c2, hl, hf, ⟨by omega, by omega⟩, by rw [T.cons_comm]; exact c1, lab_neg' hl, hb⟩, na, nb⟩
  | _ => rfl
theorem ruleAdd_ok {a b : E} (ha : a.wf = true) (hb : b.wf = true) : (ruleAdd a b).ok = true := by
  cases a with
  | num n =>
    cases b with
    | num m =>
      simp only [E.wf, Bool.and_eq_true, decide_eq_true_eq] at ha hb
      simp only [ruleAdd, SR.ok, E.wf, E.noA, Bool.and_eq_true, decide_eq_true_eq]
      have := Int.tmod_lt_of_pos (n + m) (b := 1000) (by omega)
      have := Int.tmod_nonneg 1000 (a := n + m) (by omega)
      exact ⟨⟨by omega, by omega⟩, trivial⟩
    | _ => rfl
  | _ => rfl
theorem ruleLess_ok (a b : E) : (ruleLess a b).ok = true := by
  cases a with
  | num n =>
    cases b with
    | num m => simp only [ruleLess]; split <;> rfl
    | _ => rfl
  | _ => rfl
theorem ruleIte_ok {a b c : E} (hb : b.wf = true) (nb : b.noA = true) (hc : c.wf = true) (nc : c.noA = true) : (ruleIte a b c).ok = true := by
  cases a <;> simp [ruleIte, SR.ok, *]
theorem ruleFst_ok {a : E} (ha : a.wf = true) (na : a.noA = true) : (ruleFst a).ok = true := by
  cases a with
  | pair x y => simp only [E.wf, E.noA, Bool.and_eq_true] at ha na; simp [ruleFst, SR.ok, *]
  | cast s t l f =>
    cases s <;> cases t <;> try rfl
    rename_i s1 s2 t1 t2
    simp only [E.wf, E.noA, T.cons, Bool.and_eq_true, decide_eq_true_eq] at ha na
    obtain ⟨⟨d1, d2⟩, ⟨c1, c2⟩, hl, hf⟩ := ha
    simp only [T.depth] at d1 d2
    simp only [ruleFst, SR.ok, E.wf, E.noA, Bool.and_eq_true, decide_eq_true_eq]
    exact ⟨⟨⟨by omega, by omega⟩, c1, hl, hf⟩, na⟩
  | _ => rfl
theorem ruleSnd_ok {a : E} (ha : a.wf = true) (na : a.noA = true) : (ruleSnd a).ok = true := by
  cases a with
  | pair x y => simp only [E.wf, E.noA, Bool.and_eq_true] at ha na; simp [ruleSnd, SR.ok, *]
  | cast s t l f =>
    cases s <;> cases t <;> try rfl
    rename_i s1 s2 t1 t2
    simp only [E.wf, E.noA, T.cons, Bool.and_eq_true, decide_eq_true_eq] at ha na
    obtain ⟨⟨d1, d2⟩, ⟨c1, c2⟩, hl, hf⟩ := ha
    simp only [T.depth] at d1 d2
    simp only [ruleSnd, SR.ok, E.wf, E.noA, Bool.and_eq_true, decide_eq_true_eq]
    exact ⟨⟨⟨by omega, by omega⟩, c2, hl, hf⟩, na⟩
  | _ => rfl
theorem cons_kind {s t : T} (h1 : (s.ty.kind == t.ty.kind) = false) (h2 : (t.ty.kind == 1) = false) (hc : s.cons t = true) : s = .any := by
  cases s <;> cases t <;> simp_all [T.ty, Ty.kind, T.cons]
theorem kind_one {t : T} (h : (t.ty.kind == 1) = true) : t = .any := by
  cases t <;> simp_all [T.ty, Ty.kind]
theorem ruleCast_ok {s t : T} {l : Int} {a : E} (h1 : (E.cast s t l a).wf = true) (h2 : a.noA = true) : (ruleCast s t l a).ok = true := by
  simp only [E.wf, Bool.and_eq_true, decide_eq_true_eq] at h1
  obtain ⟨⟨ds, dt⟩, hc, hl, ha⟩ := h1
  unfold ruleCast
  cases e1 : (s.ty.kind == t.ty.kind)
  · cases e2 : (t.ty.kind == 1)
    · have hs := cons_kind e1 e2 hc
      subst hs
      cases e3 : t.isG
      · have hg := T.ground_cons t
        have hd := T.ground_depth t
        simp only [SR.ok, E.wf, E.noA, Bool.and_eq_true, decide_eq_true_eq]
        exact ⟨⟨⟨by omega, by omega⟩, by rw [T.cons_comm]; exact hg, hl, ⟨by omega, by omega⟩, by rw [T.cons_comm]; exact T.cons_any' _, hl, ha⟩, h2⟩
      · simp only []
        unfold ruleOut
        cases a with
        | cast s' t' l' w =>
          simp only [E.wf, E.noA, Bool.and_eq_true, decide_eq_true_eq] at ha h2
          simp only []
          cases injT s' t'
          · rfl
          · simp only []
            cases (s'.ty.kind == t.ty.kind)
            · exact hl
            · simp only [SR.ok, Bool.and_eq_true]; exact ⟨ha.2.2.2, h2⟩
        | _ => rfl
    · have hg := T.ground_cons s
      have hd := T.ground_depth s
      simp only [SR.ok, E.wf, E.noA, Bool.and_eq_true, decide_eq_true_eq]
      exact ⟨⟨⟨by omega, by simp [T.depth]⟩, T.cons_any' _, hl, ⟨by omega, by omega⟩, hg, hl, ha⟩, h2⟩
  · simp only [SR.ok, Bool.and_eq_true]; exact ⟨ha, h2⟩
theorem E.step_ok (e : E) : e.wf = true → e.noA = true → e.step.ok = true := by
  induction e with
  | app a b iha ihb =>
    intro h1 h2
    simp only [E.wf, E.noA, Bool.and_eq_true] at h1 h2
    simp only [E.step]
    split
    · exact SR.map_ok (iha h1.1 h2.1) fun e a1 a2 => by simp [E.wf, E.noA, *]
    · split
      · exact SR.map_ok (ihb h1.2 h2.2) fun e a1 a2 => by simp [E.wf, E.noA, *]
      · exact ruleApp_ok h1.1 h2.1 h1.2 h2.2
  | add a b iha ihb =>
    intro h1 h2
    simp only [E.wf, E.noA, Bool.and_eq_true] at h1 h2
    simp only [E.step]
    split
    · exact SR.map_ok (iha h1.1 h2.1) fun e a1 a2 => by simp [E.wf, E.noA, *]
    · split
      · exact SR.map_ok (ihb h1.2 h2.2) fun e a1 a2 => by simp [E.wf, E.noA, *]
      · exact ruleAdd_ok h1.1 h1.2
  | less a b iha ihb =>
    intro h1 h2
    simp only [E.wf, E.noA, Bool.and_eq_true] at h1 h2
    simp only [E.step]
    split
    · exact SR.map_ok (iha h1.1 h2.1) fun e a1 a2 => by simp [E.wf, E.noA, *]
    · split
      · exact SR.map_ok (ihb h1.2 h2.2) fun e a1 a2 => by simp [E.wf, E.noA, *]
      · exact ruleLess_ok _ _
  | pair a b iha ihb =>
    intro h1 h2
    simp only [E.wf, E.noA, Bool.and_eq_true] at h1 h2
    simp only [E.step]
    split
    · exact SR.map_ok (iha h1.1 h2.1) fun e a1 a2 => by simp [E.wf, E.noA, *]
    · split
      · exact SR.map_ok (ihb h1.2 h2.2) fun e a1 a2 => by simp [E.wf, E.noA, *]
      · rfl
  | ite a b c iha ihb ihc =>
    intro h1 h2
    simp only [E.wf, E.noA, Bool.and_eq_true] at h1 h2
    simp only [E.step]
    split
    · exact SR.map_ok (iha h1.1 h2.1) fun e a1 a2 => by simp [E.wf, E.noA, *]
    · exact ruleIte_ok h1.2.1 h2.2.1 h1.2.2 h2.2.2
  | fst a ih =>
    intro h1 h2
    simp only [E.wf, E.noA] at h1 h2
    simp only [E.step]
    split
    · exact SR.map_ok (ih h1 h2) fun e a1 a2 => by simp [E.wf, E.noA, *]
    · exact ruleFst_ok h1 h2
  | snd a ih =>
    intro h1 h2
    simp only [E.wf, E.noA] at h1 h2
    simp only [E.step]
    split
    · exact SR.map_ok (ih h1 h2) fun e a1 a2 => by simp [E.wf, E.noA, *]
    · exact ruleSnd_ok h1 h2
  | cast s t l a ih =>
    intro h1 h2
    have h1' := h1
    simp only [E.wf, E.noA, Bool.and_eq_true, decide_eq_true_eq] at h1 h2
    simp only [E.step]
    split
    · exact SR.map_ok (ih h1.2.2.2 h2) fun e a1 a2 => by simp [E.wf, E.noA, *]
    · exact ruleCast_ok h1' h2
  | _ => intro _ _; rfl
/-! the rules, as the program has them -/
def E.ruleI : E → Option E
  | .app (.lam x _ b) v => some (b.subst x v)
  | .add (.num n) (.num m) => some (.num ((n + m).tmod 1000))
  | .less (.num n) (.num m) => some (match decide (n < m) with | true => .tru | false => .fls)
  | .ite .tru b _ => some b
  | .ite .fls _ c => some c
  | .fst (.pair a _) => some a
  | .snd (.pair _ b) => some b
  | _ => none
def E.castR : E → SR
  | .app (.cast (.fn s1 s2) (.fn t1 t2) l f) v => .took (.cast s2 t2 l (.app f (.cast t1 s1 (-l) v)))
  | .fst (.cast (.pr s1 _) (.pr t1 _) l v) => .took (.cast s1 t1 l (.fst v))
  | .snd (.cast (.pr _ s2) (.pr _ t2) l v) => .took (.cast s2 t2 l (.snd v))
  | .cast s t l v => ruleCast s t l v
  | _ => .stuck
def E.red (e : E) : SR := match e.ruleI with | some x => .took x | none => e.castR
theorem red_app (a b : E) : (E.app a b).red = ruleApp a b := by
  cases a with
  | cast s t l f => cases s <;> cases t <;> rfl
  | _ => rfl
theorem red_add (a b : E) : (E.add a b).red = ruleAdd a b := by
  cases a <;> cases b <;> rfl
theorem red_less (a b : E) : (E.less a b).red = ruleLess a b := by
  cases a <;> cases b <;> first | rfl | (simp only [E.red, E.ruleI, ruleLess]; split <;> rfl)
theorem red_ite (a b c : E) : (E.ite a b c).red = ruleIte a b c := by cases a <;> rfl
theorem red_fst (a : E) : (E.fst a).red = ruleFst a := by
  cases a with
  | cast s t l f => cases s <;> cases t <;> rfl
  | _ => rfl
theorem red_snd (a : E) : (E.snd a).red = ruleSnd a := by
  cases a with
  | cast s t l f => cases s <;> cases t <;> rfl
  | _ => rfl
theorem red_cast (s t : T) (l : Int) (a : E) : (E.cast s t l a).red = ruleCast s t l a := rfl
/-- the zero term -/
def tm0 : Tm := .mk 0 ByteArray.empty 0 noTy noTy 0 []
def SR.tm : SR → Tm | .took e => e.tm | _ => tm0
end Go.Proofs.Grad
/- Evaluation of terms with casts. No program, no world. -/
namespace Go.Proofs.Grad
/-- what StepCast makes of a valid term -/
inductive SC where
  | value (e : E) | took (e : E) | blame (l : Int) | stuck | large
def SC.tm : SC → Tm | .value e => e.tm | .took e => e.tm | _ => tm0
def SC.code : SC → Int | .value _ => 0 | .took _ => 1 | .blame _ => 2 | .stuck => 3 | .large => 4
def SC.lab : SC → Int | .blame l => l | _ => 0
def E.sc (e : E) : SC := match e.val with
  | true => .value e
  | false => match e.step with | .took x => (match x.okC with | true => .took x | false => .large) | .blame l => .blame l | .stuck => .stuck
theorem E.sc_took {e x : E} (h : e.sc = .took x) : e.val = false ∧ e.step = .took x ∧ x.okC = true := by
  unfold E.sc at h
  split at h
  · cases h
  · rename_i hv
    split at h
    · rename_i y hy
      split at h
      · rename_i ho; cases h; exact ⟨hv, hy, ho⟩
      · cases h
    · cases h
    · cases h
theorem E.sc_ok {e x : E} (h : e.sc = .took x) : x.okC = true := (E.sc_took h).2.2
theorem E.step_wf {e x : E} (hw : e.wf = true) (hn : e.noA = true) (h : e.step = .took x) : x.wf = true ∧ x.noA = true := by
  have := E.step_ok e hw hn
  rw [h] at this
  simpa [SR.ok] using this
/-- so many steps at most, n taken before: the last StepCast's result, and how many steps -/
def E.evI : Nat → E → Nat → SC × Nat
  | 0, e, n => (e.sc, n)
  | k + 1, e, n => match e.sc with | .took x => x.evI k (n + 1) | r => (r, n)
theorem E.evI_steps (k : Nat) : ∀ (e : E) (n : Nat), (e.evI k n).2 ≤ n + k := by
  induction k with
  | zero => intro e n; exact Nat.le_refl _
  | succ k ih =>
    intro e n
    simp only [E.evI]
    split
    · have := ih ‹_› (n + 1); omega
    · simp
theorem E.evI_add (k : Nat) : ∀ (e : E) (n m : Nat), e.evI k (n + m) = ((e.evI k n).1, (e.evI k n).2 + m) := by
  induction k with
  | zero => intro e n m; rfl
  | succ k ih =>
    intro e n m
    simp only [E.evI]
    split
    · have := ih ‹_› (n + 1) m; rw [show n + 1 + m = n + m + 1 by omega] at this; exact this
    · rfl
/-- the result of an evaluation -/
def SC.fin : SC → SC × Bool | .took _ => (.stuck, true) | r => (r, false)
/-- EvalCast's: term, code, label -/
def SC.etm : SC → Tm | .took _ => tm0 | r => r.tm
def SC.ecode : SC → Int | .took _ => 5 | r => r.code
theorem SC.etm_of {r : SC} (h : (r.code == 1) = false) : r.etm = r.tm ∧ r.ecode = r.code := by
  cases r <;> first | exact ⟨rfl, rfl⟩ | (simp [SC.code] at h)
end Go.Proofs.Grad
/- Steps of terms with casts: how large what they make is. No program, no world. -/
namespace Go.Proofs.Grad
theorem E.subst_nodes {x : UInt8} {v : E} (e : E) : (e.subst x v).nodes ≤ e.nodes * (v.nodes + 1) := by
  have hp := v.nodes_pos
  have key : ∀ n : Nat, n ≤ n * (v.nodes + 1) := fun n => by rw [Nat.mul_add]; omega
  induction e with
  | var y => simp only [E.subst]; split <;> simp only [E.nodes] <;> omega
  | lam y t a ih =>
    simp only [E.subst]
    split
    · exact key _
    · simp only [E.nodes, Nat.add_mul, Nat.one_mul] at ih ⊢; omega
  | num _ | tru | fls => simp only [E.subst, E.nodes]; omega
  | _ => simp only [E.subst, E.nodes, Nat.add_mul, Nat.one_mul] at *; omega
def sq (n : Nat) : Nat := n * n + 4 * n
theorem sq_add (a b : Nat) : sq a + b ≤ sq (a + b) := by
  unfold sq
  have : (a + b) * (a + b) = a * a + a * b + (b * a + b * b) := by rw [Nat.add_mul, Nat.mul_add, Nat.mul_add]
  rw [this]; have := Nat.zero_le (a * b); have := Nat.zero_le (b * a); have := Nat.zero_le (b * b); omega
theorem le_sq (n : Nat) : n + 3 ≤ sq n + 3 := by unfold sq; omega
def SR.few (r : SR) (n : Nat) : Prop := match r with | .took e => e.nodes ≤ n | _ => True
theorem SR.map_few {r : SR} {f : E → E} {n m : Nat} (h : r.few n) (hf : ∀ e : E, e.nodes ≤ n → (f e).nodes ≤ m) : (r.map f).few m := by
  cases r with
  | took e => exact hf e h
  | _ => trivial
theorem ruleApp_few (a b : E) : (ruleApp a b).few (sq (E.app a b).nodes) := by
  cases a with
  | lam x t c =>
    simp only [ruleApp, SR.few, E.nodes]
    have h := c.subst_nodes (x := x) (v := b)
    have h2 : c.nodes * (b.nodes + 1) ≤ (1 + (1 + c.nodes + b.nodes)) * (1 + (1 + c.nodes + b.nodes)) := Nat.mul_le_mul (by omega) (by omega)
    unfold sq; omega
  | cast s t l f =>
    cases s <;> cases t <;> try trivial
    simp only [ruleApp, SR.few, E.nodes]
    unfold sq
    have := Nat.zero_le ((1 + (1 + f.nodes + b.nodes)) * (1 + (1 + f.nodes + b.nodes)))
    omega
  | _ => trivial
theorem ruleCast_few (s t : T) (l : Int) (a : E) : (ruleCast s t l a).few (sq (E.cast s t l a).nodes) := by
  have hp := a.nodes_pos
  have h0 : ∀ n : Nat, 1 ≤ n → n + 2 ≤ sq n := fun n h => by unfold sq; have := Nat.zero_le (n * n); omega
  have h1 := h0 (E.cast s t l a).nodes (E.nodes_pos _)
  unfold ruleCast
  split
  · simp only [SR.few, E.nodes] at *; omega
  · split
    · simp only [SR.few, E.nodes] at *; omega
    · split
      · simp only [SR.few, E.nodes] at *; omega
      · unfold ruleOut
        split
        · split
          · split
            · simp only [SR.few, E.nodes] at *; omega
            · trivial
          · trivial
        · trivial
theorem rule1_few {r : SR} {n m : Nat} (h : r.few n) (hn : n ≤ sq m) : r.few (sq m) := by
  cases r with
  | took e => exact Nat.le_trans h hn
  | _ => trivial
theorem E.step_few (e : E) : e.step.few (sq e.nodes) := by
  have hs : ∀ n : Nat, n ≤ sq n := fun n => by unfold sq; have := Nat.zero_le (n * n); omega
  induction e with
  | app a b iha ihb =>
    simp only [E.step]
    split
    · refine SR.map_few iha fun e he => ?_
      simp only [E.nodes]; have := sq_add a.nodes (1 + b.nodes); rw [show 1 + (a.nodes + b.nodes) = a.nodes + (1 + b.nodes) by omega]; omega
    · split
      · refine SR.map_few ihb fun e he => ?_
        simp only [E.nodes]; have := sq_add b.nodes (1 + a.nodes); rw [show 1 + (a.nodes + b.nodes) = b.nodes + (1 + a.nodes) by omega]; omega
      · exact ruleApp_few a b
  | add a b iha ihb =>
    simp only [E.step]
    split
    · refine SR.map_few iha fun e he => ?_
      simp only [E.nodes]; have := sq_add a.nodes (1 + b.nodes); rw [show 1 + (a.nodes + b.nodes) = a.nodes + (1 + b.nodes) by omega]; omega
    · split
      · refine SR.map_few ihb fun e he => ?_
        simp only [E.nodes]; have := sq_add b.nodes (1 + a.nodes); rw [show 1 + (a.nodes + b.nodes) = b.nodes + (1 + a.nodes) by omega]; omega
      · have := hs (E.add a b).nodes; have hp := a.nodes_pos
        cases a <;> cases b <;> first | trivial | (simp only [ruleAdd, SR.few, E.nodes] at *; omega)
  | less a b iha ihb =>
    simp only [E.step]
    split
    · refine SR.map_few iha fun e he => ?_
      simp only [E.nodes]; have := sq_add a.nodes (1 + b.nodes); rw [show 1 + (a.nodes + b.nodes) = a.nodes + (1 + b.nodes) by omega]; omega
    · split
      · refine SR.map_few ihb fun e he => ?_
        simp only [E.nodes]; have := sq_add b.nodes (1 + a.nodes); rw [show 1 + (a.nodes + b.nodes) = b.nodes + (1 + a.nodes) by omega]; omega
      · have := hs (E.less a b).nodes
        cases a <;> cases b <;> first | trivial | (simp only [ruleLess]; split <;> simp only [SR.few, E.nodes] at * <;> omega)
  | pair a b iha ihb =>
    simp only [E.step]
    split
    · refine SR.map_few iha fun e he => ?_
      simp only [E.nodes]; have := sq_add a.nodes (1 + b.nodes); rw [show 1 + (a.nodes + b.nodes) = a.nodes + (1 + b.nodes) by omega]; omega
    · split
      · refine SR.map_few ihb fun e he => ?_
        simp only [E.nodes]; have := sq_add b.nodes (1 + a.nodes); rw [show 1 + (a.nodes + b.nodes) = b.nodes + (1 + a.nodes) by omega]; omega
      · trivial
  | ite a b c iha ihb ihc =>
    simp only [E.step]
    split
    · refine SR.map_few iha fun e he => ?_
      simp only [E.nodes]; have := sq_add a.nodes (1 + (b.nodes + c.nodes)); rw [show 1 + (a.nodes + (b.nodes + c.nodes)) = a.nodes + (1 + (b.nodes + c.nodes)) by omega]; omega
    · have := hs (E.ite a b c).nodes
      cases a <;> first | trivial | (simp only [ruleIte, SR.few, E.nodes] at *; omega)
  | fst a ih | snd a ih =>
    simp only [E.step]
    split
    · refine SR.map_few ih fun e he => ?_
      simp only [E.nodes]; have := sq_add a.nodes 1; rw [show 1 + a.nodes = a.nodes + 1 by omega]; omega
    · have h1 := hs (E.fst a).nodes
      have h3 : (E.fst a).nodes + 2 ≤ sq (E.fst a).nodes + 0 := by unfold sq; simp only [E.nodes]; have := Nat.zero_le ((1 + a.nodes) * (1 + a.nodes)); omega
      cases a with
      | cast s t l f => cases s <;> cases t <;> first | trivial | (simp only [ruleFst, ruleSnd, SR.few, E.nodes] at *; omega)
      | _ => first | trivial | (simp only [ruleFst, ruleSnd, SR.few, E.nodes] at *; omega)
  | cast s t l a ih =>
    simp only [E.step]
    split
    · refine SR.map_few ih fun e he => ?_
      simp only [E.nodes]; have := sq_add a.nodes 1; rw [show 1 + a.nodes = a.nodes + 1 by omega]; omega
    · exact ruleCast_few s t l a
  | _ => trivial
theorem E.step_nodes {e x : E} (h : e.step = .took x) (hn : e.nodes ≤ 200) : x.nodes ≤ 40800 := by
  have h1 := e.step_few
  rw [h] at h1
  have h2 : sq e.nodes ≤ sq 200 := by
    unfold sq; have := Nat.mul_le_mul hn hn; omega
  have : sq 200 = 40800 := rfl
  simp only [SR.few] at h1
  omega
end Go.Proofs.Grad
/- A shadow of the machine: values as trees, boxes as short lists of cells; a run of the code on shadows. -/
namespace Go.Proofs.Sh
open Go.RowKit

/-- A cell's shadow: unknown; this scalar; a slice onto memory that nobody writes (rows of cells); an address in such memory (cells from it on, how far behind); a slice onto block b's head (rows of s cells, n of them); an address in block b (row i, cell j); a function value. -/
inductive C where
  | top
  | sc (v : Value)
  | sl (rows : List (List C))
  | cur (cs : List C) (j : Nat)
  | row (s b n : Nat)
  | ptr (s b i j : Nat)
  | fn (f : FuncId) (caps : List C)

inductive AV where
  | one (c : C)
  | agg (cs : List C)
  | tup (vs : List AV)

/-- written still; written no more; forgotten -/
inductive St where
  | mut | frz | dead

def St.isMut : St → Bool | .mut => true | _ => false
def St.known : St → Bool | .dead => false | _ => true

structure Blk where
  s : Nat
  ty : TypeId
  st : St
  rows : List (List C)

def C.ofVal (v : Value) : C := .sc v

structure TI where
  size : Nat
  agg : Bool
  bytes : Nat
  zero : List Value
  fields : List (Nat × Nat × Bool)
  elem : Nat
  kind : Nat

def tagg : TypeDesc → Bool
  | .struct _ | .array _ _ => true
  | _ => false
/-- 1 struct, 2 array, 3 slice, 4 string, 5 int, 6 bool, 0 else -/
def tkind : TypeDesc → Nat
  | .struct _ => 1 | .array _ _ => 2 | .slice _ => 3 | .string => 4 | .int _ => 5 | .bool => 6 | _ => 0
def telem : TypeDesc → Nat
  | .array _ e => e | .slice e => e | _ => 0
def tfield (P : Program) (f : Field) : Nat × Nat × Bool := match P.underlying f.type with
  | some d => (f.offset, P.cellsOf f.type, tagg d)
  | none => (f.offset, 0, false)
def tfields (P : Program) : TypeDesc → List (Nat × Nat × Bool)
  | .struct fs => fs.toList.map (tfield P)
  | _ => []
def tkindP (P : Program) (d : TypeDesc) : Nat := if (tfields P d).all (fun f => f.2.1 != 0) then tkind d else 9
def tinfo (P : Program) (t : TypeId) : Option TI :=
  match P.info? t, P.underlying t with
  | some i, some d => match i.zero with
    | some z => if z.cells.toList.all (fun v => v.oneCell') = true ∧ z.cells.size = i.size then some ⟨i.size, tagg d, i.bytes, z.cells.toList, tfields P d, telem d, tkindP P d⟩ else none
    | none => none
  | _, _ => none

def tk (P : Program) (t : TypeId) : Nat := match P.underlying t with | some d => tkind d | none => 0
def tint (P : Program) (t : TypeId) : Option IntKind := match P.underlying t with | some (.int k) => some k | _ => none

structure ASt where
  n : Nat
  t : List (Nat × AV)
  h : List Blk

def look (t : Nat) : List (Nat × AV) → Option AV
  | [] => none
  | (t', v) :: l => if t' = t then some v else look t l

def ASt.put (s : ASt) (d : Option Tmp) (v : AV) : ASt :=
  match d with
  | some d => if @LT.lt Nat _ d s.n then ⟨s.n, (d, v) :: s.t, s.h⟩ else s
  | none => s
def aundef : AV := .tup []

def C.isConst : Value → Bool
  | .bool _ | .int _ _ | .string _ | .pointer none | .slice none 0 0 | .nilFunc | .nilIface => true
  | _ => false

def ASt.eval (s : ASt) : Operand → Option AV
  | .tmp t => look t s.t
  | .const v => if C.isConst v then some (.one (.sc v)) else none
  | .func f => some (.one (.fn f []))
  | .global _ => none

inductive Res where
  | val (v : AV) (h : List Blk)
  | skip (h : List Blk)
  | call (f : FuncId) (args : List AV)
  | bad

def AV.cells : AV → Option (List C)
  | .one c => some [c]
  | .agg cs => some cs
  | .tup _ => none

/-- cells laid over those from j on -/
def splice (r : List C) (j : Nat) (cs : List C) : List C := r.take j ++ (cs ++ r.drop (j + cs.length))

/-- the cells at an address, from it on -/
def acells (h : List Blk) : C → Option (List C)
  | .cur cs j => some (cs.drop j)
  | .ptr n b i j => match h[b]? with
    | some k => if k.st.known = true ∧ n = k.s then (match k.rows[i]? with | some r => some (r.drop j) | none => none) else none
    | none => none
  | _ => none

def aload (P : Program) (h : List Blk) (t : TypeId) (p : C) : Option AV :=
  match tinfo P t, acells h p with
  | some ti, some cs =>
    if ti.agg then (if ti.size ≤ cs.length then some (.agg (cs.take ti.size)) else none)
    else (match cs[0]? with | some c => some (.one c) | none => none)
  | _, _ => none

def astore (P : Program) (h : List Blk) (t : TypeId) (p : C) (v : AV) : Option (List Blk) :=
  match tinfo P t, p, v.cells with
  | some ti, .ptr n b i j, some cs =>
    match h[b]? with
    | some k => if cs.length = ti.size ∧ k.st.isMut = true ∧ n = k.s then
        match k.rows[i]? with
        | some r => if j + cs.length ≤ r.length then some (h.set b ⟨k.s, k.ty, k.st, k.rows.set i (splice r j cs)⟩) else none
        | none => none
      else none
    | none => none
  | _, _, _ => none

def ares (o : Option AV) (h : List Blk) : Res := match o with | some v => .val v h | none => .bad
def ared (o : Option (List Blk)) : Res := match o with | some h => .skip h | none => .bad

def aint (op : BinOp) (k : IntKind) (x y : Int) : Option Value :=
  match op with
  | .add => some (.int k (k.wrap (x + y)))
  | .sub => some (.int k (k.wrap (x - y)))
  | .mul => some (.int k (k.wrap (x * y)))
  | .quo => if y = 0 then none else some (.int k (k.wrap (x.tdiv y)))
  | .rem => if y = 0 then none else some (.int k (x.tmod y))
  | .and => some (.int k (k.wrap (BitVec.ofInt k.bits x &&& BitVec.ofInt k.bits y).toNat))
  | .or => some (.int k (k.wrap (BitVec.ofInt k.bits x ||| BitVec.ofInt k.bits y).toNat))
  | .xor => some (.int k (k.wrap (BitVec.ofInt k.bits x ^^^ BitVec.ofInt k.bits y).toNat))
  | .eql => some (.bool (x == y))
  | .neq => some (.bool (x != y))
  | .lss => some (.bool (decide (x < y)))
  | .leq => some (.bool (decide (x ≤ y)))
  | .gtr => some (.bool (decide (x > y)))
  | .geq => some (.bool (decide (x ≥ y)))
  | _ => none

def astr (op : BinOp) (x y : ByteArray) : Option Value :=
  match op with
  | .add => if ((x.size + y.size : Nat) : Int) ≤ 9223372036854775807 then some (.string (x ++ y)) else none
  | .eql => some (.bool (x.toList == y.toList))
  | .neq => some (.bool !(x.toList == y.toList))
  | .lss => some (.bool (Op.bytesLess x.toList y.toList))
  | _ => none

def ashift (op : BinOp) (k : IntKind) (x y : Int) : Option Value :=
  if 0 ≤ y then (match op with
    | .shl => some (.int k (k.wrap (x * 2 ^ (min y.toNat k.bits))))
    | .shr => some (.int k (x.fdiv (2 ^ (min y.toNat k.bits))))
    | _ => none) else none

def abin (P : Program) (op : BinOp) (t : TypeId) (x y : AV) : Option AV :=
  match op, x, y with
  | .shl, .one (.sc (.int k a)), .one (.sc (.int _ b)) => (ashift .shl k a b).map (fun v => .one (.sc v))
  | .shr, .one (.sc (.int k a)), .one (.sc (.int _ b)) => (ashift .shr k a b).map (fun v => .one (.sc v))
  | .shl, _, _ => none
  | .shr, _, _ => none
  | _, .one (.sc (.int k a)), .one (.sc (.int k' b)) => if k = k' then (aint op k a b).map (fun v => .one (.sc v)) else none
  | _, .one (.sc (.string a)), .one (.sc (.string b)) => (astr op a b).map (fun v => .one (.sc v))
  | .eql, .one (.sc (.bool a)), .one (.sc (.bool b)) => if tk P t = 6 then some (.one (.sc (.bool (a == b)))) else none
  | .neq, .one (.sc (.bool a)), .one (.sc (.bool b)) => if tk P t = 6 then some (.one (.sc (.bool !(a == b)))) else none
  | .eql, .one (.sl (_ :: _)), .one (.sc (.slice none 0 0)) => if tk P t = 3 then some (.one (.sc (.bool false))) else none
  | .eql, .one (.sc (.slice p _ _)), .one (.sc (.slice none 0 0)) => if tk P t = 3 then some (.one (.sc (.bool p.isNone))) else none
  | _, _, _ => none

def aun (op : UnOp) (x : AV) : Option AV :=
  match op, x with
  | .neg, .one (.sc (.int k n)) => some (.one (.sc (.int k (k.wrap (0 - n)))))
  | .not, .one (.sc (.bool b)) => some (.one (.sc (.bool !b)))
  | _, _ => none

def afield (P : Program) (t : TypeId) (f : Nat) (x : AV) : Option AV :=
  match tinfo P t, x with
  | some ti, .agg cs => match ti.fields[f]? with
    | some (off, size, true) => if size = 0 then none else some (.agg ((cs.drop off).take size))
    | some (off, size, false) => if size = 0 then none else match cs[off]? with | some c => some (.one c) | none => none
    | none => none
  | _, _ => none

def afieldAddr (P : Program) (t : TypeId) (f : Nat) (x : AV) : Option AV :=
  match tinfo P t with
  | some ti => match ti.fields[f]?, x with
    | some (off, size, _), .one (.ptr s b i j) => if size = 0 then none else some (.one (.ptr s b i (j + off)))
    | some (off, size, _), .one (.cur cs j) => if size = 0 then none else some (.one (.cur cs (j + off)))
    | _, _ => none
  | none => none

/-- an array of so many elements of one cell each -/
def aarr (P : Program) (t : TypeId) : Option Nat :=
  match P.underlying t with
  | some (.array len e) => match tinfo P e with | some te => if te.size = 1 ∧ te.agg = false then some len else none | none => none
  | _ => none

def aindexAddr (P : Program) (t : TypeId) (x i : AV) : Option AV :=
  match tinfo P t, x, i with
  | some ti, .one (.sl rows), .one (.sc (.int _ n)) =>
    if 0 ≤ n ∧ ti.kind = 3 then
      match rows[n.toNat]?, tinfo P ti.elem with
      | some r, some te => if r.length = te.size then some (.one (.cur r 0)) else none
      | _, _ => none
    else none
  | some ti, .one (.row s b m), .one (.sc (.int _ n)) =>
    if 0 ≤ n ∧ n.toNat < m ∧ ti.kind = 3 then
      match tinfo P ti.elem with
      | some te => if te.size = s then some (.one (.ptr s b n.toNat 0)) else none
      | _ => none
    else none
  | some _, .one (.ptr s b i j), .one (.sc (.int _ n)) => match aarr P t with
    | some len => if 0 ≤ n ∧ n < len then some (.one (.ptr s b i (j + n.toNat))) else none
    | none => none
  | _, _, _ => none

def aindex (P : Program) (t : TypeId) (x i : AV) : Option AV :=
  match x, i with
  | .one (.sc (.string s)), .one (.sc (.int _ n)) => if tk P t = 4 ∧ 0 ≤ n then (match s[n.toNat]? with | some b => some (.one (.sc (.int .u8 b.toNat))) | none => none) else none
  | .agg cs, .one (.sc (.int _ n)) => match aarr P t with
    | some len => if 0 ≤ n ∧ n < len then (match cs[n.toNat]? with | some c => some (.one c) | none => none) else none
    | none => none
  | _, _ => none

def alen (k : Nat) (x : AV) : Option AV :=
  match x with
  | .one (.sl rows) => if k = 3 then some (.one (.sc (.int .i64 rows.length))) else none
  | .one (.row _ _ n) => if k = 3 then some (.one (.sc (.int .i64 n))) else none
  | .one (.sc (.string s)) => if k = 4 then some (.one (.sc (.int .i64 s.size))) else none
  | .one (.sc (.slice none 0 0)) => if k = 3 then some (.one (.sc (.int .i64 0))) else none
  | _ => none

/-- a bound of a slice expression: n if it is left out -/
def abound (n : Nat) (m : Nat) : Option AV → Option Nat
  | none => some n
  | some (.one (.sc (.int _ i))) => if 0 ≤ i ∧ i.toNat ≤ m then some i.toNat else none
  | _ => none

def rowsLen (s : Nat) (rows : List (List C)) : Bool := rows.all (fun r => r.length == s)
def aesz (P : Program) (t : TypeId) : Nat := match tinfo P t with | some ti => (match tinfo P ti.elem with | some te => te.size | none => 0) | none => 0

def aslice (k es : Nat) (x : AV) (lo hi : Option AV) : Option AV :=
  match x with
  | .one (.sl rows) => if k = 3 ∧ es ≠ 0 ∧ rowsLen es rows = true then
      match abound rows.length rows.length hi with
      | none => none
      | some h => match abound 0 h lo with
        | none => none
        | some l => some (.one (.sl ((rows.take h).drop l)))
    else none
  | .one (.sc (.string s)) => if k = 4 then
      match abound s.size s.size hi with
      | none => none
      | some h => match abound 0 h lo with
        | none => none
        | some l => some (.one (.sc (.string (s.extract l h))))
    else none
  | _ => none

/-- parts laid into cells -/
def afill (fs : List (Nat × Nat × Bool)) : List (Nat × Option AV) → List C → Option (List C)
  | [], cs => some cs
  | (f, v) :: l, cs => match fs[f]?, v.bind AV.cells with
    | some (off, size, _), some xs => if xs.length = size ∧ off + size ≤ cs.length then afill fs l (splice cs off xs) else none
    | _, _ => none

def abuild (P : Program) (t : TypeId) (parts : List (Nat × Option AV)) : Option AV :=
  match tinfo P t with
  | some ti => if ti.kind = 1 ∧ ti.zero.length = ti.size then (match afill ti.fields parts (ti.zero.map .sc) with | some cs => some (.agg cs) | none => none) else none
  | none => none

def arow (size : Nat) : List (Nat × Option AV) → List (List C) → Option (List (List C))
  | [], rows => some rows
  | (i, v) :: l, rows => match v.bind AV.cells with
    | some xs => if xs.length = size ∧ i < rows.length then arow size l (rows.set i xs) else none
    | none => none

def abuildSlice (P : Program) (h : List Blk) (t : TypeId) (len : Nat) (parts : List (Nat × Option AV)) : Res :=
  match tinfo P t with
  | some ti => match tinfo P ti.elem with
    | some te => if ti.kind = 3 ∧ te.zero.length = te.size ∧ len * te.size ≤ 16777216 ∧ 0 < te.size then
        match arow te.size parts (List.replicate len (te.zero.map .sc)) with
        | some rows => .val (.one (.row te.size h.length len)) (h ++ [⟨te.size, ti.elem, .mut, rows⟩])
        | none => .bad
      else .bad
    | none => .bad
  | none => .bad

def amakeSlice (P : Program) (h : List Blk) (t : TypeId) (len cap : AV) : Res :=
  match tinfo P t, len, cap with
  | some ti, .one (.sc (.int _ n)), .one (.sc (.int _ c)) => match tinfo P ti.elem with
    | some te => if ti.kind = 3 ∧ te.zero.length = te.size ∧ 0 < te.size ∧ n = c ∧ 0 ≤ n ∧ te.bytes * n ≤ 140737488355328 ∧ n ≤ 140737488355328 then
        .val (.one (.row te.size h.length n.toNat)) (h ++ [⟨te.size, ti.elem, .mut, List.replicate n.toNat (te.zero.map .sc)⟩])
      else .bad
    | none => .bad
  | _, _, _ => .bad

/-- the rows of a slice -/
def arows (h : List Blk) : AV → Option (List (List C))
  | .one (.sl rows) => some rows
  | .one (.row _ b n) => match h[b]? with
    | some k => if k.st.known = true ∧ k.rows.length = n then some k.rows else none
    | none => none
  | _ => none

def aappend1 (P : Program) (h : List Blk) (t : TypeId) (x y : AV) : Res :=
  match tinfo P t, arows h y with
  | some ti, some (r :: rs) => match tinfo P ti.elem with
    | some te =>
      if ti.kind = 3 ∧ te.zero.length = te.size ∧ 0 < te.size ∧ 0 < te.bytes then
        match x with
        | .one (.sc (.slice none 0 0)) =>
          if (rs.length + 1) * te.bytes ≤ 140737488355328 ∧ rowsLen te.size (r :: rs) = true then
            .val (.one (.row te.size h.length (rs.length + 1))) (h ++ [⟨te.size, ti.elem, .mut, r :: rs⟩])
          else .bad
        | .one (.row s b n) =>
          match h[b]? with
          | some k =>
            if (n + (rs.length + 1)) * te.bytes ≤ 140737488355328 ∧ s = te.size ∧ k.s = te.size ∧ k.ty = ti.elem ∧ k.st.isMut = true ∧ k.rows.length = n ∧ rowsLen te.size (r :: rs) = true then
              .val (.one (.row te.size h.length (n + (rs.length + 1)))) (h.set b ⟨k.s, k.ty, .dead, []⟩ ++ [⟨te.size, ti.elem, .mut, k.rows ++ (r :: rs)⟩])
            else .bad
          | none => .bad
        | _ => .bad
      else .bad
    | none => .bad
  | _, _ => .bad

/-- a slice without elements -/
def aempty : AV → Bool
  | .one (.sl []) => true
  | .one (.row _ _ 0) => true
  | .one (.sc (.slice _ 0 _)) => true
  | _ => false
def aisSlice : AV → Bool
  | .one (.sl _) => true
  | .one (.row _ _ _) => true
  | .one (.sc (.slice none 0 0)) => true
  | _ => false
def asame (P : Program) (h : List Blk) (t : TypeId) (x : AV) : Res :=
  match tinfo P t with
  | some ti => match tinfo P ti.elem with
    | some _ => if ti.kind = 3 ∧ aisSlice x = true then .val x h else .bad
    | none => .bad
  | none => .bad
def aappend (P : Program) (h : List Blk) (t : TypeId) (x y : AV) : Res := match aempty y with | true => asame P h t x | false => aappend1 P h t x y

def caps : List (Option AV) → Option (List C)
  | [] => some []
  | some (.one c) :: l => (caps l).map (c :: ·)
  | _ => none
def vals : List (Option AV) → Option (List AV)
  | [] => some []
  | some v :: l => (vals l).map (v :: ·)
  | none :: _ => none

def acall (s : ASt) (c : Call) : Res :=
  match c.callee with
  | .value f => match s.eval f, vals (c.args.toList.map s.eval) with
    | some (.one (.fn g cs)), some vs => .call g (vs ++ cs.map .one)
    | _, _ => .bad
  | _ => .bad

def ares1 (s : ASt) (x : Operand) (g : AV → Option AV) : Res := match s.eval x with | some v => ares (g v) s.h | none => .bad
def ares2 (s : ASt) (x y : Operand) (g : AV → AV → Option AV) : Res := match s.eval x, s.eval y with | some v, some u => ares (g v u) s.h | _, _ => .bad

def amax : AV → AV → Option AV
  | .one (.sc (.int k x)), .one (.sc (.int _ y)) => some (.one (.sc (.int k (max x y))))
  | _, _ => none
def abuiltin (P : Program) (s : ASt) (b : Builtin) (ts : List TypeId) (args : List Operand) : Res :=
  match b, args, ts with
  | .len, [x], [t] => ares1 s x (alen (tk P t))
  | .max, [x, y], [_, _] => ares2 s x y amax
  | .append, [x, y], [t, t'] => match s.eval x, s.eval y with | some x, some y => if t = t' then aappend P s.h t x y else .bad | _, _ => .bad
  | _, _, _ => .bad

def aop (P : Program) (s : ASt) (o : Oper) : Res :=
  match o.op with
  | .move x => ares (s.eval x) s.h
  | .assign x => ares (s.eval x) s.h
  | .pick c a b => match s.eval c, s.eval a, s.eval b with
    | some (.one (.sc (.bool c))), some x, some y => .val (bif c then x else y) s.h
    | _, _, _ => .bad
  | .alloc t => match tinfo P t with
    | some ti => if ti.zero.length = ti.size then .val (.one (.ptr ti.size s.h.length 0 0)) (s.h ++ [⟨ti.size, t, .mut, [ti.zero.map .sc]⟩]) else .bad
    | none => .bad
  | .box t x => match (s.eval x).bind AV.cells with
    | some cs => .val (.one (.ptr cs.length s.h.length 0 0)) (s.h ++ [⟨cs.length, t, .mut, [cs]⟩])
    | none => .bad
  | .build t parts => ares (abuild P t (parts.toList.map fun p => (p.1, s.eval p.2))) s.h
  | .buildSlice t len parts => abuildSlice P s.h t len (parts.toList.map fun p => (p.1, s.eval p.2))
  | .load t a => match s.eval a with
    | some (.one p) => ares (aload P s.h t p) s.h
    | _ => .bad
  | .store t a x => match s.eval a, s.eval x with
    | some (.one p), some v => ared (astore P s.h t p v)
    | _, _ => .bad
  | .nilCheck x => match s.eval x with
    | some (.one (.ptr a b c d)) => .val (.one (.ptr a b c d)) s.h
    | some (.one (.cur a b)) => .val (.one (.cur a b)) s.h
    | some (.one (.fn a b)) => .val (.one (.fn a b)) s.h
    | _ => .bad
  | .binOp op t x y _ => ares2 s x y (abin P op t)
  | .unOp op _ x => ares1 s x (aun op)
  | .convert a b x => match s.eval x, tint P b with
    | some (.one (.sc (.int _ n))), some k => if tk P a = 5 then .val (.one (.sc (.int k (k.wrap n)))) s.h else .bad
    | _, _ => .bad
  | .makeFunc (.func f) first cs => if first.isEmpty then (match caps (cs.toList.map s.eval) with | some cs => .val (.one (.fn f cs)) s.h | none => .bad) else .bad
  | .makeSlice t l c => match s.eval l, s.eval c with | some l, some c => amakeSlice P s.h t l c | _, _ => .bad
  | .slice t x lo hi none => ares1 s x (fun v => aslice (tk P t) (aesz P t) v (lo.map fun o => (s.eval o).getD aundef) (hi.map fun o => (s.eval o).getD aundef))
  | .fieldAddr t x f => ares1 s x (afieldAddr P t f)
  | .field t x f => ares1 s x (afield P t f)
  | .indexAddr t x i => ares2 s x i (aindexAddr P t)
  | .extract x k => match s.eval x with
    | some (.tup vs) => ares vs[k]? s.h
    | _ => .bad
  | .index t x i => ares2 s x i (aindex P t)
  | .call ⟨.builtin b, args, ts⟩ => abuiltin P s b ts.toList args.toList
  | .call c => acall s c
  | _ => .bad

/-- bytes out of rows of one cell each -/
def abytes : List (List C) → Option (List Int)
  | [] => some []
  | [.sc (.int .u8 n)] :: l => (match abytes l with | some ns => some (n :: ns) | none => none)
  | _ => none
def bytesOf (ns : List Int) : ByteArray := ns.foldl (fun r n => r.push (UInt8.ofNat n.toNat)) ByteArray.empty
/-- a slice of bytes as a string -/
def aconvB (P : Program) (s : ASt) (o : Oper) : Res :=
  match o.op with
  | .convert a b x => match s.eval x with
    | some v => (match arows s.h v, tinfo P a with
      | some (r :: rs), some ti => if ti.kind = 3 ∧ tk P b = 4 ∧ tint P ti.elem = some .u8 then (match abytes (r :: rs) with | some ns => .val (.one (.sc (.string (bytesOf ns)))) s.h | none => .bad) else .bad
      | _, _ => .bad)
    | none => .bad
  | _ => .bad
def aor (r q : Res) : Res := match r with | .bad => q | r => r
def aopX (P : Program) (s : ASt) (o : Oper) : Res := aor (aop P s o) (aconvB P s o)

inductive Item where
  | code (c : Code)
  | blk (id : Nat)
  | goal (I : ASt → Prop)
  | ops (l all : List Oper)

inductive Out where
  | ret (s : ASt)
  | call (f : FuncId) (args : List AV) (h : List Blk) (dst : Option Tmp) (k : List Item) (s : ASt)
  | loop (c : Code) (k : List Item) (s : ASt)
  | drawn (id : Nat) (l : List Oper) (k : List Item) (s : ASt)
  | goal (I : ASt → Prop) (s : ASt)
  | bad (k : List Item)
  | fuel (k : List Item) (s : ASt)

def exitK (id : Nat) : List Item → Option (List Item)
  | [] => none
  | .blk id' :: k => if id' = id then some k else exitK id k
  | .goal _ :: k => exitK id k
  | .code _ :: k => exitK id k
  | .ops _ _ :: k => exitK id k

def yieldedA (all : List Oper) (t : List (Nat × AV)) (j : Nat) : Option Bool :=
  match all[j]? with
  | some o => match o.dst with
    | some d => match look d t with
      | some (.one (.sc (.bool b))) => some b
      | _ => none
    | none => none
  | none => none

/-- does the operation come up? none: not known -/
def wantedA (all : List Oper) (t : List (Nat × AV)) : Option (Nat × Bool) → Option Bool
  | none => some true
  | some (j, want) => match all[j]? with
    | some o => match o.dst with
      | some d => match look d t with
        | some (.one (.sc (.bool b))) => some (b == want)
        | some (.tup []) => some false
        | _ => none
      | none => none
    | none => none

mutual
def arun (P : Program) : Nat → List Item → ASt → Out
  | 0, k, s => .fuel k s
  | _ + 1, [], s => .ret s
  | _ + 1, .goal I :: _, s => .goal I s
  | n + 1, .blk _ :: k, s => arun P n k s
  | n + 1, .ops [] _ :: k, s => arun P n k s
  | n + 1, .ops (o :: l) all :: k, s => awant P n (wantedA all s.t o.guard) o l all k s
  | n + 1, .code .skip :: k, s => arun P n k s
  | n + 1, .code (.seq a b) :: k, s => arun P n (.code a :: .code b :: k) s
  | n + 1, .code (.region id ops d) :: k, s => if d then .drawn id ops.toList k s else arun P n (.ops ops.toList ops.toList :: k) s
  | n + 1, .code (.cond c x y) :: k, s => acond P n (s.eval c) (.code x :: k) (.code y :: k) s
  | n + 1, .code (.block id c) :: k, s => arun P n (.code c :: .blk id :: k) s
  | _ + 1, .code (.loop c) :: k, s => .loop c k s
  | n + 1, .code (.exit id) :: k, s => match exitK id k with | some k' => arun P n k' s | none => .bad k
  | _ + 1, .code .ret :: _, s => .ret s
  | _ + 1, k, _ => .bad k
def awant (P : Program) (n : Nat) (w : Option Bool) (o : Oper) (l all : List Oper) (k : List Item) (s : ASt) : Out :=
  match w with
  | none => .bad (.ops (o :: l) all :: k)
  | some false => arun P n (.ops l all :: k) (s.put o.dst aundef)
  | some true => astep P n (aopX P s o) o l all k s
def astep (P : Program) (n : Nat) (r : Res) (o : Oper) (l all : List Oper) (k : List Item) (s : ASt) : Out :=
  match r with
  | .val v h => arun P n (.ops l all :: k) (ASt.put ⟨s.n, s.t, h⟩ o.dst v)
  | .skip h => arun P n (.ops l all :: k) (ASt.put ⟨s.n, s.t, h⟩ o.dst aundef)
  | .call f args => .call f args s.h o.dst (.ops l all :: k) s
  | .bad => .bad (.ops (o :: l) all :: k)
def acond (P : Program) (n : Nat) (c : Option AV) (x y : List Item) (s : ASt) : Out :=
  match c with
  | some (.one (.sc (.bool b))) => abr P n b x y s
  | _ => .bad x
def abr (P : Program) (n : Nat) (b : Bool) (x y : List Item) (s : ASt) : Out :=
  match b with
  | true => arun P n x s
  | false => arun P n y s
end
end Go.Proofs.Sh
/- What a shadow says of a value and of a world; what keeps it true. -/
namespace Go.Proofs.Sh
open Go.RowKit

/-- a row of n cells in block g -/
def RowAt (w : World) (g n : Nat) : Prop := ∃ cur ty, w.heap[g]? = some (.cells cur ty (0, 0)) ∧ cur.size = n

mutual
def C.rep (L μ : List Nat) (w : World) : C → Value → Prop
  | .top, u => u.oneCell' = true
  | .sc v, u => u = v ∧ u.oneCell' = true
  | .sl rows, u => ∃ p cap, u = .slice p rows.length cap ∧ rows.length ≤ cap ∧ cap ≤ maxLen ∧ (rows = [] ∨ ∃ b off s, p = some ⟨b, off, none⟩ ∧ b < w.heap.size ∧ b ∉ L ∧ C.repss L [] w s rows b off)
  | .cur cs j, u => ∃ b off, u = .pointer (some ⟨b, off + j, none⟩) ∧ b < w.heap.size ∧ b ∉ L ∧ C.reps L [] w cs b off
  | .row s b n, u => ∃ g cap, μ[b]? = some g ∧ u = .slice (some ⟨g, 0, none⟩) n cap ∧ n ≤ cap ∧ cap ≤ maxLen ∧ RowAt w g (cap * s)
  | .ptr s b i j, u => ∃ g, μ[b]? = some g ∧ u = .pointer (some ⟨g, i * s + j, none⟩)
  | .fn f caps, u => ∃ arr : Array Value, u = .func (.func f) #[] arr ∧ C.repl L μ w caps arr.toList
def C.reps (L μ : List Nat) (w : World) : List C → Nat → Nat → Prop
  | [], _, _ => True
  | c :: cs, b, off => (∃ u, w.cell? ⟨b, off, none⟩ = some u ∧ C.rep L μ w c u) ∧ C.reps L μ w cs b (off + 1)
def C.repss (L μ : List Nat) (w : World) (s : Nat) : List (List C) → Nat → Nat → Prop
  | [], _, _ => True
  | r :: rows, b, off => r.length = s ∧ C.reps L μ w r b off ∧ C.repss L μ w s rows b (off + s)
def C.repl (L μ : List Nat) (w : World) : List C → List Value → Prop
  | [], us => us = []
  | c :: cs, us => ∃ u us', us = u :: us' ∧ C.rep L μ w c u ∧ C.repl L μ w cs us'
end

/-- From one world to a later one: nothing but the blocks of L has been written. -/
structure Keep (L : List Nat) (w w' : World) : Prop where
  os : w'.os = w.os
  tape : w'.tape = w.tape
  output : w'.output = w.output
  size : w.heap.size ≤ w'.heap.size
  block : ∀ b, b ∉ L → b < w.heap.size → w'.heap[b]? = w.heap[b]?
  shape : ∀ (b : Nat) cur ty, w.heap[b]? = some (.cells cur ty (0, 0)) → ∃ cur', w'.heap[b]? = some (.cells cur' ty (0, 0)) ∧ cur'.size = cur.size

theorem Keep.refl (L : List Nat) (w : World) : Keep L w w := ⟨rfl, rfl, rfl, Nat.le_refl _, fun _ _ _ => rfl, fun _ cur _ h => ⟨cur, h, rfl⟩⟩
theorem Keep.trans {L M : List Nat} {a b c : World} (h : Keep L a b) (k : Keep M b c) (hM : ∀ x, x ∈ M → x < a.heap.size → x ∈ L) : Keep L a c :=
  ⟨k.os.trans h.os, k.tape.trans h.tape, k.output.trans h.output, Nat.le_trans h.size k.size,
   fun x hx hl => (k.block x (fun hm => hx (hM x hm hl)) (Nat.lt_of_lt_of_le hl h.size)).trans (h.block x hx hl),
   fun x cur ty hb => let ⟨c1, h1, e1⟩ := h.shape x cur ty hb; let ⟨c2, h2, e2⟩ := k.shape x c1 ty h1; ⟨c2, h2, e2.trans e1⟩⟩
theorem Keep.mono {L L' : List Nat} {w w' : World} (h : Keep L w w') (hL : ∀ x, x ∈ L → x ∈ L') : Keep L' w w' :=
  ⟨h.os, h.tape, h.output, h.size, fun b hb hl => h.block b (fun hm => hb (hL b hm)) hl, h.shape⟩

theorem lt_of_cell {w : World} {b off : Nat} {u : Value} (h : w.cell? ⟨b, off, none⟩ = some u) : b < w.heap.size := by
  rcases Nat.lt_or_ge b w.heap.size with h1 | h1
  · exact h1
  · simp [World.cell?, Array.getElem?_eq_none h1] at h
theorem Keep.cell {L : List Nat} {w w' : World} (h : Keep L w w') {b off : Nat} {u : Value} (hb : b ∉ L) (hc : w.cell? ⟨b, off, none⟩ = some u) : w'.cell? ⟨b, off, none⟩ = some u := by
  rw [World.cell?_of_block (w := w) (w' := w') (a := ⟨b, off, none⟩) (h.block b hb (lt_of_cell hc))]; exact hc
theorem Keep.row {L : List Nat} {w w' : World} (h : Keep L w w') {g n : Nat} (hr : RowAt w g n) : RowAt w' g n := by
  obtain ⟨cur, ty, h1, h2⟩ := hr
  obtain ⟨c', h3, h4⟩ := h.shape g cur ty h1
  exact ⟨c', ty, h3, h4.trans h2⟩

/-- How what is known carries over: K: what the change may write; L: what a tree avoids before, L' after; μ: where the own blocks are, before and after. -/
structure Carry (K L L' μ μ' : List Nat) (w w' : World) : Prop where
  keep : Keep K w w'
  sub : ∀ x, x < w.heap.size → x ∉ L → x ∉ K
  to : ∀ x, x < w.heap.size → x ∉ L → x ∉ L'
  map : ∀ (b g : Nat), μ[b]? = some g → μ'[b]? = some g

theorem Carry.nil {K L L' μ μ' : List Nat} {w w' : World} (k : Carry K L L' μ μ' w w') : Carry K L L' [] [] w w' := ⟨k.keep, k.sub, k.to, fun _ _ h => h⟩
mutual
theorem C.rep.carry {K L L' : List Nat} {w w' : World} : ∀ {c : C} {u : Value} {μ μ' : List Nat} (_ : Carry K L L' μ μ' w w'), C.rep L μ w c u → C.rep L' μ' w' c u
  | .top, u, _, _, k, h => by simpa [C.rep] using h
  | .sc v, u, _, _, k, h => by simpa [C.rep] using h
  | .sl rows, u, _, _, k, h => by
    simp only [C.rep] at h ⊢
    obtain ⟨p, cap, e, h1, h2, h3⟩ := h
    refine ⟨p, cap, e, h1, h2, ?_⟩
    rcases h3 with h3 | ⟨b, off, s, hp, hlt, hb, h3⟩
    · exact .inl h3
    · exact .inr ⟨b, off, s, hp, Nat.lt_of_lt_of_le hlt k.keep.size, k.to b hlt hb, C.repss.carry k.nil (k.sub b hlt hb) h3⟩
  | .cur cs j, u, _, _, k, h => by
    simp only [C.rep] at h ⊢
    obtain ⟨b, off, e, hlt, hb, h3⟩ := h
    exact ⟨b, off, e, Nat.lt_of_lt_of_le hlt k.keep.size, k.to b hlt hb, C.reps.carry k.nil (k.sub b hlt hb) h3⟩
  | .row s b n, u, _, _, k, h => by
    simp only [C.rep] at h ⊢
    obtain ⟨g, cap, h1, h2, h3, h4, h5⟩ := h
    exact ⟨g, cap, k.map b g h1, h2, h3, h4, k.keep.row h5⟩
  | .ptr s b i j, u, _, _, k, h => by
    simp only [C.rep] at h ⊢
    obtain ⟨g, h1, h2⟩ := h
    exact ⟨g, k.map b g h1, h2⟩
  | .fn f caps, u, _, _, k, h => by
    simp only [C.rep] at h ⊢
    obtain ⟨arr, h1, h2⟩ := h
    exact ⟨arr, h1, C.repl.carry k h2⟩
theorem C.reps.carry {K L L' : List Nat} {w w' : World} : ∀ {cs : List C} {b off : Nat} {μ μ' : List Nat} (_ : Carry K L L' μ μ' w w'), b ∉ K → C.reps L μ w cs b off → C.reps L' μ' w' cs b off
  | [], _, _, _, _, _, _, _ => by simp [C.reps]
  | c :: cs, b, off, _, _, k, hb, h => by
    simp only [C.reps] at h ⊢
    obtain ⟨⟨u, h1, h2⟩, h3⟩ := h
    exact ⟨⟨u, k.keep.cell hb h1, C.rep.carry k h2⟩, C.reps.carry k hb h3⟩
theorem C.repss.carry {K L L' : List Nat} {w w' : World} : ∀ {s : Nat} {rows : List (List C)} {b off : Nat} {μ μ' : List Nat} (_ : Carry K L L' μ μ' w w'), b ∉ K → C.repss L μ w s rows b off → C.repss L' μ' w' s rows b off
  | _, [], _, _, _, _, _, _, _ => by simp [C.repss]
  | s, r :: rows, b, off, _, _, k, hb, h => by
    simp only [C.repss] at h ⊢
    exact ⟨h.1, C.reps.carry k hb h.2.1, C.repss.carry k hb h.2.2⟩
theorem C.repl.carry {K L L' : List Nat} {w w' : World} : ∀ {cs : List C} {us : List Value} {μ μ' : List Nat} (_ : Carry K L L' μ μ' w w'), C.repl L μ w cs us → C.repl L' μ' w' cs us
  | [], us, _, _, k, h => by simpa [C.repl] using h
  | c :: cs, us, _, _, k, h => by
    simp only [C.repl] at h ⊢
    obtain ⟨u, us', h1, h2, h3⟩ := h
    exact ⟨u, us', h1, C.rep.carry k h2, C.repl.carry k h3⟩
end

theorem C.rep_one {L μ : List Nat} {w : World} : ∀ {c : C} {u : Value}, C.rep L μ w c u → u.oneCell' = true
  | .top, u, h => by simpa [C.rep] using h
  | .sc v, u, h => by simp only [C.rep] at h; exact h.2
  | .sl rows, u, h => by simp only [C.rep] at h; obtain ⟨p, cap, e, _⟩ := h; rw [e]; rfl
  | .cur cs j, u, h => by simp only [C.rep] at h; obtain ⟨p, cap, e, _⟩ := h; rw [e]; rfl
  | .row s b n, u, h => by simp only [C.rep] at h; obtain ⟨p, cap, _, e, _⟩ := h; rw [e]; rfl
  | .ptr s b i j, u, h => by simp only [C.rep] at h; obtain ⟨p, _, e⟩ := h; rw [e]; rfl
  | .fn f caps, u, h => by simp only [C.rep] at h; obtain ⟨p, e, _⟩ := h; rw [e]; rfl

mutual
def AV.rep (L μ : List Nat) (w : World) : AV → Value → Prop
  | .one c, u => C.rep L μ w c u
  | .agg cs, u => ∃ arr : Array Value, u = .agg arr ∧ C.repl L μ w cs arr.toList
  | .tup vs, u => ∃ arr : Array Value, u = .tuple arr ∧ AV.repl L μ w vs arr.toList
def AV.repl (L μ : List Nat) (w : World) : List AV → List Value → Prop
  | [], us => us = []
  | v :: vs, us => ∃ u us', us = u :: us' ∧ AV.rep L μ w v u ∧ AV.repl L μ w vs us'
end
mutual
theorem AV.rep.carry {K L L' μ μ' : List Nat} {w w' : World} (k : Carry K L L' μ μ' w w') : ∀ {v : AV} {u : Value}, AV.rep L μ w v u → AV.rep L' μ' w' v u
  | .one c, u, h => by simp only [AV.rep] at h ⊢; exact C.rep.carry k h
  | .agg cs, u, h => by
    simp only [AV.rep] at h ⊢
    obtain ⟨arr, h1, h2⟩ := h
    exact ⟨arr, h1, C.repl.carry k h2⟩
  | .tup vs, u, h => by
    simp only [AV.rep] at h ⊢
    obtain ⟨arr, h1, h2⟩ := h
    exact ⟨arr, h1, AV.repl.carry k h2⟩
theorem AV.repl.carry {K L L' μ μ' : List Nat} {w w' : World} (k : Carry K L L' μ μ' w w') : ∀ {vs : List AV} {us : List Value}, AV.repl L μ w vs us → AV.repl L' μ' w' vs us
  | [], us, h => by simpa [AV.repl] using h
  | v :: vs, us, h => by
    simp only [AV.repl] at h ⊢
    obtain ⟨u, us', h1, h2, h3⟩ := h
    exact ⟨u, us', h1, AV.rep.carry k h2, AV.repl.carry k h3⟩
end

/-! ### own blocks -/

/-- where the blocks are that may still be written -/
def alive : List Nat → List Blk → List Nat
  | g :: μ, b :: H => if b.st.isMut then g :: alive μ H else alive μ H
  | _, _ => []

theorem mem_alive {x : Nat} : ∀ {μ : List Nat} {H : List Blk}, x ∈ alive μ H ↔ ∃ (i : Nat) (b : Blk), μ[i]? = some x ∧ H[i]? = some b ∧ b.st.isMut = true
  | [], H => by simp [alive]
  | g :: μ, [] => by simp [alive]
  | g :: μ, b :: H => by
    have ih := mem_alive (x := x) (μ := μ) (H := H)
    simp only [alive]
    constructor
    · intro h
      split at h
      · rename_i hm
        rcases List.mem_cons.1 h with rfl | h
        · exact ⟨0, b, rfl, rfl, hm⟩
        · obtain ⟨i, b', h1, h2, h3⟩ := ih.1 h; exact ⟨i + 1, b', h1, h2, h3⟩
      · obtain ⟨i, b', h1, h2, h3⟩ := ih.1 h; exact ⟨i + 1, b', h1, h2, h3⟩
    · rintro ⟨i, b', h1, h2, h3⟩
      cases i with
      | zero => simp at h1 h2; subst h1 h2; simp [h3]
      | succ i =>
        have := ih.2 ⟨i, b', by simpa using h1, by simpa using h2, h3⟩
        split <;> simp [this]

/-- cells, in a row of memory -/
def Laid (L μ : List Nat) (w : World) (cur : Array Value) (s : Nat) (rows : List (List C)) : Prop :=
  ∀ (i : Nat) (r : List C), rows[i]? = some r → r.length = s ∧ ∀ (j : Nat) (c : C), r[j]? = some c → ∃ u, cur[i * s + j]? = some u ∧ C.rep L μ w c u

theorem Laid.carry {K L L' μ μ' : List Nat} {w w' : World} {cur : Array Value} {s : Nat} {rows : List (List C)} (k : Carry K L L' μ μ' w w') (h : Laid L μ w cur s rows) : Laid L' μ' w' cur s rows := by
  intro i r hr
  obtain ⟨h1, h2⟩ := h i r hr
  exact ⟨h1, fun j c hc => let ⟨u, hu, hv⟩ := h2 j c hc; ⟨u, hu, C.rep.carry k hv⟩⟩

structure Sim (X μ : List Nat) (H : List Blk) (w : World) : Prop where
  len : μ.length = H.length
  lt : ∀ g ∈ μ, g < w.heap.size
  xlt : ∀ g ∈ X, g < w.heap.size
  out : ∀ (i : Nat) (b : Blk) (g : Nat), H[i]? = some b → b.st.known = true → μ[i]? = some g → g ∉ X
  inj : ∀ (i j : Nat) (b b' : Blk) (g : Nat), i ≠ j → H[i]? = some b → H[j]? = some b' → b.st.isMut = true → b'.st.known = true → μ[i]? = some g → μ[j]? ≠ some g
  blk : ∀ (i : Nat) (b : Blk) (g : Nat), H[i]? = some b → b.st.known = true → μ[i]? = some g → ∃ cur, w.heap[g]? = some (.cells cur b.ty (0, 0)) ∧ Laid (X ++ alive μ H) μ w cur b.s b.rows

/-- the change from one state of the own blocks to a later one -/
structure Stp (μ : List Nat) (H : List Blk) (w : World) (μ' : List Nat) (H' : List Blk) (w' : World) : Prop where
  keep : Keep (alive μ H) w w'
  map : ∀ (b g : Nat), μ[b]? = some g → μ'[b]? = some g
  old : ∀ g ∈ alive μ' H', g < w.heap.size → g ∈ alive μ H

theorem Stp.refl (μ : List Nat) (H : List Blk) (w : World) : Stp μ H w μ H w := ⟨Keep.refl _ _, fun _ _ h => h, fun _ h _ => h⟩
theorem Stp.trans {μ μ1 μ2 : List Nat} {H H1 H2 : List Blk} {w w1 w2 : World} (h : Stp μ H w μ1 H1 w1) (k : Stp μ1 H1 w1 μ2 H2 w2) : Stp μ H w μ2 H2 w2 :=
  ⟨h.keep.trans k.keep (fun x hx hl => h.old x hx hl), fun b g e => k.map b g (h.map b g e), fun g hg hl => h.old g (k.old g hg (Nat.lt_of_lt_of_le hl h.keep.size)) hl⟩
theorem Stp.carry {X μ μ' : List Nat} {H H' : List Blk} {w w' : World} (h : Stp μ H w μ' H' w') : Carry (alive μ H) (X ++ alive μ H) (X ++ alive μ' H') μ μ' w w' :=
  ⟨h.keep, fun x _ hx => fun hm => hx (by simp [hm]), fun x hl hx => by
    simp only [List.mem_append, not_or] at hx ⊢
    exact ⟨hx.1, fun hm => hx.2 (h.old x hm hl)⟩, h.map⟩

theorem known_of_mut {q : Blk} (hq : q.st.isMut = true) : q.st.known = true := by cases hst : q.st <;> simp [St.isMut, St.known, hst] at hq ⊢
theorem Carry.any {L μ : List Nat} {w : World} : Carry [] L L [] μ w w := ⟨Keep.refl _ _, fun _ _ _ => by simp, fun _ _ h => h, fun b g h => by simp at h⟩
theorem Sim.get {X μ : List Nat} {H : List Blk} {w : World} (h : Sim X μ H w) {b : Nat} {k : Blk} (hb : H[b]? = some k) : ∃ g, μ[b]? = some g ∧ g < w.heap.size := by
  have hlt : b < μ.length := by rw [h.len]; exact (List.getElem?_eq_some_iff.1 hb).1
  exact ⟨μ[b], List.getElem?_eq_getElem hlt, h.lt _ (List.getElem_mem hlt)⟩
theorem Sim.aliveLt {X μ : List Nat} {H : List Blk} {w : World} (h : Sim X μ H w) {g : Nat} (hg : g ∈ alive μ H) : g < w.heap.size := by
  obtain ⟨i, b, h1, _, _⟩ := mem_alive.1 hg
  exact h.lt g (List.mem_of_getElem? h1)
end Go.Proofs.Sh
