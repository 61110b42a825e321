/- Types as trees: plain functions and laws. No program, no world. -/
namespace Go.Proofs.Grad

inductive Ty where
  | mk (kind : Int) (kids : List Ty)

def Ty.kind : Ty → Int | .mk k _ => k
def Ty.kids : Ty → List Ty | .mk _ l => l

mutual
def Ty.size : Ty → Nat
  | .mk _ l => 1 + Ty.sizes l
def Ty.sizes : List Ty → Nat
  | [] => 0
  | t :: l => t.size + Ty.sizes l
end

theorem Ty.sizes_mem {t : Ty} {l : List Ty} (h : t ∈ l) : t.size ≤ Ty.sizes l := by
  induction l with
  | nil => cases h
  | cons x l ih =>
    simp only [Ty.sizes]
    rcases List.mem_cons.1 h with rfl | h
    · omega
    · have := ih h; omega
theorem Ty.length_le_sizes (l : List Ty) : l.length ≤ Ty.sizes l := by
  induction l with
  | nil => simp
  | cons x l ih => cases x; simp only [Ty.sizes, Ty.size, List.length_cons]; omega

theorem Ty.kid_lt {l : List Ty} {k : Nat} (h : k < l.length) : Ty.sizes l[k].kids < Ty.sizes l := by
  have h1 := Ty.sizes_mem (List.getElem_mem h)
  generalize l[k] = t at *
  cases t
  simp only [Ty.size, Ty.kids] at *
  omega


theorem Ty.eta (t : Ty) : t = .mk t.kind t.kids := by cases t; rfl

/-! ### Equality -/
mutual
def Ty.same : Ty → Ty → Bool
  | .mk k l, .mk k' l' => k == k' && Ty.sames l l'
def Ty.sames : List Ty → List Ty → Bool
  | [], [] => true
  | t :: l, t' :: l' => t.same t' && Ty.sames l l'
  | [], _ :: _ => false
  | _ :: _, [] => false
end
mutual
theorem Ty.same_iff : ∀ a b : Ty, a.same b = true ↔ a = b
  | .mk k l, .mk k' l' => by simp [Ty.same, Ty.sames_iff l l']
theorem Ty.sames_iff : ∀ a b : List Ty, Ty.sames a b = true ↔ a = b
  | [], [] => by simp [Ty.sames]
  | t :: l, t' :: l' => by simp [Ty.sames, Ty.same_iff t t', Ty.sames_iff l l']
  | [], _ :: _ => by simp [Ty.sames]
  | _ :: _, [] => by simp [Ty.sames]
end
theorem Ty.same_eq (a b : Ty) : a.same b = (a.kind == b.kind && Ty.sames a.kids b.kids) := by cases a; cases b; rfl
theorem Ty.same_refl (a : Ty) : a.same a = true := (Ty.same_iff a a).2 rfl
theorem Ty.same_comm (a b : Ty) : a.same b = b.same a := by
  rw [Bool.eq_iff_iff, Ty.same_iff, Ty.same_iff]; exact eq_comm

/-- a relation, element by element -/
def all2 (f : Ty → Ty → Bool) : List Ty → List Ty → Bool
  | [], [] => true
  | t :: l, t' :: l' => f t t' && all2 f l l'
  | [], _ :: _ => false
  | _ :: _, [] => false
theorem Ty.sames_all2 : ∀ a b : List Ty, Ty.sames a b = all2 Ty.same a b
  | [], [] => rfl
  | t :: l, t' :: l' => by simp [Ty.sames, all2, Ty.sames_all2 l l']
  | [], _ :: _ => rfl
  | _ :: _, [] => rfl
theorem all2_drop {f : Ty → Ty → Bool} {a b : List Ty} {i : Nat} (ha : i < a.length) (hb : i < b.length) : all2 f (a.drop i) (b.drop i) = (f a[i] b[i] && all2 f (a.drop (i + 1)) (b.drop (i + 1))) := by
  rw [List.drop_eq_getElem_cons ha, List.drop_eq_getElem_cons hb, all2]
theorem all2_len {f : Ty → Ty → Bool} : ∀ {a b : List Ty}, a.length ≠ b.length → all2 f a b = false
  | [], [], h => by simp at h
  | t :: l, t' :: l', h => by simp [all2, all2_len (f := f) (a := l) (b := l') (by simpa using h)]
  | [], _ :: _, _ => rfl
  | _ :: _, [], _ => rfl

/-! ### Validity -/
def kidsN (k : Int) : Int := if k = 1 ∨ k = 2 ∨ k = 3 then 0 else if k = 4 ∨ k = 5 then 2 else -1
def Ty.shape : Nat → Ty → Bool
  | 0, _ => false
  | d + 1, t => (kidsN t.kind == (t.kids.length : Int)) && t.kids.all (Ty.shape d)
def Ty.valid (t : Ty) : Bool := t.shape 4

/-- valid types -/
inductive T where
  | any | int | bool
  | fn (a b : T)
  | pr (a b : T)
  deriving DecidableEq, Repr
def T.kind : T → Int | .any => 1 | .int => 2 | .bool => 3 | .fn _ _ => 4 | .pr _ _ => 5
def T.kids : T → List T | .fn a b => [a, b] | .pr a b => [a, b] | _ => []
def T.ty : T → Ty
  | .any => .mk 1 [] | .int => .mk 2 [] | .bool => .mk 3 []
  | .fn a b => .mk 4 [a.ty, b.ty] | .pr a b => .mk 5 [a.ty, b.ty]
def T.depth : T → Nat
  | .fn a b => max a.depth b.depth + 1 | .pr a b => max a.depth b.depth + 1 | _ => 1
def T.size : T → Nat
  | .fn a b => a.size + b.size + 1 | .pr a b => a.size + b.size + 1 | _ => 1
theorem T.size_pos (t : T) : 0 < t.size := by cases t <;> simp [T.size]
theorem T.ty_kind (t : T) : t.ty.kind = t.kind := by cases t <;> rfl
theorem T.ty_kids (t : T) : t.ty.kids = t.kids.map T.ty := by cases t <;> rfl
theorem T.ty_size (t : T) : t.ty.size = t.size := by
  induction t <;> simp [T.ty, Ty.size, Ty.sizes, T.size, *] <;> omega
theorem T.ty_inj : ∀ a b : T, a.ty = b.ty → a = b := by
  intro a
  induction a with
  | any => intro b h; cases b <;> simp [T.ty] at h ⊢
  | int => intro b h; cases b <;> simp [T.ty] at h ⊢
  | bool => intro b h; cases b <;> simp [T.ty] at h ⊢
  | fn x y hx hy => intro b h; cases b <;> simp [T.ty] at h ⊢; exact ⟨hx _ h.1, hy _ h.2⟩
  | pr x y hx hy => intro b h; cases b <;> simp [T.ty] at h ⊢; exact ⟨hx _ h.1, hy _ h.2⟩

theorem T.shape_ty : ∀ (t : T) (d : Nat), t.ty.shape d = decide (t.depth ≤ d)
  | .any, d => by cases d <;> simp [T.ty, Ty.shape, kidsN, Ty.kind, Ty.kids, T.depth]
  | .int, d => by cases d <;> simp [T.ty, Ty.shape, kidsN, Ty.kind, Ty.kids, T.depth]
  | .bool, d => by cases d <;> simp [T.ty, Ty.shape, kidsN, Ty.kind, Ty.kids, T.depth]
  | .fn a b, d => by
    cases d with
    | zero => simp [Ty.shape, T.depth]
    | succ d => simp [T.ty, Ty.shape, kidsN, Ty.kind, Ty.kids, T.depth, T.shape_ty a d, T.shape_ty b d, Nat.max_le]
  | .pr a b, d => by
    cases d with
    | zero => simp [Ty.shape, T.depth]
    | succ d => simp [T.ty, Ty.shape, kidsN, Ty.kind, Ty.kids, T.depth, T.shape_ty a d, T.shape_ty b d, Nat.max_le]

theorem Ty.shape_T : ∀ (d : Nat) (t : Ty), t.shape d = true → ∃ x : T, x.ty = t ∧ x.depth ≤ d
  | 0, t, h => by simp [Ty.shape] at h
  | d + 1, .mk k l, h => by
    simp only [Ty.shape, Ty.kind, Ty.kids, Bool.and_eq_true, beq_iff_eq, List.all_eq_true] at h
    obtain ⟨h1, h2⟩ := h
    unfold kidsN at h1
    split at h1
    · rename_i hk
      have : l = [] := List.eq_nil_of_length_eq_zero (by omega)
      subst this
      rcases hk with rfl | rfl | rfl
      · exact ⟨.any, rfl, by simp [T.depth]⟩
      · exact ⟨.int, rfl, by simp [T.depth]⟩
      · exact ⟨.bool, rfl, by simp [T.depth]⟩
    · split at h1
      · rename_i hk
        match l, h1 with
        | [a, b], _ =>
          obtain ⟨x, hx, dx⟩ := Ty.shape_T d a (h2 a (by simp))
          obtain ⟨y, hy, dy⟩ := Ty.shape_T d b (h2 b (by simp))
          subst hx hy
          rcases hk with rfl | rfl
          · exact ⟨.fn x y, rfl, by simp [T.depth]; omega⟩
          · exact ⟨.pr x y, rfl, by simp [T.depth]; omega⟩
        | [], h1 => simp at h1
        | [_], h1 => simp at h1
        | _ :: _ :: _ :: _, h1 => simp at h1; omega
      · omega

theorem Ty.valid_iff (t : Ty) : t.valid = true ↔ ∃ x : T, x.ty = t ∧ x.depth ≤ 4 :=
  ⟨Ty.shape_T 4 t, fun ⟨x, hx, hd⟩ => by subst hx; simp [Ty.valid, T.shape_ty, hd]⟩

/-! ### Relations on valid types -/
def T.ground : T → T | .fn _ _ => .fn .any .any | .pr _ _ => .pr .any .any | t => t
def T.cons : T → T → Bool
  | .any, _ => true | _, .any => true
  | .int, .int => true | .bool, .bool => true
  | .fn a b, .fn c d => a.cons c && b.cons d
  | .pr a b, .pr c d => a.cons c && b.cons d
  | _, _ => false
def T.prec : T → T → Bool
  | _, .any => true
  | .int, .int => true | .bool, .bool => true
  | .fn a b, .fn c d => a.prec c && b.prec d
  | .pr a b, .pr c d => a.prec c && b.prec d
  | _, _ => false
def subF (s o : T → T → Bool) : T → T → Bool
  | .any, .any => true | .int, .int => true | .bool, .bool => true
  | .fn a b, .fn c d => o c a && s b d
  | .pr a b, .pr c d => s a c && s b d
  | _, _ => false
mutual
def T.pos : T → T → Bool
  | _, .any => true
  | .int, .int => true | .bool, .bool => true
  | .fn a b, .fn c d => T.neg c a && T.pos b d
  | .pr a b, .pr c d => T.pos a c && T.pos b d
  | _, _ => false
termination_by a b => a.size + b.size
decreasing_by all_goals (simp only [T.size]; omega)
/-- against the unknown type as against the ground type -/
def T.neg : T → T → Bool
  | .any, _ => true
  | .fn a b, .any => T.pos .any a && T.neg b .any
  | .pr a b, .any => T.neg a .any && T.neg b .any
  | .int, .any => true | .bool, .any => true
  | .int, .int => true | .bool, .bool => true
  | .fn a b, .fn c d => T.pos c a && T.neg b d
  | .pr a b, .pr c d => T.neg a c && T.neg b d
  | _, _ => false
termination_by a b => a.size + b.size
decreasing_by all_goals (simp only [T.size]; omega)
end
def T.sub : T → T → Bool
  | .any, .any => true
  | .any, _ => false
  | .fn a b, .any => T.sub .any a && T.sub b .any
  | .pr a b, .any => T.sub a .any && T.sub b .any
  | .int, .any => true | .bool, .any => true
  | .int, .int => true | .bool, .bool => true
  | .fn a b, .fn c d => T.sub c a && T.sub b d
  | .pr a b, .pr c d => T.sub a c && T.sub b d
  | _, _ => false
termination_by a b => a.size + b.size
decreasing_by all_goals (simp only [T.size]; omega)
def T.count : T → Nat
  | .any => 1 | .fn a b => a.count + b.count | .pr a b => a.count + b.count | _ => 0

theorem T.pos_any (a : T) : a.pos .any = true := by cases a <;> simp [T.pos]
theorem T.any_pos (a : T) : T.any.pos a = decide (a = .any) := by cases a <;> simp [T.pos]
theorem T.any_neg (a : T) : T.any.neg a = true := by simp [T.neg]
theorem T.pos_eq (a b : T) (h : b ≠ .any) : a.pos b = subF T.pos T.neg a b := by
  cases a <;> cases b <;> simp [T.pos, subF] at h ⊢
theorem T.neg_eq (a b : T) (ha : a ≠ .any) (hb : b ≠ .any) : a.neg b = subF T.neg T.pos a b := by
  cases a <;> cases b <;> simp [T.neg, subF] at ha hb ⊢
theorem T.neg_ground (a : T) (ha : a ≠ .any) : a.neg .any = subF T.neg T.pos a a.ground := by
  cases a <;> simp [T.neg, subF, T.ground] at ha ⊢
theorem T.sub_eq (a b : T) (ha : a ≠ .any) (hb : b ≠ .any) : a.sub b = subF T.sub T.sub a b := by
  cases a <;> cases b <;> simp [T.sub, subF] at ha hb ⊢
theorem T.sub_ground (a : T) (ha : a ≠ .any) : a.sub .any = subF T.sub T.sub a a.ground := by
  cases a <;> simp [T.sub, subF, T.ground] at ha ⊢
theorem T.any_sub (b : T) : T.any.sub b = decide (b = .any) := by cases b <;> simp [T.sub]

/-! ### The same relations on types as they come -/
mutual
def Ty.cons : Ty → Ty → Bool
  | .mk k l, .mk k' l' => k == 1 || (k' == 1 || (k == k' && Ty.conss l l'))
def Ty.conss : List Ty → List Ty → Bool
  | [], [] => true
  | t :: l, t' :: l' => t.cons t' && Ty.conss l l'
  | [], _ :: _ => false
  | _ :: _, [] => false
end
theorem Ty.conss_all2 : ∀ a b : List Ty, Ty.conss a b = all2 Ty.cons a b
  | [], [] => rfl
  | t :: l, t' :: l' => by simp [Ty.conss, all2, Ty.conss_all2 l l']
  | [], _ :: _ => rfl
  | _ :: _, [] => rfl
theorem Ty.cons_eq (a b : Ty) : a.cons b = (a.kind == 1 || (b.kind == 1 || (a.kind == b.kind && all2 Ty.cons a.kids b.kids))) := by
  cases a; cases b; simp [Ty.cons, Ty.conss_all2, Ty.kind, Ty.kids]
mutual
def Ty.prec : Ty → Ty → Bool
  | .mk k l, .mk k' l' => k' == 1 || (k == k' && Ty.precs l l')
def Ty.precs : List Ty → List Ty → Bool
  | [], [] => true
  | t :: l, t' :: l' => t.prec t' && Ty.precs l l'
  | [], _ :: _ => false
  | _ :: _, [] => false
end
theorem Ty.precs_all2 : ∀ a b : List Ty, Ty.precs a b = all2 Ty.prec a b
  | [], [] => rfl
  | t :: l, t' :: l' => by simp [Ty.precs, all2, Ty.precs_all2 l l']
  | [], _ :: _ => rfl
  | _ :: _, [] => rfl
theorem Ty.prec_eq (a b : Ty) : a.prec b = (b.kind == 1 || (a.kind == b.kind && all2 Ty.prec a.kids b.kids)) := by
  cases a; cases b; simp [Ty.prec, Ty.precs_all2, Ty.kind, Ty.kids]
theorem T.cons_ty (a : T) : ∀ b : T, a.ty.cons b.ty = a.cons b := by
  induction a with
  | any => intro b; cases b <;> rfl
  | int => intro b; cases b <;> rfl
  | bool => intro b; cases b <;> rfl
  | fn x y hx hy => intro b; cases b <;> simp [T.ty, Ty.cons, Ty.conss, T.cons, hx, hy]
  | pr x y hx hy => intro b; cases b <;> simp [T.ty, Ty.cons, Ty.conss, T.cons, hx, hy]
theorem T.prec_ty (a : T) : ∀ b : T, a.ty.prec b.ty = a.prec b := by
  induction a with
  | any => intro b; cases b <;> rfl
  | int => intro b; cases b <;> rfl
  | bool => intro b; cases b <;> rfl
  | fn x y hx hy => intro b; cases b <;> simp [T.ty, Ty.prec, Ty.precs, T.prec, hx, hy]
  | pr x y hx hy => intro b; cases b <;> simp [T.ty, Ty.prec, Ty.precs, T.prec, hx, hy]
/- how many nodes are unknown; below an unknown node none is looked at -/
mutual
def Ty.count : Ty → Nat
  | .mk k l => if k = 1 then 1 else Ty.counts l
def Ty.counts : List Ty → Nat
  | [] => 0
  | t :: l => t.count + Ty.counts l
end
theorem T.count_ty (a : T) : a.ty.count = a.count := by
  induction a <;> simp [T.ty, Ty.count, Ty.counts, T.count, *]
mutual
theorem Ty.count_le : ∀ t : Ty, t.count ≤ t.size
  | .mk k l => by
    rw [Ty.count, Ty.size]
    have := Ty.counts_le l
    split <;> omega
theorem Ty.counts_le : ∀ l : List Ty, Ty.counts l ≤ Ty.sizes l
  | [] => by simp [Ty.counts, Ty.sizes]
  | t :: l => by rw [Ty.counts, Ty.sizes]; have := Ty.count_le t; have := Ty.counts_le l; omega
end
theorem Ty.counts_take {l : List Ty} {k : Nat} (h : k < l.length) : Ty.counts (l.take (k + 1)) = Ty.counts (l.take k) + l[k].count := by
  induction l generalizing k with
  | nil => simp at h
  | cons t l ih =>
    cases k with
    | zero => simp [Ty.counts]
    | succ k => simp only [List.take_succ_cons, Ty.counts, List.getElem_cons_succ]; rw [ih (by simpa using h)]; omega
theorem Ty.counts_take_le (l : List Ty) (k : Nat) : Ty.counts (l.take k) ≤ Ty.counts l := by
  induction l generalizing k with
  | nil => simp [Ty.counts]
  | cons t l ih =>
    cases k with
    | zero => simp [Ty.counts]
    | succ k => simp only [List.take_succ_cons, Ty.counts]; have := ih k; omega
end Go.Proofs.Grad
