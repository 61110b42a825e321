/- Texts of the proof, one behind another. -/
import Derived.Lib.SlicesCompact
import Derived.Test.YtbiobfbonpiiiaaKV7
import Derived.Test.YtbiobfbonpiiiaaKV8
set_option linter.unusedSimpArgs false
set_option linter.unusedVariables false
/- Types as trees: plain functions and laws. No program, no world. -/
namespace Go.Proofs.Grad

inductive Ty where
  | mk (kind : Int) (kids : List Ty)

def Ty.kind : Ty → Int | .mk k _ => k
def Ty.kids : Ty → List Ty | .mk _ l => l

mutual
def Ty.size : Ty → Nat
  | .mk _ l => 1 + Ty.sizes l
def Ty.sizes : List Ty → Nat
  | [] => 0
  | t :: l => t.size + Ty.sizes l
end

theorem Ty.sizes_mem {t : Ty} {l : List Ty} (h : t ∈ l) : t.size ≤ Ty.sizes l := by
  induction l with
  | nil => cases h
  | cons x l ih =>
    simp only [Ty.sizes]
    rcases List.mem_cons.1 h with rfl | h
    · omega
    · have := ih h; omega
theorem Ty.length_le_sizes (l : List Ty) : l.length ≤ Ty.sizes l := by
  induction l with
  | nil => simp
  | cons x l ih => cases x; simp only [Ty.sizes, Ty.size, List.length_cons]; omega

theorem Ty.kid_lt {l : List Ty} {k : Nat} (h : k < l.length) : Ty.sizes l[k].kids < Ty.sizes l := by
  have h1 := Ty.sizes_mem (List.getElem_mem h)
  generalize l[k] = t at *
  cases t
  simp only [Ty.size, Ty.kids] at *
  omega


mutual
def Ty.same : Ty → Ty → Bool
  | .mk k l, .mk k' l' => k == k' && Ty.sames l l'
def Ty.sames : List Ty → List Ty → Bool
  | [], [] => true
  | t :: l, t' :: l' => t.same t' && Ty.sames l l'
  | [], _ :: _ => false
  | _ :: _, [] => false
end
mutual
theorem Ty.same_iff : ∀ a b : Ty, a.same b = true ↔ a = b
  | .mk k l, .mk k' l' => by simp [Ty.same, Ty.sames_iff l l']
theorem Ty.sames_iff : ∀ a b : List Ty, Ty.sames a b = true ↔ a = b
  | [], [] => by simp [Ty.sames]
  | t :: l, t' :: l' => by simp [Ty.sames, Ty.same_iff t t', Ty.sames_iff l l']
  | [], _ :: _ => by simp [Ty.sames]
  | _ :: _, [] => by simp [Ty.sames]
end
theorem Ty.same_eq (a b : Ty) : a.same b = (a.kind == b.kind && Ty.sames a.kids b.kids) := by cases a; cases b; rfl
theorem Ty.same_refl (a : Ty) : a.same a = true := (Ty.same_iff a a).2 rfl
/-- a relation, element by element -/
def all2 (f : Ty → Ty → Bool) : List Ty → List Ty → Bool
  | [], [] => true
  | t :: l, t' :: l' => f t t' && all2 f l l'
  | [], _ :: _ => false
  | _ :: _, [] => false
theorem Ty.sames_all2 : ∀ a b : List Ty, Ty.sames a b = all2 Ty.same a b
  | [], [] => rfl
  | t :: l, t' :: l' => by simp [Ty.sames, all2, Ty.sames_all2 l l']
  | [], _ :: _ => rfl
  | _ :: _, [] => rfl
theorem all2_drop {f : Ty → Ty → Bool} {a b : List Ty} {i : Nat} (ha : i < a.length) (hb : i < b.length) : all2 f (a.drop i) (b.drop i) = (f a[i] b[i] && all2 f (a.drop (i + 1)) (b.drop (i + 1))) := by
  rw [List.drop_eq_getElem_cons ha, List.drop_eq_getElem_cons hb, all2]
theorem all2_len {f : Ty → Ty → Bool} : ∀ {a b : List Ty}, a.length ≠ b.length → all2 f a b = false
  | [], [], h => by simp at h
  | t :: l, t' :: l', h => by simp [all2, all2_len (f := f) (a := l) (b := l') (by simpa using h)]
  | [], _ :: _, _ => rfl
  | _ :: _, [], _ => rfl

/-! ### Validity -/
def kidsN (k : Int) : Int := if k = 1 ∨ k = 2 ∨ k = 3 then 0 else if k = 4 ∨ k = 5 then 2 else -1
def Ty.shape : Nat → Ty → Bool
  | 0, _ => false
  | d + 1, t => (kidsN t.kind == (t.kids.length : Int)) && t.kids.all (Ty.shape d)
def Ty.valid (t : Ty) : Bool := t.shape 4

/-- valid types -/
inductive T where
  | any | int | bool
  | fn (a b : T)
  | pr (a b : T)
  deriving DecidableEq, Repr
def T.kind : T → Int | .any => 1 | .int => 2 | .bool => 3 | .fn _ _ => 4 | .pr _ _ => 5
def T.kids : T → List T | .fn a b => [a, b] | .pr a b => [a, b] | _ => []
def T.ty : T → Ty
  | .any => .mk 1 [] | .int => .mk 2 [] | .bool => .mk 3 []
  | .fn a b => .mk 4 [a.ty, b.ty] | .pr a b => .mk 5 [a.ty, b.ty]
def T.depth : T → Nat
  | .fn a b => max a.depth b.depth + 1 | .pr a b => max a.depth b.depth + 1 | _ => 1
def T.size : T → Nat
  | .fn a b => a.size + b.size + 1 | .pr a b => a.size + b.size + 1 | _ => 1
theorem T.size_pos (t : T) : 0 < t.size := by cases t <;> simp [T.size]
theorem T.ty_kind (t : T) : t.ty.kind = t.kind := by cases t <;> rfl
theorem T.ty_size (t : T) : t.ty.size = t.size := by
  induction t <;> simp [T.ty, Ty.size, Ty.sizes, T.size, *] <;> omega
theorem T.ty_inj : ∀ a b : T, a.ty = b.ty → a = b := by
  intro a
  induction a with
  | any => intro b h; cases b <;> simp [T.ty] at h ⊢
  | int => intro b h; cases b <;> simp [T.ty] at h ⊢
  | bool => intro b h; cases b <;> simp [T.ty] at h ⊢
  | fn x y hx hy => intro b h; cases b <;> simp [T.ty] at h ⊢; exact ⟨hx _ h.1, hy _ h.2⟩
  | pr x y hx hy => intro b h; cases b <;> simp [T.ty] at h ⊢; exact ⟨hx _ h.1, hy _ h.2⟩

theorem T.shape_ty : ∀ (t : T) (d : Nat), t.ty.shape d = decide (t.depth ≤ d)
  | .any, d => by cases d <;> simp [T.ty, Ty.shape, kidsN, Ty.kind, Ty.kids, T.depth]
  | .int, d => by cases d <;> simp [T.ty, Ty.shape, kidsN, Ty.kind, Ty.kids, T.depth]
  | .bool, d => by cases d <;> simp [T.ty, Ty.shape, kidsN, Ty.kind, Ty.kids, T.depth]
  | .fn a b, d => by
    cases d with
    | zero => simp [Ty.shape, T.depth]
    | succ d => simp [T.ty, Ty.shape, kidsN, Ty.kind, Ty.kids, T.depth, T.shape_ty a d, T.shape_ty b d, Nat.max_le]
  | .pr a b, d => by
    cases d with
    | zero => simp [Ty.shape, T.depth]
    | succ d => simp [T.ty, Ty.shape, kidsN, Ty.kind, Ty.kids, T.depth, T.shape_ty a d, T.shape_ty b d, Nat.max_le]

theorem Ty.shape_T : ∀ (d : Nat) (t : Ty), t.shape d = true → ∃ x : T, x.ty = t ∧ x.depth ≤ d
  | 0, t, h => by simp [Ty.shape] at h
  | d + 1, .mk k l, h => by
    simp only [Ty.shape, Ty.kind, Ty.kids, Bool.and_eq_true, beq_iff_eq, List.all_eq_true] at h
    obtain ⟨h1, h2⟩ := h
    unfold kidsN at h1
    split at h1
    · rename_i hk
      have : l = [] := List.eq_nil_of_length_eq_zero (by omega)
      subst this
      rcases hk with rfl | rfl | rfl
      · exact ⟨.any, rfl, by simp [T.depth]⟩
      · exact ⟨.int, rfl, by simp [T.depth]⟩
      · exact ⟨.bool, rfl, by simp [T.depth]⟩
    · split at h1
      · rename_i hk
        match l, h1 with
        | [a, b], _ =>
          obtain ⟨x, hx, dx⟩ := Ty.shape_T d a (h2 a (by simp))
          obtain ⟨y, hy, dy⟩ := Ty.shape_T d b (h2 b (by simp))
          subst hx hy
          rcases hk with rfl | rfl
          · exact ⟨.fn x y, rfl, by simp [T.depth]; omega⟩
          · exact ⟨.pr x y, rfl, by simp [T.depth]; omega⟩
        | [], h1 => simp at h1
        | [_], h1 => simp at h1
        | _ :: _ :: _ :: _, h1 => simp at h1; omega
      · omega

theorem Ty.valid_iff (t : Ty) : t.valid = true ↔ ∃ x : T, x.ty = t ∧ x.depth ≤ 4 :=
  ⟨Ty.shape_T 4 t, fun ⟨x, hx, hd⟩ => by subst hx; simp [Ty.valid, T.shape_ty, hd]⟩

/-! ### Relations on valid types -/
def T.ground : T → T | .fn _ _ => .fn .any .any | .pr _ _ => .pr .any .any | t => t
def T.cons : T → T → Bool
  | .any, _ => true | _, .any => true
  | .int, .int => true | .bool, .bool => true
  | .fn a b, .fn c d => a.cons c && b.cons d
  | .pr a b, .pr c d => a.cons c && b.cons d
  | _, _ => false
mutual
def T.pos : T → T → Bool
  | _, .any => true
  | .int, .int => true | .bool, .bool => true
  | .fn a b, .fn c d => T.neg c a && T.pos b d
  | .pr a b, .pr c d => T.pos a c && T.pos b d
  | _, _ => false
termination_by a b => a.size + b.size
decreasing_by all_goals (simp only [T.size]; omega)
/-- against the unknown type as against the ground type -/
def T.neg : T → T → Bool
  | .any, _ => true
  | .fn a b, .any => T.pos .any a && T.neg b .any
  | .pr a b, .any => T.neg a .any && T.neg b .any
  | .int, .any => true | .bool, .any => true
  | .int, .int => true | .bool, .bool => true
  | .fn a b, .fn c d => T.pos c a && T.neg b d
  | .pr a b, .pr c d => T.neg a c && T.neg b d
  | _, _ => false
termination_by a b => a.size + b.size
decreasing_by all_goals (simp only [T.size]; omega)
end
def T.sub : T → T → Bool
  | .any, .any => true
  | .any, _ => false
  | .fn a b, .any => T.sub .any a && T.sub b .any
  | .pr a b, .any => T.sub a .any && T.sub b .any
  | .int, .any => true | .bool, .any => true
  | .int, .int => true | .bool, .bool => true
  | .fn a b, .fn c d => T.sub c a && T.sub b d
  | .pr a b, .pr c d => T.sub a c && T.sub b d
  | _, _ => false
termination_by a b => a.size + b.size
decreasing_by all_goals (simp only [T.size]; omega)
def T.count : T → Nat
  | .any => 1 | .fn a b => a.count + b.count | .pr a b => a.count + b.count | _ => 0

mutual
def Ty.cons : Ty → Ty → Bool
  | .mk k l, .mk k' l' => k == 1 || (k' == 1 || (k == k' && Ty.conss l l'))
def Ty.conss : List Ty → List Ty → Bool
  | [], [] => true
  | t :: l, t' :: l' => t.cons t' && Ty.conss l l'
  | [], _ :: _ => false
  | _ :: _, [] => false
end
theorem Ty.conss_all2 : ∀ a b : List Ty, Ty.conss a b = all2 Ty.cons a b
  | [], [] => rfl
  | t :: l, t' :: l' => by simp [Ty.conss, all2, Ty.conss_all2 l l']
  | [], _ :: _ => rfl
  | _ :: _, [] => rfl
theorem Ty.cons_eq (a b : Ty) : a.cons b = (a.kind == 1 || (b.kind == 1 || (a.kind == b.kind && all2 Ty.cons a.kids b.kids))) := by
  cases a; cases b; simp [Ty.cons, Ty.conss_all2, Ty.kind, Ty.kids]
theorem T.cons_ty (a : T) : ∀ b : T, a.ty.cons b.ty = a.cons b := by
  induction a with
  | any => intro b; cases b <;> rfl
  | int => intro b; cases b <;> rfl
  | bool => intro b; cases b <;> rfl
  | fn x y hx hy => intro b; cases b <;> simp [T.ty, Ty.cons, Ty.conss, T.cons, hx, hy]
  | pr x y hx hy => intro b; cases b <;> simp [T.ty, Ty.cons, Ty.conss, T.cons, hx, hy]
mutual
def Ty.count : Ty → Nat
  | .mk k l => if k = 1 then 1 else Ty.counts l
def Ty.counts : List Ty → Nat
  | [] => 0
  | t :: l => t.count + Ty.counts l
end
end Go.Proofs.Grad
/- Coercions as trees, and their pure functions. No program, no world. -/
namespace Go.Proofs.Grad

/-- coercions as they come -/
inductive Co where
  | mk (k tag label : Int) (kids : List Co)
def Co.kind : Co → Int | .mk k _ _ _ => k
def Co.tag : Co → Int | .mk _ t _ _ => t
def Co.label : Co → Int | .mk _ _ l _ => l
def Co.kids : Co → List Co | .mk _ _ _ l => l
mutual
def Co.size : Co → Nat
  | .mk _ _ _ l => 1 + Co.sizes l
def Co.sizes : List Co → Nat
  | [] => 0
  | t :: l => t.size + Co.sizes l
end
/-- coercions that are valid but for depth and labels, where of a form -/
inductive K where
  | id (g : Int) | fn (a b : K) | pr (a b : K) | inj (c : K) | prj (l : Int) (c : K) | fail (l g : Int)
def K.co : K → Co
  | .id g => .mk 1 g 0 []
  | .fn a b => .mk 2 0 0 [a.co, b.co]
  | .pr a b => .mk 3 0 0 [a.co, b.co]
  | .inj c => .mk 4 0 0 [c.co]
  | .prj l c => .mk 5 0 l [c.co]
  | .fail l g => .mk 6 g l []
def K.plain : K → Bool
  | .fn _ _ => true | .pr _ _ => true | .id g => g != 1 | _ => false
def K.isAny : K → Bool
  | .id g => g == 1 | _ => false
def K.isPrj : K → Bool
  | .prj _ _ => true | _ => false
/-- a label -/
def lab (n : Int) : Bool := (decide (1 ≤ n) && decide (n ≤ 99)) || (decide (-99 ≤ n) && decide (n ≤ -1))
def K.wf : K → Bool
  | .id g => decide (1 ≤ g) && decide (g ≤ 3)
  | .fn a b => a.wf && b.wf
  | .pr a b => a.wf && b.wf
  | .inj c => c.plain && c.wf
  | .prj l c => lab l && !c.isPrj && !c.isAny && c.wf
  | .fail l g => lab l && decide (2 ≤ g) && decide (g ≤ 5)
def K.depth : K → Nat
  | .id _ => 1 | .fail _ _ => 1
  | .fn a b => max a.depth b.depth + 1
  | .pr a b => max a.depth b.depth + 1
  | .inj c => c.depth + 1
  | .prj _ c => c.depth + 1
def K.size : K → Nat
  | .id _ => 1 | .fail _ _ => 1
  | .fn a b => a.size + b.size + 1
  | .pr a b => a.size + b.size + 1
  | .inj c => c.size + 1
  | .prj _ c => c.size + 1
def K.tag : K → Int
  | .id g => g | .fn _ _ => 4 | .pr _ _ => 5 | .inj c => c.tag | .prj _ _ => 0 | .fail _ g => g
def K.labels : K → List Int
  | .id _ => [] | .fail l _ => [l]
  | .fn a b => a.labels ++ b.labels
  | .pr a b => a.labels ++ b.labels
  | .inj c => c.labels
  | .prj l c => l :: c.labels
def K.ident : K → Bool
  | .id _ => true | .fn a b => a.ident && b.ident | .pr a b => a.ident && b.ident | _ => false
theorem K.size_pos (c : K) : 0 < c.size := by cases c <;> simp [K.size]
mutual
def Co.same : Co → Co → Bool
  | .mk k t l a, .mk k' t' l' b => k == k' && (t == t' && (l == l' && Co.sames a b))
def Co.sames : List Co → List Co → Bool
  | [], [] => true
  | a :: l, b :: m => a.same b && Co.sames l m
  | _, _ => false
end
mutual
theorem Co.same_iff : ∀ a b : Co, a.same b = true ↔ a = b
  | .mk k t l a, .mk k' t' l' b => by simp [Co.same, Co.sames_iff a b]
theorem Co.sames_iff : ∀ a b : List Co, Co.sames a b = true ↔ a = b
  | [], [] => by simp [Co.sames]
  | [], _ :: _ => by simp [Co.sames]
  | _ :: _, [] => by simp [Co.sames]
  | a :: l, b :: m => by simp [Co.sames, Co.same_iff a b, Co.sames_iff l m]
end
theorem Co.same_refl (a : Co) : a.same a = true := (Co.same_iff a a).2 rfl
def Co.plain (c : Co) : Bool := c.kind == 2 || (c.kind == 3 || (c.kind == 1 && c.tag != 1))
def Co.okN (c : Co) : Bool :=
  match c with
  | .mk k t l ks =>
    if k = 1 then ks.length == 0 && (l == 0 && (decide (1 ≤ t) && decide (t ≤ 3)))
    else if k = 2 ∨ k = 3 then ks.length == 2 && (l == 0 && t == 0)
    else if k = 4 then (match ks with | [c] => l == 0 && (t == 0 && c.plain) | _ => false)
    else if k = 5 then (match ks with | [c] => lab l && (t == 0 && (c.kind != 5 && (c.kind != 1 || c.tag != 1))) | _ => false)
    else if k = 6 then ks.length == 0 && (lab l && (decide (2 ≤ t) && decide (t ≤ 5)))
    else false
def Co.shape : Nat → Co → Bool
  | 0, _ => false
  | d + 1, c => c.okN && c.kids.all (Co.shape d)
def Co.valid (c : Co) : Bool := c.shape 9

theorem K.co_plain (k : K) : k.co.plain = k.plain := by cases k <;> simp [K.co, Co.plain, Co.kind, Co.tag, K.plain]
theorem K.co_any (k : K) : (k.co.kind == 1 && k.co.tag == 1) = k.isAny := by cases k <;> simp [K.co, Co.kind, Co.tag, K.isAny]
theorem K.co_prj (k : K) : (k.co.kind == 5) = k.isPrj := by cases k <;> simp [K.co, Co.kind, K.isPrj]
theorem K.shape_co : ∀ (k : K) (d : Nat), k.co.shape d = (k.wf && decide (k.depth ≤ d))
  | k, 0 => by cases k <;> simp [Co.shape, K.depth]
  | .id g, d + 1 => by simp [K.co, Co.shape, Co.okN, Co.kids, K.wf, K.depth]
  | .fail l g, d + 1 => by simp [K.co, Co.shape, Co.okN, Co.kids, K.wf, K.depth, Bool.and_assoc]
  | .fn a b, d + 1 => by
    simp only [K.co, Co.shape, Co.okN, Co.kids, K.wf, K.depth, List.all_cons, List.all_nil, K.shape_co a d, K.shape_co b d]
    rw [Bool.eq_iff_iff]; simp; grind
  | .pr a b, d + 1 => by
    simp only [K.co, Co.shape, Co.okN, Co.kids, K.wf, K.depth, List.all_cons, List.all_nil, K.shape_co a d, K.shape_co b d]
    rw [Bool.eq_iff_iff]; simp; grind
  | .inj a, d + 1 => by
    simp only [K.co, Co.shape, Co.okN, Co.kids, K.wf, K.depth, List.all_cons, List.all_nil, K.shape_co a d, K.co_plain]
    rw [Bool.eq_iff_iff]; simp; grind
  | .prj l a, d + 1 => by
    have h1 := K.co_any a
    have h2 := K.co_prj a
    simp only [K.co, Co.shape, Co.okN, Co.kids, K.wf, K.depth, List.all_cons, List.all_nil, K.shape_co a d, ← h1, ← h2]
    rw [Bool.eq_iff_iff]; simp [bne]; grind
theorem Co.shape_K : ∀ (d : Nat) (c : Co), c.shape d = true → ∃ k : K, k.co = c ∧ k.wf = true ∧ k.depth ≤ d := by
  intro d
  induction d with
  | zero => intro c h; simp [Co.shape] at h
  | succ d ih =>
    intro c h
    obtain ⟨k, t, l, ks⟩ := c
    have h0 := h
    simp only [Co.shape, Bool.and_eq_true, Co.kids, List.all_eq_true] at h
    obtain ⟨h1, h2⟩ := h
    have fin : ∀ x : K, x.co = Co.mk k t l ks → ∃ k' : K, k'.co = Co.mk k t l ks ∧ k'.wf = true ∧ k'.depth ≤ d + 1 := by
      intro x hx
      rw [← hx, K.shape_co] at h0
      simp only [Bool.and_eq_true, decide_eq_true_eq] at h0
      exact ⟨x, hx, h0.1, h0.2⟩
    simp only [Co.okN] at h1
    split at h1
    · rename_i hk; simp at h1
      obtain ⟨rfl, rfl, _⟩ := h1
      subst hk
      exact fin (.id t) rfl
    · split at h1
      · rename_i hk; simp at h1
        obtain ⟨hl, rfl, rfl⟩ := h1
        obtain ⟨a, b, rfl⟩ : ∃ a b, ks = [a, b] := by
          match ks, hl with
          | [a, b], _ => exact ⟨a, b, rfl⟩
        obtain ⟨x, hx, _⟩ := ih a (h2 a (by simp))
        obtain ⟨y, hy, _⟩ := ih b (h2 b (by simp))
        rcases hk with rfl | rfl
        · exact fin (.fn x y) (by rw [K.co, hx, hy])
        · exact fin (.pr x y) (by rw [K.co, hx, hy])
      · split at h1
        · rename_i hk; subst hk
          split at h1
          · rename_i a; simp at h1
            obtain ⟨rfl, rfl, _⟩ := h1
            obtain ⟨x, hx, _⟩ := ih a (h2 a (by simp))
            exact fin (.inj x) (by rw [K.co, hx])
          · cases h1
        · split at h1
          · rename_i hk; subst hk
            split at h1
            · rename_i a; simp at h1
              obtain ⟨_, rfl, _⟩ := h1
              obtain ⟨x, hx, _⟩ := ih a (h2 a (by simp))
              exact fin (.prj l x) (by rw [K.co, hx])
            · cases h1
          · split at h1
            · rename_i hk; subst hk
              simp at h1
              obtain ⟨rfl, _⟩ := h1
              exact fin (.fail l t) rfl
            · cases h1
theorem Co.valid_iff (c : Co) : c.valid = true ↔ ∃ k : K, k.co = c ∧ k.wf = true ∧ k.depth ≤ 9 :=
  ⟨Co.shape_K 9 c, fun ⟨k, e, h1, h2⟩ => by rw [← e, Co.valid, K.shape_co, h1]; simpa using h2⟩
end Go.Proofs.Grad
/- Lists of labels: sorted, each once. No program, no world. -/
namespace Go.Proofs.Grad
/-- each number greater than those before it -/
def Up (l : List Int) : Prop := l.Pairwise (· < ·)
/-- what the library's two calls make of a list -/
def srt (l : List Int) : List Int := l.mergeSort fun x y => decide (x ≤ y)
def setL (l : List Int) : List Int := Lib.compact (srt l)
theorem srt_length (l : List Int) : (srt l).length = l.length := by simp [srt]
theorem compactUpTo_spec (d : Array Int) (hd : ∀ i j, i ≤ j → j < d.size → d[i]! ≤ d[j]!) : ∀ m, m ≤ d.size → Up (Lib.compactUpTo d m) ∧ (∀ x, x ∈ Lib.compactUpTo d m ↔ ∃ j, j < m ∧ d[j]! = x) ∧ (Lib.compactUpTo d m).length ≤ m := by
  intro m
  induction m with
  | zero => intro _; simp [Lib.compactUpTo, Up]
  | succ m ih =>
    intro h
    obtain ⟨h1, h2, h3⟩ := ih (by omega)
    rw [Lib.compactUpTo_succ]
    cases hk : Lib.keeps d m
    · have hk' : ¬ (m = 0 ∨ d[m]! ≠ d[m - 1]!) := of_decide_eq_false hk
      have hm : m ≠ 0 := fun e => hk' (.inl e)
      have he : d[m]! = d[m - 1]! := by
        rcases Decidable.em (d[m]! = d[m - 1]!) with e | e
        · exact e
        · exact absurd (.inr e) hk'
      simp only [Bool.false_eq_true, if_false, List.append_nil]
      refine ⟨h1, fun x => ?_, by omega⟩
      rw [h2]
      constructor
      · rintro ⟨j, hj, e⟩; exact ⟨j, by omega, e⟩
      · rintro ⟨j, hj, e⟩
        rcases Nat.lt_or_ge j m with hj' | hj'
        · exact ⟨j, hj', e⟩
        · exact ⟨m - 1, by omega, by rw [← he, ← e]; congr; omega⟩
    · have hk' : m = 0 ∨ d[m]! ≠ d[m - 1]! := of_decide_eq_true hk
      rw [if_pos rfl]
      refine ⟨?_, fun x => ?_, by simp; omega⟩
      · unfold Up at h1 ⊢
        rw [List.pairwise_append]
        refine ⟨h1, by simp, fun x hx y hy => ?_⟩
        simp at hy; subst hy
        obtain ⟨j, hj, e⟩ := (h2 x).1 hx
        have a1 := hd j (m - 1) (by omega) (by omega)
        have a2 := hd (m - 1) m (by omega) (by omega)
        rcases hk' with e' | e'
        · omega
        · subst e; omega
      · simp only [List.mem_append, List.mem_singleton, h2]
        constructor
        · rintro (⟨j, hj, e⟩ | e)
          · exact ⟨j, by omega, e⟩
          · exact ⟨m, by omega, e.symm⟩
        · rintro ⟨j, hj, e⟩
          rcases Nat.lt_or_ge j m with hj' | hj'
          · exact .inl ⟨j, hj', e⟩
          · exact .inr (by rw [← e]; congr; omega)
theorem setL_spec (l : List Int) : Up (setL l) ∧ (∀ x, x ∈ setL l ↔ x ∈ l) ∧ (setL l).length ≤ l.length := by
  have hs : (srt l).Pairwise (fun x y => decide (x ≤ y) = true) := List.pairwise_mergeSort (fun a b c h1 h2 => by simp at *; omega) (fun a b => by simp; omega) l
  have hd : ∀ i j, i ≤ j → j < (srt l).toArray.size → (srt l).toArray[i]! ≤ (srt l).toArray[j]! := by
    intro i j hij hj
    have hj' : j < (srt l).length := by simpa using hj
    rcases Nat.lt_or_ge i j with h | h
    · have := List.pairwise_iff_getElem.1 hs i j (by omega) hj' h
      simp only [decide_eq_true_eq] at this
      simp only [List.getElem!_toArray]
      rw [List.getElem!_eq_getElem?_getD, List.getElem!_eq_getElem?_getD, List.getElem?_eq_getElem (by omega : i < (srt l).length), List.getElem?_eq_getElem hj']
      exact this
    · have : i = j := by omega
      subst this; exact Int.le_refl _
  obtain ⟨h1, h2, h3⟩ := compactUpTo_spec (srt l).toArray hd (srt l).length (by simp)
  refine ⟨h1, fun x => ?_, Nat.le_trans h3 (Nat.le_of_eq (srt_length l))⟩
  rw [show setL l = Lib.compactUpTo (srt l).toArray (srt l).length from rfl, h2]
  have hm : x ∈ srt l ↔ x ∈ l := List.mem_mergeSort
  rw [← hm]
  constructor
  · rintro ⟨j, hj, e⟩
    simp only [List.getElem!_toArray] at e
    rw [List.getElem!_eq_getElem?_getD, List.getElem?_eq_getElem hj] at e
    exact List.mem_of_getElem (h := hj) e
  · intro h
    obtain ⟨j, hj, e⟩ := List.getElem_of_mem h
    refine ⟨j, hj, ?_⟩
    simp only [List.getElem!_toArray]
    rw [List.getElem!_eq_getElem?_getD, List.getElem?_eq_getElem hj]
    exact e
theorem compact_len (l : List Int) : (Lib.compact l).length ≤ l.length := by
  have : ∀ m, (Lib.compactUpTo l.toArray m).length ≤ m := by
    intro m
    induction m with
    | zero => simp [Lib.compactUpTo]
    | succ m ih => rw [Lib.compactUpTo_succ, List.length_append]; split <;> simp <;> omega
  exact this _
theorem setL_nil_iff (l : List Int) : setL l = [] ↔ l = [] := by
  obtain ⟨_, h, _⟩ := setL_spec l
  constructor
  · intro e
    cases l with
    | nil => rfl
    | cons x l => have := (h x).2 (by simp); rw [e] at this; simp at this
  · rintro rfl
    cases e : setL [] with
    | nil => rfl
    | cons y m => have := (h y).1 (by rw [e]; simp); simp at this
end Go.Proofs.Grad
/- The library's sort and its removal of neighbours, as contracts on shadows. -/
namespace Go.Proofs.Sh
open Go.Proofs.Grad
theorem grow_none (w : World) : Go.Sort.grow w #[] = w := by
  simp [Go.Sort.grow]
attribute [go_sem] List.getD_cons_zero List.getD_cons_succ List.getD_nil
end Go.Proofs.Sh
namespace Go.Proofs.Ytbiobfbonpiiiaa
open Go.RowKit Go.Proofs.Sh Go.Proofs.Grad
theorem one_of_len {μ : List Nat} (h : μ.length = 1) : ∃ g, μ = [g] := by
  match μ, h with
  | [g], _ => exact ⟨g, rfl⟩
theorem sortCall (zs : List Int) (hz : zs.length < 4611686018427387904) : ACl Try.prog 76 [.one (.row 1 0 zs.length)] [⟨1, 3, .mut, intR zs⟩] (fun r H' => r = .tup [] ∧ H' = [⟨1, 3, .mut, intR (srt zs)⟩]) := by
  refine ⟨⟨isfn_76, fun X μ w vs hS hr => ?_⟩⟩
  obtain ⟨g, rfl⟩ := one_of_len hS.len
  simp only [AV.repl, AV.rep, C.rep, List.getElem?_cons_zero, Option.some.injEq] at hr
  obtain ⟨u, us, e1, ⟨g', cap, rfl, rfl, h1, h2, h3⟩, rfl⟩ := hr
  obtain rfl : vs = #[.slice (some ⟨g, 0, none⟩) zs.length cap] := by rw [← Array.toList_inj]; exact e1
  have hlt : g < w.heap.size := hS.lt g (by simp)
  refine (Any.slices_Sort_int sortLays g 0 cap zs w (sim_holds hS) hlt hz).mono fun e w' ⟨he, n, os, hw⟩ => ?_
  subst hw
  obtain ⟨h4, h5⟩ := put_sim (os := os) (n := n) hS (d := srt zs) (l := srt zs) (srt_length zs) (Nat.le_refl _) (fun j h => List.getElem?_eq_getElem h)
  exact ⟨.tup [], _, [g], _, he, ⟨rfl, rfl⟩, h4, h5, ⟨#[], rfl, by simp [AV.repl]⟩⟩
theorem sortNil : AFn Try.prog 76 [.one (.sl [])] (.tup []) := by
  refine fn_in ⟨⟨isfn_76, fun X μ w vs hS hr => ?_⟩⟩
  simp only [AV.repl, AV.rep, C.rep] at hr
  obtain ⟨u, us, e1, ⟨p, cap, rfl, _⟩, rfl⟩ := hr
  obtain rfl : vs = #[.slice p 0 cap] := by rw [← Array.toList_inj]; exact e1
  refine (Any.slices_Sort_int_none sortLays p cap w).mono fun e w' ⟨he, hw⟩ => ?_
  subst hw
  exact ⟨.tup [], [], μ, _, he, ⟨rfl, rfl⟩, hS, Stp.refl _ _ _, ⟨#[], rfl, by simp [AV.repl]⟩⟩
theorem compCall (zs : List Int) (hz : zs.length < 4611686018427387904) : ACl Try.prog 77 [.one (.row 1 0 zs.length)] [⟨1, 3, .mut, intR zs⟩] (fun r H' => r = .one (.row 1 0 (Lib.compact zs).length) ∧ H' = [⟨1, 3, .mut, intR (Lib.compact zs)⟩]) := by
  refine ⟨⟨isfn_77, fun X μ w vs hS hr => ?_⟩⟩
  obtain ⟨g, rfl⟩ := one_of_len hS.len
  simp only [AV.repl, AV.rep, C.rep, List.getElem?_cons_zero, Option.some.injEq] at hr
  obtain ⟨u, us, e1, ⟨g', cap, rfl, rfl, h1, h2, h3⟩, rfl⟩ := hr
  obtain rfl : vs = #[.slice (some ⟨g, 0, none⟩) zs.length cap] := by rw [← Array.toList_inj]; exact e1
  have hc : (Lib.compact zs).length ≤ zs.length := compact_len zs
  refine (Any.slices_Compact_int compLays g 0 cap zs w (sim_holds hS) (by omega) h1).mono fun e w' ⟨he, n, hw⟩ => ?_
  have hw' : w' = Go.Sort.grow (Go.Sort.putRow (Value.int .i64) (Go.Sort.ahead w n) g 0 (Lib.compact zs ++ List.replicate (zs.length - (Lib.compact zs).length) 0).toArray) #[] := by rw [grow_none, hw]
  subst hw'
  obtain ⟨h4, h5⟩ := put_sim (os := #[]) (n := n) hS (d := Lib.compact zs ++ List.replicate (zs.length - (Lib.compact zs).length) 0) (l := Lib.compact zs) (by simp; omega) (by simp) (fun j h => by rw [List.getElem?_append_left h]; exact List.getElem?_eq_getElem h)
  exact ⟨_, _, [g], _, he, ⟨rfl, rfl⟩, h4, h5, ⟨g, cap, rfl, rfl, by omega, h2, h5.keep.row h3⟩⟩
theorem compNil : AFn Try.prog 77 [.one (.sl [])] (.one (.sl [])) := by
  refine fn_in ⟨⟨isfn_77, fun X μ w vs hS hr => ?_⟩⟩
  simp only [AV.repl, AV.rep, C.rep] at hr
  obtain ⟨u, us, e1, ⟨p, cap, rfl, h1, h2, h3⟩, rfl⟩ := hr
  obtain rfl : vs = #[.slice p 0 cap] := by rw [← Array.toList_inj]; exact e1
  refine (Any.slices_Compact_int_empty compLays p cap w).mono fun e w' ⟨he, hw⟩ => ?_
  subst hw
  exact ⟨.one (.sl []), [], μ, _, he, ⟨rfl, rfl⟩, hS, Stp.refl _ _ _, by simp only [AV.rep, C.rep]; exact ⟨p, cap, rfl, h1, h2, h3⟩⟩
end Go.Proofs.Ytbiobfbonpiiiaa
/- Sorted labels in the reference. On shadows. -/
namespace Go.Proofs.Grad
end Go.Proofs.Grad
namespace Go.Proofs.Ytbiobfbonpiiiaa
open Go.RowKit Go.Proofs.Sh Go.Proofs.Grad
set_option maxRecDepth 100000
set_option maxHeartbeats 8000000
end Go.Proofs.Ytbiobfbonpiiiaa
/- Types as shadows. -/
namespace Go.Proofs.Sh
open Go.RowKit Go.Proofs.Grad

mutual
def tyC : Ty → List C
  | .mk k l => [.sc (.int .i64 k), .sl (tyR l)]
def tyR : List Ty → List (List C)
  | [] => []
  | t :: l => tyC t :: tyR l
end
theorem tyC_eq (t : Ty) : tyC t = [.sc (.int .i64 t.kind), .sl (tyR t.kids)] := by cases t; rfl
@[go_sem] theorem tyC_length (t : Ty) : (tyC t).length = 2 := by rw [tyC_eq]; rfl
@[go_sem] theorem tyC_0 (t : Ty) : (tyC t)[0]? = some (.sc (.int .i64 t.kind)) := by rw [tyC_eq]; rfl
@[go_sem] theorem tyC_1 (t : Ty) : (tyC t)[1]? = some (.sl (tyR t.kids)) := by rw [tyC_eq]; rfl
@[go_sem] theorem tyC_take (t : Ty) : (tyC t).take 2 = tyC t := by rw [tyC_eq]; rfl
@[go_sem] theorem tyC_drop2 (t : Ty) : (tyC t).drop 2 = [] := by rw [tyC_eq]; rfl
@[go_sem] theorem tyC_tree (t : Ty) : (tyC t).all C.tree = true := by rw [tyC_eq]; rfl
@[go_sem] theorem tyC_treeL (t : Ty) : treeL (tyC t) = true := by rw [tyC_eq]; rfl
@[go_sem] theorem tyR_length (l : List Ty) : (tyR l).length = l.length := by
  induction l with
  | nil => rfl
  | cons t l ih => simp [tyR, ih]
theorem tyR_get (l : List Ty) (i : Nat) : (tyR l)[i]? = (l[i]?).map tyC := by
  induction l generalizing i with
  | nil => simp [tyR]
  | cons t l ih => cases i <;> simp [tyR, ih]
@[go_sem] theorem tyC_splice1 (t : Ty) (x : C) : splice (tyC t) 1 [x] = [.sc (.int .i64 t.kind), x] := by rw [tyC_eq]; rfl
@[go_sem] theorem tyC_splice0 (t : Ty) (x : C) : splice (tyC t) 0 [x] = [x, .sl (tyR t.kids)] := by rw [tyC_eq]; rfl
@[go_sem] theorem tyC_splice2 (t : Ty) (x y : C) : splice (tyC t) 0 [x, y] = [x, y] := by rw [tyC_eq]; rfl
/-- the k-th one of a list of types -/
def kid (l : List Ty) (k : Nat) : Ty := l.getD k (.mk 0 [])
theorem kid_eq {l : List Ty} {k : Nat} (h : k < l.length) : kid l k = l[k] := by simp [kid, h]
@[go_sem] theorem tyR_at (l : List Ty) (i : Nat) : (tyR l)[i]? = match decide ((i : Int) < (l.length : Int)) with | true => some (tyC (kid l i)) | false => none := by
  rw [tyR_get]
  by_cases h : i < l.length
  · have h' : (i : Int) < (l.length : Int) := by omega
    simp [h, h', kid]
  · have h' : ¬ (i : Int) < (l.length : Int) := by omega
    simp [h, h']
theorem kid_lt {t : Ty} {k : Nat} (h : k < t.kids.length) : (kid t.kids k).size < t.size := by
  rw [kid_eq h]
  have := Ty.sizes_mem (List.getElem_mem h)
  cases t; simp only [Ty.size, Ty.kids] at *; omega
theorem take_kid {l : List Ty} {k : Nat} (h : k < l.length) : l.take (k + 1) = l.take k ++ [kid l k] := by
  rw [kid_eq h, List.take_succ_eq_append_getElem h]
theorem drop_kid {l : List Ty} {k : Nat} (h : k < l.length) : l.drop k = kid l k :: l.drop (k + 1) := by
  rw [kid_eq h, List.drop_eq_getElem_cons h]
theorem tyR_take {l : List Ty} {k : Nat} (h : k < l.length) : tyR (l.take (k + 1)) = tyR (l.take k) ++ [tyC (kid l k)] := by
  rw [take_kid h]
  induction l.take k with
  | nil => rfl
  | cons x m ih => simp only [List.cons_append, tyR, ih]
@[go_sem] theorem tyR_tree (l : List Ty) : treeRows (tyR l) = true := by
  induction l with
  | nil => rfl
  | cons t l ih =>
    simp only [treeRows, tyR, List.all_cons, tyC_treeL, Bool.true_and]
    exact ih
@[go_sem] theorem tyR_len (l : List Ty) : rowsLen 2 (tyR l) = true := by
  induction l with
  | nil => rfl
  | cons t l ih =>
    simp only [rowsLen, tyR, List.all_cons, tyC_length, beq_self_eq_true, Bool.true_and]
    exact ih
theorem tyR_append (l m : List Ty) : tyR (l ++ m) = tyR l ++ tyR m := by
  induction l with
  | nil => rfl
  | cons t l ih => simp [tyR, ih]
attribute [go_sem] tyR
end Go.Proofs.Sh
/- Coercions as shadows. -/
namespace Go.Proofs.Sh
open Go.RowKit Go.Proofs.Grad

mutual
def coC : Co → List C
  | .mk x0 x1 x2 x3 => [.sc (.int .i64 (x0)), .sc (.int .i64 (x1)), .sc (.int .i64 (x2)), .sl (coR (x3))]
def coR : List Co → List (List C)
  | [] => []
  | t :: l => coC t :: coR l
end
theorem coC_eq (t : Co) : coC t = [.sc (.int .i64 (t.kind)), .sc (.int .i64 (t.tag)), .sc (.int .i64 (t.label)), .sl (coR (t.kids))] := by cases t; rfl
@[go_sem] theorem coC_length (t : Co) : (coC t).length = 4 := by rw [coC_eq]; rfl
@[go_sem] theorem coC_take (t : Co) : (coC t).take 4 = coC t := by rw [coC_eq]; rfl
@[go_sem] theorem coC_drop (t : Co) : (coC t).drop 0 = coC t := rfl
@[go_sem] theorem coC_dropn (t : Co) : (coC t).drop 4 = [] := by rw [coC_eq]; rfl
@[go_sem] theorem coC_treeL (t : Co) : treeL (coC t) = true := by rw [coC_eq]; rfl
@[go_sem] theorem coC_0 (t : Co) : (coC t)[0]? = some (.sc (.int .i64 (t.kind))) := by rw [coC_eq]; rfl
@[go_sem] theorem coC_1 (t : Co) : (coC t)[1]? = some (.sc (.int .i64 (t.tag))) := by rw [coC_eq]; rfl
@[go_sem] theorem coC_2 (t : Co) : (coC t)[2]? = some (.sc (.int .i64 (t.label))) := by rw [coC_eq]; rfl
@[go_sem] theorem coC_3 (t : Co) : (coC t)[3]? = some (.sl (coR (t.kids))) := by rw [coC_eq]; rfl
@[go_sem] theorem coC_splice0 (t : Co) (x : C) : splice (coC t) 0 [x] = [x, .sc (.int .i64 (t.tag)), .sc (.int .i64 (t.label)), .sl (coR (t.kids))] := by rw [coC_eq]; rfl
@[go_sem] theorem coC_splice1 (t : Co) (x : C) : splice (coC t) 1 [x] = [.sc (.int .i64 (t.kind)), x, .sc (.int .i64 (t.label)), .sl (coR (t.kids))] := by rw [coC_eq]; rfl
@[go_sem] theorem coC_splice2 (t : Co) (x : C) : splice (coC t) 2 [x] = [.sc (.int .i64 (t.kind)), .sc (.int .i64 (t.tag)), x, .sl (coR (t.kids))] := by rw [coC_eq]; rfl
@[go_sem] theorem coC_splice3 (t : Co) (x : C) : splice (coC t) 3 [x] = [.sc (.int .i64 (t.kind)), .sc (.int .i64 (t.tag)), .sc (.int .i64 (t.label)), x] := by rw [coC_eq]; rfl
@[go_sem] theorem coR_length (l : List Co) : (coR l).length = l.length := by
  induction l with
  | nil => rfl
  | cons t l ih => simp [coR, ih]
theorem coR_get (l : List Co) (i : Nat) : (coR l)[i]? = (l[i]?).map coC := by
  induction l generalizing i with
  | nil => simp [coR]
  | cons t l ih => cases i <;> simp [coR, ih]
/-- the k-th one -/
def coKid (l : List Co) (k : Nat) : Co := l.getD k (.mk 0 0 0 [])
theorem coKid_eq {l : List Co} {k : Nat} (h : k < l.length) : coKid l k = l[k] := by simp [coKid, h]
@[go_sem] theorem coR_at (l : List Co) (i : Nat) : (coR l)[i]? = match decide ((i : Int) < (l.length : Int)) with | true => some (coC (coKid l i)) | false => none := by
  rw [coR_get]
  by_cases h : i < l.length
  · have h' : (i : Int) < (l.length : Int) := by omega
    simp [h, h', coKid]
  · have h' : ¬ (i : Int) < (l.length : Int) := by omega
    simp [h, h']
theorem cosizes_mem {t : Co} {l : List Co} (h : t ∈ l) : t.size ≤ Co.sizes l := by
  induction l with
  | nil => simp at h
  | cons x l ih =>
    simp only [Co.sizes]
    rcases List.mem_cons.1 h with rfl | h
    · omega
    · have := ih h; omega
theorem colen_sizes (l : List Co) : l.length ≤ Co.sizes l := by
  induction l with
  | nil => simp [Co.sizes]
  | cons x l ih => cases x; simp only [Co.sizes, Co.size, List.length_cons]; omega
theorem cokids_lt (t : Co) : Co.sizes t.kids < t.size := by cases t; simp only [Co.size, Co.kids]; omega
theorem colen_lt (t : Co) : t.kids.length < t.size := Nat.lt_of_le_of_lt (colen_sizes _) (cokids_lt t)
theorem coKid_lt {t : Co} {k : Nat} (h : k < t.kids.length) : (coKid t.kids k).size < t.size := by
  rw [coKid_eq h]
  exact Nat.lt_of_le_of_lt (cosizes_mem (List.getElem_mem h)) (cokids_lt t)
theorem codrop_kid {l : List Co} {k : Nat} (h : k < l.length) : l.drop k = coKid l k :: l.drop (k + 1) := by
  rw [coKid_eq h, List.drop_eq_getElem_cons h]
@[go_sem] theorem coR_tree (l : List Co) : treeRows (coR l) = true := by
  induction l with
  | nil => rfl
  | cons t l ih => simp only [coR, treeRows_cons, coC_treeL, Bool.true_and]; exact ih
@[go_sem] theorem coR_len (l : List Co) : rowsLen 4 (coR l) = true := by
  induction l with
  | nil => rfl
  | cons t l ih => simp only [coR, rowsLen_cons, coC_length, beq_self_eq_true, Bool.true_and]; exact ih
attribute [go_sem] coR
@[go_sem] theorem cokind_mk (x0 : Int) (x1 : Int) (x2 : Int) (x3 : List Co) : (Co.mk x0 x1 x2 x3).kind = x0 := rfl
@[go_sem] theorem cotag_mk (x0 : Int) (x1 : Int) (x2 : Int) (x3 : List Co) : (Co.mk x0 x1 x2 x3).tag = x1 := rfl
@[go_sem] theorem colabel_mk (x0 : Int) (x1 : Int) (x2 : Int) (x3 : List Co) : (Co.mk x0 x1 x2 x3).label = x2 := rfl
@[go_sem] theorem cokids_mk (x0 : Int) (x1 : Int) (x2 : Int) (x3 : List Co) : (Co.mk x0 x1 x2 x3).kids = x3 := rfl
end Go.Proofs.Sh
