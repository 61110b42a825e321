/- Texts of the proof, one behind another. -/
import Derived.Test.YtchcbfbnffhifaaKW9
import Derived.Test.YtchcbfbnffhifaaKW12
import Derived.Test.YtchcbfbnffhifaaKW14
set_option linter.unusedSimpArgs false
set_option linter.unusedVariables false
/- Terms with other types, in the program and in the reference. On shadows. -/
namespace Go.Proofs.Grad
/-- a term with the types of a list, and those that are left -/
def E.wt : E → List T → E × List T
  | .lam x t a, l => match l with | [] => (.lam x t a, []) | u :: l => (.lam x u (a.wt l).1, (a.wt l).2)
  | .asc t a, l => match l with | [] => (.asc t a, []) | u :: l => (.asc u (a.wt l).1, (a.wt l).2)
  | .app a b, l => (.app (a.wt l).1 (b.wt (a.wt l).2).1, (b.wt (a.wt l).2).2)
  | .add a b, l => (.add (a.wt l).1 (b.wt (a.wt l).2).1, (b.wt (a.wt l).2).2)
  | .less a b, l => (.less (a.wt l).1 (b.wt (a.wt l).2).1, (b.wt (a.wt l).2).2)
  | .pair a b, l => (.pair (a.wt l).1 (b.wt (a.wt l).2).1, (b.wt (a.wt l).2).2)
  | .ite a b c, l => (.ite (a.wt l).1 (b.wt (a.wt l).2).1 (c.wt (b.wt (a.wt l).2).2).1, (c.wt (b.wt (a.wt l).2).2).2)
  | .fst a, l => (.fst (a.wt l).1, (a.wt l).2)
  | .snd a, l => (.snd (a.wt l).1, (a.wt l).2)
  | .cast s t k a, l => (.cast s t k (a.wt l).1, (a.wt l).2)
  | e, l => (e, l)
/-- how many types a term mentions -/
def E.nt : E → Nat
  | .var _ | .num _ | .tru | .fls => 0
  | .lam _ _ a | .asc _ a => 1 + a.nt
  | .fst a | .snd a | .cast _ _ _ a => a.nt
  | .app a b | .add a b | .less a b | .pair a b => a.nt + b.nt
  | .ite a b c => a.nt + (b.nt + c.nt)
theorem E.wt_rest (e : E) : ∀ l : List T, e.nt ≤ l.length → (e.wt l).2 = l.drop e.nt := by
  induction e with
  | lam x t a ih | asc t a ih =>
    intro l h
    cases l with
    | nil => simp [E.nt] at h
    | cons u l =>
      simp only [E.nt, List.length_cons] at h
      simp only [E.wt, E.nt]
      rw [ih l (by omega), Nat.add_comm 1, List.drop_succ_cons]
  | app a b iha ihb | add a b iha ihb | less a b iha ihb | pair a b iha ihb =>
    intro l h
    simp only [E.nt] at h
    simp only [E.wt, E.nt]
    rw [iha l (by omega), ihb _ (by rw [List.length_drop]; omega), List.drop_drop]
  | ite a b c iha ihb ihc =>
    intro l h
    simp only [E.nt] at h
    simp only [E.wt, E.nt]
    rw [iha l (by omega), ihb _ (by rw [List.length_drop]; omega), ihc _ (by simp only [List.length_drop]; omega), List.drop_drop, List.drop_drop]
  | fst a ih | snd a ih | cast _ _ _ a ih => intro l h; exact ih l h
  | _ => intro l h; rfl
theorem len_rest {e : E} {l : List T} (h : e.nt ≤ l.length) : (e.wt l).2.length = l.length - e.nt := by rw [E.wt_rest e l h, List.length_drop]
end Go.Proofs.Grad
namespace Go.Proofs.Ytchcbfbnffhifaa
open Go.RowKit Go.Proofs.Sh Go.Proofs.Grad
set_option maxRecDepth 100000
set_option maxHeartbeats 8000000
end Go.Proofs.Ytchcbfbnffhifaa
/- Steps of terms with casts. No program, no world. -/
namespace Go.Proofs.Grad
/-- v in place of x -/
def E.subst : E → UInt8 → E → E
  | .var y, x, v => match y == x with | true => v | false => .var y
  | .lam y t a, x, v => match y == x with | true => .lam y t a | false => .lam y t (a.subst x v)
  | .num n, x, v => .num n
  | .tru, x, v => .tru
  | .fls, x, v => .fls
  | .app a b, x, v => .app (a.subst x v) (b.subst x v)
  | .add a b, x, v => .add (a.subst x v) (b.subst x v)
  | .less a b, x, v => .less (a.subst x v) (b.subst x v)
  | .ite a b c, x, v => .ite (a.subst x v) (b.subst x v) (c.subst x v)
  | .pair a b, x, v => .pair (a.subst x v) (b.subst x v)
  | .fst a, x, v => .fst (a.subst x v)
  | .snd a, x, v => .snd (a.subst x v)
  | .asc t a, x, v => .asc t (a.subst x v)
  | .cast s t l a, x, v => .cast s t l (a.subst x v)
def T.isFn : T → Bool | .fn _ _ => true | _ => false
def T.isPr : T → Bool | .pr _ _ => true | _ => false
/-- a ground type -/
def T.isG : T → Bool | .any => false | .fn .any .any => true | .fn _ _ => false | .pr .any .any => true | .pr _ _ => false | _ => true
def proxyT (s t : T) : Bool := (s.isFn && t.isFn) || (s.isPr && t.isPr)
def injT (s t : T) : Bool := (t.ty.kind == 1) && s.isG
def E.val : E → Bool
  | .num _ | .tru | .fls | .lam _ _ _ => true
  | .pair a b => a.val && b.val
  | .cast s t _ a => (proxyT s t || injT s t) && a.val
  | _ => false
/-- what a step makes -/
inductive SR where
  | took (e : E) | blame (l : Int) | stuck
def SR.code : SR → Int | .took _ => 1 | .blame _ => 2 | .stuck => 3
def SR.lab : SR → Int | .blame l => l | _ => 0
def SR.map (f : E → E) : SR → SR | .took e => .took (f e) | .blame l => .blame l | .stuck => .stuck
def ruleApp : E → E → SR
  | .lam x _ b, v => .took (b.subst x v)
  | .cast (.fn s1 s2) (.fn t1 t2) l f, v => .took (.cast s2 t2 l (.app f (.cast t1 s1 (-l) v)))
  | _, _ => .stuck
def ruleAdd : E → E → SR
  | .num n, .num m => .took (.num ((n + m).tmod 1000))
  | _, _ => .stuck
def ruleLess : E → E → SR
  | .num n, .num m => match decide (n < m) with | true => .took .tru | false => .took .fls
  | _, _ => .stuck
def ruleIte : E → E → E → SR
  | .tru, b, _ => .took b
  | .fls, _, c => .took c
  | _, _, _ => .stuck
def ruleFst : E → SR
  | .pair a _ => .took a
  | .cast (.pr s1 _) (.pr t1 _) l v => .took (.cast s1 t1 l (.fst v))
  | _ => .stuck
def ruleSnd : E → SR
  | .pair _ b => .took b
  | .cast (.pr _ s2) (.pr _ t2) l v => .took (.cast s2 t2 l (.snd v))
  | _ => .stuck
/-- the type g, of which there is an injection below, and the type t: the same, or not -/
def ruleOut (t : T) (l : Int) : E → SR
  | .cast s' t' _ w => match injT s' t' with | true => (match s'.ty.kind == t.ty.kind with | true => .took w | false => .blame l) | false => .stuck
  | _ => .stuck
def ruleCast (s t : T) (l : Int) (v : E) : SR :=
  match s.ty.kind == t.ty.kind with
  | true => .took v
  | false => match t.ty.kind == 1 with
    | true => .took (.cast s.ground .any l (.cast s s.ground l v))
    | false => match t.isG with
      | false => .took (.cast t.ground t l (.cast s t.ground l v))
      | true => ruleOut t l v
/-- a step of a term with casts that is no value -/
def E.step : E → SR
  | .app a b => match a.val with | false => a.step.map (.app · b) | true => (match b.val with | false => b.step.map (.app a ·) | true => ruleApp a b)
  | .add a b => match a.val with | false => a.step.map (.add · b) | true => (match b.val with | false => b.step.map (.add a ·) | true => ruleAdd a b)
  | .less a b => match a.val with | false => a.step.map (.less · b) | true => (match b.val with | false => b.step.map (.less a ·) | true => ruleLess a b)
  | .ite a b c => match a.val with | false => a.step.map (.ite · b c) | true => ruleIte a b c
  | .pair a b => match a.val with | false => a.step.map (.pair · b) | true => (match b.val with | false => b.step.map (.pair a ·) | true => .stuck)
  | .fst a => match a.val with | false => a.step.map .fst | true => ruleFst a
  | .snd a => match a.val with | false => a.step.map .snd | true => ruleSnd a
  | .cast s t l a => match a.val with | false => a.step.map (.cast s t l) | true => ruleCast s t l a
  | _ => .stuck
/-! what steps keep -/
def SR.ok : SR → Bool | .took e => e.wf && e.noA | .blame l => Grad.lab l | .stuck => true
/-- the zero term -/
def tm0 : Tm := .mk 0 ByteArray.empty 0 noTy noTy 0 []
def SR.tm : SR → Tm | .took e => e.tm | _ => tm0
end Go.Proofs.Grad
/- Terms with other types: the plain law. -/
namespace Go.Proofs.Grad
/-- the types that a term mentions -/
def E.tl : E → List T
  | .var _ | .num _ | .tru | .fls => []
  | .lam _ t a | .asc t a => t :: a.tl
  | .fst a | .snd a | .cast _ _ _ a => a.tl
  | .app a b | .add a b | .less a b | .pair a b => a.tl ++ b.tl
  | .ite a b c => a.tl ++ (b.tl ++ c.tl)
theorem E.tl_length (e : E) : e.tl.length = e.nt := by
  induction e <;> simp_all [E.tl, E.nt] <;> omega
theorem E.types_tm (e : E) (h : e.noC = true) : e.tm.types = e.tl.map T.ty := by
  induction e with
  | cast _ _ _ a ih => simp [E.noC] at h
  | lam x t a ih | asc t a ih =>
    simp only [E.noC] at h
    have := ih h
    simp only [E.tm, Tm.types, Tm.typess, E.tl, List.map_cons, this, List.append_nil]; rfl
  | fst a ih | snd a ih =>
    simp only [E.noC] at h
    have := ih h
    simp only [E.tm, nd, Tm.types, Tm.typess, E.tl, this, List.append_nil]; rfl
  | app a b iha ihb | add a b iha ihb | less a b iha ihb | pair a b iha ihb =>
    simp only [E.noC, Bool.and_eq_true] at h
    have h1 := iha h.1
    have h2 := ihb h.2
    simp only [E.tm, nd, Tm.types, Tm.typess, E.tl, List.map_append, h1, h2, List.append_nil]; rfl
  | ite a b c iha ihb ihc =>
    simp only [E.noC, Bool.and_eq_true] at h
    have h1 := iha h.1
    have h2 := ihb h.2.1
    have h3 := ihc h.2.2
    simp only [E.tm, nd, Tm.types, Tm.typess, E.tl, List.map_append, h1, h2, h3, List.append_nil]; rfl
  | _ => rfl
theorem typesV_E {e : E} (h : e.okT = true) : e.tm.typesV = e.tl.map T.ty := by
  have h' := h
  simp only [E.okT, Bool.and_eq_true] at h'
  unfold Tm.typesV
  rw [E.termV_tm, h]
  exact E.types_tm e h'.2.1
theorem E.tl_depth (e : E) (h : e.wf = true) (hn : e.noC = true) : ∀ t ∈ e.tl, t.depth ≤ 4 := by
  induction e <;> simp_all [E.tl, E.wf, E.noC]
  all_goals grind
theorem E.wt_nodes (e : E) : ∀ l, (e.wt l).1.nodes = e.nodes := by
  induction e with
  | lam _ _ a ih | asc _ a ih => intro l; cases l <;> simp_all [E.wt, E.nodes]
  | _ => intro l; simp_all [E.wt, E.nodes]
theorem E.wt_depth (e : E) : ∀ l, (e.wt l).1.depth = e.depth := by
  induction e with
  | lam _ _ a ih | asc _ a ih => intro l; cases l <;> simp_all [E.wt, E.depth]
  | _ => intro l; simp_all [E.wt, E.depth]
theorem E.wt_noC (e : E) : ∀ l, (e.wt l).1.noC = e.noC := by
  induction e with
  | lam _ _ a ih | asc _ a ih => intro l; cases l <;> simp_all [E.wt, E.noC]
  | _ => intro l; simp_all [E.wt, E.noC]
theorem E.wt_wf (e : E) (h : e.wf = true) : ∀ l : List T, (∀ t ∈ l, t.depth ≤ 4) → (e.wt l).1.wf = true ∧ ∀ t ∈ (e.wt l).2, t.depth ≤ 4 := by
  induction e with
  | lam x t a ih =>
    simp only [E.wf, Bool.and_eq_true] at h
    intro l hl; cases l with
    | nil => simp [E.wt, E.wf, h]
    | cons u l =>
      have h1 := ih h.2.2 l (fun t ht => hl t (by simp [ht]))
      have h2 := hl u (by simp)
      exact ⟨by simp only [E.wt, E.wf, h.1, h1.1, decide_eq_true h2]; rfl, h1.2⟩
  | asc t a ih =>
    simp only [E.wf, Bool.and_eq_true] at h
    intro l hl; cases l with
    | nil => simp [E.wt, E.wf, h]
    | cons u l =>
      have h1 := ih h.2 l (fun t ht => hl t (by simp [ht]))
      have h2 := hl u (by simp)
      exact ⟨by simp only [E.wt, E.wf, h1.1, decide_eq_true h2]; rfl, h1.2⟩
  | app a b iha ihb | add a b iha ihb | less a b iha ihb | pair a b iha ihb =>
    simp only [E.wf, Bool.and_eq_true] at h
    intro l hl
    have h1 := iha h.1 l hl
    have h2 := ihb h.2 _ h1.2
    exact ⟨by simp only [E.wt, E.wf, h1.1, h2.1]; rfl, h2.2⟩
  | ite a b c iha ihb ihc =>
    simp only [E.wf, Bool.and_eq_true] at h
    intro l hl
    have h1 := iha h.1 l hl
    have h2 := ihb h.2.1 _ h1.2
    have h3 := ihc h.2.2 _ h2.2
    exact ⟨by simp only [E.wt, E.wf, h1.1, h2.1, h3.1]; rfl, h3.2⟩
  | fst a ih | snd a ih => intro l hl; exact ih h l hl
  | cast s t k a ih =>
    simp only [E.wf, Bool.and_eq_true] at h
    intro l hl
    have h1 := ih h.2.2.2 l hl
    exact ⟨by simp only [E.wt, E.wf, h1.1, h.1.1, h.1.2, h.2.1, h.2.2.1]; rfl, h1.2⟩
  | _ => intro l hl; exact ⟨h, hl⟩
theorem E.wt_okT {e : E} (h : e.okT = true) {l : List T} (hl : ∀ t ∈ l, t.depth ≤ 4) : (e.wt l).1.okT = true := by
  simp only [E.okT, Bool.and_eq_true] at h ⊢
  rw [E.wt_noC, E.wt_depth, E.wt_nodes]
  exact ⟨(E.wt_wf e h.1 l hl).1, h.2⟩
/-- a list of types, those that a mask names replaced -/
def blurL (m : Nat) (l : List T) : List T := l.mapIdx (fun i t => match m.testBit i with | true => .any | false => t)
theorem blurL_length (m : Nat) (l : List T) : (blurL m l).length = l.length := by simp [blurL]
theorem blurL_depth (m : Nat) {l : List T} (h : ∀ t ∈ l, t.depth ≤ 4) : ∀ t ∈ blurL m l, t.depth ≤ 4 := by
  intro t ht
  obtain ⟨i, hi, rfl⟩ := List.getElem_of_mem ht
  simp only [blurL, List.getElem_mapIdx]
  split
  · decide
  · exact h _ (List.getElem_mem _)
/-- a term, blurred -/
def E.blur (e : E) (m : Nat) : E := (e.wt (blurL m e.tl)).1
theorem E.blur_okT {e : E} (h : e.okT = true) (m : Nat) : (e.blur m).okT = true := by
  have h' := h
  simp only [E.okT, Bool.and_eq_true] at h'
  exact E.wt_okT h (blurL_depth m (E.tl_depth e h'.1 h'.2.1))
theorem T.ty_s16 {t : T} (h : t.depth ≤ 4) : t.ty.size < 16 := by
  have : ∀ (x : T) (d : Nat), x.depth ≤ d → d ≤ 4 → x.size < 2 ^ d := by
    intro x
    induction x with
    | any | int | bool => intro d h1 h2; simp only [T.depth, T.size] at *; exact Nat.one_lt_two_pow (by omega)
    | fn a b iha ihb | pr a b iha ihb =>
      intro d h1 h2
      simp only [T.depth, T.size] at *
      obtain ⟨d, rfl⟩ : ∃ e, d = e + 1 := ⟨d - 1, by omega⟩
      have := iha d (by omega) (by omega); have := ihb d (by omega) (by omega)
      rw [Nat.pow_succ]; omega
  have := this t 4 h (Nat.le_refl _)
  rw [T.ty_size]; omega
theorem E.size_w (e : E) (h : e.wf = true) : e.tm.size ≤ 40 * e.nodes := by
  induction e with
  | var _ | num _ | tru | fls => simp [E.tm, nd, Tm.size, Tm.sizes, noTy, Ty.size, Ty.sizes, E.nodes]
  | lam x t a ih =>
    simp only [E.wf, Bool.and_eq_true, decide_eq_true_eq] at h
    have := T.ty_s16 h.2.1; have := ih h.2.2
    simp only [E.tm, Tm.size, Tm.sizes, noTy, Ty.size, Ty.sizes, E.nodes]; omega
  | app a b iha ihb | add a b iha ihb | less a b iha ihb | pair a b iha ihb =>
    simp only [E.wf, Bool.and_eq_true] at h
    have := iha h.1; have := ihb h.2
    simp only [E.tm, nd, Tm.size, Tm.sizes, noTy, Ty.size, Ty.sizes, E.nodes]; omega
  | ite a b c iha ihb ihc =>
    simp only [E.wf, Bool.and_eq_true] at h
    have := iha h.1; have := ihb h.2.1; have := ihc h.2.2
    simp only [E.tm, nd, Tm.size, Tm.sizes, noTy, Ty.size, Ty.sizes, E.nodes]; omega
  | fst a ih | snd a ih =>
    simp only [E.wf] at h
    have := ih h
    simp only [E.tm, nd, Tm.size, Tm.sizes, noTy, Ty.size, Ty.sizes, E.nodes]; omega
  | asc t a ih =>
    simp only [E.wf, Bool.and_eq_true, decide_eq_true_eq] at h
    have := T.ty_s16 h.1; have := ih h.2
    simp only [E.tm, Tm.size, Tm.sizes, noTy, Ty.size, Ty.sizes, E.nodes]; omega
  | cast s t l a ih =>
    simp only [E.wf, Bool.and_eq_true, decide_eq_true_eq] at h
    have := T.ty_s16 h.1.1; have := T.ty_s16 h.1.2; have := ih h.2.2.2
    simp only [E.tm, Tm.size, Tm.sizes, noTy, Ty.size, Ty.sizes, E.nodes]; omega
theorem E.size_okT {e : E} (h : e.okT = true) : e.tm.size ≤ 1200 := by
  simp only [E.okT, Bool.and_eq_true, decide_eq_true_eq] at h
  have := e.size_w h.1
  omega
end Go.Proofs.Grad
