/- Texts of the proof, one behind another. -/
import Derived.IntWalk
import Derived.Test.YtnaebafafhamjaaKX7
import Derived.Test.YtnaebafafhamjaaKX10
import Derived.Test.YtnaebafafhamjaaKX11
import Derived.Test.YtnaebafafhamjaaKX12
set_option linter.unusedSimpArgs false
set_option linter.unusedVariables false
/- Steps of terms with casts. No program, no world. -/
namespace Go.Proofs.Grad
/-- v in place of x -/
def E.subst : E → UInt8 → E → E
  | .var y, x, v => match y == x with | true => v | false => .var y
  | .lam y t a, x, v => match y == x with | true => .lam y t a | false => .lam y t (a.subst x v)
  | .num n, x, v => .num n
  | .tru, x, v => .tru
  | .fls, x, v => .fls
  | .app a b, x, v => .app (a.subst x v) (b.subst x v)
  | .add a b, x, v => .add (a.subst x v) (b.subst x v)
  | .less a b, x, v => .less (a.subst x v) (b.subst x v)
  | .ite a b c, x, v => .ite (a.subst x v) (b.subst x v) (c.subst x v)
  | .pair a b, x, v => .pair (a.subst x v) (b.subst x v)
  | .fst a, x, v => .fst (a.subst x v)
  | .snd a, x, v => .snd (a.subst x v)
  | .asc t a, x, v => .asc t (a.subst x v)
  | .cast s t l a, x, v => .cast s t l (a.subst x v)
def T.isFn : T → Bool | .fn _ _ => true | _ => false
def T.isPr : T → Bool | .pr _ _ => true | _ => false
/-- a ground type -/
def T.isG : T → Bool | .any => false | .fn .any .any => true | .fn _ _ => false | .pr .any .any => true | .pr _ _ => false | _ => true
def proxyT (s t : T) : Bool := (s.isFn && t.isFn) || (s.isPr && t.isPr)
def injT (s t : T) : Bool := (t.ty.kind == 1) && s.isG
def E.val : E → Bool
  | .num _ | .tru | .fls | .lam _ _ _ => true
  | .pair a b => a.val && b.val
  | .cast s t _ a => (proxyT s t || injT s t) && a.val
  | _ => false
/-- what a step makes -/
inductive SR where
  | took (e : E) | blame (l : Int) | stuck
def SR.code : SR → Int | .took _ => 1 | .blame _ => 2 | .stuck => 3
def SR.lab : SR → Int | .blame l => l | _ => 0
def SR.map (f : E → E) : SR → SR | .took e => .took (f e) | .blame l => .blame l | .stuck => .stuck
def ruleApp : E → E → SR
  | .lam x _ b, v => .took (b.subst x v)
  | .cast (.fn s1 s2) (.fn t1 t2) l f, v => .took (.cast s2 t2 l (.app f (.cast t1 s1 (-l) v)))
  | _, _ => .stuck
def ruleAdd : E → E → SR
  | .num n, .num m => .took (.num ((n + m).tmod 1000))
  | _, _ => .stuck
def ruleLess : E → E → SR
  | .num n, .num m => match decide (n < m) with | true => .took .tru | false => .took .fls
  | _, _ => .stuck
def ruleIte : E → E → E → SR
  | .tru, b, _ => .took b
  | .fls, _, c => .took c
  | _, _, _ => .stuck
def ruleFst : E → SR
  | .pair a _ => .took a
  | .cast (.pr s1 _) (.pr t1 _) l v => .took (.cast s1 t1 l (.fst v))
  | _ => .stuck
def ruleSnd : E → SR
  | .pair _ b => .took b
  | .cast (.pr _ s2) (.pr _ t2) l v => .took (.cast s2 t2 l (.snd v))
  | _ => .stuck
/-- the type g, of which there is an injection below, and the type t: the same, or not -/
def ruleOut (t : T) (l : Int) : E → SR
  | .cast s' t' _ w => match injT s' t' with | true => (match s'.ty.kind == t.ty.kind with | true => .took w | false => .blame l) | false => .stuck
  | _ => .stuck
def ruleCast (s t : T) (l : Int) (v : E) : SR :=
  match s.ty.kind == t.ty.kind with
  | true => .took v
  | false => match t.ty.kind == 1 with
    | true => .took (.cast s.ground .any l (.cast s s.ground l v))
    | false => match t.isG with
      | false => .took (.cast t.ground t l (.cast s t.ground l v))
      | true => ruleOut t l v
/-- a step of a term with casts that is no value -/
def E.step : E → SR
  | .app a b => match a.val with | false => a.step.map (.app · b) | true => (match b.val with | false => b.step.map (.app a ·) | true => ruleApp a b)
  | .add a b => match a.val with | false => a.step.map (.add · b) | true => (match b.val with | false => b.step.map (.add a ·) | true => ruleAdd a b)
  | .less a b => match a.val with | false => a.step.map (.less · b) | true => (match b.val with | false => b.step.map (.less a ·) | true => ruleLess a b)
  | .ite a b c => match a.val with | false => a.step.map (.ite · b c) | true => ruleIte a b c
  | .pair a b => match a.val with | false => a.step.map (.pair · b) | true => (match b.val with | false => b.step.map (.pair a ·) | true => .stuck)
  | .fst a => match a.val with | false => a.step.map .fst | true => ruleFst a
  | .snd a => match a.val with | false => a.step.map .snd | true => ruleSnd a
  | .cast s t l a => match a.val with | false => a.step.map (.cast s t l) | true => ruleCast s t l a
  | _ => .stuck
/-! what steps keep -/
def SR.ok : SR → Bool | .took e => e.wf && e.noA | .blame l => Grad.lab l | .stuck => true
theorem cons_kind {s t : T} (h1 : (s.ty.kind == t.ty.kind) = false) (h2 : (t.ty.kind == 1) = false) (hc : s.cons t = true) : s = .any := by
  cases s <;> cases t <;> simp_all [T.ty, Ty.kind, T.cons]
/-- the zero term -/
def tm0 : Tm := .mk 0 ByteArray.empty 0 noTy noTy 0 []
def SR.tm : SR → Tm | .took e => e.tm | _ => tm0
end Go.Proofs.Grad
/- Typing of terms without casts: contexts and rules. No program, no world. -/
namespace Go.Proofs.Grad
abbrev Ctx := List (UInt8 × T)
/-- the last binding of a name -/
def look1 : Ctx → UInt8 → Option T
  | [], _ => none
  | (y, t) :: l, x => match look1 l x with | some u => some u | none => match y == x with | true => some t | false => none
def T.meet : T → T → T
  | .any, b => b
  | .fn a b, .fn c d => .fn (a.meet c) (b.meet d)
  | .pr a b, .pr c d => .pr (a.meet c) (b.meet d)
  | a, _ => a
theorem T.meet_depth (a : T) : ∀ b : T, (a.meet b).depth ≤ max a.depth b.depth := by
  induction a with
  | fn a1 a2 ih1 ih2 | pr a1 a2 ih1 ih2 =>
    intro b
    cases b with
    | fn b1 b2 | pr b1 b2 => have h1 := ih1 b1; have h2 := ih2 b2; simp only [T.meet, T.depth] at *; omega
    | _ => simp only [T.meet, T.depth]; omega
  | any => intro b; simp only [T.meet]; omega
  | _ => intro b; cases b <;> simp only [T.meet, T.depth] <;> omega
def T.mfn : T → Option (T × T) | .any => some (.any, .any) | .fn a b => some (a, b) | _ => none
def T.mpr : T → Option (T × T) | .any => some (.any, .any) | .pr a b => some (a, b) | _ => none
def twoF (a b : T) : Option T := match decide ((T.fn a b).depth ≤ 4) with | true => some (.fn a b) | false => none
def twoP (a b : T) : Option T := match decide ((T.pr a b).depth ≤ 4) with | true => some (.pr a b) | false => none
def rApp (s u : T) : Option T := match s.mfn with | some (p, q) => (match u.cons p with | true => some q | false => none) | none => none
def rNum (r s u : T) : Option T := match s.cons .int with | true => (match u.cons .int with | true => some r | false => none) | false => none
def rIte (s u v : T) : Option T := match u.cons v with | true => (match s.cons .bool with | true => some (u.meet v) | false => none) | false => none
def rFst (s : T) : Option T := match s.mpr with | some (p, _) => some p | none => none
def rSnd (s : T) : Option T := match s.mpr with | some (_, q) => some q | none => none
def rAsc (t s : T) : Option T := match s.cons t with | true => some t | false => none
/-- the type of a term without casts -/
def E.rty : E → Ctx → Option T
  | .var x, Γ => look1 Γ x
  | .num _, _ => some .int
  | .tru, _ => some .bool
  | .fls, _ => some .bool
  | .lam x t a, Γ => match a.rty (Γ ++ [(x, t)]) with | some u => twoF t u | none => none
  | .app a b, Γ => match a.rty Γ with | some s => (match b.rty Γ with | some u => rApp s u | none => none) | none => none
  | .add a b, Γ => match a.rty Γ with | some s => (match b.rty Γ with | some u => rNum .int s u | none => none) | none => none
  | .less a b, Γ => match a.rty Γ with | some s => (match b.rty Γ with | some u => rNum .bool s u | none => none) | none => none
  | .ite a b c, Γ => match a.rty Γ with | some s => (match b.rty Γ with | some u => (match c.rty Γ with | some v => rIte s u v | none => none) | none => none) | none => none
  | .pair a b, Γ => match a.rty Γ with | some s => (match b.rty Γ with | some u => twoP s u | none => none) | none => none
  | .fst a, Γ => match a.rty Γ with | some s => rFst s | none => none
  | .snd a, Γ => match a.rty Γ with | some s => rSnd s | none => none
  | .asc t a, Γ => match a.rty Γ with | some s => rAsc t s | none => none
  | .cast _ _ _ _, _ => none
def ctxOk (Γ : Ctx) : Prop := ∀ b ∈ Γ, b.2.depth ≤ 4
theorem ctxOk_nil : ctxOk [] := by intro b h; simp at h
theorem ctxOk_snoc {Γ : Ctx} {x : UInt8} {t : T} (h : ctxOk Γ) (ht : t.depth ≤ 4) : ctxOk (Γ ++ [(x, t)]) := by
  intro b hb
  rcases List.mem_append.1 hb with hb | hb
  · exact h b hb
  · simp at hb; subst hb; exact ht
theorem look1_depth {Γ : Ctx} {x : UInt8} {t : T} (h : ctxOk Γ) (hl : look1 Γ x = some t) : t.depth ≤ 4 := by
  induction Γ with
  | nil => simp [look1] at hl
  | cons b Γ ih =>
    obtain ⟨y, u⟩ := b
    simp only [look1] at hl
    split at hl
    · rename_i u' hu
      obtain rfl := Option.some.inj hl
      exact ih (fun b hb => h b (by simp [hb])) hu
    · split at hl
      · obtain rfl := Option.some.inj hl; exact h (y, u) (by simp)
      · simp at hl
theorem T.mfn_depth {s p q : T} (h : s.mfn = some (p, q)) (hs : s.depth ≤ 4) : p.depth ≤ 4 ∧ q.depth ≤ 4 := by
  cases s <;> simp only [T.mfn, Option.some.injEq, Prod.mk.injEq, reduceCtorEq] at h
  · obtain ⟨rfl, rfl⟩ := h; decide
  · obtain ⟨rfl, rfl⟩ := h; simp only [T.depth] at hs; omega
theorem T.mpr_depth {s p q : T} (h : s.mpr = some (p, q)) (hs : s.depth ≤ 4) : p.depth ≤ 4 ∧ q.depth ≤ 4 := by
  cases s <;> simp only [T.mpr, Option.some.injEq, Prod.mk.injEq, reduceCtorEq] at h
  · obtain ⟨rfl, rfl⟩ := h; decide
  · obtain ⟨rfl, rfl⟩ := h; simp only [T.depth] at hs; omega
theorem twoF_depth {a b t : T} (h : twoF a b = some t) : t.depth ≤ 4 := by
  unfold twoF at h; split at h
  · rename_i hd; obtain rfl := Option.some.inj h; exact of_decide_eq_true hd
  · cases h
theorem twoP_depth {a b t : T} (h : twoP a b = some t) : t.depth ≤ 4 := by
  unfold twoP at h; split at h
  · rename_i hd; obtain rfl := Option.some.inj h; exact of_decide_eq_true hd
  · cases h
theorem rApp_depth {s u t : T} (h : rApp s u = some t) (hs : s.depth ≤ 4) : t.depth ≤ 4 := by
  unfold rApp at h; split at h
  · rename_i p q hm
    split at h
    · obtain rfl := Option.some.inj h; exact (T.mfn_depth hm hs).2
    · cases h
  · cases h
theorem rNum_depth {r s u t : T} (h : rNum r s u = some t) (hr : r.depth ≤ 4) : t.depth ≤ 4 := by
  unfold rNum at h; split at h
  · split at h
    · obtain rfl := Option.some.inj h; exact hr
    · cases h
  · cases h
theorem rIte_depth {s u v t : T} (h : rIte s u v = some t) (hu : u.depth ≤ 4) (hv : v.depth ≤ 4) : t.depth ≤ 4 := by
  unfold rIte at h; split at h
  · split at h
    · obtain rfl := Option.some.inj h; have := T.meet_depth u v; omega
    · cases h
  · cases h
theorem rFst_depth {s t : T} (h : rFst s = some t) (hs : s.depth ≤ 4) : t.depth ≤ 4 := by
  unfold rFst at h; split at h
  · rename_i hm; obtain rfl := Option.some.inj h; exact (T.mpr_depth hm hs).1
  · cases h
theorem rSnd_depth {s t : T} (h : rSnd s = some t) (hs : s.depth ≤ 4) : t.depth ≤ 4 := by
  unfold rSnd at h; split at h
  · rename_i hm; obtain rfl := Option.some.inj h; exact (T.mpr_depth hm hs).2
  · cases h
theorem rAsc_depth {s u t : T} (h : rAsc u s = some t) (hu : u.depth ≤ 4) : t.depth ≤ 4 := by
  unfold rAsc at h; split at h
  · obtain rfl := Option.some.inj h; exact hu
  · cases h
theorem E.rty_depth (e : E) : ∀ (Γ : Ctx) (t : T), e.wf = true → ctxOk Γ → e.rty Γ = some t → t.depth ≤ 4 := by
  induction e with
  | var x => intro Γ t hw hc h; exact look1_depth hc h
  | num _ | tru | fls => intro Γ t hw hc h; simp only [E.rty, Option.some.injEq] at h; subst h; decide
  | lam x u a ih =>
    intro Γ t hw hc h
    simp only [E.rty] at h
    split at h
    · exact twoF_depth h
    · cases h
  | app a b iha ihb =>
    intro Γ t hw hc h
    simp only [E.wf, Bool.and_eq_true] at hw
    simp only [E.rty] at h
    split at h
    · rename_i s hs
      split at h
      · exact rApp_depth h (iha _ _ hw.1 hc hs)
      · cases h
    · cases h
  | add a b iha ihb | less a b iha ihb =>
    intro Γ t hw hc h
    simp only [E.rty] at h
    split at h
    · split at h
      · exact rNum_depth h (by decide)
      · cases h
    · cases h
  | ite a b c iha ihb ihc =>
    intro Γ t hw hc h
    simp only [E.wf, Bool.and_eq_true] at hw
    simp only [E.rty] at h
    split at h
    · split at h
      · rename_i u hu
        split at h
        · rename_i v hv
          exact rIte_depth h (ihb _ _ hw.2.1 hc hu) (ihc _ _ hw.2.2 hc hv)
        · cases h
      · cases h
    · cases h
  | pair a b iha ihb =>
    intro Γ t hw hc h
    simp only [E.rty] at h
    split at h
    · split at h
      · exact twoP_depth h
      · cases h
    · cases h
  | fst a ih =>
    intro Γ t hw hc h
    simp only [E.wf] at hw
    simp only [E.rty] at h
    split at h
    · rename_i s hs; exact rFst_depth h (ih _ _ hw hc hs)
    · cases h
  | snd a ih =>
    intro Γ t hw hc h
    simp only [E.wf] at hw
    simp only [E.rty] at h
    split at h
    · rename_i s hs; exact rSnd_depth h (ih _ _ hw hc hs)
    · cases h
  | asc u a ih =>
    intro Γ t hw hc h
    simp only [E.wf, Bool.and_eq_true, decide_eq_true_eq] at hw
    simp only [E.rty] at h
    split at h
    · exact rAsc_depth h hw.1
    · cases h
  | cast _ _ _ _ _ => intro Γ t hw hc h; simp [E.rty] at h
end Go.Proofs.Grad
/- Contexts as shadows. -/
namespace Go.Proofs.Sh
open Go.RowKit Go.Proofs.Grad
def bdC (b : UInt8 × T) : List C := .sc (.string (nm b.1)) :: tyC b.2.ty
def bdR : Ctx → List (List C)
  | [] => []
  | b :: l => bdC b :: bdR l
def bd (l : Ctx) (k : Nat) : UInt8 × T := l.getD k (0, .any)
theorem bdC_eq (b : UInt8 × T) : bdC b = [.sc (.string (nm b.1)), .sc (.int .i64 b.2.ty.kind), .sl (tyR b.2.ty.kids)] := by rw [bdC, tyC_eq]
@[go_sem] theorem bdC_length (b : UInt8 × T) : (bdC b).length = 3 := by rw [bdC_eq]; rfl
@[go_sem] theorem bdC_take (b : UInt8 × T) : (bdC b).take 3 = bdC b := by rw [bdC_eq]; rfl
@[go_sem] theorem bdC_drop (b : UInt8 × T) : (bdC b).drop 0 = bdC b := rfl
@[go_sem] theorem bdC_treeL (b : UInt8 × T) : treeL (bdC b) = true := by rw [bdC_eq]; rfl
@[go_sem] theorem bdC_0 (b : UInt8 × T) : (bdC b)[0]? = some (.sc (.string (nm b.1))) := by rw [bdC_eq]; rfl
@[go_sem] theorem bdC_1 (b : UInt8 × T) : (bdC b)[1]? = some (.sc (.int .i64 b.2.ty.kind)) := by rw [bdC_eq]; rfl
@[go_sem] theorem bdC_2 (b : UInt8 × T) : (bdC b)[2]? = some (.sl (tyR b.2.ty.kids)) := by rw [bdC_eq]; rfl
@[go_sem] theorem bdC_dlen1 (b : UInt8 × T) : ((bdC b).drop 1).length = 2 := by rw [bdC_eq]; rfl
@[go_sem] theorem bdC_part1 (b : UInt8 × T) : ((bdC b).drop 1).take 2 = tyC b.2.ty := by rw [bdC_eq, tyC_eq]; rfl
@[go_sem] theorem bdR_length (l : Ctx) : (bdR l).length = l.length := by
  induction l with
  | nil => rfl
  | cons t l ih => simp [bdR, ih]
theorem bdR_get (l : Ctx) (i : Nat) : (bdR l)[i]? = (l[i]?).map bdC := by
  induction l generalizing i with
  | nil => simp [bdR]
  | cons t l ih => cases i <;> simp [bdR, ih]
@[go_sem] theorem bdR_at (l : Ctx) (i : Nat) : (bdR l)[i]? = match decide ((i : Int) < (l.length : Int)) with | true => some (bdC (bd l i)) | false => none := by
  rw [bdR_get]
  by_cases h : i < l.length
  · have h' : (i : Int) < (l.length : Int) := by omega
    simp [h, h', bd]
  · have h' : ¬ (i : Int) < (l.length : Int) := by omega
    simp [h, h']
theorem bdR_append (l m : Ctx) : bdR (l ++ m) = bdR l ++ bdR m := by
  induction l with
  | nil => rfl
  | cons t l ih => simp [bdR, ih]
theorem bdR_snoc (l : Ctx) (x : UInt8) (t : T) : bdR (l ++ [(x, t)]) = bdR l ++ [bdC (x, t)] := by rw [bdR_append]; rfl
@[go_sem] theorem bdR_tree (l : Ctx) : treeRows (bdR l) = true := by
  induction l with
  | nil => rfl
  | cons t l ih => simp only [bdR, treeRows_cons, bdC_treeL, Bool.true_and]; exact ih
@[go_sem] theorem bdR_len (l : Ctx) : rowsLen 3 (bdR l) = true := by
  induction l with
  | nil => rfl
  | cons t l ih => simp only [bdR, rowsLen_cons, bdC_length, beq_self_eq_true, Bool.true_and]; exact ih
attribute [go_sem] bdR
theorem bd_drop {l : Ctx} {k : Nat} (h : k < l.length) : l.drop k = bd l k :: l.drop (k + 1) := by
  have : bd l k = l[k] := by simp [bd, h]
  rw [this, List.drop_eq_getElem_cons h]
/-- one less, -1 for none -/
def prevI (k : Nat) : Int := match k with | 0 => -1 | k + 1 => (k : Int)
@[go_sem] theorem prevI_zero : prevI 0 = -1 := rfl
@[go_sem] theorem prevI_succ (k : Nat) : prevI (k + 1) = (k : Int) := rfl
theorem prevI_wrap {n : Nat} (h : n < 4611686018427387904) : IntKind.i64.wrap ((n : Int) - 1) = prevI n := by
  rw [IntWalk.i64_in _ (by omega)]; cases n <;> simp [prevI]
theorem look1_cons (b : UInt8 × T) (l : Ctx) (x : UInt8) : look1 (b :: l) x = match look1 l x with | some u => some u | none => match b.1 == x with | true => some b.2 | false => none := by cases b; rfl
theorem look1_drop (x : UInt8) (u : T) : ∀ (j : Nat) (l : Ctx), look1 (l.drop j) x = some u → look1 l x = some u := by
  intro j
  induction j with
  | zero => intro l h; simpa using h
  | succ j ih =>
    intro l h
    cases l with
    | nil => simp [look1] at h
    | cons b l => have := ih l (by simpa using h); rw [look1_cons, this]
theorem nmq (x y : UInt8) : ((nm x).toList == (nm y).toList) = (x == y) := by
  rw [Go.ByteArray.toList_eq, Go.ByteArray.toList_eq]; simp [nm]
end Go.Proofs.Sh
/- Typing in the reference: contexts, operands of types, meets. On shadows. -/
namespace Go.Proofs.Grad
end Go.Proofs.Grad
namespace Go.Proofs.Ytnaebafafhamjaa
open Go.RowKit Go.Proofs.Sh Go.Proofs.Grad
set_option maxRecDepth 100000
set_option maxHeartbeats 8000000
/-- a type, or none -/
def tyO (o : Option T) : AV := match o with | some t => .tup [.agg (tyC t.ty), .one (.sc (.bool true))] | none => .tup [.agg (tyC noTy), .one (.sc (.bool false))]
def tyO2 (o : Option (T × T)) : AV := match o with | some (p, q) => .tup [.agg (tyC p.ty), .agg (tyC q.ty), .one (.sc (.bool true))] | none => .tup [.agg (tyC noTy), .agg (tyC noTy), .one (.sc (.bool false))]
/-- a type and true, or something and false -/
def TyR (o : Option T) (r : AV) (H' : List Blk) : Prop := (∃ t, o = some t ∧ r = .tup [.agg (tyC t.ty), .one (.sc (.bool true))] ∧ H' = []) ∨ (o = none ∧ ∃ y : Ty, y.size < 100000 ∧ r = .tup [.agg (tyC y), .one (.sc (.bool false))] ∧ H' = [])
theorem sCopyT {t : T} (h : t.depth ≤ 4) : AFn Try.prog 98 [.agg (tyC t.ty)] (.agg (tyC t.ty)) := l1Copy 1000 (by omega) t.ty (T.ty_small h)
theorem l3Look (Γ : Ctx) (hl : Γ.length < 100000) (hd : ctxOk Γ) (x : UInt8) : AFn Try.prog 128 [.one (.sl (bdR Γ)), .one (.sc (.string (nm x)))] (tyO (look1 Γ x)) := by
  have hw0 := prevI_wrap (n := Γ.length) (by omega)
  refine fn_in ?_; refine acl_in Try.func128 rfl isfn_128 (Nat.le_of_ble_eq_true rfl) (fun R hR => ?_); rw [Try.results128] at hR; refine wg_run ?_; (simp only [Try.f128, go_sem, hw0])
  refine wd_for [0, 1, 4, 5, 6] (fun k => [.one (.sl (bdR Γ)), .one (.sc (.string (nm x))), .one (.ptr 2 0 0 0), .one (.sc (.bool false)), .one (.sc (.int .i64 (prevI k)))]) (fun _ => [⟨2, 25, .mut, [[.sc (.int .i64 0), .sc (.slice none 0 0)]]⟩])
    (fun k => k ≤ Γ.length ∧ look1 (Γ.drop k) x = none) (fun k => k) Γ.length ⟨Nat.le_refl _, by simp [look1]⟩ (hat [0] (hI := ⟨rfl, rfl⟩)) ?_
  rintro (_ | k) ⟨hk, hs⟩ G hG
  · refine wg_run ?_
    (simp only [go_sem])
    repeat' (first | (((first | apply sp1 | apply sp2 | apply sp3 | apply sp4 | apply sp5 | apply sp6 | apply sp7) <;> intro hb) <;> (simp only [go_sem, hb])) | ((first | apply wm_done | apply wt_done | apply wg_run | refine fk ?_ ?_) <;> (simp only [go_sem])))
    rw [List.drop_zero] at hs
    (refine hR _ ?_; refine rat [] (hK := ⟨?_, rfl⟩))
    rw [hs]; rfl
  · refine wg_run ?_
    have hk1 : k < Γ.length := by omega
    have hk2 : decide ((k : Int) < (Γ.length : Int)) = true := by simp; omega
    have hk3 : decide ((k : Int) ≥ 0) = true := by simp
    have hk4 : decide ((0 : Int) ≤ (k : Int)) = true := by simp
    have hw1 := prevI_wrap (n := k) (by omega)
    have hn := nmq (bd Γ k).1 x
    have hdr := bd_drop hk1
    have hmem : bd Γ k ∈ Γ := by
      have : bd Γ k = Γ[k] := by simp [bd, hk1]
      rw [this]; exact List.getElem_mem hk1
    have hc := sCopyT (hd _ hmem)
    cases e1 : ((bd Γ k).1 == x)
    all_goals
      rw [e1] at hn
      (simp only [go_sem, hk2, hk3, hk4, hn])
      repeat' (first | (first | (simp only [go_sem, hk2, hk3, hk4, hn, hw1]) | (((first | apply sp1 | apply sp2 | apply sp3 | apply sp4 | apply sp5 | apply sp6 | apply sp7) <;> intro hb) <;> (simp only [go_sem, hb, hk2, hk3, hk4, hn, hw1])) | ((first | apply wm_done | apply wt_done | apply wg_run | refine fk ?_ ?_) <;> (simp only [go_sem, hk2, hk3, hk4, hn, hw1]))) | (first | refine cdq ?_ (hc := hc) | refine cmq ?_ (hc := hc) | refine ctq ?_ (hc := hc)); (simp only [go_sem]))
    · exact hG k _ _ ⟨by omega, by rw [hdr, look1_cons, hs, e1]⟩ (by omega) (hat [0] (hI := ⟨rfl, rfl⟩))
    · have hlk : look1 (Γ.drop k) x = some (bd Γ k).2 := by rw [hdr, look1_cons, hs, e1]
      have hlk2 := look1_drop x _ k Γ hlk
      (refine hR _ ?_; refine rat [] (hK := ⟨?_, rfl⟩))
      rw [hlk2]; rfl
end Go.Proofs.Ytnaebafafhamjaa
/- Typing in the reference: contexts grow. On shadows. -/
namespace Go.Proofs.Ytnaebafafhamjaa
open Go.RowKit Go.Proofs.Sh Go.Proofs.Grad
set_option maxRecDepth 100000
set_option maxHeartbeats 8000000
theorem cap48 {n : Nat} (h : n < 100000) : (n + 1) * 48 ≤ 140737488355328 := by omega
theorem l3More (Γ : Ctx) (hl : Γ.length < 100000) (x : UInt8) (t : T) : AFn Try.prog 164 [.one (.sl (bdR Γ)), .one (.sc (.string (nm x))), .agg (tyC t.ty)] (.one (.sl (bdR (Γ ++ [(x, t)])))) := by
  rw [bdR_snoc]
  have e1 : bdC (x, t) = .sc (.string (nm x)) :: tyC t.ty := rfl
  cases Γ with
  | nil =>
    refine fn_in ?_; refine acl_in Try.func164 rfl isfn_164 (Nat.le_of_ble_eq_true rfl) (fun R hR => ?_); rw [Try.results164] at hR; refine wg_run ?_; (simp only [Try.f164, go_sem])
    repeat' (first | (first | (((first | apply sp1 | apply sp2 | apply sp3 | apply sp4 | apply sp5 | apply sp6 | apply sp7) <;> intro hb) <;> (simp only [go_sem, hb])) | ((first | apply wm_done | apply wt_done | apply wg_run | refine fk ?_ ?_) <;> (simp only [go_sem]))) | (first | (refine tr (.op 1 false (.op 3 false (.op 4 false (.op 5 false (.fork 0 false (.fork 2 false (.op 6 true (.op 7 true (.op 8 false .nil))) (.op 6 true (.op 2 false (.op 7 true (.op 8 false .nil))))) (.op 6 true (.op 0 false (.op 2 false (.op 7 true (.op 8 false .nil)))))))))) [] follows ?_; (simp only [go_sem])) | fail) | fail)
    all_goals (refine hR _ ?_; refine rat [] (hK := ⟨?_, rfl⟩))
    all_goals (rw [e1]; rfl)
  | cons b Γ =>
    have hcap : (Γ.length + 1) * 48 ≤ 140737488355328 := cap48 (Nat.lt_trans (Nat.lt_succ_self _) hl)
    have hcap2 : (Γ.length + 1 + 1) * 48 ≤ 140737488355328 := cap48 hl
    clear hl
    refine fn_in ?_; refine acl_in Try.func164 rfl isfn_164 (Nat.le_of_ble_eq_true rfl) (fun R hR => ?_); rw [Try.results164] at hR; refine wg_run ?_; (simp only [Try.f164, go_sem, hcap, hcap2])
    repeat' (first | (first | (simp only [go_sem, hcap, hcap2]) | (((first | apply sp1 | apply sp2 | apply sp3 | apply sp4 | apply sp5 | apply sp6 | apply sp7) <;> intro hb) <;> (simp only [go_sem, hb, hcap, hcap2])) | ((first | apply wm_done | apply wt_done | apply wg_run | refine fk ?_ ?_) <;> (simp only [go_sem, hcap, hcap2]))) | (first | (refine tr (.op 1 false (.op 3 false (.op 4 false (.op 5 false (.fork 0 false (.fork 2 false (.op 6 true (.op 7 true (.op 8 false .nil))) (.op 6 true (.op 2 false (.op 7 true (.op 8 false .nil))))) (.op 6 true (.op 0 false (.op 2 false (.op 7 true (.op 8 false .nil)))))))))) [] follows ?_; (simp only [go_sem, hcap, hcap2])) | fail) | fail)
    all_goals (refine hR _ ?_; refine rat [] (hK := ⟨?_, rfl⟩))
    all_goals (rw [e1]; rfl)
end Go.Proofs.Ytnaebafafhamjaa
/- Typing in the reference: types of two operands. On shadows. -/
namespace Go.Proofs.Ytnaebafafhamjaa
open Go.RowKit Go.Proofs.Sh Go.Proofs.Grad
set_option maxRecDepth 100000
set_option maxHeartbeats 8000000
theorem sBoolT : AFn Try.prog 130 [] (.agg (tyC T.bool.ty)) := by
  refine fn_in ?_; refine acl_in Try.func130 rfl isfn_130 (Nat.le_of_ble_eq_true rfl) (fun R hR => ?_); rw [Try.results130] at hR; refine wg_run ?_; (simp only [Try.f130, go_sem])
  (refine hR _ ?_; refine rat [] (hK := ⟨?_, rfl⟩))
  rfl
theorem sIntT : AFn Try.prog 133 [] (.agg (tyC T.int.ty)) := by
  refine fn_in ?_; refine acl_in Try.func133 rfl isfn_133 (Nat.le_of_ble_eq_true rfl) (fun R hR => ?_); rw [Try.results133] at hR; refine wg_run ?_; (simp only [Try.f133, go_sem])
  (refine hR _ ?_; refine rat [] (hK := ⟨?_, rfl⟩))
  rfl
/-- a type of two operands, and whether it is valid -/
theorem l3TwoF (a b : T) (ha : a.depth ≤ 4) (hb : b.depth ≤ 4) : AFn Try.prog 173 [.one (.sc (.int .i64 4)), .agg (tyC a.ty), .agg (tyC b.ty)] (.tup [.agg (tyC (T.fn a b).ty), .one (.sc (.bool (decide ((T.fn a b).depth ≤ 4))))]) := by
  have h1 := sCopyT ha
  have h2 := sCopyT hb
  have hv := sValid (T.fn a b).ty
  rw [T.valid_ty] at hv
  simp only [T.ty] at hv ⊢
  refine fn_in ?_; refine acl_in Try.func173 rfl isfn_173 (Nat.le_of_ble_eq_true rfl) (fun R hR => ?_); rw [Try.results173] at hR; refine wg_run ?_; (simp only [Try.f173, go_sem])
  repeat' (first | (first | (((first | apply sp1 | apply sp2 | apply sp3 | apply sp4 | apply sp5 | apply sp6 | apply sp7) <;> intro hb) <;> (simp only [go_sem, hb])) | ((first | apply wm_done | apply wt_done | apply wg_run | refine fk ?_ ?_) <;> (simp only [go_sem]))) | (first | (refine tr (.op 0 false (.op 1 false (.op 3 false (.fork 2 false (.fork 4 true (.fork 5 true (.op 6 false (.op 7 false (.op 8 true .nil))) (.op 7 false (.op 5 true (.op 6 false (.op 8 true .nil))))) (.op 7 false (.op 4 true (.op 5 true (.op 6 false (.op 8 true .nil)))))) (.op 7 false (.op 2 false (.op 4 true (.op 5 true (.op 6 false (.op 8 true .nil)))))))))) [] follows ?_; (simp only [go_sem])) | fail) | ((first | refine mxq6 [] ?_ | refine mxq5 [] ?_ | refine mxq4 [] ?_ | refine mxq3 [] ?_ | refine mxq2 [] ?_ | refine mxq1 [] ?_ | refine mxq0 [] ?_ | fail); (simp only [go_sem])) | (first | refine cdq ?_ (hc := h1) | refine cmq ?_ (hc := h1) | refine ctq ?_ (hc := h1)); (simp only [go_sem]) | (first | refine cdq ?_ (hc := h2) | refine cmq ?_ (hc := h2) | refine ctq ?_ (hc := h2)); (simp only [go_sem]) | (first | refine cdq ?_ (hc := hv) | refine cmq ?_ (hc := hv) | refine ctq ?_ (hc := hv)); (simp only [go_sem]) | fail)
  all_goals (refine hR _ ?_; refine rat [] (hK := ⟨rfl, rfl⟩))
theorem l3TwoP (a b : T) (ha : a.depth ≤ 4) (hb : b.depth ≤ 4) : AFn Try.prog 173 [.one (.sc (.int .i64 5)), .agg (tyC a.ty), .agg (tyC b.ty)] (.tup [.agg (tyC (T.pr a b).ty), .one (.sc (.bool (decide ((T.pr a b).depth ≤ 4))))]) := by
  have h1 := sCopyT ha
  have h2 := sCopyT hb
  have hv := sValid (T.pr a b).ty
  rw [T.valid_ty] at hv
  simp only [T.ty] at hv ⊢
  refine fn_in ?_; refine acl_in Try.func173 rfl isfn_173 (Nat.le_of_ble_eq_true rfl) (fun R hR => ?_); rw [Try.results173] at hR; refine wg_run ?_; (simp only [Try.f173, go_sem])
  repeat' (first | (first | (((first | apply sp1 | apply sp2 | apply sp3 | apply sp4 | apply sp5 | apply sp6 | apply sp7) <;> intro hb) <;> (simp only [go_sem, hb])) | ((first | apply wm_done | apply wt_done | apply wg_run | refine fk ?_ ?_) <;> (simp only [go_sem]))) | (first | (refine tr (.op 0 false (.op 1 false (.op 3 false (.fork 2 false (.fork 4 true (.fork 5 true (.op 6 false (.op 7 false (.op 8 true .nil))) (.op 7 false (.op 5 true (.op 6 false (.op 8 true .nil))))) (.op 7 false (.op 4 true (.op 5 true (.op 6 false (.op 8 true .nil)))))) (.op 7 false (.op 2 false (.op 4 true (.op 5 true (.op 6 false (.op 8 true .nil)))))))))) [] follows ?_; (simp only [go_sem])) | fail) | ((first | refine mxq6 [] ?_ | refine mxq5 [] ?_ | refine mxq4 [] ?_ | refine mxq3 [] ?_ | refine mxq2 [] ?_ | refine mxq1 [] ?_ | refine mxq0 [] ?_ | fail); (simp only [go_sem])) | (first | refine cdq ?_ (hc := h1) | refine cmq ?_ (hc := h1) | refine ctq ?_ (hc := h1)); (simp only [go_sem]) | (first | refine cdq ?_ (hc := h2) | refine cmq ?_ (hc := h2) | refine ctq ?_ (hc := h2)); (simp only [go_sem]) | (first | refine cdq ?_ (hc := hv) | refine cmq ?_ (hc := hv) | refine ctq ?_ (hc := hv)); (simp only [go_sem]) | fail)
  all_goals (refine hR _ ?_; refine rat [] (hK := ⟨rfl, rfl⟩))
end Go.Proofs.Ytnaebafafhamjaa
/- Typing in the reference: operands of types. On shadows. -/
namespace Go.Proofs.Ytnaebafafhamjaa
open Go.RowKit Go.Proofs.Sh Go.Proofs.Grad
set_option maxRecDepth 100000
set_option maxHeartbeats 8000000
theorem l3MatchF (s : T) (hs : s.depth ≤ 4) : AFn Try.prog 184 [.one (.sc (.int .i64 4)), .agg (tyC s.ty)] (tyO2 s.mfn) := by
  cases s with
  | fn a b =>
    simp only [T.depth] at hs
    have h1 := sCopyT (t := a) (by omega)
    have h2 := sCopyT (t := b) (by omega)
    simp only [T.ty, T.mfn, tyO2]
    refine fn_in ?_; refine acl_in Try.func184 rfl isfn_184 (Nat.le_of_ble_eq_true rfl) (fun R hR => ?_); rw [Try.results184] at hR; refine wg_run ?_; (simp only [Try.f184, go_sem])
    repeat' (first | (first | (((first | apply sp1 | apply sp2 | apply sp3 | apply sp4 | apply sp5 | apply sp6 | apply sp7) <;> intro hb) <;> (simp only [go_sem, hb])) | ((first | apply wm_done | apply wt_done | apply wg_run | refine fk ?_ ?_) <;> (simp only [go_sem]))) | ((first | refine mxq6 [] ?_ | refine mxq5 [] ?_ | refine mxq4 [] ?_ | refine mxq3 [] ?_ | refine mxq2 [] ?_ | refine mxq1 [] ?_ | refine mxq0 [] ?_ | fail); (simp only [go_sem])) | (first | refine cdq ?_ (hc := h1) | refine cmq ?_ (hc := h1) | refine ctq ?_ (hc := h1)); (simp only [go_sem]) | (first | refine cdq ?_ (hc := h2) | refine cmq ?_ (hc := h2) | refine ctq ?_ (hc := h2)); (simp only [go_sem]) | fail)
    all_goals (refine hR _ ?_; refine rat [] (hK := ⟨rfl, rfl⟩))
  | _ =>
    simp only [T.ty, T.mfn, tyO2]
    refine fn_in ?_; refine acl_in Try.func184 rfl isfn_184 (Nat.le_of_ble_eq_true rfl) (fun R hR => ?_); rw [Try.results184] at hR; refine wg_run ?_; (simp only [Try.f184, go_sem])
    repeat' (first | (first | (((first | apply sp1 | apply sp2 | apply sp3 | apply sp4 | apply sp5 | apply sp6 | apply sp7) <;> intro hb) <;> (simp only [go_sem, hb])) | ((first | apply wm_done | apply wt_done | apply wg_run | refine fk ?_ ?_) <;> (simp only [go_sem]))) | ((first | refine mxq6 [] ?_ | refine mxq5 [] ?_ | refine mxq4 [] ?_ | refine mxq3 [] ?_ | refine mxq2 [] ?_ | refine mxq1 [] ?_ | refine mxq0 [] ?_ | fail); (simp only [go_sem])) | (first | refine cdq ?_ (hc := l1Any) | refine cmq ?_ (hc := l1Any) | refine ctq ?_ (hc := l1Any)); (simp only [go_sem]) | fail)
    all_goals (refine hR _ ?_; refine rat [] (hK := ⟨rfl, rfl⟩))
theorem l3MatchP (s : T) (hs : s.depth ≤ 4) : AFn Try.prog 184 [.one (.sc (.int .i64 5)), .agg (tyC s.ty)] (tyO2 s.mpr) := by
  cases s with
  | pr a b =>
    simp only [T.depth] at hs
    have h1 := sCopyT (t := a) (by omega)
    have h2 := sCopyT (t := b) (by omega)
    simp only [T.ty, T.mpr, tyO2]
    refine fn_in ?_; refine acl_in Try.func184 rfl isfn_184 (Nat.le_of_ble_eq_true rfl) (fun R hR => ?_); rw [Try.results184] at hR; refine wg_run ?_; (simp only [Try.f184, go_sem])
    repeat' (first | (first | (((first | apply sp1 | apply sp2 | apply sp3 | apply sp4 | apply sp5 | apply sp6 | apply sp7) <;> intro hb) <;> (simp only [go_sem, hb])) | ((first | apply wm_done | apply wt_done | apply wg_run | refine fk ?_ ?_) <;> (simp only [go_sem]))) | ((first | refine mxq6 [] ?_ | refine mxq5 [] ?_ | refine mxq4 [] ?_ | refine mxq3 [] ?_ | refine mxq2 [] ?_ | refine mxq1 [] ?_ | refine mxq0 [] ?_ | fail); (simp only [go_sem])) | (first | refine cdq ?_ (hc := h1) | refine cmq ?_ (hc := h1) | refine ctq ?_ (hc := h1)); (simp only [go_sem]) | (first | refine cdq ?_ (hc := h2) | refine cmq ?_ (hc := h2) | refine ctq ?_ (hc := h2)); (simp only [go_sem]) | fail)
    all_goals (refine hR _ ?_; refine rat [] (hK := ⟨rfl, rfl⟩))
  | _ =>
    simp only [T.ty, T.mpr, tyO2]
    refine fn_in ?_; refine acl_in Try.func184 rfl isfn_184 (Nat.le_of_ble_eq_true rfl) (fun R hR => ?_); rw [Try.results184] at hR; refine wg_run ?_; (simp only [Try.f184, go_sem])
    repeat' (first | (first | (((first | apply sp1 | apply sp2 | apply sp3 | apply sp4 | apply sp5 | apply sp6 | apply sp7) <;> intro hb) <;> (simp only [go_sem, hb])) | ((first | apply wm_done | apply wt_done | apply wg_run | refine fk ?_ ?_) <;> (simp only [go_sem]))) | ((first | refine mxq6 [] ?_ | refine mxq5 [] ?_ | refine mxq4 [] ?_ | refine mxq3 [] ?_ | refine mxq2 [] ?_ | refine mxq1 [] ?_ | refine mxq0 [] ?_ | fail); (simp only [go_sem])) | (first | refine cdq ?_ (hc := l1Any) | refine cmq ?_ (hc := l1Any) | refine ctq ?_ (hc := l1Any)); (simp only [go_sem]) | fail)
    all_goals (refine hR _ ?_; refine rat [] (hK := ⟨rfl, rfl⟩))
end Go.Proofs.Ytnaebafafhamjaa
/- Typing in the reference: meets. On shadows. -/
namespace Go.Proofs.Ytnaebafafhamjaa
open Go.RowKit Go.Proofs.Sh Go.Proofs.Grad
set_option maxRecDepth 100000
set_option maxHeartbeats 8000000
theorem l1Meet (a : T) : ∀ b : T, a.depth ≤ 4 → b.depth ≤ 4 → a.cons b = true → AFn Try.prog 45 [.agg (tyC a.ty), .agg (tyC b.ty)] (.agg (tyC (a.meet b).ty)) := by
  induction a with
  | any =>
    intro b ha hb hc
    have h1 := sCopyT hb
    simp only [T.meet]
    simp only [T.ty]
    refine fn_in ?_; refine acl_in Try.func45 rfl isfn_45 (Nat.le_of_ble_eq_true rfl) (fun R hR => ?_); rw [Try.results45] at hR; refine wg_run ?_; (simp only [Try.f45, go_sem])
    repeat' (first | (first | (((first | apply sp1 | apply sp2 | apply sp3 | apply sp4 | apply sp5 | apply sp6 | apply sp7) <;> intro hb) <;> (simp only [go_sem, hb])) | ((first | apply wm_done | apply wt_done | apply wg_run | refine fk ?_ ?_) <;> (simp only [go_sem]))) | (first | refine cdq ?_ (hc := h1) | refine cmq ?_ (hc := h1) | refine ctq ?_ (hc := h1)); (simp only [go_sem]) | fail)
    all_goals (refine hR _ ?_; refine rat [] (hK := ⟨rfl, rfl⟩))
  | int | bool =>
    intro b ha hb hc
    have h1 := sCopyT ha
    cases b <;> simp only [T.cons, Bool.false_eq_true] at hc
    all_goals
      simp only [T.meet]
      simp only [T.ty] at h1 ⊢
      refine fn_in ?_; refine acl_in Try.func45 rfl isfn_45 (Nat.le_of_ble_eq_true rfl) (fun R hR => ?_); rw [Try.results45] at hR; refine wg_run ?_; (simp only [Try.f45, go_sem])
      repeat' (first | (first | (((first | apply sp1 | apply sp2 | apply sp3 | apply sp4 | apply sp5 | apply sp6 | apply sp7) <;> intro hb) <;> (simp only [go_sem, hb])) | ((first | apply wm_done | apply wt_done | apply wg_run | refine fk ?_ ?_) <;> (simp only [go_sem]))) | (first | (refine wl_next (wg_run ?_); (simp only [go_sem])) | refine wd_rounds 6 ?_) | (first | refine cdq ?_ (hc := h1) | refine cmq ?_ (hc := h1) | refine ctq ?_ (hc := h1)); (simp only [go_sem]) | fail)
      all_goals (refine hR _ ?_; refine rat [] (hK := ⟨rfl, rfl⟩))
  | fn a1 a2 ih1 ih2 | pr a1 a2 ih1 ih2 =>
    intro b ha hb hc
    have h1 := sCopyT ha
    cases b <;> simp only [T.cons, Bool.false_eq_true, Bool.and_eq_true] at hc
    · simp only [T.meet]
      simp only [T.ty] at h1 ⊢
      refine fn_in ?_; refine acl_in Try.func45 rfl isfn_45 (Nat.le_of_ble_eq_true rfl) (fun R hR => ?_); rw [Try.results45] at hR; refine wg_run ?_; (simp only [Try.f45, go_sem])
      repeat' (first | (first | (((first | apply sp1 | apply sp2 | apply sp3 | apply sp4 | apply sp5 | apply sp6 | apply sp7) <;> intro hb) <;> (simp only [go_sem, hb])) | ((first | apply wm_done | apply wt_done | apply wg_run | refine fk ?_ ?_) <;> (simp only [go_sem]))) | (first | (refine wl_next (wg_run ?_); (simp only [go_sem])) | refine wd_rounds 6 ?_) | (first | refine cdq ?_ (hc := h1) | refine cmq ?_ (hc := h1) | refine ctq ?_ (hc := h1)); (simp only [go_sem]) | fail)
      all_goals (refine hR _ ?_; refine rat [] (hK := ⟨rfl, rfl⟩))
    · rename_i b1 b2
      simp only [T.depth] at ha hb
      have i1 := ih1 b1 (by omega) (by omega) hc.1
      have i2 := ih2 b2 (by omega) (by omega) hc.2
      simp only [T.meet]
      simp only [T.ty]
      refine fn_in ?_; refine acl_in Try.func45 rfl isfn_45 (Nat.le_of_ble_eq_true rfl) (fun R hR => ?_); rw [Try.results45] at hR; refine wg_run ?_; (simp only [Try.f45, go_sem])
      repeat' (first | (first | (((first | apply sp1 | apply sp2 | apply sp3 | apply sp4 | apply sp5 | apply sp6 | apply sp7) <;> intro hb) <;> (simp only [go_sem, hb])) | ((first | apply wm_done | apply wt_done | apply wg_run | refine fk ?_ ?_) <;> (simp only [go_sem]))) | (first | (refine wl_next (wg_run ?_); (simp only [go_sem])) | refine wd_rounds 6 ?_) | ((first | refine mxq6 [] ?_ | refine mxq5 [] ?_ | refine mxq4 [] ?_ | refine mxq3 [] ?_ | refine mxq2 [] ?_ | refine mxq1 [] ?_ | refine mxq0 [] ?_ | fail); (simp only [go_sem])) | (first | refine cdq ?_ (hc := i1) | refine cmq ?_ (hc := i1) | refine ctq ?_ (hc := i1)); (simp only [go_sem]) | (first | refine cdq ?_ (hc := i2) | refine cmq ?_ (hc := i2) | refine ctq ?_ (hc := i2)); (simp only [go_sem]) | fail)
      all_goals (refine hR _ ?_; refine rat [] (hK := ⟨rfl, rfl⟩))
end Go.Proofs.Ytnaebafafhamjaa
