/- Texts of the proof, one behind another. -/
import Derived.Test.YtfgjiamolknicaaKW12
import Derived.Test.YtfgjiamolknicaaKW16
import Derived.Test.YtfgjiamolknicaaKW18
import Derived.Test.YtfgjiamolknicaaKW19
set_option linter.unusedSimpArgs false
set_option linter.unusedVariables false
/- Typing of terms with casts; steps keep types; typed terms make progress. No program, no world. -/
namespace Go.Proofs.Grad
def T.eqb (a b : T) : Bool := a.ty.same b.ty
theorem T.eqb_iff {a b : T} : a.eqb b = true ↔ a = b := by
  unfold T.eqb; rw [Ty.same_iff]; exact ⟨fun h => T.ty_inj a b h, fun h => by rw [h]⟩
def cApp : T → T → Option T | .fn p q, u => (match p.eqb u with | true => some q | false => none) | _, _ => none
def cNum (r : T) : T → T → Option T | .int, .int => some r | _, _ => none
def cIte : T → T → T → Option T | .bool, u, v => (match u.eqb v with | true => some u | false => none) | _, _, _ => none
def cFst : T → Option T | .pr p _ => some p | _ => none
def cSnd : T → Option T | .pr _ q => some q | _ => none
def cCast (s t a : T) : Option T := match a.eqb s with | true => some t | false => none
/-- the type of a term with casts -/
def E.cty : E → Ctx → Option T
  | .var x, Γ => look1 Γ x
  | .num _, _ => some .int
  | .tru, _ => some .bool
  | .fls, _ => some .bool
  | .lam x t a, Γ => match a.cty (Γ ++ [(x, t)]) with | some u => twoF t u | none => none
  | .app a b, Γ => match a.cty Γ with | some s => (match b.cty Γ with | some u => cApp s u | none => none) | none => none
  | .add a b, Γ => match a.cty Γ with | some s => (match b.cty Γ with | some u => cNum .int s u | none => none) | none => none
  | .less a b, Γ => match a.cty Γ with | some s => (match b.cty Γ with | some u => cNum .bool s u | none => none) | none => none
  | .ite a b c, Γ => match a.cty Γ with | some s => (match b.cty Γ with | some u => (match c.cty Γ with | some v => cIte s u v | none => none) | none => none) | none => none
  | .pair a b, Γ => match a.cty Γ with | some s => (match b.cty Γ with | some u => twoP s u | none => none) | none => none
  | .fst a, Γ => match a.cty Γ with | some s => cFst s | none => none
  | .snd a, Γ => match a.cty Γ with | some s => cSnd s | none => none
  | .asc _ _, _ => none
  | .cast s t _ a, Γ => match a.cty Γ with | some u => cCast s t u | none => none
theorem cApp_inv {s u t : T} (h : cApp s u = some t) : s = .fn u t := by
  unfold cApp at h
  split at h
  · split at h
    · rename_i he
      obtain rfl := Option.some.inj h
      rw [T.eqb_iff.1 he]
    · cases h
  · cases h
theorem cNum_inv {r s u t : T} (h : cNum r s u = some t) : s = .int ∧ u = .int ∧ t = r := by
  unfold cNum at h
  split at h
  · exact ⟨rfl, rfl, (Option.some.inj h).symm⟩
  · cases h
theorem cIte_inv {s u v t : T} (h : cIte s u v = some t) : s = .bool ∧ v = u ∧ t = u := by
  unfold cIte at h
  split at h
  · split at h
    · rename_i he; exact ⟨rfl, (T.eqb_iff.1 he).symm, (Option.some.inj h).symm⟩
    · cases h
  · cases h
theorem cFst_inv {s t : T} (h : cFst s = some t) : ∃ q, s = .pr t q := by
  unfold cFst at h
  split at h
  · obtain rfl := Option.some.inj h; exact ⟨_, rfl⟩
  · cases h
theorem cSnd_inv {s t : T} (h : cSnd s = some t) : ∃ p, s = .pr p t := by
  unfold cSnd at h
  split at h
  · obtain rfl := Option.some.inj h; exact ⟨_, rfl⟩
  · cases h
theorem cCast_inv {s t a u : T} (h : cCast s t a = some u) : a = s ∧ u = t := by
  unfold cCast at h
  split at h
  · rename_i he; exact ⟨T.eqb_iff.1 he, (Option.some.inj h).symm⟩
  · cases h
theorem twoF_inv {a b t : T} (h : twoF a b = some t) : t = .fn a b ∧ t.depth ≤ 4 := by
  have := twoF_depth h
  unfold twoF at h; split at h
  · obtain rfl := Option.some.inj h; exact ⟨rfl, this⟩
  · cases h
theorem twoP_inv {a b t : T} (h : twoP a b = some t) : t = .pr a b ∧ t.depth ≤ 4 := by
  have := twoP_depth h
  unfold twoP at h; split at h
  · obtain rfl := Option.some.inj h; exact ⟨rfl, this⟩
  · cases h
theorem inv_app {a b : E} {Γ : Ctx} {t : T} (h : (E.app a b).cty Γ = some t) : ∃ u, a.cty Γ = some (.fn u t) ∧ b.cty Γ = some u := by
  simp only [E.cty] at h
  split at h
  · rename_i s hs
    split at h
    · rename_i u hu; have := cApp_inv h; subst this; exact ⟨u, hs, hu⟩
    · cases h
  · cases h
theorem inv_add {a b : E} {Γ : Ctx} {t : T} (h : (E.add a b).cty Γ = some t) : a.cty Γ = some .int ∧ b.cty Γ = some .int ∧ t = .int := by
  simp only [E.cty] at h
  split at h
  · rename_i s hs
    split at h
    · rename_i u hu; obtain ⟨rfl, rfl, rfl⟩ := cNum_inv h; exact ⟨hs, hu, rfl⟩
    · cases h
  · cases h
theorem inv_less {a b : E} {Γ : Ctx} {t : T} (h : (E.less a b).cty Γ = some t) : a.cty Γ = some .int ∧ b.cty Γ = some .int ∧ t = .bool := by
  simp only [E.cty] at h
  split at h
  · rename_i s hs
    split at h
    · rename_i u hu; obtain ⟨rfl, rfl, rfl⟩ := cNum_inv h; exact ⟨hs, hu, rfl⟩
    · cases h
  · cases h
theorem inv_ite {a b c : E} {Γ : Ctx} {t : T} (h : (E.ite a b c).cty Γ = some t) : a.cty Γ = some .bool ∧ b.cty Γ = some t ∧ c.cty Γ = some t := by
  simp only [E.cty] at h
  split at h
  · rename_i s hs
    split at h
    · rename_i u hu
      split at h
      · rename_i v hv; obtain ⟨rfl, rfl, rfl⟩ := cIte_inv h; exact ⟨hs, hu, hv⟩
      · cases h
    · cases h
  · cases h
theorem inv_pair {a b : E} {Γ : Ctx} {t : T} (h : (E.pair a b).cty Γ = some t) : ∃ s u, a.cty Γ = some s ∧ b.cty Γ = some u ∧ t = .pr s u ∧ t.depth ≤ 4 := by
  simp only [E.cty] at h
  split at h
  · rename_i s hs
    split at h
    · rename_i u hu; obtain ⟨rfl, hd⟩ := twoP_inv h; exact ⟨s, u, hs, hu, rfl, hd⟩
    · cases h
  · cases h
theorem inv_fst {a : E} {Γ : Ctx} {t : T} (h : (E.fst a).cty Γ = some t) : ∃ q, a.cty Γ = some (.pr t q) := by
  simp only [E.cty] at h
  split at h
  · rename_i s hs; obtain ⟨q, rfl⟩ := cFst_inv h; exact ⟨q, hs⟩
  · cases h
theorem inv_snd {a : E} {Γ : Ctx} {t : T} (h : (E.snd a).cty Γ = some t) : ∃ p, a.cty Γ = some (.pr p t) := by
  simp only [E.cty] at h
  split at h
  · rename_i s hs; obtain ⟨q, rfl⟩ := cSnd_inv h; exact ⟨q, hs⟩
  · cases h
theorem inv_cast {s u : T} {l : Int} {a : E} {Γ : Ctx} {t : T} (h : (E.cast s u l a).cty Γ = some t) : a.cty Γ = some s ∧ t = u := by
  simp only [E.cty] at h
  split at h
  · rename_i v hv; obtain ⟨rfl, rfl⟩ := cCast_inv h; exact ⟨hv, rfl⟩
  · cases h
theorem inv_lam {x : UInt8} {u : T} {a : E} {Γ : Ctx} {t : T} (h : (E.lam x u a).cty Γ = some t) : ∃ v, a.cty (Γ ++ [(x, u)]) = some v ∧ t = .fn u v ∧ t.depth ≤ 4 := by
  simp only [E.cty] at h
  split at h
  · rename_i v hv; obtain ⟨rfl, hd⟩ := twoF_inv h; exact ⟨v, hv, rfl, hd⟩
  · cases h
/-! introductions -/
def SR.keeps (r : SR) (t : T) : Prop := match r with | .took e => e.cty [] = some t | _ => True
theorem val_int {v : E} (hv : v.val = true) (h : v.cty [] = some .int) : ∃ n, v = .num n := by
  cases v with
  | num n => exact ⟨n, rfl⟩
  | lam _ _ _ => obtain ⟨_, _, h, _⟩ := inv_lam h; cases h
  | pair _ _ => obtain ⟨_, _, _, _, h, _⟩ := inv_pair h; cases h
  | cast s t l a =>
    obtain ⟨_, h⟩ := inv_cast h
    subst h
    cases s <;> simp [E.val, proxyT, injT, T.isFn, T.isPr, T.ty, Ty.kind] at hv
  | tru | fls => simp [E.cty] at h
  | _ => simp [E.val] at hv
theorem val_bool {v : E} (hv : v.val = true) (h : v.cty [] = some .bool) : v = .tru ∨ v = .fls := by
  cases v with
  | tru => exact .inl rfl
  | fls => exact .inr rfl
  | lam _ _ _ => obtain ⟨_, _, h, _⟩ := inv_lam h; cases h
  | pair _ _ => obtain ⟨_, _, _, _, h, _⟩ := inv_pair h; cases h
  | cast s t l a =>
    obtain ⟨_, h⟩ := inv_cast h
    subst h
    cases s <;> simp [E.val, proxyT, injT, T.isFn, T.isPr, T.ty, Ty.kind] at hv
  | num _ => simp [E.cty] at h
  | _ => simp [E.val] at hv
theorem val_fn {v : E} {p q : T} (hv : v.val = true) (h : v.cty [] = some (.fn p q)) : (∃ x c, v = .lam x p c) ∨ (∃ s1 s2 l a, v = .cast (.fn s1 s2) (.fn p q) l a) := by
  cases v with
  | lam x t c => obtain ⟨_, _, h, _⟩ := inv_lam h; cases h; exact .inl ⟨x, c, rfl⟩
  | pair _ _ => obtain ⟨_, _, _, _, h, _⟩ := inv_pair h; cases h
  | cast s t l a =>
    obtain ⟨_, h⟩ := inv_cast h
    subst h
    cases s <;> simp [E.val, proxyT, injT, T.isFn, T.isPr, T.ty, Ty.kind] at hv
    exact .inr ⟨_, _, _, _, rfl⟩
  | num _ | tru | fls => simp [E.cty] at h
  | _ => simp [E.val] at hv
theorem val_pr {v : E} {p q : T} (hv : v.val = true) (h : v.cty [] = some (.pr p q)) : (∃ a b, v = .pair a b) ∨ (∃ s1 s2 l a, v = .cast (.pr s1 s2) (.pr p q) l a) := by
  cases v with
  | lam x t c => obtain ⟨_, _, h, _⟩ := inv_lam h; cases h
  | pair a b => exact .inl ⟨a, b, rfl⟩
  | cast s t l a =>
    obtain ⟨_, h⟩ := inv_cast h
    subst h
    cases s <;> simp [E.val, proxyT, injT, T.isFn, T.isPr, T.ty, Ty.kind] at hv
    exact .inr ⟨_, _, _, _, rfl⟩
  | num _ | tru | fls => simp [E.cty] at h
  | _ => simp [E.val] at hv
theorem val_any {v : E} (hv : v.val = true) (h : v.cty [] = some .any) : ∃ s l a, v = .cast s .any l a ∧ injT s .any = true := by
  cases v with
  | lam x t c => obtain ⟨_, _, h, _⟩ := inv_lam h; cases h
  | pair a b => obtain ⟨_, _, _, _, h, _⟩ := inv_pair h; cases h
  | cast s t l a =>
    obtain ⟨_, h⟩ := inv_cast h
    subst h
    refine ⟨s, l, a, rfl, ?_⟩
    simp only [E.val, Bool.and_eq_true, Bool.or_eq_true] at hv
    rcases hv.1 with h | h
    · cases s <;> simp [proxyT, T.isFn, T.isPr] at h
    · exact h
  | num _ | tru | fls => simp [E.cty] at h
  | _ => simp [E.val] at hv
def SR.isStuck : SR → Bool | .stuck => true | _ => false
theorem SR.map_stuck {r : SR} {f : E → E} : (r.map f).isStuck = r.isStuck := by cases r <;> rfl
theorem progress (e : E) : ∀ t : T, e.wf = true → e.val = false → e.cty [] = some t → e.step.isStuck = false := by
  induction e with
  | var x => intro t hw hv h; simp [E.cty, look1] at h
  | num _ | tru | fls => intro t hw hv h; simp [E.val] at hv
  | lam _ _ _ _ => intro t hw hv h; simp [E.val] at hv
  | asc _ _ _ => intro t hw hv h; cases h
  | app a b iha ihb =>
    intro t hw hv h
    simp only [E.wf, Bool.and_eq_true] at hw
    simp only [E.step]
    obtain ⟨u, h1, h2⟩ := inv_app h
    cases ea : a.val
    · simp only [SR.map_stuck]; exact iha _ hw.1 ea h1
    · simp only []
      cases eb : b.val
      · simp only [SR.map_stuck]; exact ihb _ hw.2 eb h2
      · rcases val_fn ea h1 with ⟨x, c, rfl⟩ | ⟨s1, s2, l, f, rfl⟩ <;> rfl
  | add a b iha ihb =>
    intro t hw hv h
    simp only [E.wf, Bool.and_eq_true] at hw
    simp only [E.step]
    obtain ⟨h1, h2, rfl⟩ := inv_add h
    cases ea : a.val
    · simp only [SR.map_stuck]; exact iha _ hw.1 ea h1
    · simp only []
      cases eb : b.val
      · simp only [SR.map_stuck]; exact ihb _ hw.2 eb h2
      · obtain ⟨n, rfl⟩ := val_int ea h1; obtain ⟨m, rfl⟩ := val_int eb h2; rfl
  | less a b iha ihb =>
    intro t hw hv h
    simp only [E.wf, Bool.and_eq_true] at hw
    simp only [E.step]
    obtain ⟨h1, h2, rfl⟩ := inv_less h
    cases ea : a.val
    · simp only [SR.map_stuck]; exact iha _ hw.1 ea h1
    · simp only []
      cases eb : b.val
      · simp only [SR.map_stuck]; exact ihb _ hw.2 eb h2
      · obtain ⟨n, rfl⟩ := val_int ea h1; obtain ⟨m, rfl⟩ := val_int eb h2
        simp only [ruleLess]; split <;> rfl
  | pair a b iha ihb =>
    intro t hw hv h
    simp only [E.wf, Bool.and_eq_true] at hw
    simp only [E.step]
    obtain ⟨s, u, h1, h2, rfl, hd⟩ := inv_pair h
    cases ea : a.val
    · simp only [SR.map_stuck]; exact iha _ hw.1 ea h1
    · simp only []
      cases eb : b.val
      · simp only [SR.map_stuck]; exact ihb _ hw.2 eb h2
      · simp [E.val, ea, eb] at hv
  | ite a b c iha ihb ihc =>
    intro t hw hv h
    simp only [E.wf, Bool.and_eq_true] at hw
    simp only [E.step]
    obtain ⟨h1, h2, h3⟩ := inv_ite h
    cases ea : a.val
    · simp only [SR.map_stuck]; exact iha _ hw.1 ea h1
    · rcases val_bool ea h1 with rfl | rfl <;> rfl
  | fst a ih =>
    intro t hw hv h
    simp only [E.step]
    obtain ⟨q, h1⟩ := inv_fst h
    cases ea : a.val
    · simp only [SR.map_stuck]; exact ih _ hw ea h1
    · rcases val_pr ea h1 with ⟨x, c, rfl⟩ | ⟨s1, s2, l, f, rfl⟩ <;> rfl
  | snd a ih =>
    intro t hw hv h
    simp only [E.step]
    obtain ⟨q, h1⟩ := inv_snd h
    cases ea : a.val
    · simp only [SR.map_stuck]; exact ih _ hw ea h1
    · rcases val_pr ea h1 with ⟨x, c, rfl⟩ | ⟨s1, s2, l, f, rfl⟩ <;> rfl
  | cast s u l a ih =>
    intro t hw hv h
    simp only [E.wf, Bool.and_eq_true, decide_eq_true_eq] at hw
    simp only [E.step]
    obtain ⟨h1, rfl⟩ := inv_cast h
    cases ea : a.val
    · simp only [SR.map_stuck]; exact ih _ hw.2.2.2 ea h1
    · simp only []
      unfold ruleCast
      cases e1 : (s.ty.kind == t.ty.kind)
      · cases e2 : (t.ty.kind == 1)
        · have hs := cons_kind e1 e2 hw.2.1
          subst hs
          cases e3 : t.isG
          · rfl
          · obtain ⟨s', l', w, rfl, hi⟩ := val_any ea h1
            simp only [ruleOut, hi]
            split <;> rfl
        · rfl
      · rfl
end Go.Proofs.Grad
/- Meets and precision, element by element: the plain law. No program, no world. -/
namespace Go.Proofs.Grad
def all2P (q : T → T → Bool) : List T → List T → Bool
  | [], [] => true
  | a :: l, b :: m => q a b && all2P q l m
  | _, _ => false
/-- meets, element by element -/
def zipM (l m : List T) : List T := List.zipWith T.meet l m
theorem zipM_length {l m : List T} (h : l.length = m.length) : (zipM l m).length = l.length := by simp [zipM]; omega
theorem zipM_depth {l m : List T} (hl : ∀ t ∈ l, t.depth ≤ 4) (hm : ∀ t ∈ m, t.depth ≤ 4) : ∀ t ∈ zipM l m, t.depth ≤ 4 := by
  induction l generalizing m with
  | nil => intro t h; simp [zipM] at h
  | cons a l ih =>
    cases m with
    | nil => intro t h; simp [zipM] at h
    | cons b m =>
      intro t h
      simp only [zipM, List.zipWith_cons_cons, List.mem_cons] at h
      rcases h with rfl | h
      · have := T.meet_depth a b; have := hl a (by simp); have := hm b (by simp); omega
      · exact ih (fun t ht => hl t (by simp [ht])) (fun t ht => hm t (by simp [ht])) t h
end Go.Proofs.Grad
/- Terms that are alike but for their types, related by a relation of types. On shadows. -/
namespace Go.Proofs.Grad
/-- two terms are alike, and their types stand in a relation -/
def alkB (q : Ty → Ty → Bool) (k : Int) (n : ByteArray) (m : Int) (t : Ty) (c : Tm) (r : Bool) : Bool :=
  !(hasTy k && (k == c.kind && !q t c.type)) && (k == c.kind && (n.toList == c.name.toList && (m == c.num && r)))
mutual
def Tm.alk (q : Ty → Ty → Bool) : Tm → Tm → Bool
  | .mk k n m t _ _ l, c => alkB q k n m t c (Tm.alks q l c.kids)
def Tm.alks (q : Ty → Ty → Bool) : List Tm → List Tm → Bool
  | [], [] => true
  | a :: l, b :: m => a.alk q b && Tm.alks q l m
  | _, _ => false
end
theorem alks_all2 (q : Ty → Ty → Bool) : ∀ a b : List Tm, Tm.alks q a b = Sh.teall2 (Tm.alk q) a b
  | [], [] => by simp [Tm.alks, Sh.teall2]
  | [], _ :: _ => by simp [Tm.alks, Sh.teall2]
  | _ :: _, [] => by simp [Tm.alks, Sh.teall2]
  | _ :: a, _ :: b => by simp only [Tm.alks, Sh.teall2, alks_all2 q a b]
/-- a relation holds of two lists' types -/
def all2T (q : Ty → Ty → Bool) : List T → List T → Bool
  | [], [] => true
  | a :: l, b :: m => q a.ty b.ty && all2T q l m
  | _, _ => false
theorem all2T_append {q : Ty → Ty → Bool} : ∀ {l m l' m' : List T}, l.length = l'.length → all2T q (l ++ m) (l' ++ m') = (all2T q l l' && all2T q m m')
  | [], _, [], _, _ => rfl
  | [], _, _ :: _, _, h => by simp at h
  | _ :: _, _, [], _, h => by simp at h
  | a :: l, m, b :: l', m', h => by simp only [List.cons_append, all2T, all2T_append (l := l) (l' := l') (by simpa using h), Bool.and_assoc]
theorem nm_toList {x y : UInt8} : (nm x).toList = (nm y).toList ↔ x = y := by simp [nm, ByteArray.toList_eq]
theorem E.wt_app (e : E) : ∀ l m : List T, l.length = e.nt → e.wt (l ++ m) = ((e.wt l).1, m) := by
  intro l m h
  have h1 : (e.wt (l ++ m)).1 = (e.wt l).1 := by
    rw [← E.wt_wt e l (l ++ m) (by omega) (by rw [List.length_append]; omega)]
    have h2 : (e.wt l).1.tl = l := by rw [E.wt_tl e l (by omega), List.take_of_length_le (by omega)]
    have h3 := E.wt_self (e.wt l).1 m
    rw [h2] at h3; rw [h3]
  have h2 : (e.wt (l ++ m)).2 = m := by rw [E.wt_rest e _ (by rw [List.length_append]; omega), ← h, List.drop_left]
  exact Prod.ext h1 h2
theorem E.alk_wt {q : Ty → Ty → Bool} (e : E) : e.noC = true → ∀ l : List T, l.length = e.nt → e.tm.alk q (e.wt l).1.tm = all2T q e.tl l := by
  induction e with
  | cast _ _ _ a ih => intro h; simp [E.noC] at h
  | lam x t a ih | asc t a ih =>
    intro h l hl
    simp only [E.noC] at h
    cases l with
    | nil => simp only [E.nt, List.length_nil] at hl; omega
    | cons u l =>
      have := ih h l (by simp only [E.nt, List.length_cons] at hl; omega)
      simp [E.wt, E.tm, nd, Tm.alk, Tm.alks, alkB, Tm.kind, Tm.name, Tm.num, Tm.type, Tm.kids, hasTy, E.tl, all2T, this]
  | fst a ih | snd a ih =>
    intro h l hl
    simp only [E.noC] at h
    have := ih h l hl
    simp [E.wt, E.tm, nd, Tm.alk, Tm.alks, alkB, Tm.kind, Tm.name, Tm.num, Tm.type, Tm.kids, hasTy, E.tl, this]
  | app a b iha ihb | add a b iha ihb | less a b iha ihb | pair a b iha ihb =>
    intro h l hl
    simp only [E.noC, Bool.and_eq_true] at h
    simp only [E.nt] at hl
    have h1 := iha h.1 (l.take a.nt) (by rw [List.length_take]; omega)
    have h2 := ihb h.2 (l.drop a.nt) (by rw [List.length_drop]; omega)
    have h3 := E.wt_app a (l.take a.nt) (l.drop a.nt) (by rw [List.length_take]; omega)
    rw [List.take_append_drop] at h3
    have h4 : all2T q (a.tl ++ b.tl) l = (all2T q a.tl (l.take a.nt) && all2T q b.tl (l.drop a.nt)) := by
      rw [← all2T_append (by rw [E.tl_length, List.length_take]; omega), List.take_append_drop]
    simp [E.wt, E.tm, nd, Tm.alk, Tm.alks, alkB, Tm.kind, Tm.name, Tm.num, Tm.type, Tm.kids, hasTy, E.tl, h1, h2, h3, h4]
  | ite a b c iha ihb ihc =>
    intro h l hl
    simp only [E.noC, Bool.and_eq_true] at h
    simp only [E.nt] at hl
    have h1 := iha h.1 (l.take a.nt) (by rw [List.length_take]; omega)
    have h3 := E.wt_app a (l.take a.nt) (l.drop a.nt) (by rw [List.length_take]; omega)
    rw [List.take_append_drop] at h3
    have h4 : all2T q (a.tl ++ (b.tl ++ c.tl)) l = (all2T q a.tl (l.take a.nt) && all2T q (b.tl ++ c.tl) (l.drop a.nt)) := by
      rw [← all2T_append (by rw [E.tl_length, List.length_take]; omega), List.take_append_drop]
    obtain ⟨l2, hl2⟩ : ∃ l2, l2 = l.drop a.nt := ⟨_, rfl⟩
    rw [← hl2] at h3 h4
    have hl2l : l2.length = b.nt + c.nt := by rw [hl2, List.length_drop]; omega
    have h5 := ihb h.2.1 (l2.take b.nt) (by rw [List.length_take]; omega)
    have h6 := ihc h.2.2 (l2.drop b.nt) (by rw [List.length_drop]; omega)
    have h7 := E.wt_app b (l2.take b.nt) (l2.drop b.nt) (by rw [List.length_take]; omega)
    rw [List.take_append_drop] at h7
    have h8 : all2T q (b.tl ++ c.tl) l2 = (all2T q b.tl (l2.take b.nt) && all2T q c.tl (l2.drop b.nt)) := by
      rw [← all2T_append (by rw [E.tl_length, List.length_take]; omega), List.take_append_drop]
    simp [E.wt, E.tm, nd, Tm.alk, Tm.alks, alkB, Tm.kind, Tm.name, Tm.num, Tm.type, Tm.kids, hasTy, E.tl, h1, h3, h4, h5, h6, h7, h8]
  | _ =>
    intro h l hl
    have : l = [] := List.eq_nil_of_length_eq_zero hl
    subst this
    simp [E.wt, E.tm, nd, Tm.alk, Tm.alks, alkB, Tm.kind, Tm.name, Tm.num, Tm.type, Tm.kids, hasTy, E.tl, all2T]
theorem E.alk_form {q : Ty → Ty → Bool} (a : E) : ∀ b : E, a.noC = true → b.noC = true → a.tm.alk q b.tm = true → b = (a.wt b.tl).1 ∧ b.nt = a.nt := by
  induction a with
  | cast _ _ _ a ih => intro b h; simp [E.noC] at h
  | var x | num x | tru | fls =>
    intro b _ _ h
    cases b <;> simp [E.tm, nd, Tm.alk, alkB, Tm.kind, Tm.name, Tm.num, Tm.kids, Tm.alks, nm_toList] at h <;> simp_all [E.wt, E.nt]
  | lam x t a ih =>
    intro b hn hb h
    cases b <;> simp [E.tm, nd, Tm.alk, alkB, Tm.kind, Tm.name, Tm.num, Tm.kids, Tm.alks, nm_toList] at h
    rename_i y u b
    obtain ⟨h1, h2⟩ := ih b hn hb h.2.2
    exact ⟨by rw [h.2.1]; simp only [E.tl, E.wt]; rw [← h1], by simp only [E.nt, h2]⟩
  | asc t a ih =>
    intro b hn hb h
    cases b <;> simp [E.tm, nd, Tm.alk, alkB, Tm.kind, Tm.name, Tm.num, Tm.kids, Tm.alks, nm_toList] at h
    rename_i u b
    obtain ⟨h1, h2⟩ := ih b hn hb h.2
    exact ⟨by simp only [E.tl, E.wt]; rw [← h1], by simp only [E.nt, h2]⟩
  | fst a ih | snd a ih =>
    intro b hn hb h
    cases b <;> simp [E.tm, nd, Tm.alk, alkB, Tm.kind, Tm.name, Tm.num, Tm.kids, Tm.alks, nm_toList, hasTy] at h
    rename_i b
    obtain ⟨h1, h2⟩ := ih b hn hb h
    exact ⟨by simp only [E.tl, E.wt]; rw [← h1], by simp only [E.nt, h2]⟩
  | app a1 a2 ih1 ih2 | add a1 a2 ih1 ih2 | less a1 a2 ih1 ih2 | pair a1 a2 ih1 ih2 =>
    intro b hn hb h
    cases b <;> simp [E.tm, nd, Tm.alk, alkB, Tm.kind, Tm.name, Tm.num, Tm.kids, Tm.alks, nm_toList, hasTy] at h
    rename_i b1 b2
    simp only [E.noC, Bool.and_eq_true] at hn hb
    obtain ⟨h1, h2⟩ := ih1 b1 hn.1 hb.1 h.1
    obtain ⟨h3, h4⟩ := ih2 b2 hn.2 hb.2 h.2
    have h5 := E.wt_app a1 b1.tl b2.tl (by rw [E.tl_length, h2])
    exact ⟨by simp only [E.tl, E.wt]; rw [h5, ← h1, ← h3], by simp only [E.nt, h2, h4]⟩
  | ite a1 a2 a3 ih1 ih2 ih3 =>
    intro b hn hb h
    cases b <;> simp [E.tm, nd, Tm.alk, alkB, Tm.kind, Tm.name, Tm.num, Tm.kids, Tm.alks, nm_toList, hasTy] at h
    rename_i b1 b2 b3
    simp only [E.noC, Bool.and_eq_true] at hn hb
    obtain ⟨h1, h2⟩ := ih1 b1 hn.1 hb.1 h.1
    obtain ⟨h3, h4⟩ := ih2 b2 hn.2.1 hb.2.1 h.2.1
    obtain ⟨h6, h7⟩ := ih3 b3 hn.2.2 hb.2.2 h.2.2
    have h5 := E.wt_app a1 b1.tl (b2.tl ++ b3.tl) (by rw [E.tl_length, h2])
    have h8 := E.wt_app a2 b2.tl b3.tl (by rw [E.tl_length, h4])
    exact ⟨by simp only [E.tl, E.wt]; rw [h5, h8, ← h1, ← h3, ← h6], by simp only [E.nt, h2, h4, h7]⟩
theorem E.alk_iff {q : Ty → Ty → Bool} {a b : E} (ha : a.noC = true) (hb : b.noC = true) (h : a.tm.alk q b.tm = true) : b = (a.wt b.tl).1 ∧ b.nt = a.nt ∧ all2T q a.tl b.tl = true := by
  obtain ⟨h1, h2⟩ := E.alk_form a b ha hb h
  refine ⟨h1, h2, ?_⟩
  rw [← E.alk_wt a ha b.tl (by rw [E.tl_length, h2]), ← h1, h]
end Go.Proofs.Grad
namespace Go.Proofs.Ytfgjiamolknicaa
open Go.RowKit Go.Proofs.Sh Go.Proofs.Grad
set_option maxRecDepth 100000
set_option maxHeartbeats 8000000
theorem teEqFunc1 (g : FuncId) (f : FuncId) (ty : TypeId) (Q : Tm → Tm → Bool) (l m : List Tm) (hl : l.length < 4611686018427387904)
    (hg : ∀ k, k < l.length → k < m.length → ACl Try.prog g [.agg (teC (teKid l k)), .agg (teC (teKid m k)), .one (.ptr 1 0 0 0)] [⟨1, ty, .mut, [[.fn f []]]⟩] (fun r H' => r = .one (.sc (.bool (Q (teKid l k) (teKid m k)))) ∧ H' = [⟨1, ty, .mut, [[.fn f []]]⟩])) :
    ACl Try.prog 72 [.one (.sl (teR l)), .one (.sl (teR m)), .one (.fn g [.ptr 1 0 0 0])] [⟨1, ty, .mut, [[.fn f []]]⟩] (fun r H' => r = .one (.sc (.bool (teall2 Q l m))) ∧ H' = [⟨1, ty, .mut, [[.fn f []]]⟩]) := by
  refine acl_in Try.func72 rfl isfn_72 (Nat.le_of_ble_eq_true rfl) (fun R hR => ?_); rw [Try.results72] at hR; refine wg_run ?_; (simp only [Try.f72, go_sem])
  repeat' (first | (((first | apply sp1 | apply sp2 | apply sp3 | apply sp4 | apply sp5 | apply sp6 | apply sp7) <;> intro hb) <;> (simp only [go_sem, hb])) | ((first | apply wm_done | apply wt_done | apply wg_run | refine fk ?_ ?_) <;> (simp only [go_sem])))
  · (refine hR _ (rat [] (hK := ⟨?_, ?_⟩)))
    · rw [teall2_len]
      intro h; simp [h] at hb
    · rfl
  · have hlm : l.length = m.length := by simp at hb; omega
    clear hb
    refine wd_for [0, 1, 2, 15, 16, 17] (fun k => [.one (.sl (teR l)), .one (.sl (teR m)), .one (.fn g [.ptr 1 0 0 0]), .one (.sl (teR l)), .one (.sc (.int .i64 l.length)), .one (.sc (.int .i64 (k : Nat)))]) (fun k => [⟨1, ty, .mut, [[.fn f []]]⟩])
      (fun k => k ≤ l.length ∧ teall2 Q (l.drop k) (m.drop k) = teall2 Q l m) (fun k => l.length - k) 0 ⟨Nat.zero_le _, rfl⟩ (hat [] (hI := ⟨rfl, rfl⟩)) ?_
    rintro k ⟨hk, hs⟩ G hG
    refine wg_run ?_
    (simp only [go_sem])
    ((first | apply sp1 | apply sp2 | apply sp3 | apply sp4 | apply sp5 | apply sp6 | apply sp7) <;> intro hb) <;> (simp only [go_sem, hb])
    · have hk1 : k < l.length := by have := of_decide_eq_true hb; omega
      have hk2 : decide ((k : Int) < (m.length : Int)) = true := by simp; omega
      rw [teall2_kid hk1 (by omega)] at hs
      have hw1 := wrap_succ hk1 (by omega)
      (simp only [go_sem, hk2])
      (first | refine kdq [0] ?_ (hc := hg k hk1 (by omega)) | refine kmq [0] ?_ (hc := hg k hk1 (by omega)) | refine ktq [0] ?_ (hc := hg k hk1 (by omega))); rintro _ _ ⟨rfl, rfl⟩; (simp only [go_sem])
      repeat' (first | (simp only [go_sem, hw1]) | (((first | apply sp1 | apply sp2 | apply sp3 | apply sp4 | apply sp5 | apply sp6 | apply sp7) <;> intro hb) <;> (simp only [go_sem, hb, hw1])) | ((first | apply wm_done | apply wt_done | apply wg_run | refine fk ?_ ?_) <;> (simp only [go_sem, hw1])))
      · exact hG (k + 1) _ _ ⟨by omega, by simpa [hb] using hs⟩ (by omega) (hat [] (hI := ⟨rfl, rfl⟩))
      · (refine hR _ (rat [] (hK := ⟨?_, ?_⟩)))
        · simpa [hb] using hs
        · rfl
    · have hk1 : ¬ k < l.length := by have := of_decide_eq_false hb; omega
      rw [teall2_end hk1 hlm] at hs
      (refine hR _ (rat [] (hK := ⟨?_, ?_⟩)))
      · simpa using hs
      · rfl
theorem iAlike (g : FuncId) (q : Ty → Ty → Bool) (hg : ∀ x y : Ty, x.size < 4611686018427387904 → AFn Try.prog g [.agg (tyC x), .agg (tyC y)] (.one (.sc (.bool (q x y))))) (n : Nat) (hn : n ≤ 4611686018427387904) : ∀ a b : Tm, a.size < n → AFn Try.prog 107 [.agg (teC a), .agg (teC b), .one (.fn g [])] (.one (.sc (.bool (a.alk q b)))) := by
  induction n with
  | zero => intro a b h; omega
  | succ n ih =>
    intro a b h
    have hl := telen_lt a
    have hk : ∀ k, k < a.kids.length → k < b.kids.length → ACl Try.prog 154 [.agg (teC (teKid a.kids k)), .agg (teC (teKid b.kids k)), .one (.ptr 1 0 0 0)] [⟨1, 80, .mut, [[.fn g []]]⟩] (fun r H' => r = .one (.sc (.bool ((teKid a.kids k).alk q (teKid b.kids k)))) ∧ H' = [⟨1, 80, .mut, [[.fn g []]]⟩]) := by
      intro k h1 h2
      have hi := ih (by omega) (teKid a.kids k) (teKid b.kids k) (by have := teKid_lt h1; omega)
      refine acl_in Try.func154 rfl isfn_154 (Nat.le_of_ble_eq_true rfl) (fun R hR => ?_); rw [Try.results154] at hR; refine wg_run ?_; (simp only [Try.f154, go_sem])
      repeat' (first | (first | (((first | apply sp1 | apply sp2 | apply sp3 | apply sp4 | apply sp5 | apply sp6 | apply sp7) <;> intro hb) <;> (simp only [go_sem, hb])) | ((first | apply wm_done | apply wt_done | apply wg_run | refine fk ?_ ?_) <;> (simp only [go_sem]))) | (first | refine cdq ?_ (hc := hi) | refine cmq ?_ (hc := hi) | refine ctq ?_ (hc := hi)); (simp only [go_sem]) | fail)
      (refine hR _ (rat [] (hK := ⟨?_, ?_⟩)))
      · rfl
      · rfl
    have hf := teEqFunc1 154 g 80 (Tm.alk q) a.kids b.kids (by omega) hk
    have h1 := hg a.type b.type (by cases a; simp only [Tm.size, Tm.type] at *; omega)
    have h0 := iHasType a
    clear hk ih
    have e : a.alk q b = alkB q a.kind a.name a.num a.type b (teall2 (Tm.alk q) a.kids b.kids) := by
      cases a; cases b; rw [← alks_all2]; simp only [Tm.alk, Tm.kind, Tm.name, Tm.num, Tm.type, Tm.kids]
    rw [e]
    unfold alkB
    generalize teall2 (Tm.alk q) a.kids b.kids = z at *
    refine fn_in ?_; refine acl_in Try.func107 rfl isfn_107 (Nat.le_of_ble_eq_true rfl) (fun R hR => ?_); rw [Try.results107] at hR; refine wg_run ?_; (simp only [Try.f107, go_sem])
    repeat' (first | (first | (((first | apply sp1 | apply sp2 | apply sp3 | apply sp4 | apply sp5 | apply sp6 | apply sp7) <;> intro hb) <;> (simp only [go_sem, hb])) | ((first | apply wm_done | apply wt_done | apply wg_run | refine fk ?_ ?_) <;> (simp only [go_sem]))) | (first | refine cdq ?_ (hc := h0) | refine cmq ?_ (hc := h0) | refine ctq ?_ (hc := h0)); (simp only [go_sem]) | (first | refine cdq ?_ (hc := h1) | refine cmq ?_ (hc := h1) | refine ctq ?_ (hc := h1)); (simp only [go_sem]) | (first | refine kdq [2] ?_ (hc := hf) | refine kmq [2] ?_ (hc := hf) | refine ktq [2] ?_ (hc := hf)); rintro _ _ ⟨rfl, rfl⟩; (simp only [go_sem]) | ((first | refine mxq6 [] ?_ | refine mxq5 [] ?_ | refine mxq4 [] ?_ | refine mxq3 [] ?_ | refine mxq2 [] ?_ | refine mxq1 [] ?_ | refine mxq0 [] ?_ | fail); (simp only [go_sem])) | fail)
    all_goals (refine hR _ (rat [] (hK := ⟨?_, rfl⟩)))
    all_goals (clear hR h1 h0 hf; simp_all)
end Go.Proofs.Ytfgjiamolknicaa
/- More on terms with other types: free names, erased terms, precision, merges. No program, no world. -/
namespace Go.Proofs.Grad
theorem E.era_wt (e : E) : e.mapE E.era1 = (e.wt (List.replicate e.nt .any)).1 := by
  have := e.wt_any 0
  rw [Nat.add_zero] at this; rw [this]
theorem E.era_nt (e : E) : (e.mapE E.era1).nt = e.nt := by rw [E.era_wt, E.wt_nt]
theorem any_depth {n : Nat} : ∀ t ∈ List.replicate n T.any, t.depth ≤ 4 := by
  intro t ht; rw [List.eq_of_mem_replicate ht]; decide
theorem E.era_okT {e : E} (h : e.okT = true) : (e.mapE E.era1).okT = true := by rw [E.era_wt]; exact E.wt_okT h any_depth
theorem all2T_P {q : Ty → Ty → Bool} {r : T → T → Bool} (h : ∀ a b : T, q a.ty b.ty = r a b) : ∀ l m : List T, all2T q l m = all2P r l m
  | [], [] => rfl
  | a :: l, b :: m => by simp only [all2T, all2P, h, all2T_P h l m]
  | [], _ :: _ => rfl
  | _ :: _, [] => rfl
end Go.Proofs.Grad
