/- Texts of the proof, one behind another. -/
import Derived.Test.YtnaebafafhamjaaKZ14
set_option linter.unusedSimpArgs false
set_option linter.unusedVariables false
/- Typing of terms with casts; steps keep types; typed terms make progress. No program, no world. -/
namespace Go.Proofs.Grad
def T.eqb (a b : T) : Bool := a.ty.same b.ty
theorem T.eqb_iff {a b : T} : a.eqb b = true ↔ a = b := by
  unfold T.eqb; rw [Ty.same_iff]; exact ⟨fun h => T.ty_inj a b h, fun h => by rw [h]⟩
def cApp : T → T → Option T | .fn p q, u => (match p.eqb u with | true => some q | false => none) | _, _ => none
def cNum (r : T) : T → T → Option T | .int, .int => some r | _, _ => none
def cIte : T → T → T → Option T | .bool, u, v => (match u.eqb v with | true => some u | false => none) | _, _, _ => none
def cFst : T → Option T | .pr p _ => some p | _ => none
def cSnd : T → Option T | .pr _ q => some q | _ => none
def cCast (s t a : T) : Option T := match a.eqb s with | true => some t | false => none
/-- the type of a term with casts -/
def E.cty : E → Ctx → Option T
  | .var x, Γ => look1 Γ x
  | .num _, _ => some .int
  | .tru, _ => some .bool
  | .fls, _ => some .bool
  | .lam x t a, Γ => match a.cty (Γ ++ [(x, t)]) with | some u => twoF t u | none => none
  | .app a b, Γ => match a.cty Γ with | some s => (match b.cty Γ with | some u => cApp s u | none => none) | none => none
  | .add a b, Γ => match a.cty Γ with | some s => (match b.cty Γ with | some u => cNum .int s u | none => none) | none => none
  | .less a b, Γ => match a.cty Γ with | some s => (match b.cty Γ with | some u => cNum .bool s u | none => none) | none => none
  | .ite a b c, Γ => match a.cty Γ with | some s => (match b.cty Γ with | some u => (match c.cty Γ with | some v => cIte s u v | none => none) | none => none) | none => none
  | .pair a b, Γ => match a.cty Γ with | some s => (match b.cty Γ with | some u => twoP s u | none => none) | none => none
  | .fst a, Γ => match a.cty Γ with | some s => cFst s | none => none
  | .snd a, Γ => match a.cty Γ with | some s => cSnd s | none => none
  | .asc _ _, _ => none
  | .cast s t _ a, Γ => match a.cty Γ with | some u => cCast s t u | none => none
theorem cApp_inv {s u t : T} (h : cApp s u = some t) : s = .fn u t := by
  unfold cApp at h
  split at h
  · split at h
    · rename_i he
      obtain rfl := Option.some.inj h
      rw [T.eqb_iff.1 he]
    · cases h
  · cases h
theorem cNum_inv {r s u t : T} (h : cNum r s u = some t) : s = .int ∧ u = .int ∧ t = r := by
  unfold cNum at h
  split at h
  · exact ⟨rfl, rfl, (Option.some.inj h).symm⟩
  · cases h
theorem cIte_inv {s u v t : T} (h : cIte s u v = some t) : s = .bool ∧ v = u ∧ t = u := by
  unfold cIte at h
  split at h
  · split at h
    · rename_i he; exact ⟨rfl, (T.eqb_iff.1 he).symm, (Option.some.inj h).symm⟩
    · cases h
  · cases h
theorem cFst_inv {s t : T} (h : cFst s = some t) : ∃ q, s = .pr t q := by
  unfold cFst at h
  split at h
  · obtain rfl := Option.some.inj h; exact ⟨_, rfl⟩
  · cases h
theorem cSnd_inv {s t : T} (h : cSnd s = some t) : ∃ p, s = .pr p t := by
  unfold cSnd at h
  split at h
  · obtain rfl := Option.some.inj h; exact ⟨_, rfl⟩
  · cases h
theorem cCast_inv {s t a u : T} (h : cCast s t a = some u) : a = s ∧ u = t := by
  unfold cCast at h
  split at h
  · rename_i he; exact ⟨T.eqb_iff.1 he, (Option.some.inj h).symm⟩
  · cases h
theorem twoF_inv {a b t : T} (h : twoF a b = some t) : t = .fn a b ∧ t.depth ≤ 4 := by
  have := twoF_depth h
  unfold twoF at h; split at h
  · obtain rfl := Option.some.inj h; exact ⟨rfl, this⟩
  · cases h
theorem twoP_inv {a b t : T} (h : twoP a b = some t) : t = .pr a b ∧ t.depth ≤ 4 := by
  have := twoP_depth h
  unfold twoP at h; split at h
  · obtain rfl := Option.some.inj h; exact ⟨rfl, this⟩
  · cases h
theorem inv_app {a b : E} {Γ : Ctx} {t : T} (h : (E.app a b).cty Γ = some t) : ∃ u, a.cty Γ = some (.fn u t) ∧ b.cty Γ = some u := by
  simp only [E.cty] at h
  split at h
  · rename_i s hs
    split at h
    · rename_i u hu; have := cApp_inv h; subst this; exact ⟨u, hs, hu⟩
    · cases h
  · cases h
theorem inv_add {a b : E} {Γ : Ctx} {t : T} (h : (E.add a b).cty Γ = some t) : a.cty Γ = some .int ∧ b.cty Γ = some .int ∧ t = .int := by
  simp only [E.cty] at h
  split at h
  · rename_i s hs
    split at h
    · rename_i u hu; obtain ⟨rfl, rfl, rfl⟩ := cNum_inv h; exact ⟨hs, hu, rfl⟩
    · cases h
  · cases h
theorem inv_less {a b : E} {Γ : Ctx} {t : T} (h : (E.less a b).cty Γ = some t) : a.cty Γ = some .int ∧ b.cty Γ = some .int ∧ t = .bool := by
  simp only [E.cty] at h
  split at h
  · rename_i s hs
    split at h
    · rename_i u hu; obtain ⟨rfl, rfl, rfl⟩ := cNum_inv h; exact ⟨hs, hu, rfl⟩
    · cases h
  · cases h
theorem inv_ite {a b c : E} {Γ : Ctx} {t : T} (h : (E.ite a b c).cty Γ = some t) : a.cty Γ = some .bool ∧ b.cty Γ = some t ∧ c.cty Γ = some t := by
  simp only [E.cty] at h
  split at h
  · rename_i s hs
    split at h
    · rename_i u hu
      split at h
      · rename_i v hv; obtain ⟨rfl, rfl, rfl⟩ := cIte_inv h; exact ⟨hs, hu, hv⟩
      · cases h
    · cases h
  · cases h
theorem inv_pair {a b : E} {Γ : Ctx} {t : T} (h : (E.pair a b).cty Γ = some t) : ∃ s u, a.cty Γ = some s ∧ b.cty Γ = some u ∧ t = .pr s u ∧ t.depth ≤ 4 := by
  simp only [E.cty] at h
  split at h
  · rename_i s hs
    split at h
    · rename_i u hu; obtain ⟨rfl, hd⟩ := twoP_inv h; exact ⟨s, u, hs, hu, rfl, hd⟩
    · cases h
  · cases h
theorem inv_fst {a : E} {Γ : Ctx} {t : T} (h : (E.fst a).cty Γ = some t) : ∃ q, a.cty Γ = some (.pr t q) := by
  simp only [E.cty] at h
  split at h
  · rename_i s hs; obtain ⟨q, rfl⟩ := cFst_inv h; exact ⟨q, hs⟩
  · cases h
theorem inv_snd {a : E} {Γ : Ctx} {t : T} (h : (E.snd a).cty Γ = some t) : ∃ p, a.cty Γ = some (.pr p t) := by
  simp only [E.cty] at h
  split at h
  · rename_i s hs; obtain ⟨q, rfl⟩ := cSnd_inv h; exact ⟨q, hs⟩
  · cases h
theorem inv_cast {s u : T} {l : Int} {a : E} {Γ : Ctx} {t : T} (h : (E.cast s u l a).cty Γ = some t) : a.cty Γ = some s ∧ t = u := by
  simp only [E.cty] at h
  split at h
  · rename_i v hv; obtain ⟨rfl, rfl⟩ := cCast_inv h; exact ⟨hv, rfl⟩
  · cases h
theorem inv_lam {x : UInt8} {u : T} {a : E} {Γ : Ctx} {t : T} (h : (E.lam x u a).cty Γ = some t) : ∃ v, a.cty (Γ ++ [(x, u)]) = some v ∧ t = .fn u v ∧ t.depth ≤ 4 := by
  simp only [E.cty] at h
  split at h
  · rename_i v hv; obtain ⟨rfl, hd⟩ := twoF_inv h; exact ⟨v, hv, rfl, hd⟩
  · cases h
/-! introductions -/
def SR.keeps (r : SR) (t : T) : Prop := match r with | .took e => e.cty [] = some t | _ => True
theorem val_int {v : E} (hv : v.val = true) (h : v.cty [] = some .int) : ∃ n, v = .num n := by
  cases v with
  | num n => exact ⟨n, rfl⟩
  | lam _ _ _ => obtain ⟨_, _, h, _⟩ := inv_lam h; cases h
  | pair _ _ => obtain ⟨_, _, _, _, h, _⟩ := inv_pair h; cases h
  | cast s t l a =>
    obtain ⟨_, h⟩ := inv_cast h
    subst h
    cases s <;> simp [E.val, proxyT, injT, T.isFn, T.isPr, T.ty, Ty.kind] at hv
  | tru | fls => simp [E.cty] at h
  | _ => simp [E.val] at hv
theorem val_bool {v : E} (hv : v.val = true) (h : v.cty [] = some .bool) : v = .tru ∨ v = .fls := by
  cases v with
  | tru => exact .inl rfl
  | fls => exact .inr rfl
  | lam _ _ _ => obtain ⟨_, _, h, _⟩ := inv_lam h; cases h
  | pair _ _ => obtain ⟨_, _, _, _, h, _⟩ := inv_pair h; cases h
  | cast s t l a =>
    obtain ⟨_, h⟩ := inv_cast h
    subst h
    cases s <;> simp [E.val, proxyT, injT, T.isFn, T.isPr, T.ty, Ty.kind] at hv
  | num _ => simp [E.cty] at h
  | _ => simp [E.val] at hv
theorem val_fn {v : E} {p q : T} (hv : v.val = true) (h : v.cty [] = some (.fn p q)) : (∃ x c, v = .lam x p c) ∨ (∃ s1 s2 l a, v = .cast (.fn s1 s2) (.fn p q) l a) := by
  cases v with
  | lam x t c => obtain ⟨_, _, h, _⟩ := inv_lam h; cases h; exact .inl ⟨x, c, rfl⟩
  | pair _ _ => obtain ⟨_, _, _, _, h, _⟩ := inv_pair h; cases h
  | cast s t l a =>
    obtain ⟨_, h⟩ := inv_cast h
    subst h
    cases s <;> simp [E.val, proxyT, injT, T.isFn, T.isPr, T.ty, Ty.kind] at hv
    exact .inr ⟨_, _, _, _, rfl⟩
  | num _ | tru | fls => simp [E.cty] at h
  | _ => simp [E.val] at hv
theorem val_pr {v : E} {p q : T} (hv : v.val = true) (h : v.cty [] = some (.pr p q)) : (∃ a b, v = .pair a b) ∨ (∃ s1 s2 l a, v = .cast (.pr s1 s2) (.pr p q) l a) := by
  cases v with
  | lam x t c => obtain ⟨_, _, h, _⟩ := inv_lam h; cases h
  | pair a b => exact .inl ⟨a, b, rfl⟩
  | cast s t l a =>
    obtain ⟨_, h⟩ := inv_cast h
    subst h
    cases s <;> simp [E.val, proxyT, injT, T.isFn, T.isPr, T.ty, Ty.kind] at hv
    exact .inr ⟨_, _, _, _, rfl⟩
  | num _ | tru | fls => simp [E.cty] at h
  | _ => simp [E.val] at hv
theorem val_any {v : E} (hv : v.val = true) (h : v.cty [] = some .any) : ∃ s l a, v = .cast s .any l a ∧ injT s .any = true := by
  cases v with
  | lam x t c => obtain ⟨_, _, h, _⟩ := inv_lam h; cases h
  | pair a b => obtain ⟨_, _, _, _, h, _⟩ := inv_pair h; cases h
  | cast s t l a =>
    obtain ⟨_, h⟩ := inv_cast h
    subst h
    refine ⟨s, l, a, rfl, ?_⟩
    simp only [E.val, Bool.and_eq_true, Bool.or_eq_true] at hv
    rcases hv.1 with h | h
    · cases s <;> simp [proxyT, T.isFn, T.isPr] at h
    · exact h
  | num _ | tru | fls => simp [E.cty] at h
  | _ => simp [E.val] at hv
def SR.isStuck : SR → Bool | .stuck => true | _ => false
theorem SR.map_stuck {r : SR} {f : E → E} : (r.map f).isStuck = r.isStuck := by cases r <;> rfl
theorem progress (e : E) : ∀ t : T, e.wf = true → e.val = false → e.cty [] = some t → e.step.isStuck = false := by
  induction e with
  | var x => intro t hw hv h; simp [E.cty, look1] at h
  | num _ | tru | fls => intro t hw hv h; simp [E.val] at hv
  | lam _ _ _ _ => intro t hw hv h; simp [E.val] at hv
  | asc _ _ _ => intro t hw hv h; cases h
  | app a b iha ihb =>
    intro t hw hv h
    simp only [E.wf, Bool.and_eq_true] at hw
    simp only [E.step]
    obtain ⟨u, h1, h2⟩ := inv_app h
    cases ea : a.val
    · simp only [SR.map_stuck]; exact iha _ hw.1 ea h1
    · simp only []
      cases eb : b.val
      · simp only [SR.map_stuck]; exact ihb _ hw.2 eb h2
      · rcases val_fn ea h1 with ⟨x, c, rfl⟩ | ⟨s1, s2, l, f, rfl⟩ <;> rfl
  | add a b iha ihb =>
    intro t hw hv h
    simp only [E.wf, Bool.and_eq_true] at hw
    simp only [E.step]
    obtain ⟨h1, h2, rfl⟩ := inv_add h
    cases ea : a.val
    · simp only [SR.map_stuck]; exact iha _ hw.1 ea h1
    · simp only []
      cases eb : b.val
      · simp only [SR.map_stuck]; exact ihb _ hw.2 eb h2
      · obtain ⟨n, rfl⟩ := val_int ea h1; obtain ⟨m, rfl⟩ := val_int eb h2; rfl
  | less a b iha ihb =>
    intro t hw hv h
    simp only [E.wf, Bool.and_eq_true] at hw
    simp only [E.step]
    obtain ⟨h1, h2, rfl⟩ := inv_less h
    cases ea : a.val
    · simp only [SR.map_stuck]; exact iha _ hw.1 ea h1
    · simp only []
      cases eb : b.val
      · simp only [SR.map_stuck]; exact ihb _ hw.2 eb h2
      · obtain ⟨n, rfl⟩ := val_int ea h1; obtain ⟨m, rfl⟩ := val_int eb h2
        simp only [ruleLess]; split <;> rfl
  | pair a b iha ihb =>
    intro t hw hv h
    simp only [E.wf, Bool.and_eq_true] at hw
    simp only [E.step]
    obtain ⟨s, u, h1, h2, rfl, hd⟩ := inv_pair h
    cases ea : a.val
    · simp only [SR.map_stuck]; exact iha _ hw.1 ea h1
    · simp only []
      cases eb : b.val
      · simp only [SR.map_stuck]; exact ihb _ hw.2 eb h2
      · simp [E.val, ea, eb] at hv
  | ite a b c iha ihb ihc =>
    intro t hw hv h
    simp only [E.wf, Bool.and_eq_true] at hw
    simp only [E.step]
    obtain ⟨h1, h2, h3⟩ := inv_ite h
    cases ea : a.val
    · simp only [SR.map_stuck]; exact iha _ hw.1 ea h1
    · rcases val_bool ea h1 with rfl | rfl <;> rfl
  | fst a ih =>
    intro t hw hv h
    simp only [E.step]
    obtain ⟨q, h1⟩ := inv_fst h
    cases ea : a.val
    · simp only [SR.map_stuck]; exact ih _ hw ea h1
    · rcases val_pr ea h1 with ⟨x, c, rfl⟩ | ⟨s1, s2, l, f, rfl⟩ <;> rfl
  | snd a ih =>
    intro t hw hv h
    simp only [E.step]
    obtain ⟨q, h1⟩ := inv_snd h
    cases ea : a.val
    · simp only [SR.map_stuck]; exact ih _ hw ea h1
    · rcases val_pr ea h1 with ⟨x, c, rfl⟩ | ⟨s1, s2, l, f, rfl⟩ <;> rfl
  | cast s u l a ih =>
    intro t hw hv h
    simp only [E.wf, Bool.and_eq_true, decide_eq_true_eq] at hw
    simp only [E.step]
    obtain ⟨h1, rfl⟩ := inv_cast h
    cases ea : a.val
    · simp only [SR.map_stuck]; exact ih _ hw.2.2.2 ea h1
    · simp only []
      unfold ruleCast
      cases e1 : (s.ty.kind == t.ty.kind)
      · cases e2 : (t.ty.kind == 1)
        · have hs := cons_kind e1 e2 hw.2.1
          subst hs
          cases e3 : t.isG
          · rfl
          · obtain ⟨s', l', w, rfl, hi⟩ := val_any ea h1
            simp only [ruleOut, hi]
            split <;> rfl
        · rfl
      · rfl
end Go.Proofs.Grad
/- Typing of terms with casts: rules as the program has them. No program, no world. -/
namespace Go.Proofs.Grad
theorem T.ty_size16 {t : T} (h : t.depth ≤ 4) : t.ty.size < 16 := by
  have : ∀ (x : T) (d : Nat), x.depth ≤ d → d ≤ 4 → x.size < 2 ^ d := by
    intro x
    induction x with
    | any | int | bool => intro d h1 h2; simp only [T.depth, T.size] at *; exact Nat.one_lt_two_pow (by omega)
    | fn a b iha ihb | pr a b iha ihb =>
      intro d h1 h2
      simp only [T.depth, T.size] at *
      obtain ⟨d, rfl⟩ : ∃ e, d = e + 1 := ⟨d - 1, by omega⟩
      have := iha d (by omega) (by omega); have := ihb d (by omega) (by omega)
      rw [Nat.pow_succ]; omega
  have := this t 4 h (Nat.le_refl _)
  rw [T.ty_size]; omega
end Go.Proofs.Grad
