/- Texts of the proof, one behind another. -/
import Derived.Test.YtnaebafafhamjaaGreatK5
import Derived.Test.YtnaebafafhamjaaGreatK6
import Derived.Test.YtnaebafafhamjaaGreatK7
set_option linter.unusedSimpArgs false
set_option linter.unusedVariables false
/- Terms: copies, and terms mapped; on shadows. -/
namespace Go.Proofs.Sh
open Go.Proofs.Grad
@[go_sem] theorem teC_apps (t : Tm) (l : List C) : teC t ++ l = .sc (.int .i64 (t.kind)) :: .sc (.string (t.name)) :: .sc (.int .i64 (t.num)) :: .sc (.int .i64 (t.type).kind) :: .sl (tyR (t.type).kids) :: .sc (.int .i64 (t.frm).kind) :: .sl (tyR (t.frm).kids) :: .sc (.int .i64 (t.label)) :: .sl (teR (t.kids)) :: l := by rw [teC_eq]; rfl
attribute [go_sem] List.getD_cons_zero List.getD_cons_succ List.getD_nil
/-- the cells of a node whose operands' slice is c -/
def teK (t : Tm) (c : C) : List C := [.sc (.int .i64 (t.kind)), .sc (.string (t.name)), .sc (.int .i64 (t.num)), .sc (.int .i64 (t.type).kind), .sl (tyR (t.type).kids), .sc (.int .i64 (t.frm).kind), .sl (tyR (t.frm).kids), .sc (.int .i64 (t.label)), c]
theorem teK_sl (t : Tm) : teK t (.sl (teR t.kids)) = teC t := by rw [teC_eq]; rfl
end Go.Proofs.Sh
namespace Go.Proofs.YtnaebafafhamjaaGreat
open Go.RowKit Go.Proofs.Sh Go.Proofs.Grad
set_option maxRecDepth 100000
set_option maxHeartbeats 8000000
theorem l2Copy (n : Nat) (hn : n ≤ 274877906944) : ∀ t : Tm, t.size < n → AFn Tryz.prog 77 [.agg (teC t)] (.agg (teC t)) := by
  induction n with
  | zero => intro t h; omega
  | succ n ih =>
    intro t h
    have hl := telen_lt t
    have h1 := l1Copy 274877906944 (by omega) t.type (Nat.lt_trans (by cases t; simp only [Tm.size, Tm.type]; omega : t.type.size < t.size) (by omega))
    have h2 := l1Copy 274877906944 (by omega) t.frm (Nat.lt_trans (by cases t; simp only [Tm.size, Tm.frm]; omega : t.frm.size < t.size) (by omega))
    refine fn_in ?_; refine acl_in Tryz.func77 rfl isfn_77 (Nat.le_of_ble_eq_true rfl) (fun R hR => ?_); rw [Tryz.results77] at hR; refine wg_run ?_; (simp only [Tryz.f77, go_sem])
    repeat' (first | (first | (((first | refine sp1 ?_ ?_ | refine sp2 ?_ ?_ | refine sp3 ?_ ?_ | refine sp4 ?_ ?_ | refine sp5 ?_ ?_ | refine sp6 ?_ ?_ | refine sp7 ?_ ?_) <;> intro hb) <;> (simp only [go_sem, hb])) | ((first | refine wm_done ?_ | refine wt_done ?_ | refine wg_run ?_ | refine fk ?_ ?_) <;> (simp only [go_sem]))) | (first | refine cd (hc := h1) (hK := ?_) | refine cm (hc := h1) (hK := ?_) | refine ct (hc := h1) (hK := ?_)); (simp only [go_sem]) | (first | refine cd (hc := h2) (hK := ?_) | refine cm (hc := h2) (hK := ?_) | refine ct (hc := h2) (hK := ?_)); (simp only [go_sem]))
    refine wd_for [1, 2, 3, 4] (fun k => [.one (.ptr 9 0 0 0), .one (.ptr 9 1 0 0), .one (.ptr 9 2 0 0), .one (.sc (.int .i64 (k : Nat)))])
      (fun k => [⟨9, 28, .mut, [teC t]⟩, ⟨9, 28, .mut, [[.sc (.int .i64 0), .sc (.string { data := { toList := [] } }), .sc (.int .i64 0), .sc (.int .i64 0), .sc (.slice none 0 0), .sc (.int .i64 0), .sc (.slice none 0 0), .sc (.int .i64 0), .sc (.slice none 0 0)]]⟩] ++ (match k with | 0 => [⟨9, 28, .mut, [teK t (.sc (.slice none 0 0))]⟩] | k + 1 => [⟨9, 28, .mut, [teK t (.row 9 3 (k + 1))]⟩, ⟨9, 28, .mut, teR (t.kids.take (k + 1))⟩]))
      (fun k => k ≤ t.kids.length) (fun k => t.kids.length - k) 0 (Nat.zero_le _) (hat [0, 1, 2] (hI := ⟨rfl, rfl⟩)) ?_
    rintro (_ | k) hk G hG
    · refine wg_run ?_
      simp only [teK] at hG ⊢
      (simp only [go_sem])
      ((first | refine sp1 ?_ ?_ | refine sp2 ?_ ?_ | refine sp3 ?_ ?_ | refine sp4 ?_ ?_ | refine sp5 ?_ ?_ | refine sp6 ?_ ?_ | refine sp7 ?_ ?_) <;> intro hb) <;> (simp only [go_sem, hb])
      · have hk1 : 0 < t.kids.length := by have := of_decide_eq_true hb; omega
        have hc := ih (by omega) (teKid t.kids 0) (by have := teKid_lt hk1; omega)
        repeat' (first | (first | (simp only [go_sem, hb]) | (((first | refine sp1 ?_ ?_ | refine sp2 ?_ ?_ | refine sp3 ?_ ?_ | refine sp4 ?_ ?_ | refine sp5 ?_ ?_ | refine sp6 ?_ ?_ | refine sp7 ?_ ?_) <;> intro hb) <;> (simp only [go_sem, hb, hb])) | ((first | refine wm_done ?_ | refine wt_done ?_ | refine wg_run ?_ | refine fk ?_ ?_) <;> (simp only [go_sem, hb]))) | ((first | refine mx 6 [] follows ?_ | refine mx 5 [] follows ?_ | refine mx 4 [] follows ?_ | refine mx 3 [] follows ?_ | refine mx 2 [] follows ?_ | refine mx 1 [] follows ?_ | refine mx 0 [] follows ?_ | fail); (simp only [go_sem, hb])) | (first | refine cd (hc := hc) (hK := ?_) | refine cm (hc := hc) (hK := ?_) | refine ct (hc := hc) (hK := ?_)); (simp only [go_sem]))
        refine hG 1 _ _ (by omega) (by omega) (hat [0, 1, 2, 4] (hI := ⟨rfl, ?_⟩))
        simp only [teR_take hk1, List.take_zero, teR, List.nil_append, List.cons_append]
      · have hk1 : t.kids = [] := by have := of_decide_eq_false hb; exact List.eq_nil_of_length_eq_zero (by omega)
        (refine hR _ (rat [] (hK := ⟨?_, rfl⟩)))
        rw [teC_eq, hk1]; rfl
    · refine wg_run ?_
      simp only [teK] at hG ⊢
      have hw1 : k + 1 < t.kids.length → IntKind.i64.wrap (((k + 1 : Nat) : Int) + 1) = ((k + 1 + 1 : Nat) : Int) := fun h => wrap_succ h (by omega)
      (simp only [go_sem])
      ((first | refine sp1 ?_ ?_ | refine sp2 ?_ ?_ | refine sp3 ?_ ?_ | refine sp4 ?_ ?_ | refine sp5 ?_ ?_ | refine sp6 ?_ ?_ | refine sp7 ?_ ?_) <;> intro hb) <;> (simp only [go_sem, hb])
      · have hk1 : k + 1 < t.kids.length := by have := of_decide_eq_true hb; omega
        have hw1 := hw1 hk1
        have hlen : (t.kids.take (k + 1)).length = k + 1 := by rw [List.length_take]; omega
        have hcap : (k + 1 + 1) * 128 ≤ 140737488355328 := by omega
        have hc := ih (by omega) (teKid t.kids (k + 1)) (by have := teKid_lt hk1; omega)
        repeat' (first | (first | (simp only [go_sem, hb, hlen, hcap, hw1]) | (((first | refine sp1 ?_ ?_ | refine sp2 ?_ ?_ | refine sp3 ?_ ?_ | refine sp4 ?_ ?_ | refine sp5 ?_ ?_ | refine sp6 ?_ ?_ | refine sp7 ?_ ?_) <;> intro hb) <;> (simp only [go_sem, hb, hb, hlen, hcap, hw1])) | ((first | refine wm_done ?_ | refine wt_done ?_ | refine wg_run ?_ | refine fk ?_ ?_) <;> (simp only [go_sem, hb, hlen, hcap, hw1]))) | ((first | refine mx 6 [] follows ?_ | refine mx 5 [] follows ?_ | refine mx 4 [] follows ?_ | refine mx 3 [] follows ?_ | refine mx 2 [] follows ?_ | refine mx 1 [] follows ?_ | refine mx 0 [] follows ?_ | fail); (simp only [go_sem, hb, hlen, hcap, hw1])) | (first | refine cd (hc := hc) (hK := ?_) | refine cm (hc := hc) (hK := ?_) | refine ct (hc := hc) (hK := ?_)); (simp only [go_sem]))
        refine hG (k + 2) _ _ (by omega) (by omega) (hat [0, 1, 2, 5] (hI := ⟨rfl, ?_⟩))
        rw [← teR_take hk1]
        rfl
      · have hk1 : t.kids.take (k + 1) = t.kids := by have := of_decide_eq_false hb; exact List.take_of_length_le (by omega)
        have hlen : t.kids.length = k + 1 := by have := of_decide_eq_false hb; omega
        rw [hk1]
        (refine hR _ (ret_at [] (by (simp only [go_sem, hlen]); first | done | rfl) (by (simp only [go_sem, hlen]); first | done | rfl) ⟨?_, rfl⟩))
        rw [teC_eq]
/-- a copy, its uppermost slice its own -/
def OwnTm (t : Tm) (r : AV) (H' : List Blk) : Prop := (t.kids = [] ∧ r = .agg (teK t (.sc (.slice none 0 0))) ∧ H' = []) ∨ (0 < t.kids.length ∧ r = .agg (teK t (.row 9 0 t.kids.length)) ∧ H' = [⟨9, 28, .mut, teR t.kids⟩])
theorem l2CopyO (n : Nat) (hn : n ≤ 274877906944) (t : Tm) (h : t.size < n) : ACl Tryz.prog 77 [.agg (teC t)] [] (OwnTm t) := by
  have ih := l2Copy n hn
  have hl := telen_lt t
  have h1 := l1Copy 274877906944 (by omega) t.type (Nat.lt_trans (by cases t; simp only [Tm.size, Tm.type]; omega : t.type.size < t.size) (by omega))
  have h2 := l1Copy 274877906944 (by omega) t.frm (Nat.lt_trans (by cases t; simp only [Tm.size, Tm.frm]; omega : t.frm.size < t.size) (by omega))
  refine acl_in Tryz.func77 rfl isfn_77 (Nat.le_of_ble_eq_true rfl) (fun R hR => ?_); rw [Tryz.results77] at hR; refine wg_run ?_; (simp only [Tryz.f77, go_sem])
  repeat' (first | (first | (((first | refine sp1 ?_ ?_ | refine sp2 ?_ ?_ | refine sp3 ?_ ?_ | refine sp4 ?_ ?_ | refine sp5 ?_ ?_ | refine sp6 ?_ ?_ | refine sp7 ?_ ?_) <;> intro hb) <;> (simp only [go_sem, hb])) | ((first | refine wm_done ?_ | refine wt_done ?_ | refine wg_run ?_ | refine fk ?_ ?_) <;> (simp only [go_sem]))) | (first | refine cd (hc := h1) (hK := ?_) | refine cm (hc := h1) (hK := ?_) | refine ct (hc := h1) (hK := ?_)); (simp only [go_sem]) | (first | refine cd (hc := h2) (hK := ?_) | refine cm (hc := h2) (hK := ?_) | refine ct (hc := h2) (hK := ?_)); (simp only [go_sem]))
  refine wd_for [1, 2, 3, 4] (fun k => [.one (.ptr 9 0 0 0), .one (.ptr 9 1 0 0), .one (.ptr 9 2 0 0), .one (.sc (.int .i64 (k : Nat)))])
    (fun k => [⟨9, 28, .mut, [teC t]⟩, ⟨9, 28, .mut, [[.sc (.int .i64 0), .sc (.string { data := { toList := [] } }), .sc (.int .i64 0), .sc (.int .i64 0), .sc (.slice none 0 0), .sc (.int .i64 0), .sc (.slice none 0 0), .sc (.int .i64 0), .sc (.slice none 0 0)]]⟩] ++ (match k with | 0 => [⟨9, 28, .mut, [teK t (.sc (.slice none 0 0))]⟩] | k + 1 => [⟨9, 28, .mut, [teK t (.row 9 3 (k + 1))]⟩, ⟨9, 28, .mut, teR (t.kids.take (k + 1))⟩]))
    (fun k => k ≤ t.kids.length) (fun k => t.kids.length - k) 0 (Nat.zero_le _) (hat [0, 1, 2] (hI := ⟨rfl, rfl⟩)) ?_
  rintro (_ | k) hk G hG
  · refine wg_run ?_
    simp only [teK] at hG ⊢
    (simp only [go_sem])
    ((first | refine sp1 ?_ ?_ | refine sp2 ?_ ?_ | refine sp3 ?_ ?_ | refine sp4 ?_ ?_ | refine sp5 ?_ ?_ | refine sp6 ?_ ?_ | refine sp7 ?_ ?_) <;> intro hb) <;> (simp only [go_sem, hb])
    · have hk1 : 0 < t.kids.length := by have := of_decide_eq_true hb; omega
      have hc := ih (teKid t.kids 0) (by have := teKid_lt hk1; omega)
      repeat' (first | (first | (simp only [go_sem, hb]) | (((first | refine sp1 ?_ ?_ | refine sp2 ?_ ?_ | refine sp3 ?_ ?_ | refine sp4 ?_ ?_ | refine sp5 ?_ ?_ | refine sp6 ?_ ?_ | refine sp7 ?_ ?_) <;> intro hb) <;> (simp only [go_sem, hb, hb])) | ((first | refine wm_done ?_ | refine wt_done ?_ | refine wg_run ?_ | refine fk ?_ ?_) <;> (simp only [go_sem, hb]))) | ((first | refine mx 6 [] follows ?_ | refine mx 5 [] follows ?_ | refine mx 4 [] follows ?_ | refine mx 3 [] follows ?_ | refine mx 2 [] follows ?_ | refine mx 1 [] follows ?_ | refine mx 0 [] follows ?_ | fail); (simp only [go_sem, hb])) | (first | refine cd (hc := hc) (hK := ?_) | refine cm (hc := hc) (hK := ?_) | refine ct (hc := hc) (hK := ?_)); (simp only [go_sem]))
      refine hG 1 _ _ (by omega) (by omega) (hat [0, 1, 2, 4] (hI := ⟨rfl, ?_⟩))
      simp only [teR_take hk1, List.take_zero, teR, List.nil_append, List.cons_append]
    · have hk1 : t.kids = [] := by have := of_decide_eq_false hb; exact List.eq_nil_of_length_eq_zero (by omega)
      exact hR _ (rwn [] (hK := (.inl ⟨hk1, rfl, rfl⟩)))
  · refine wg_run ?_
    simp only [teK] at hG ⊢
    have hw1 : k + 1 < t.kids.length → IntKind.i64.wrap (((k + 1 : Nat) : Int) + 1) = ((k + 1 + 1 : Nat) : Int) := fun h => wrap_succ h (by omega)
    (simp only [go_sem])
    ((first | refine sp1 ?_ ?_ | refine sp2 ?_ ?_ | refine sp3 ?_ ?_ | refine sp4 ?_ ?_ | refine sp5 ?_ ?_ | refine sp6 ?_ ?_ | refine sp7 ?_ ?_) <;> intro hb) <;> (simp only [go_sem, hb])
    · have hk1 : k + 1 < t.kids.length := by have := of_decide_eq_true hb; omega
      have hw1 := hw1 hk1
      have hlen : (t.kids.take (k + 1)).length = k + 1 := by rw [List.length_take]; omega
      have hcap : (k + 1 + 1) * 128 ≤ 140737488355328 := by omega
      have hc := ih (teKid t.kids (k + 1)) (by have := teKid_lt hk1; omega)
      repeat' (first | (first | (simp only [go_sem, hb, hlen, hcap, hw1]) | (((first | refine sp1 ?_ ?_ | refine sp2 ?_ ?_ | refine sp3 ?_ ?_ | refine sp4 ?_ ?_ | refine sp5 ?_ ?_ | refine sp6 ?_ ?_ | refine sp7 ?_ ?_) <;> intro hb) <;> (simp only [go_sem, hb, hb, hlen, hcap, hw1])) | ((first | refine wm_done ?_ | refine wt_done ?_ | refine wg_run ?_ | refine fk ?_ ?_) <;> (simp only [go_sem, hb, hlen, hcap, hw1]))) | ((first | refine mx 6 [] follows ?_ | refine mx 5 [] follows ?_ | refine mx 4 [] follows ?_ | refine mx 3 [] follows ?_ | refine mx 2 [] follows ?_ | refine mx 1 [] follows ?_ | refine mx 0 [] follows ?_ | fail); (simp only [go_sem, hb, hlen, hcap, hw1])) | (first | refine cd (hc := hc) (hK := ?_) | refine cm (hc := hc) (hK := ?_) | refine ct (hc := hc) (hK := ?_)); (simp only [go_sem]))
      refine hG (k + 2) _ _ (by omega) (by omega) (hat [0, 1, 2, 5] (hI := ⟨rfl, ?_⟩))
      rw [← teR_take hk1]
      rfl
    · have hk1 : t.kids.take (k + 1) = t.kids := by have := of_decide_eq_false hb; exact List.take_of_length_le (by omega)
      have hlen : t.kids.length = k + 1 := by have := of_decide_eq_false hb; omega
      rw [hk1]
      exact hR _ (ret_own [3] (by (simp only [go_sem, hlen]); first | done | rfl) (by (simp only [go_sem, hlen]); first | done | rfl) (.inr ⟨by omega, by rw [hlen]; rfl, rfl⟩))
end Go.Proofs.YtnaebafafhamjaaGreat
/- Terms: terms mapped by a function, on shadows. -/
namespace Go.Proofs.Grad
def E.mapE (φ : E → E) : E → E
  | .var x => φ (.var x)
  | .num n => φ (.num n)
  | .tru => φ .tru
  | .fls => φ .fls
  | .lam x t a => φ (.lam x t (a.mapE φ))
  | .app a b => φ (.app (a.mapE φ) (b.mapE φ))
  | .add a b => φ (.add (a.mapE φ) (b.mapE φ))
  | .less a b => φ (.less (a.mapE φ) (b.mapE φ))
  | .ite a b c => φ (.ite (a.mapE φ) (b.mapE φ) (c.mapE φ))
  | .pair a b => φ (.pair (a.mapE φ) (b.mapE φ))
  | .fst a => φ (.fst (a.mapE φ))
  | .snd a => φ (.snd (a.mapE φ))
  | .asc t a => φ (.asc t (a.mapE φ))
  | .cast s t l a => φ (.cast s t l (a.mapE φ))
theorem E.mapE_wf {φ : E → E} (h : ∀ x : E, x.wf = true → (φ x).wf = true) (e : E) : e.wf = true → (e.mapE φ).wf = true := by
  induction e with
  | var _ | num _ | tru | fls => intro hw; exact h _ hw
  | lam _ _ a ih => intro hw; simp only [E.wf, Bool.and_eq_true] at hw; refine h _ ?_; simp only [E.wf, Bool.and_eq_true]; exact ⟨hw.1, hw.2.1, ih hw.2.2⟩
  | app a b iha ihb | add a b iha ihb | less a b iha ihb | pair a b iha ihb =>
    intro hw; simp only [E.wf, Bool.and_eq_true] at hw; refine h _ ?_; simp only [E.wf, Bool.and_eq_true]; exact ⟨iha hw.1, ihb hw.2⟩
  | ite a b c iha ihb ihc =>
    intro hw; simp only [E.wf, Bool.and_eq_true] at hw; refine h _ ?_; simp only [E.wf, Bool.and_eq_true]; exact ⟨iha hw.1, ihb hw.2.1, ihc hw.2.2⟩
  | fst a ih | snd a ih => intro hw; refine h _ ?_; exact ih hw
  | cast s t l a ih => intro hw; simp only [E.wf, Bool.and_eq_true] at hw; refine h _ ?_; simp only [E.wf, Bool.and_eq_true]; exact ⟨hw.1, hw.2.1, hw.2.2.1, ih hw.2.2.2⟩
  | _ => rename_i t a ih; intro hw; simp only [E.wf, Bool.and_eq_true] at hw; refine h _ ?_; simp only [E.wf, Bool.and_eq_true]; exact ⟨hw.1, ih hw.2⟩
theorem E.mapE_id (e : E) : e.mapE id = e := by
  induction e <;> simp [E.mapE, *]
theorem T.ty_small {t : T} (h : t.depth ≤ 4) : t.ty.size < 1000 := by
  have : ∀ (x : T) (d : Nat), x.depth ≤ d → d ≤ 4 → x.size < 2 ^ d := by
    intro x
    induction x with
    | any | int | bool => intro d h1 h2; simp only [T.depth, T.size] at *; exact Nat.one_lt_two_pow (by omega)
    | fn a b iha ihb | pr a b iha ihb =>
      intro d h1 h2
      simp only [T.depth, T.size] at *
      obtain ⟨d, rfl⟩ : ∃ e, d = e + 1 := ⟨d - 1, by omega⟩
      have := iha d (by omega) (by omega); have := ihb d (by omega) (by omega)
      rw [Nat.pow_succ]; omega
  have := this t 4 h (Nat.le_refl _)
  rw [T.ty_size]; omega
end Go.Proofs.Grad
namespace Go.Proofs.YtnaebafafhamjaaGreat
open Go.RowKit Go.Proofs.Sh Go.Proofs.Grad
set_option maxRecDepth 100000
set_option maxHeartbeats 8000000
theorem iOwnNo : AFn Tryz.prog 57 [.agg (tyC noTy)] (.agg (tyC noTy)) := iOwnTy 1000 (by omega) noTy (by simp [noTy, Ty.size, Ty.sizes])
theorem iOwnT {t : T} (h : t.depth ≤ 4) : AFn Tryz.prog 57 [.agg (tyC t.ty)] (.agg (tyC t.ty)) := iOwnTy 1000 (by omega) t.ty (T.ty_small h)
theorem iMapped (g : FuncId) (φ : E → E) (hφ : ∀ x : E, x.wf = true → (φ x).wf = true) (hg : ∀ x : E, x.wf = true → AFn Tryz.prog g [.agg (teC x.tm)] (.agg (teC (φ x).tm))) (e : E) (h : e.wf = true) :
    AFn Tryz.prog 97 [.agg (teC e.tm), .one (.fn g [])] (.agg (teC (e.mapE φ).tm)) := by
  have ho := iOwnNo
  induction e with
  | var _ | num _ | tru | fls =>
    have hg := hg _ h
    simp only [E.mapE]
    rw [teC_eq] at hg
    simp only [E.tm, nd] at hg ⊢
    refine fn_in ?_; refine acl_in Tryz.func97 rfl isfn_97 (Nat.le_of_ble_eq_true rfl) (fun R hR => ?_); rw [Tryz.results97] at hR; refine wg_run ?_; (simp only [Tryz.f97, go_sem])
    repeat' (first | (first | (((first | refine sp1 ?_ ?_ | refine sp2 ?_ ?_ | refine sp3 ?_ ?_ | refine sp4 ?_ ?_ | refine sp5 ?_ ?_ | refine sp6 ?_ ?_ | refine sp7 ?_ ?_) <;> intro hb) <;> (simp only [go_sem, hb])) | ((first | refine wm_done ?_ | refine wt_done ?_ | refine wg_run ?_ | refine fk ?_ ?_) <;> (simp only [go_sem]))) | (first | (refine wl_next (wg_run ?_); (simp only [go_sem])) | refine wd_rounds 6 ?_) | (first | refine cd (hc := ho) (hK := ?_) | refine cm (hc := ho) (hK := ?_) | refine ct (hc := ho) (hK := ?_)); (simp only [go_sem]) | ((first | refine mx 6 [] follows ?_ | refine mx 5 [] follows ?_ | refine mx 4 [] follows ?_ | refine mx 3 [] follows ?_ | refine mx 2 [] follows ?_ | refine mx 1 [] follows ?_ | refine mx 0 [] follows ?_ | fail); (simp only [go_sem])) | (first | refine cd (hc := hg) (hK := ?_) | refine cm (hc := hg) (hK := ?_) | refine ct (hc := hg) (hK := ?_)); (simp only [go_sem]))
    (refine hR _ (rat [] (hK := ⟨?_, rfl⟩)))
    rfl
  | app a b iha ihb | add a b iha ihb | less a b iha ihb | pair a b iha ihb =>
    simp only [E.wf, Bool.and_eq_true] at h
    have iha := iha h.1
    have ihb := ihb h.2
    have wa := E.mapE_wf hφ a h.1
    have wb := E.mapE_wf hφ b h.2
    have g1 := hg (.app (a.mapE φ) (b.mapE φ)) (by simp only [E.wf, Bool.and_eq_true]; exact ⟨wa, wb⟩)
    have g2 := hg (.add (a.mapE φ) (b.mapE φ)) (by simp only [E.wf, Bool.and_eq_true]; exact ⟨wa, wb⟩)
    have g3 := hg (.less (a.mapE φ) (b.mapE φ)) (by simp only [E.wf, Bool.and_eq_true]; exact ⟨wa, wb⟩)
    have g4 := hg (.pair (a.mapE φ) (b.mapE φ)) (by simp only [E.wf, Bool.and_eq_true]; exact ⟨wa, wb⟩)
    clear hg
    simp only [E.mapE]
    rw [teC_eq] at g1 g2 g3 g4
    simp only [E.tm, nd, go_sem] at g1 g2 g3 g4 ⊢
    refine fn_in ?_; refine acl_in Tryz.func97 rfl isfn_97 (Nat.le_of_ble_eq_true rfl) (fun R hR => ?_); rw [Tryz.results97] at hR; refine wg_run ?_; (simp only [Tryz.f97, go_sem])
    repeat' (first | (first | (((first | refine sp1 ?_ ?_ | refine sp2 ?_ ?_ | refine sp3 ?_ ?_ | refine sp4 ?_ ?_ | refine sp5 ?_ ?_ | refine sp6 ?_ ?_ | refine sp7 ?_ ?_) <;> intro hb) <;> (simp only [go_sem, hb])) | ((first | refine wm_done ?_ | refine wt_done ?_ | refine wg_run ?_ | refine fk ?_ ?_) <;> (simp only [go_sem]))) | (first | (refine wl_next (wg_run ?_); (simp only [go_sem])) | refine wd_rounds 6 ?_) | (first | refine cd (hc := iha) (hK := ?_) | refine cm (hc := iha) (hK := ?_) | refine ct (hc := iha) (hK := ?_)); (simp only [go_sem]) | (first | refine cd (hc := ihb) (hK := ?_) | refine cm (hc := ihb) (hK := ?_) | refine ct (hc := ihb) (hK := ?_)); (simp only [go_sem]) | (first | refine cd (hc := ho) (hK := ?_) | refine cm (hc := ho) (hK := ?_) | refine ct (hc := ho) (hK := ?_)); (simp only [go_sem]) | ((first | refine mx 6 [] follows ?_ | refine mx 5 [] follows ?_ | refine mx 4 [] follows ?_ | refine mx 3 [] follows ?_ | refine mx 2 [] follows ?_ | refine mx 1 [] follows ?_ | refine mx 0 [] follows ?_ | fail); (simp only [go_sem])) | (first | refine cd (hc := g1) (hK := ?_) | refine cm (hc := g1) (hK := ?_) | refine ct (hc := g1) (hK := ?_)); (simp only [go_sem]) | (first | refine cd (hc := g2) (hK := ?_) | refine cm (hc := g2) (hK := ?_) | refine ct (hc := g2) (hK := ?_)); (simp only [go_sem]) | (first | refine cd (hc := g3) (hK := ?_) | refine cm (hc := g3) (hK := ?_) | refine ct (hc := g3) (hK := ?_)); (simp only [go_sem]) | (first | refine cd (hc := g4) (hK := ?_) | refine cm (hc := g4) (hK := ?_) | refine ct (hc := g4) (hK := ?_)); (simp only [go_sem]))
    (refine hR _ (rat [] (hK := ⟨?_, rfl⟩)))
    rfl
  | ite a b c iha ihb ihc =>
    simp only [E.wf, Bool.and_eq_true] at h
    have iha := iha h.1
    have ihb := ihb h.2.1
    have ihc := ihc h.2.2
    have g1 := hg (.ite (a.mapE φ) (b.mapE φ) (c.mapE φ)) (by simp only [E.wf, Bool.and_eq_true]; exact ⟨E.mapE_wf hφ a h.1, E.mapE_wf hφ b h.2.1, E.mapE_wf hφ c h.2.2⟩)
    clear hg
    simp only [E.mapE]
    rw [teC_eq] at g1
    simp only [E.tm, nd, go_sem] at g1 ⊢
    refine fn_in ?_; refine acl_in Tryz.func97 rfl isfn_97 (Nat.le_of_ble_eq_true rfl) (fun R hR => ?_); rw [Tryz.results97] at hR; refine wg_run ?_; (simp only [Tryz.f97, go_sem])
    repeat' (first | (first | (((first | refine sp1 ?_ ?_ | refine sp2 ?_ ?_ | refine sp3 ?_ ?_ | refine sp4 ?_ ?_ | refine sp5 ?_ ?_ | refine sp6 ?_ ?_ | refine sp7 ?_ ?_) <;> intro hb) <;> (simp only [go_sem, hb])) | ((first | refine wm_done ?_ | refine wt_done ?_ | refine wg_run ?_ | refine fk ?_ ?_) <;> (simp only [go_sem]))) | (first | (refine wl_next (wg_run ?_); (simp only [go_sem])) | refine wd_rounds 6 ?_) | (first | refine cd (hc := iha) (hK := ?_) | refine cm (hc := iha) (hK := ?_) | refine ct (hc := iha) (hK := ?_)); (simp only [go_sem]) | (first | refine cd (hc := ihb) (hK := ?_) | refine cm (hc := ihb) (hK := ?_) | refine ct (hc := ihb) (hK := ?_)); (simp only [go_sem]) | (first | refine cd (hc := ihc) (hK := ?_) | refine cm (hc := ihc) (hK := ?_) | refine ct (hc := ihc) (hK := ?_)); (simp only [go_sem]) | (first | refine cd (hc := ho) (hK := ?_) | refine cm (hc := ho) (hK := ?_) | refine ct (hc := ho) (hK := ?_)); (simp only [go_sem]) | ((first | refine mx 6 [] follows ?_ | refine mx 5 [] follows ?_ | refine mx 4 [] follows ?_ | refine mx 3 [] follows ?_ | refine mx 2 [] follows ?_ | refine mx 1 [] follows ?_ | refine mx 0 [] follows ?_ | fail); (simp only [go_sem])) | (first | refine cd (hc := g1) (hK := ?_) | refine cm (hc := g1) (hK := ?_) | refine ct (hc := g1) (hK := ?_)); (simp only [go_sem]))
    (refine hR _ (rat [] (hK := ⟨?_, rfl⟩)))
    rfl
  | lam x t a ih =>
    simp only [E.wf, Bool.and_eq_true, decide_eq_true_eq] at h
    have ih := ih h.2.2
    have hot := iOwnT h.2.1
    have g1 := hg (.lam x t (a.mapE φ)) (by simp only [E.wf, Bool.and_eq_true, decide_eq_true_eq]; exact ⟨h.1, h.2.1, E.mapE_wf hφ a h.2.2⟩)
    clear hg
    simp only [E.mapE]
    rw [teC_eq] at g1
    simp only [E.tm, nd, go_sem] at g1 ⊢
    refine fn_in ?_; refine acl_in Tryz.func97 rfl isfn_97 (Nat.le_of_ble_eq_true rfl) (fun R hR => ?_); rw [Tryz.results97] at hR; refine wg_run ?_; (simp only [Tryz.f97, go_sem])
    repeat' (first | (first | (((first | refine sp1 ?_ ?_ | refine sp2 ?_ ?_ | refine sp3 ?_ ?_ | refine sp4 ?_ ?_ | refine sp5 ?_ ?_ | refine sp6 ?_ ?_ | refine sp7 ?_ ?_) <;> intro hb) <;> (simp only [go_sem, hb])) | ((first | refine wm_done ?_ | refine wt_done ?_ | refine wg_run ?_ | refine fk ?_ ?_) <;> (simp only [go_sem]))) | (first | (refine wl_next (wg_run ?_); (simp only [go_sem])) | refine wd_rounds 6 ?_) | (first | refine cd (hc := ih) (hK := ?_) | refine cm (hc := ih) (hK := ?_) | refine ct (hc := ih) (hK := ?_)); (simp only [go_sem]) | (first | refine cd (hc := hot) (hK := ?_) | refine cm (hc := hot) (hK := ?_) | refine ct (hc := hot) (hK := ?_)); (simp only [go_sem]) | (first | refine cd (hc := ho) (hK := ?_) | refine cm (hc := ho) (hK := ?_) | refine ct (hc := ho) (hK := ?_)); (simp only [go_sem]) | ((first | refine mx 6 [] follows ?_ | refine mx 5 [] follows ?_ | refine mx 4 [] follows ?_ | refine mx 3 [] follows ?_ | refine mx 2 [] follows ?_ | refine mx 1 [] follows ?_ | refine mx 0 [] follows ?_ | fail); (simp only [go_sem])) | (first | refine cd (hc := g1) (hK := ?_) | refine cm (hc := g1) (hK := ?_) | refine ct (hc := g1) (hK := ?_)); (simp only [go_sem]))
    (refine hR _ (rat [] (hK := ⟨?_, rfl⟩)))
    rfl
  | fst a ih | snd a ih =>
    simp only [E.wf] at h
    have ih := ih h
    have g1 := hg (.fst (a.mapE φ)) (E.mapE_wf hφ a h)
    have g2 := hg (.snd (a.mapE φ)) (E.mapE_wf hφ a h)
    clear hg
    simp only [E.mapE]
    rw [teC_eq] at g1 g2
    simp only [E.tm, nd, go_sem] at g1 g2 ⊢
    refine fn_in ?_; refine acl_in Tryz.func97 rfl isfn_97 (Nat.le_of_ble_eq_true rfl) (fun R hR => ?_); rw [Tryz.results97] at hR; refine wg_run ?_; (simp only [Tryz.f97, go_sem])
    repeat' (first | (first | (((first | refine sp1 ?_ ?_ | refine sp2 ?_ ?_ | refine sp3 ?_ ?_ | refine sp4 ?_ ?_ | refine sp5 ?_ ?_ | refine sp6 ?_ ?_ | refine sp7 ?_ ?_) <;> intro hb) <;> (simp only [go_sem, hb])) | ((first | refine wm_done ?_ | refine wt_done ?_ | refine wg_run ?_ | refine fk ?_ ?_) <;> (simp only [go_sem]))) | (first | (refine wl_next (wg_run ?_); (simp only [go_sem])) | refine wd_rounds 6 ?_) | (first | refine cd (hc := ih) (hK := ?_) | refine cm (hc := ih) (hK := ?_) | refine ct (hc := ih) (hK := ?_)); (simp only [go_sem]) | (first | refine cd (hc := ho) (hK := ?_) | refine cm (hc := ho) (hK := ?_) | refine ct (hc := ho) (hK := ?_)); (simp only [go_sem]) | ((first | refine mx 6 [] follows ?_ | refine mx 5 [] follows ?_ | refine mx 4 [] follows ?_ | refine mx 3 [] follows ?_ | refine mx 2 [] follows ?_ | refine mx 1 [] follows ?_ | refine mx 0 [] follows ?_ | fail); (simp only [go_sem])) | (first | refine cd (hc := g1) (hK := ?_) | refine cm (hc := g1) (hK := ?_) | refine ct (hc := g1) (hK := ?_)); (simp only [go_sem]) | (first | refine cd (hc := g2) (hK := ?_) | refine cm (hc := g2) (hK := ?_) | refine ct (hc := g2) (hK := ?_)); (simp only [go_sem]))
    (refine hR _ (rat [] (hK := ⟨?_, rfl⟩)))
    rfl
  | cast s t l a ih =>
    simp only [E.wf, Bool.and_eq_true, decide_eq_true_eq] at h
    have ih := ih h.2.2.2
    have hos := iOwnT h.1.1
    have hot := iOwnT h.1.2
    have g1 := hg (.cast s t l (a.mapE φ)) (by simp only [E.wf, Bool.and_eq_true, decide_eq_true_eq]; exact ⟨h.1, h.2.1, h.2.2.1, E.mapE_wf hφ a h.2.2.2⟩)
    clear hg
    simp only [E.mapE]
    rw [teC_eq] at g1
    simp only [E.tm, nd, go_sem] at g1 ⊢
    refine fn_in ?_; refine acl_in Tryz.func97 rfl isfn_97 (Nat.le_of_ble_eq_true rfl) (fun R hR => ?_); rw [Tryz.results97] at hR; refine wg_run ?_; (simp only [Tryz.f97, go_sem])
    repeat' (first | (first | (((first | refine sp1 ?_ ?_ | refine sp2 ?_ ?_ | refine sp3 ?_ ?_ | refine sp4 ?_ ?_ | refine sp5 ?_ ?_ | refine sp6 ?_ ?_ | refine sp7 ?_ ?_) <;> intro hb) <;> (simp only [go_sem, hb])) | ((first | refine wm_done ?_ | refine wt_done ?_ | refine wg_run ?_ | refine fk ?_ ?_) <;> (simp only [go_sem]))) | (first | (refine wl_next (wg_run ?_); (simp only [go_sem])) | refine wd_rounds 6 ?_) | (first | refine cd (hc := ih) (hK := ?_) | refine cm (hc := ih) (hK := ?_) | refine ct (hc := ih) (hK := ?_)); (simp only [go_sem]) | (first | refine cd (hc := hot) (hK := ?_) | refine cm (hc := hot) (hK := ?_) | refine ct (hc := hot) (hK := ?_)); (simp only [go_sem]) | (first | refine cd (hc := hos) (hK := ?_) | refine cm (hc := hos) (hK := ?_) | refine ct (hc := hos) (hK := ?_)); (simp only [go_sem]) | ((first | refine mx 6 [] follows ?_ | refine mx 5 [] follows ?_ | refine mx 4 [] follows ?_ | refine mx 3 [] follows ?_ | refine mx 2 [] follows ?_ | refine mx 1 [] follows ?_ | refine mx 0 [] follows ?_ | fail); (simp only [go_sem])) | (first | refine cd (hc := g1) (hK := ?_) | refine cm (hc := g1) (hK := ?_) | refine ct (hc := g1) (hK := ?_)); (simp only [go_sem]))
    (refine hR _ (rat [] (hK := ⟨?_, rfl⟩)))
    rfl
  | _ =>
    rename_i t a ih
    simp only [E.wf, Bool.and_eq_true, decide_eq_true_eq] at h
    have ih := ih h.2
    have hot := iOwnT h.1
    have g1 := hg (E.asc t (a.mapE φ)) (by simp only [E.wf, Bool.and_eq_true, decide_eq_true_eq]; exact ⟨h.1, E.mapE_wf hφ a h.2⟩)
    clear hg
    simp only [E.mapE]
    rw [teC_eq] at g1
    simp only [E.tm, nd, go_sem] at g1 ⊢
    refine fn_in ?_; refine acl_in Tryz.func97 rfl isfn_97 (Nat.le_of_ble_eq_true rfl) (fun R hR => ?_); rw [Tryz.results97] at hR; refine wg_run ?_; (simp only [Tryz.f97, go_sem])
    repeat' (first | (first | (((first | refine sp1 ?_ ?_ | refine sp2 ?_ ?_ | refine sp3 ?_ ?_ | refine sp4 ?_ ?_ | refine sp5 ?_ ?_ | refine sp6 ?_ ?_ | refine sp7 ?_ ?_) <;> intro hb) <;> (simp only [go_sem, hb])) | ((first | refine wm_done ?_ | refine wt_done ?_ | refine wg_run ?_ | refine fk ?_ ?_) <;> (simp only [go_sem]))) | (first | (refine wl_next (wg_run ?_); (simp only [go_sem])) | refine wd_rounds 6 ?_) | (first | refine cd (hc := ih) (hK := ?_) | refine cm (hc := ih) (hK := ?_) | refine ct (hc := ih) (hK := ?_)); (simp only [go_sem]) | (first | refine cd (hc := hot) (hK := ?_) | refine cm (hc := hot) (hK := ?_) | refine ct (hc := hot) (hK := ?_)); (simp only [go_sem]) | (first | refine cd (hc := ho) (hK := ?_) | refine cm (hc := ho) (hK := ?_) | refine ct (hc := ho) (hK := ?_)); (simp only [go_sem]) | ((first | refine mx 6 [] follows ?_ | refine mx 5 [] follows ?_ | refine mx 4 [] follows ?_ | refine mx 3 [] follows ?_ | refine mx 2 [] follows ?_ | refine mx 1 [] follows ?_ | refine mx 0 [] follows ?_ | fail); (simp only [go_sem])) | (first | refine cd (hc := g1) (hK := ?_) | refine cm (hc := g1) (hK := ?_) | refine ct (hc := g1) (hK := ?_)); (simp only [go_sem]))
    (refine hR _ (rat [] (hK := ⟨?_, rfl⟩)))
    rfl
theorem iOwn1 (t : Tm) : AFn Tryz.prog 161 [.agg (teC t)] (.agg (teC t)) := by
  refine fn_in ?_; refine acl_in Tryz.func161 rfl isfn_161 (Nat.le_of_ble_eq_true rfl) (fun R hR => ?_); rw [Tryz.results161] at hR; refine wg_run ?_; (simp only [Tryz.f161, go_sem])
  repeat' (first | (((first | refine sp1 ?_ ?_ | refine sp2 ?_ ?_ | refine sp3 ?_ ?_ | refine sp4 ?_ ?_ | refine sp5 ?_ ?_ | refine sp6 ?_ ?_ | refine sp7 ?_ ?_) <;> intro hb) <;> (simp only [go_sem, hb])) | ((first | refine wm_done ?_ | refine wt_done ?_ | refine wg_run ?_ | refine fk ?_ ?_) <;> (simp only [go_sem])))
  (refine hR _ (rat [] (hK := ⟨rfl, rfl⟩)))
theorem iOwn (e : E) (h : e.wf = true) : AFn Tryz.prog 112 [.agg (teC e.tm)] (.agg (teC e.tm)) := by
  have hm := iMapped 161 id (fun _ h => h) (fun x _ => iOwn1 x.tm) e h
  rw [E.mapE_id] at hm
  refine fn_in ?_; refine acl_in Tryz.func112 rfl isfn_112 (Nat.le_of_ble_eq_true rfl) (fun R hR => ?_); rw [Tryz.results112] at hR; refine wg_run ?_; (simp only [Tryz.f112, go_sem])
  repeat' (first | (first | (((first | refine sp1 ?_ ?_ | refine sp2 ?_ ?_ | refine sp3 ?_ ?_ | refine sp4 ?_ ?_ | refine sp5 ?_ ?_ | refine sp6 ?_ ?_ | refine sp7 ?_ ?_) <;> intro hb) <;> (simp only [go_sem, hb])) | ((first | refine wm_done ?_ | refine wt_done ?_ | refine wg_run ?_ | refine fk ?_ ?_) <;> (simp only [go_sem]))) | (first | refine cd (hc := hm) (hK := ?_) | refine cm (hc := hm) (hK := ?_) | refine ct (hc := hm) (hK := ?_)); (simp only [go_sem]))
  (refine hR _ (rat [] (hK := ⟨rfl, rfl⟩)))
end Go.Proofs.YtnaebafafhamjaaGreat
/- Terms: values, on shadows. -/
namespace Go.Proofs.Grad
def grTy (k : Int) : Ty := match k == 4 || k == 5 with | true => .mk k [.mk 1 [], .mk 1 []] | false => .mk k []
def Ty.isGr (t : Ty) : Bool := !(t.kind == 1) && t.same (grTy t.kind)
def proxyB (k : Int) (t f : Ty) : Bool := k == 14 && (f.kind == t.kind && (t.kind == 4 || t.kind == 5))
def injB (k : Int) (t f : Ty) : Bool := k == 14 && (t.kind == 1 && f.isGr)
def plainB (k : Int) : Bool := k == 2 || (k == 3 || (k == 4 || k == 5))
mutual
def Tm.isVal : Tm → Bool | .mk k _ _ t f _ ks => match k == 10 || (proxyB k t f || injB k t f) with | true => Tm.isVals ks | false => plainB k
def Tm.isVals : List Tm → Bool | [] => true | t :: l => t.isVal && Tm.isVals l
end
theorem Tm.isVals_all (l : List Tm) : Tm.isVals l = l.all Tm.isVal := by
  induction l with
  | nil => rfl
  | cons t l ih => simp [Tm.isVals, ih]
theorem Tm.isVal_eq (t : Tm) : t.isVal = (match t.kind == 10 || (proxyB t.kind t.type t.frm || injB t.kind t.type t.frm) with | true => Tm.isVals t.kids | false => plainB t.kind) := by cases t; rfl
theorem T.ground_ty (x : T) : x.ground.ty = grTy x.ty.kind := by cases x <;> rfl
end Go.Proofs.Grad
namespace Go.Proofs.YtnaebafafhamjaaGreat
open Go.RowKit Go.Proofs.Sh Go.Proofs.Grad
set_option maxRecDepth 100000
set_option maxHeartbeats 8000000
theorem iGroundR (k : Int) : AFn Tryz.prog 95 [.one (.sc (.int .i64 k))] (.agg (tyC (grTy k))) := by
  have hb := both k (.mk 1 []) (.mk 1 [])
  have h1 := base 1
  have h0 := base k
  unfold grTy
  cases h4 : (k == 4)
  · cases h5 : (k == 5)
    all_goals
      refine fn_in ?_; refine acl_in Tryz.func95 rfl isfn_95 (Nat.le_of_ble_eq_true rfl) (fun R hR => ?_); rw [Tryz.results95] at hR; refine wg_run ?_; (simp only [Tryz.f95, go_sem, h4, h5])
      repeat' (first | (first | (simp only [go_sem, h4, h5]) | (((first | refine sp1 ?_ ?_ | refine sp2 ?_ ?_ | refine sp3 ?_ ?_ | refine sp4 ?_ ?_ | refine sp5 ?_ ?_ | refine sp6 ?_ ?_ | refine sp7 ?_ ?_) <;> intro hb) <;> (simp only [go_sem, hb, h4, h5])) | ((first | refine wm_done ?_ | refine wt_done ?_ | refine wg_run ?_ | refine fk ?_ ?_) <;> (simp only [go_sem, h4, h5]))) | ((first | refine mx 6 [] follows ?_ | refine mx 5 [] follows ?_ | refine mx 4 [] follows ?_ | refine mx 3 [] follows ?_ | refine mx 2 [] follows ?_ | refine mx 1 [] follows ?_ | refine mx 0 [] follows ?_ | fail); (simp only [go_sem, h4, h5])) | (first | refine cd (hc := h1) (hK := ?_) | refine cm (hc := h1) (hK := ?_) | refine ct (hc := h1) (hK := ?_)); (simp only [go_sem]) | (first | refine cd (hc := h0) (hK := ?_) | refine cm (hc := h0) (hK := ?_) | refine ct (hc := h0) (hK := ?_)); (simp only [go_sem]) | (first | refine cd (hc := hb) (hK := ?_) | refine cm (hc := hb) (hK := ?_) | refine ct (hc := hb) (hK := ?_)); (simp only [go_sem]))
      (refine hR _ (rat [] (hK := ⟨?_, rfl⟩)))
      rfl
  · refine fn_in ?_; refine acl_in Tryz.func95 rfl isfn_95 (Nat.le_of_ble_eq_true rfl) (fun R hR => ?_); rw [Tryz.results95] at hR; refine wg_run ?_; (simp only [Tryz.f95, go_sem, h4])
    repeat' (first | (first | (simp only [go_sem, h4]) | (((first | refine sp1 ?_ ?_ | refine sp2 ?_ ?_ | refine sp3 ?_ ?_ | refine sp4 ?_ ?_ | refine sp5 ?_ ?_ | refine sp6 ?_ ?_ | refine sp7 ?_ ?_) <;> intro hb) <;> (simp only [go_sem, hb, h4])) | ((first | refine wm_done ?_ | refine wt_done ?_ | refine wg_run ?_ | refine fk ?_ ?_) <;> (simp only [go_sem, h4]))) | ((first | refine mx 6 [] follows ?_ | refine mx 5 [] follows ?_ | refine mx 4 [] follows ?_ | refine mx 3 [] follows ?_ | refine mx 2 [] follows ?_ | refine mx 1 [] follows ?_ | refine mx 0 [] follows ?_ | fail); (simp only [go_sem, h4])) | (first | refine cd (hc := h1) (hK := ?_) | refine cm (hc := h1) (hK := ?_) | refine ct (hc := h1) (hK := ?_)); (simp only [go_sem]) | (first | refine cd (hc := h0) (hK := ?_) | refine cm (hc := h0) (hK := ?_) | refine ct (hc := h0) (hK := ?_)); (simp only [go_sem]) | (first | refine cd (hc := hb) (hK := ?_) | refine cm (hc := hb) (hK := ?_) | refine ct (hc := hb) (hK := ?_)); (simp only [go_sem]))
    (refine hR _ (rat [] (hK := ⟨?_, rfl⟩)))
    rfl
theorem iIsGround (t : Ty) (h : t.size < 4611686018427387904) : AFn Tryz.prog 196 [.agg (tyC t)] (.one (.sc (.bool t.isGr))) := by
  have hg := iGroundR t.kind
  have hs := iSame _ (Nat.le_refl _) t (grTy t.kind) h
  unfold Ty.isGr
  refine fn_in ?_; refine acl_in Tryz.func196 rfl isfn_196 (Nat.le_of_ble_eq_true rfl) (fun R hR => ?_); rw [Tryz.results196] at hR; refine wg_run ?_; (simp only [Tryz.f196, go_sem])
  repeat' (first | (first | (simp only [go_sem, int_bne]) | (((first | refine sp1 ?_ ?_ | refine sp2 ?_ ?_ | refine sp3 ?_ ?_ | refine sp4 ?_ ?_ | refine sp5 ?_ ?_ | refine sp6 ?_ ?_ | refine sp7 ?_ ?_) <;> intro hb) <;> (simp only [go_sem, hb, int_bne])) | ((first | refine wm_done ?_ | refine wt_done ?_ | refine wg_run ?_ | refine fk ?_ ?_) <;> (simp only [go_sem, int_bne]))) | ((first | refine mx 6 [] follows ?_ | refine mx 5 [] follows ?_ | refine mx 4 [] follows ?_ | refine mx 3 [] follows ?_ | refine mx 2 [] follows ?_ | refine mx 1 [] follows ?_ | refine mx 0 [] follows ?_ | fail); (simp only [go_sem, int_bne])) | (first | refine cd (hc := hg) (hK := ?_) | refine cm (hc := hg) (hK := ?_) | refine ct (hc := hg) (hK := ?_)); (simp only [go_sem]) | (first | refine cd (hc := hs) (hK := ?_) | refine cm (hc := hs) (hK := ?_) | refine ct (hc := hs) (hK := ?_)); (simp only [go_sem]))
  all_goals (refine hR _ (rat [] (hK := ⟨?_, rfl⟩)))
  all_goals simp_all
theorem sSame (n : Nat) (hn : n ≤ 4611686018427387904) : ∀ a b : Ty, a.size < n → AFn Tryz.prog 155 [.agg (tyC a), .agg (tyC b)] (.one (.sc (.bool (a.same b)))) := by
  induction n with
  | zero => intro a b h; omega
  | succ n ih =>
    intro a b h
    have hl : a.kids.length < 4611686018427387904 := by have := Ty.length_le_sizes a.kids; cases a; simp only [Ty.size, Ty.kids] at *; omega
    have e : a.same b = (a.kind == b.kind && all2 Ty.same a.kids b.kids) := by cases a; cases b; simp only [Ty.same, Ty.kind, Ty.kids, Ty.sames_all2]
    rw [e]
    cases hk : (a.kind == b.kind)
    · refine fn_in ?_; refine acl_in Tryz.func155 rfl isfn_155 (Nat.le_of_ble_eq_true rfl) (fun R hR => ?_); rw [Tryz.results155] at hR; refine wg_run ?_; (simp only [Tryz.f155, go_sem, hk, int_bne])
      repeat' (first | (simp only [go_sem, hk, int_bne]) | (((first | refine sp1 ?_ ?_ | refine sp2 ?_ ?_ | refine sp3 ?_ ?_ | refine sp4 ?_ ?_ | refine sp5 ?_ ?_ | refine sp6 ?_ ?_ | refine sp7 ?_ ?_) <;> intro hb) <;> (simp only [go_sem, hb, hk, int_bne])) | ((first | refine wm_done ?_ | refine wt_done ?_ | refine wg_run ?_ | refine fk ?_ ?_) <;> (simp only [go_sem, hk, int_bne])))
      (refine hR _ (rat [] (hK := ⟨rfl, rfl⟩)))
    · by_cases hlm : a.kids.length = b.kids.length
      · have hb0 : ((a.kids.length : Int) == (b.kids.length : Int)) = true := by simp; omega
        refine fn_in ?_; refine acl_in Tryz.func155 rfl isfn_155 (Nat.le_of_ble_eq_true rfl) (fun R hR => ?_); rw [Tryz.results155] at hR; refine wg_run ?_; (simp only [Tryz.f155, go_sem, hk, int_bne, hb0])
        repeat' (first | (simp only [go_sem, hk, int_bne, hb0]) | (((first | refine sp1 ?_ ?_ | refine sp2 ?_ ?_ | refine sp3 ?_ ?_ | refine sp4 ?_ ?_ | refine sp5 ?_ ?_ | refine sp6 ?_ ?_ | refine sp7 ?_ ?_) <;> intro hb) <;> (simp only [go_sem, hb, hk, int_bne, hb0])) | ((first | refine wm_done ?_ | refine wt_done ?_ | refine wg_run ?_ | refine fk ?_ ?_) <;> (simp only [go_sem, hk, int_bne, hb0])))
        refine wd_for [2, 3, 5] (fun k => [.one (.ptr 2 0 0 0), .one (.ptr 2 1 0 0), .one (.sc (.int .i64 (k : Nat)))]) (fun _ => [⟨2, 25, .mut, [tyC a]⟩, ⟨2, 25, .mut, [tyC b]⟩])
          (fun k => k ≤ a.kids.length ∧ all2 Ty.same (a.kids.drop k) (b.kids.drop k) = all2 Ty.same a.kids b.kids) (fun k => a.kids.length - k) 0 ⟨Nat.zero_le _, rfl⟩ (hat [0, 1] (hI := ⟨rfl, rfl⟩)) ?_
        rintro k ⟨hk0, hs⟩ G hG
        refine wg_run ?_
        (simp only [go_sem])
        ((first | refine sp1 ?_ ?_ | refine sp2 ?_ ?_ | refine sp3 ?_ ?_ | refine sp4 ?_ ?_ | refine sp5 ?_ ?_ | refine sp6 ?_ ?_ | refine sp7 ?_ ?_) <;> intro hb) <;> (simp only [go_sem, hb])
        · have hk1 : k < a.kids.length := by have := of_decide_eq_true hb; omega
          have hk2 : decide ((k : Int) < (b.kids.length : Int)) = true := by simp; omega
          have hw1 := wrap_succ hk1 (by omega)
          rw [drop_kid hk1, drop_kid (by omega : k < b.kids.length), all2] at hs
          have hc := ih (by omega) (kid a.kids k) (kid b.kids k) (by have := kid_lt hk1; omega)
          repeat' (first | (first | (simp only [go_sem, hb, hk2, hw1]) | (((first | refine sp1 ?_ ?_ | refine sp2 ?_ ?_ | refine sp3 ?_ ?_ | refine sp4 ?_ ?_ | refine sp5 ?_ ?_ | refine sp6 ?_ ?_ | refine sp7 ?_ ?_) <;> intro hb) <;> (simp only [go_sem, hb, hb, hk2, hw1])) | ((first | refine wm_done ?_ | refine wt_done ?_ | refine wg_run ?_ | refine fk ?_ ?_) <;> (simp only [go_sem, hb, hk2, hw1]))) | ((first | refine mx 6 [] follows ?_ | refine mx 5 [] follows ?_ | refine mx 4 [] follows ?_ | refine mx 3 [] follows ?_ | refine mx 2 [] follows ?_ | refine mx 1 [] follows ?_ | refine mx 0 [] follows ?_ | fail); (simp only [go_sem, hb, hk2])) | (first | refine cd (hc := hc) (hK := ?_) | refine cm (hc := hc) (hK := ?_) | refine ct (hc := hc) (hK := ?_)); (simp only [go_sem]))
          · exact hG (k + 1) _ _ ⟨by omega, by simpa [hb] using hs⟩ (by omega) (hat [0, 1] (hI := ⟨rfl, rfl⟩))
          · (refine hR _ (rat [] (hK := ⟨?_, rfl⟩)))
            simpa [hb] using hs
        · have hk1 : ¬ k < a.kids.length := by have := of_decide_eq_false hb; omega
          rw [List.drop_eq_nil_of_le (by omega), List.drop_eq_nil_of_le (by omega), all2] at hs
          (refine hR _ (rat [] (hK := ⟨?_, rfl⟩)))
          rw [← hs]; rfl
      · have hb0 : ((a.kids.length : Int) == (b.kids.length : Int)) = false := by simp; omega
        refine fn_in ?_; refine acl_in Tryz.func155 rfl isfn_155 (Nat.le_of_ble_eq_true rfl) (fun R hR => ?_); rw [Tryz.results155] at hR; refine wg_run ?_; (simp only [Tryz.f155, go_sem, hk, int_bne, hb0])
        repeat' (first | (simp only [go_sem, hk, int_bne, hb0]) | (((first | refine sp1 ?_ ?_ | refine sp2 ?_ ?_ | refine sp3 ?_ ?_ | refine sp4 ?_ ?_ | refine sp5 ?_ ?_ | refine sp6 ?_ ?_ | refine sp7 ?_ ?_) <;> intro hb) <;> (simp only [go_sem, hb, hk, int_bne, hb0])) | ((first | refine wm_done ?_ | refine wt_done ?_ | refine wg_run ?_ | refine fk ?_ ?_) <;> (simp only [go_sem, hk, int_bne, hb0])))
        (refine hR _ (rat [] (hK := ⟨?_, rfl⟩)))
        rw [all2_len hlm]; rfl
theorem sGround (x : T) (h : x.size < 1000000) : AFn Tryz.prog 170 [.agg (tyC x.ty)] (.one (.sc (.bool x.ty.isGr))) := by
  have hg := l1Ground x
  have hs := sSame 1000000 (by omega) x.ty x.ground.ty (by rw [T.ty_size]; exact h)
  rw [T.ground_ty] at hg hs
  unfold Ty.isGr
  refine fn_in ?_; refine acl_in Tryz.func170 rfl isfn_170 (Nat.le_of_ble_eq_true rfl) (fun R hR => ?_); rw [Tryz.results170] at hR; refine wg_run ?_; (simp only [Tryz.f170, go_sem])
  repeat' (first | (first | (simp only [go_sem, int_bne]) | (((first | refine sp1 ?_ ?_ | refine sp2 ?_ ?_ | refine sp3 ?_ ?_ | refine sp4 ?_ ?_ | refine sp5 ?_ ?_ | refine sp6 ?_ ?_ | refine sp7 ?_ ?_) <;> intro hb) <;> (simp only [go_sem, hb, int_bne])) | ((first | refine wm_done ?_ | refine wt_done ?_ | refine wg_run ?_ | refine fk ?_ ?_) <;> (simp only [go_sem, int_bne]))) | ((first | refine mx 6 [] follows ?_ | refine mx 5 [] follows ?_ | refine mx 4 [] follows ?_ | refine mx 3 [] follows ?_ | refine mx 2 [] follows ?_ | refine mx 1 [] follows ?_ | refine mx 0 [] follows ?_ | fail); (simp only [go_sem, int_bne])) | (first | refine cd (hc := hg) (hK := ?_) | refine cm (hc := hg) (hK := ?_) | refine ct (hc := hg) (hK := ?_)); (simp only [go_sem]) | (first | refine cd (hc := hs) (hK := ?_) | refine cm (hc := hs) (hK := ?_) | refine ct (hc := hs) (hK := ?_)); (simp only [go_sem]))
  all_goals (refine hR _ (rat [] (hK := ⟨?_, rfl⟩)))
  all_goals simp_all
theorem iProxy (t : Tm) : AFn Tryz.prog 156 [.agg (teC t)] (.one (.sc (.bool (proxyB t.kind t.type t.frm)))) := by
  unfold proxyB
  refine fn_in ?_; refine acl_in Tryz.func156 rfl isfn_156 (Nat.le_of_ble_eq_true rfl) (fun R hR => ?_); rw [Tryz.results156] at hR; refine wg_run ?_; (simp only [Tryz.f156, go_sem])
  repeat' (first | (((first | refine sp1 ?_ ?_ | refine sp2 ?_ ?_ | refine sp3 ?_ ?_ | refine sp4 ?_ ?_ | refine sp5 ?_ ?_ | refine sp6 ?_ ?_ | refine sp7 ?_ ?_) <;> intro hb) <;> (simp only [go_sem, hb])) | ((first | refine wm_done ?_ | refine wt_done ?_ | refine wg_run ?_ | refine fk ?_ ?_) <;> (simp only [go_sem])))
  all_goals (refine hR _ (rat [] (hK := ⟨?_, rfl⟩)))
  all_goals simp_all
theorem iInj (t : Tm) (h : t.size < 4611686018427387904) : AFn Tryz.prog 157 [.agg (teC t)] (.one (.sc (.bool (injB t.kind t.type t.frm)))) := by
  have hg := iIsGround t.frm (by cases t; simp only [Tm.size, Tm.frm] at *; omega)
  unfold injB
  refine fn_in ?_; refine acl_in Tryz.func157 rfl isfn_157 (Nat.le_of_ble_eq_true rfl) (fun R hR => ?_); rw [Tryz.results157] at hR; refine wg_run ?_; (simp only [Tryz.f157, go_sem])
  repeat' (first | (first | (((first | refine sp1 ?_ ?_ | refine sp2 ?_ ?_ | refine sp3 ?_ ?_ | refine sp4 ?_ ?_ | refine sp5 ?_ ?_ | refine sp6 ?_ ?_ | refine sp7 ?_ ?_) <;> intro hb) <;> (simp only [go_sem, hb])) | ((first | refine wm_done ?_ | refine wt_done ?_ | refine wg_run ?_ | refine fk ?_ ?_) <;> (simp only [go_sem]))) | (first | refine cd (hc := hg) (hK := ?_) | refine cm (hc := hg) (hK := ?_) | refine ct (hc := hg) (hK := ?_)); (simp only [go_sem]))
  all_goals (refine hR _ (rat [] (hK := ⟨?_, rfl⟩)))
  all_goals simp_all
theorem iPlain (t : Tm) : AFn Tryz.prog 160 [.agg (teC t)] (.one (.sc (.bool (plainB t.kind)))) := by
  unfold plainB
  refine fn_in ?_; refine acl_in Tryz.func160 rfl isfn_160 (Nat.le_of_ble_eq_true rfl) (fun R hR => ?_); rw [Tryz.results160] at hR; refine wg_run ?_; (simp only [Tryz.f160, go_sem])
  repeat' (first | (((first | refine sp1 ?_ ?_ | refine sp2 ?_ ?_ | refine sp3 ?_ ?_ | refine sp4 ?_ ?_ | refine sp5 ?_ ?_ | refine sp6 ?_ ?_ | refine sp7 ?_ ?_) <;> intro hb) <;> (simp only [go_sem, hb])) | ((first | refine wm_done ?_ | refine wt_done ?_ | refine wg_run ?_ | refine fk ?_ ?_) <;> (simp only [go_sem])))
  all_goals (refine hR _ (rat [] (hK := ⟨?_, rfl⟩)))
  all_goals (clear hR; simp_all)
  all_goals (try grind)
theorem iIsVal (n : Nat) (hn : n ≤ 4611686018427387904) : ∀ t : Tm, t.size < n → AFn Tryz.prog 111 [.agg (teC t)] (.one (.sc (.bool t.isVal))) := by
  induction n with
  | zero => intro t h; omega
  | succ n ih =>
    intro t h
    have h1 := iProxy t
    have h2 := iInj t (by omega)
    have h3 := iPlain t
    have hl := telen_lt t
    have hc : ACl Tryz.prog 158 [.one (.sl (teR t.kids)), .one (.fn 159 [])] [] (fun r H' => r = .one (.sc (.bool (t.kids.any (fun x => !x.isVal)))) ∧ H' = []) := by
      refine teContainsFunc0 _ (fun x => !x.isVal) _ (by omega) ?_
      intro k hk
      have := ih (by omega) (teKid t.kids k) (by have := teKid_lt hk; omega)
      refine acl_in Tryz.func159 rfl isfn_159 (Nat.le_of_ble_eq_true rfl) (fun R hR => ?_); rw [Tryz.results159] at hR; refine wg_run ?_; (simp only [Tryz.f159, go_sem])
      repeat' (first | (first | (((first | refine sp1 ?_ ?_ | refine sp2 ?_ ?_ | refine sp3 ?_ ?_ | refine sp4 ?_ ?_ | refine sp5 ?_ ?_ | refine sp6 ?_ ?_ | refine sp7 ?_ ?_) <;> intro hb) <;> (simp only [go_sem, hb])) | ((first | refine wm_done ?_ | refine wt_done ?_ | refine wg_run ?_ | refine fk ?_ ?_) <;> (simp only [go_sem]))) | (first | refine cd (hc := this) (hK := ?_) | refine cm (hc := this) (hK := ?_) | refine ct (hc := this) (hK := ?_)); (simp only [go_sem]))
      (refine hR _ (rat [] (hK := ⟨?_, ?_⟩)))
      · rfl
      · rfl
    rw [Tm.isVal_eq]
    clear ih
    refine fn_in ?_; refine acl_in Tryz.func111 rfl isfn_111 (Nat.le_of_ble_eq_true rfl) (fun R hR => ?_); rw [Tryz.results111] at hR; refine wg_run ?_; (simp only [Tryz.f111, go_sem])
    repeat' (first | (first | (((first | refine sp1 ?_ ?_ | refine sp2 ?_ ?_ | refine sp3 ?_ ?_ | refine sp4 ?_ ?_ | refine sp5 ?_ ?_ | refine sp6 ?_ ?_ | refine sp7 ?_ ?_) <;> intro hb) <;> (simp only [go_sem, hb])) | ((first | refine wm_done ?_ | refine wt_done ?_ | refine wg_run ?_ | refine fk ?_ ?_) <;> (simp only [go_sem]))) | (first | refine cd (hc := h1) (hK := ?_) | refine cm (hc := h1) (hK := ?_) | refine ct (hc := h1) (hK := ?_)); (simp only [go_sem]) | (first | refine cd (hc := h2) (hK := ?_) | refine cm (hc := h2) (hK := ?_) | refine ct (hc := h2) (hK := ?_)); (simp only [go_sem]) | (first | refine cd (hc := h3) (hK := ?_) | refine cm (hc := h3) (hK := ?_) | refine ct (hc := h3) (hK := ?_)); (simp only [go_sem]) | (first | refine kd [] (hc := hc) (hK := ?_) | refine km [] (hc := hc) (hK := ?_) | refine kt [] (hc := hc) (hK := ?_)); rintro _ _ ⟨rfl, rfl⟩; (simp only [go_sem]))
    all_goals (refine hR _ (rat [] (hK := ⟨?_, rfl⟩)))
    all_goals clear hR h1 h2 h3 hc
    all_goals simp_all [Tm.isVals_all, List.all_eq_not_any_not]
    all_goals (try grind)

theorem sProxy (t : Tm) : AFn Tryz.prog 117 [.agg (teC t)] (.one (.sc (.bool (proxyB t.kind t.type t.frm)))) := by
  unfold proxyB
  refine fn_in ?_; refine acl_in Tryz.func117 rfl isfn_117 (Nat.le_of_ble_eq_true rfl) (fun R hR => ?_); rw [Tryz.results117] at hR; refine wg_run ?_; (simp only [Tryz.f117, go_sem])
  repeat' (first | (((first | refine sp1 ?_ ?_ | refine sp2 ?_ ?_ | refine sp3 ?_ ?_ | refine sp4 ?_ ?_ | refine sp5 ?_ ?_ | refine sp6 ?_ ?_ | refine sp7 ?_ ?_) <;> intro hb) <;> (simp only [go_sem, hb])) | ((first | refine wm_done ?_ | refine wt_done ?_ | refine wg_run ?_ | refine fk ?_ ?_) <;> (simp only [go_sem])))
  all_goals (refine hR _ (rat [] (hK := ⟨?_, rfl⟩)))
  all_goals simp_all
theorem sInj (t : Tm) (x : T) (hx : x.ty = t.frm) (h : x.size < 1000000) : AFn Tryz.prog 118 [.agg (teC t)] (.one (.sc (.bool (injB t.kind t.type t.frm)))) := by
  have hg := sGround x h
  rw [hx] at hg
  unfold injB
  refine fn_in ?_; refine acl_in Tryz.func118 rfl isfn_118 (Nat.le_of_ble_eq_true rfl) (fun R hR => ?_); rw [Tryz.results118] at hR; refine wg_run ?_; (simp only [Tryz.f118, go_sem])
  repeat' (first | (first | (((first | refine sp1 ?_ ?_ | refine sp2 ?_ ?_ | refine sp3 ?_ ?_ | refine sp4 ?_ ?_ | refine sp5 ?_ ?_ | refine sp6 ?_ ?_ | refine sp7 ?_ ?_) <;> intro hb) <;> (simp only [go_sem, hb])) | ((first | refine wm_done ?_ | refine wt_done ?_ | refine wg_run ?_ | refine fk ?_ ?_) <;> (simp only [go_sem]))) | (first | refine cd (hc := hg) (hK := ?_) | refine cm (hc := hg) (hK := ?_) | refine ct (hc := hg) (hK := ?_)); (simp only [go_sem]))
  all_goals (refine hR _ (rat [] (hK := ⟨?_, rfl⟩)))
  all_goals simp_all
theorem sInj0 (t : Tm) (h : (t.kind == 14) = false) : AFn Tryz.prog 118 [.agg (teC t)] (.one (.sc (.bool false))) := by
  refine fn_in ?_; refine acl_in Tryz.func118 rfl isfn_118 (Nat.le_of_ble_eq_true rfl) (fun R hR => ?_); rw [Tryz.results118] at hR; refine wg_run ?_; (simp only [Tryz.f118, go_sem, h])
  repeat' (first | (simp only [go_sem, h]) | (((first | refine sp1 ?_ ?_ | refine sp2 ?_ ?_ | refine sp3 ?_ ?_ | refine sp4 ?_ ?_ | refine sp5 ?_ ?_ | refine sp6 ?_ ?_ | refine sp7 ?_ ?_) <;> intro hb) <;> (simp only [go_sem, hb, h])) | ((first | refine wm_done ?_ | refine wt_done ?_ | refine wg_run ?_ | refine fk ?_ ?_) <;> (simp only [go_sem, h])))
  (refine hR _ (rat [] (hK := ⟨rfl, rfl⟩)))
theorem sProxy0 (t : Tm) (h : (t.kind == 14) = false) : AFn Tryz.prog 117 [.agg (teC t)] (.one (.sc (.bool false))) := by
  refine fn_in ?_; refine acl_in Tryz.func117 rfl isfn_117 (Nat.le_of_ble_eq_true rfl) (fun R hR => ?_); rw [Tryz.results117] at hR; refine wg_run ?_; (simp only [Tryz.f117, go_sem, h])
  repeat' (first | (simp only [go_sem, h]) | (((first | refine sp1 ?_ ?_ | refine sp2 ?_ ?_ | refine sp3 ?_ ?_ | refine sp4 ?_ ?_ | refine sp5 ?_ ?_ | refine sp6 ?_ ?_ | refine sp7 ?_ ?_) <;> intro hb) <;> (simp only [go_sem, hb, h])) | ((first | refine wm_done ?_ | refine wt_done ?_ | refine wg_run ?_ | refine fk ?_ ?_) <;> (simp only [go_sem, h])))
  (refine hR _ (rat [] (hK := ⟨rfl, rfl⟩)))
theorem sIsVal (e : E) (h : e.wf = true) : AFn Tryz.prog 76 [.agg (teC e.tm)] (.one (.sc (.bool e.tm.isVal))) := by
  induction e with
  | pair a b iha ihb =>
    simp only [E.wf, Bool.and_eq_true] at h
    have iha := iha h.1
    have ihb := ihb h.2
    have e1 : (E.pair a b).tm.isVal = (a.tm.isVal && b.tm.isVal) := by
      simp only [E.tm, nd, Tm.isVal, Tm.isVals, Bool.and_true]; rfl
    rw [e1]
    simp only [E.tm, nd]
    refine fn_in ?_; refine acl_in Tryz.func76 rfl isfn_76 (Nat.le_of_ble_eq_true rfl) (fun R hR => ?_); rw [Tryz.results76] at hR; refine wg_run ?_; (simp only [Tryz.f76, go_sem])
    repeat' (first | (first | (((first | refine sp1 ?_ ?_ | refine sp2 ?_ ?_ | refine sp3 ?_ ?_ | refine sp4 ?_ ?_ | refine sp5 ?_ ?_ | refine sp6 ?_ ?_ | refine sp7 ?_ ?_) <;> intro hb) <;> (simp only [go_sem, hb])) | ((first | refine wm_done ?_ | refine wt_done ?_ | refine wg_run ?_ | refine fk ?_ ?_) <;> (simp only [go_sem]))) | (first | refine cd (hc := iha) (hK := ?_) | refine cm (hc := iha) (hK := ?_) | refine ct (hc := iha) (hK := ?_)); (simp only [go_sem]) | (first | refine cd (hc := ihb) (hK := ?_) | refine cm (hc := ihb) (hK := ?_) | refine ct (hc := ihb) (hK := ?_)); (simp only [go_sem]))
    all_goals (refine hR _ (rat [] (hK := ⟨?_, rfl⟩)))
    all_goals simp_all
  | cast s t l a ih =>
    simp only [E.wf, Bool.and_eq_true, decide_eq_true_eq] at h
    have ih := ih h.2.2.2
    have hs : s.size < 1000000 := by have := Ty.valid_16 (t := s.ty) (by rw [T.valid_ty]; simpa using h.1.1); rw [T.ty_size] at this; omega
    have h1 := sProxy (E.cast s t l a).tm
    have h2 := sInj (E.cast s t l a).tm s rfl hs
    have e1 : (E.cast s t l a).tm.isVal = ((proxyB 14 t.ty s.ty || injB 14 t.ty s.ty) && a.tm.isVal) := by
      simp only [E.tm, Tm.isVal, Tm.isVals, Bool.and_true]
      have : ((14 : Int) == 10) = false := rfl
      rw [this, Bool.false_or]
      have hp : plainB 14 = false := rfl
      rw [hp]
      cases (proxyB 14 t.ty s.ty || injB 14 t.ty s.ty) <;> rfl
    rw [e1]
    simp only [E.tm, Tm.kind, Tm.type, Tm.frm] at h1 h2 ⊢
    refine fn_in ?_; refine acl_in Tryz.func76 rfl isfn_76 (Nat.le_of_ble_eq_true rfl) (fun R hR => ?_); rw [Tryz.results76] at hR; refine wg_run ?_; (simp only [Tryz.f76, go_sem])
    repeat' (first | (first | (((first | refine sp1 ?_ ?_ | refine sp2 ?_ ?_ | refine sp3 ?_ ?_ | refine sp4 ?_ ?_ | refine sp5 ?_ ?_ | refine sp6 ?_ ?_ | refine sp7 ?_ ?_) <;> intro hb) <;> (simp only [go_sem, hb])) | ((first | refine wm_done ?_ | refine wt_done ?_ | refine wg_run ?_ | refine fk ?_ ?_) <;> (simp only [go_sem]))) | (first | refine cd (hc := h1) (hK := ?_) | refine cm (hc := h1) (hK := ?_) | refine ct (hc := h1) (hK := ?_)); (simp only [go_sem]) | (first | refine cd (hc := h2) (hK := ?_) | refine cm (hc := h2) (hK := ?_) | refine ct (hc := h2) (hK := ?_)); (simp only [go_sem]) | (first | refine cd (hc := ih) (hK := ?_) | refine cm (hc := ih) (hK := ?_) | refine ct (hc := ih) (hK := ?_)); (simp only [go_sem]))
    all_goals (refine hR _ (rat [] (hK := ⟨?_, rfl⟩)))
    all_goals clear hR h1 h2 ih
    all_goals simp_all
  | _ =>
    simp only [E.tm, nd]
    refine fn_in ?_; refine acl_in Tryz.func76 rfl isfn_76 (Nat.le_of_ble_eq_true rfl) (fun R hR => ?_); rw [Tryz.results76] at hR; refine wg_run ?_; (simp only [Tryz.f76, go_sem])
    repeat' (first | (first | (((first | refine sp1 ?_ ?_ | refine sp2 ?_ ?_ | refine sp3 ?_ ?_ | refine sp4 ?_ ?_ | refine sp5 ?_ ?_ | refine sp6 ?_ ?_ | refine sp7 ?_ ?_) <;> intro hb) <;> (simp only [go_sem, hb])) | ((first | refine wm_done ?_ | refine wt_done ?_ | refine wg_run ?_ | refine fk ?_ ?_) <;> (simp only [go_sem]))) | (first | refine cd (hc := sProxy0 _ rfl) (hK := ?_) | refine cm (hc := sProxy0 _ rfl) (hK := ?_) | refine ct (hc := sProxy0 _ rfl) (hK := ?_)); (simp only [go_sem]) | (first | refine cd (hc := sInj0 _ rfl) (hK := ?_) | refine cm (hc := sInj0 _ rfl) (hK := ?_) | refine ct (hc := sInj0 _ rfl) (hK := ?_)); (simp only [go_sem]))
    all_goals (refine hR _ (rat [] (hK := ⟨?_, rfl⟩)))
    all_goals rfl
noncomputable def isValV (t : Tm) : Bool := t.castV && t.isVal
end Go.Proofs.YtnaebafafhamjaaGreat
/- Steps of terms with casts: substitution and the rules, in the program. On shadows. -/
namespace Go.Proofs.Grad
theorem nm_beq (x y : UInt8) : ((nm x).toList == (nm y).toList) = (x == y) := by
  rw [Go.ByteArray.toList_eq, Go.ByteArray.toList_eq]; simp [nm]
end Go.Proofs.Grad
namespace Go.Proofs.YtnaebafafhamjaaGreat
open Go.RowKit Go.Proofs.Sh Go.Proofs.Grad
set_option maxRecDepth 100000
set_option maxHeartbeats 8000000
theorem iSubst (x : UInt8) (v : E) (e : E) : AFn Tryz.prog 198 [.agg (teC e.tm), .one (.sc (.string (nm x))), .agg (teC v.tm)] (.agg (teC (e.subst x v).tm)) := by
  induction e with
  | var y =>
    have hn := nm_beq y x
    simp only [E.subst]
    cases e1 : (y == x)
    all_goals
      rw [e1] at hn
      simp only [E.tm]
      refine fn_in ?_; refine acl_in Tryz.func198 rfl isfn_198 (Nat.le_of_ble_eq_true rfl) (fun R hR => ?_); rw [Tryz.results198] at hR; refine wg_run ?_; (simp only [Tryz.f198, go_sem, hn])
      repeat' (first | (first | (simp only [go_sem, hn]) | (((first | refine sp1 ?_ ?_ | refine sp2 ?_ ?_ | refine sp3 ?_ ?_ | refine sp4 ?_ ?_ | refine sp5 ?_ ?_ | refine sp6 ?_ ?_ | refine sp7 ?_ ?_) <;> intro hb) <;> (simp only [go_sem, hb, hn])) | ((first | refine wm_done ?_ | refine wt_done ?_ | refine wg_run ?_ | refine fk ?_ ?_) <;> (simp only [go_sem, hn]))) | (first | (refine wl_next (wg_run ?_); (simp only [go_sem])) | refine wd_rounds 6 ?_) | ((first | refine mx 6 [] follows ?_ | refine mx 5 [] follows ?_ | refine mx 4 [] follows ?_ | refine mx 3 [] follows ?_ | refine mx 2 [] follows ?_ | refine mx 1 [] follows ?_ | refine mx 0 [] follows ?_ | fail); (simp only [go_sem, hn])) | fail)
      (refine hR _ ?_; refine rat [] (hK := ⟨rfl, rfl⟩))
  | lam y t a ih =>
    have hn := nm_beq y x
    simp only [E.subst]
    cases e1 : (y == x)
    all_goals
      rw [e1] at hn
      simp only [E.tm]
      refine fn_in ?_; refine acl_in Tryz.func198 rfl isfn_198 (Nat.le_of_ble_eq_true rfl) (fun R hR => ?_); rw [Tryz.results198] at hR; refine wg_run ?_; (simp only [Tryz.f198, go_sem, hn])
      repeat' (first | (first | (simp only [go_sem, hn]) | (((first | refine sp1 ?_ ?_ | refine sp2 ?_ ?_ | refine sp3 ?_ ?_ | refine sp4 ?_ ?_ | refine sp5 ?_ ?_ | refine sp6 ?_ ?_ | refine sp7 ?_ ?_) <;> intro hb) <;> (simp only [go_sem, hb, hn])) | ((first | refine wm_done ?_ | refine wt_done ?_ | refine wg_run ?_ | refine fk ?_ ?_) <;> (simp only [go_sem, hn]))) | (first | (refine wl_next (wg_run ?_); (simp only [go_sem])) | refine wd_rounds 6 ?_) | ((first | refine mx 6 [] follows ?_ | refine mx 5 [] follows ?_ | refine mx 4 [] follows ?_ | refine mx 3 [] follows ?_ | refine mx 2 [] follows ?_ | refine mx 1 [] follows ?_ | refine mx 0 [] follows ?_ | fail); (simp only [go_sem, hn])) | (first | refine cd (hc := ih) (hK := ?_) | refine cm (hc := ih) (hK := ?_) | refine ct (hc := ih) (hK := ?_)); (simp only [go_sem]) | fail)
      (refine hR _ ?_; refine rat [] (hK := ⟨rfl, rfl⟩))
  | num _ | tru | fls =>
    simp only [E.subst, E.tm, nd]
    refine fn_in ?_; refine acl_in Tryz.func198 rfl isfn_198 (Nat.le_of_ble_eq_true rfl) (fun R hR => ?_); rw [Tryz.results198] at hR; refine wg_run ?_; (simp only [Tryz.f198, go_sem])
    repeat' (first | (first | (((first | refine sp1 ?_ ?_ | refine sp2 ?_ ?_ | refine sp3 ?_ ?_ | refine sp4 ?_ ?_ | refine sp5 ?_ ?_ | refine sp6 ?_ ?_ | refine sp7 ?_ ?_) <;> intro hb) <;> (simp only [go_sem, hb])) | ((first | refine wm_done ?_ | refine wt_done ?_ | refine wg_run ?_ | refine fk ?_ ?_) <;> (simp only [go_sem]))) | (first | (refine wl_next (wg_run ?_); (simp only [go_sem])) | refine wd_rounds 6 ?_) | ((first | refine mx 6 [] follows ?_ | refine mx 5 [] follows ?_ | refine mx 4 [] follows ?_ | refine mx 3 [] follows ?_ | refine mx 2 [] follows ?_ | refine mx 1 [] follows ?_ | refine mx 0 [] follows ?_ | fail); (simp only [go_sem])) | fail)
    (refine hR _ ?_; refine rat [] (hK := ⟨rfl, rfl⟩))
  | app a b iha ihb | add a b iha ihb | less a b iha ihb | pair a b iha ihb =>
    simp only [E.subst, E.tm, nd]
    refine fn_in ?_; refine acl_in Tryz.func198 rfl isfn_198 (Nat.le_of_ble_eq_true rfl) (fun R hR => ?_); rw [Tryz.results198] at hR; refine wg_run ?_; (simp only [Tryz.f198, go_sem])
    repeat' (first | (first | (((first | refine sp1 ?_ ?_ | refine sp2 ?_ ?_ | refine sp3 ?_ ?_ | refine sp4 ?_ ?_ | refine sp5 ?_ ?_ | refine sp6 ?_ ?_ | refine sp7 ?_ ?_) <;> intro hb) <;> (simp only [go_sem, hb])) | ((first | refine wm_done ?_ | refine wt_done ?_ | refine wg_run ?_ | refine fk ?_ ?_) <;> (simp only [go_sem]))) | (first | (refine wl_next (wg_run ?_); (simp only [go_sem])) | refine wd_rounds 6 ?_) | ((first | refine mx 6 [] follows ?_ | refine mx 5 [] follows ?_ | refine mx 4 [] follows ?_ | refine mx 3 [] follows ?_ | refine mx 2 [] follows ?_ | refine mx 1 [] follows ?_ | refine mx 0 [] follows ?_ | fail); (simp only [go_sem])) | (first | refine cd (hc := iha) (hK := ?_) | refine cm (hc := iha) (hK := ?_) | refine ct (hc := iha) (hK := ?_)); (simp only [go_sem]) | (first | refine cd (hc := ihb) (hK := ?_) | refine cm (hc := ihb) (hK := ?_) | refine ct (hc := ihb) (hK := ?_)); (simp only [go_sem]) | fail)
    (refine hR _ ?_; refine rat [] (hK := ⟨rfl, rfl⟩))
  | ite a b c iha ihb ihc =>
    simp only [E.subst, E.tm, nd]
    refine fn_in ?_; refine acl_in Tryz.func198 rfl isfn_198 (Nat.le_of_ble_eq_true rfl) (fun R hR => ?_); rw [Tryz.results198] at hR; refine wg_run ?_; (simp only [Tryz.f198, go_sem])
    repeat' (first | (first | (((first | refine sp1 ?_ ?_ | refine sp2 ?_ ?_ | refine sp3 ?_ ?_ | refine sp4 ?_ ?_ | refine sp5 ?_ ?_ | refine sp6 ?_ ?_ | refine sp7 ?_ ?_) <;> intro hb) <;> (simp only [go_sem, hb])) | ((first | refine wm_done ?_ | refine wt_done ?_ | refine wg_run ?_ | refine fk ?_ ?_) <;> (simp only [go_sem]))) | (first | (refine wl_next (wg_run ?_); (simp only [go_sem])) | refine wd_rounds 6 ?_) | ((first | refine mx 6 [] follows ?_ | refine mx 5 [] follows ?_ | refine mx 4 [] follows ?_ | refine mx 3 [] follows ?_ | refine mx 2 [] follows ?_ | refine mx 1 [] follows ?_ | refine mx 0 [] follows ?_ | fail); (simp only [go_sem])) | (first | refine cd (hc := iha) (hK := ?_) | refine cm (hc := iha) (hK := ?_) | refine ct (hc := iha) (hK := ?_)); (simp only [go_sem]) | (first | refine cd (hc := ihb) (hK := ?_) | refine cm (hc := ihb) (hK := ?_) | refine ct (hc := ihb) (hK := ?_)); (simp only [go_sem]) | (first | refine cd (hc := ihc) (hK := ?_) | refine cm (hc := ihc) (hK := ?_) | refine ct (hc := ihc) (hK := ?_)); (simp only [go_sem]) | fail)
    (refine hR _ ?_; refine rat [] (hK := ⟨rfl, rfl⟩))
  | fst a ih | snd a ih | cast s t l a ih =>
    simp only [E.subst, E.tm, nd]
    refine fn_in ?_; refine acl_in Tryz.func198 rfl isfn_198 (Nat.le_of_ble_eq_true rfl) (fun R hR => ?_); rw [Tryz.results198] at hR; refine wg_run ?_; (simp only [Tryz.f198, go_sem])
    repeat' (first | (first | (((first | refine sp1 ?_ ?_ | refine sp2 ?_ ?_ | refine sp3 ?_ ?_ | refine sp4 ?_ ?_ | refine sp5 ?_ ?_ | refine sp6 ?_ ?_ | refine sp7 ?_ ?_) <;> intro hb) <;> (simp only [go_sem, hb])) | ((first | refine wm_done ?_ | refine wt_done ?_ | refine wg_run ?_ | refine fk ?_ ?_) <;> (simp only [go_sem]))) | (first | (refine wl_next (wg_run ?_); (simp only [go_sem])) | refine wd_rounds 6 ?_) | ((first | refine mx 6 [] follows ?_ | refine mx 5 [] follows ?_ | refine mx 4 [] follows ?_ | refine mx 3 [] follows ?_ | refine mx 2 [] follows ?_ | refine mx 1 [] follows ?_ | refine mx 0 [] follows ?_ | fail); (simp only [go_sem])) | (first | refine cd (hc := ih) (hK := ?_) | refine cm (hc := ih) (hK := ?_) | refine ct (hc := ih) (hK := ?_)); (simp only [go_sem]) | fail)
    (refine hR _ ?_; refine rat [] (hK := ⟨rfl, rfl⟩))
  | _ =>
    rename_i t a ih
    simp only [E.subst, E.tm, nd]
    refine fn_in ?_; refine acl_in Tryz.func198 rfl isfn_198 (Nat.le_of_ble_eq_true rfl) (fun R hR => ?_); rw [Tryz.results198] at hR; refine wg_run ?_; (simp only [Tryz.f198, go_sem])
    repeat' (first | (first | (((first | refine sp1 ?_ ?_ | refine sp2 ?_ ?_ | refine sp3 ?_ ?_ | refine sp4 ?_ ?_ | refine sp5 ?_ ?_ | refine sp6 ?_ ?_ | refine sp7 ?_ ?_) <;> intro hb) <;> (simp only [go_sem, hb])) | ((first | refine wm_done ?_ | refine wt_done ?_ | refine wg_run ?_ | refine fk ?_ ?_) <;> (simp only [go_sem]))) | (first | (refine wl_next (wg_run ?_); (simp only [go_sem])) | refine wd_rounds 6 ?_) | ((first | refine mx 6 [] follows ?_ | refine mx 5 [] follows ?_ | refine mx 4 [] follows ?_ | refine mx 3 [] follows ?_ | refine mx 2 [] follows ?_ | refine mx 1 [] follows ?_ | refine mx 0 [] follows ?_ | fail); (simp only [go_sem])) | (first | refine cd (hc := ih) (hK := ?_) | refine cm (hc := ih) (hK := ?_) | refine ct (hc := ih) (hK := ?_)); (simp only [go_sem]) | fail)
    (refine hR _ ?_; refine rat [] (hK := ⟨rfl, rfl⟩))
end Go.Proofs.YtnaebafafhamjaaGreat
/- Steps of terms with casts: values and ground types, as forms. -/
namespace Go.Proofs.Grad
theorem ground_eq {s t : T} (hs : s.isG = true) (ht : t.isG = true) (hk : s.ty.kind = t.ty.kind) : s = t := by
  cases s with
  | fn x y | pr x y => cases x <;> cases y <;> simp [T.isG] at hs; cases t with
    | fn z w | pr z w => cases z <;> cases w <;> simp [T.isG] at ht <;> first | rfl | (simp [T.ty, Ty.kind] at hk)
    | _ => simp [T.ty, Ty.kind] at hk
  | _ => cases t <;> simp [T.ty, Ty.kind] at hk <;> first | rfl | (simp [T.isG] at hs)
theorem T.isG_ty (s : T) : s.ty.isGr = s.isG := by
  have key : s.ty = s.ground.ty ↔ s = s.ground := ⟨T.ty_inj _ _, fun h => congrArg T.ty h⟩
  unfold Ty.isGr
  rw [← T.ground_ty, Bool.eq_iff_iff, Bool.and_eq_true, Ty.same_iff, key]
  cases s with
  | fn a b | pr a b => cases a <;> cases b <;> simp [T.ground, T.isG, T.ty, Ty.kind]
  | _ => simp [T.ground, T.isG, T.ty, Ty.kind]
theorem proxyB_T (s t : T) : proxyB 14 t.ty s.ty = proxyT s t := by
  cases s <;> cases t <;> simp [proxyB, T.ty, Ty.kind, proxyT, T.isFn, T.isPr]
theorem injB_T (s t : T) : injB 14 t.ty s.ty = injT s t := by
  simp [injB, injT, T.isG_ty]
theorem E.val_tm (e : E) : e.tm.isVal = e.val := by
  induction e with
  | cast s t l a ih =>
    simp only [E.tm, Tm.isVal, Tm.isVals, Bool.and_true, E.val, ih, proxyB_T, injB_T]
    cases h : (proxyT s t || injT s t) <;> simp [plainB]
  | pair a b iha ihb => simp [E.tm, nd, Tm.isVal, Tm.isVals, E.val, iha, ihb]
  | _ => simp [E.tm, nd, Tm.isVal, proxyB, injB, plainB, E.val]
theorem T.same_G {s t : T} (hs : s.isG = true) (ht : t.isG = true) : s.ty.same t.ty = (s.ty.kind == t.ty.kind) := by
  rw [Bool.eq_iff_iff, Ty.same_iff]
  exact ⟨fun h => by rw [h]; simp, fun h => by rw [ground_eq hs ht (by simpa using h)]⟩
end Go.Proofs.Grad
/- Steps of terms with casts: the rules, in the program. On shadows. -/
namespace Go.Proofs.YtnaebafafhamjaaGreat
open Go.RowKit Go.Proofs.Sh Go.Proofs.Grad
set_option maxRecDepth 100000
set_option maxHeartbeats 8000000
theorem iCasted (t : Tm) (f y : Ty) (l : Int) : AFn Tryz.prog 200 [.agg (teC t), .agg (tyC f), .agg (tyC y), .one (.sc (.int .i64 l))] (.agg (teC (.mk 14 ByteArray.empty 0 y f l [t]))) := by
  refine fn_in ?_; refine acl_in Tryz.func200 rfl isfn_200 (Nat.le_of_ble_eq_true rfl) (fun R hR => ?_); rw [Tryz.results200] at hR; refine wg_run ?_; (simp only [Tryz.f200, go_sem])
  repeat' (first | (first | (((first | refine sp1 ?_ ?_ | refine sp2 ?_ ?_ | refine sp3 ?_ ?_ | refine sp4 ?_ ?_ | refine sp5 ?_ ?_ | refine sp6 ?_ ?_ | refine sp7 ?_ ?_) <;> intro hb) <;> (simp only [go_sem, hb])) | ((first | refine wm_done ?_ | refine wt_done ?_ | refine wg_run ?_ | refine fk ?_ ?_) <;> (simp only [go_sem]))) | ((first | refine mx 6 [] follows ?_ | refine mx 5 [] follows ?_ | refine mx 4 [] follows ?_ | refine mx 3 [] follows ?_ | refine mx 2 [] follows ?_ | refine mx 1 [] follows ?_ | refine mx 0 [] follows ?_ | fail); (simp only [go_sem])) | fail)
  (refine hR _ ?_; refine rat [] (hK := ⟨rfl, rfl⟩))
theorem iNode (k : Int) (ks : List Tm) : AFn Tryz.prog 201 [.one (.sc (.int .i64 k)), .one (.sl (teR ks))] (.agg (teC (nd k ks))) := by
  refine fn_in ?_; refine acl_in Tryz.func201 rfl isfn_201 (Nat.le_of_ble_eq_true rfl) (fun R hR => ?_); rw [Tryz.results201] at hR; refine wg_run ?_; (simp only [Tryz.f201, go_sem])
  repeat' (first | (first | (((first | refine sp1 ?_ ?_ | refine sp2 ?_ ?_ | refine sp3 ?_ ?_ | refine sp4 ?_ ?_ | refine sp5 ?_ ?_ | refine sp6 ?_ ?_ | refine sp7 ?_ ?_) <;> intro hb) <;> (simp only [go_sem, hb])) | ((first | refine wm_done ?_ | refine wt_done ?_ | refine wg_run ?_ | refine fk ?_ ?_) <;> (simp only [go_sem]))) | ((first | refine mx 6 [] follows ?_ | refine mx 5 [] follows ?_ | refine mx 4 [] follows ?_ | refine mx 3 [] follows ?_ | refine mx 2 [] follows ?_ | refine mx 1 [] follows ?_ | refine mx 0 [] follows ?_ | fail); (simp only [go_sem])) | fail)
  (refine hR _ ?_; refine rat [] (hK := ⟨rfl, rfl⟩))
theorem iTruth (b : Bool) : AFn Tryz.prog 199 [.one (.sc (.bool b))] (.agg (teC (match b with | true => E.tru | false => E.fls).tm)) := by
  have h3 := iNode 3 []
  have h4 := iNode 4 []
  cases b
  all_goals
    simp only [E.tm]
    refine fn_in ?_; refine acl_in Tryz.func199 rfl isfn_199 (Nat.le_of_ble_eq_true rfl) (fun R hR => ?_); rw [Tryz.results199] at hR; refine wg_run ?_; (simp only [Tryz.f199, go_sem])
    repeat' (first | (first | (((first | refine sp1 ?_ ?_ | refine sp2 ?_ ?_ | refine sp3 ?_ ?_ | refine sp4 ?_ ?_ | refine sp5 ?_ ?_ | refine sp6 ?_ ?_ | refine sp7 ?_ ?_) <;> intro hb) <;> (simp only [go_sem, hb])) | ((first | refine wm_done ?_ | refine wt_done ?_ | refine wg_run ?_ | refine fk ?_ ?_) <;> (simp only [go_sem]))) | (first | refine cd (hc := h3) (hK := ?_) | refine cm (hc := h3) (hK := ?_) | refine ct (hc := h3) (hK := ?_)); (simp only [go_sem]) | (first | refine cd (hc := h4) (hK := ?_) | refine cm (hc := h4) (hK := ?_) | refine ct (hc := h4) (hK := ?_)); (simp only [go_sem]) | fail)
    (refine hR _ ?_; refine rat [] (hK := ⟨rfl, rfl⟩))
def ruT (o : Option E) : AV := match o with | some x => .tup [.agg (teC x.tm), .one (.sc (.int .i64 1))] | none => .tup [.agg (teC tm0), .one (.sc (.int .i64 3))]
theorem iRule (e : E) (h : e.wf = true) : AFn Tryz.prog 164 [.agg (teC e.tm)] (ruT e.ruleI) := by
  cases e with
  | app a b =>
    cases a with
    | lam x t c =>
      have hs := iSubst x b c
      simp only [E.ruleI, ruT]
      simp only [E.tm, nd]
      refine fn_in ?_; refine acl_in Tryz.func164 rfl isfn_164 (Nat.le_of_ble_eq_true rfl) (fun R hR => ?_); rw [Tryz.results164] at hR; refine wg_run ?_; (simp only [Tryz.f164, go_sem])
      repeat' (first | (first | (((first | refine sp1 ?_ ?_ | refine sp2 ?_ ?_ | refine sp3 ?_ ?_ | refine sp4 ?_ ?_ | refine sp5 ?_ ?_ | refine sp6 ?_ ?_ | refine sp7 ?_ ?_) <;> intro hb) <;> (simp only [go_sem, hb])) | ((first | refine wm_done ?_ | refine wt_done ?_ | refine wg_run ?_ | refine fk ?_ ?_) <;> (simp only [go_sem]))) | (first | refine cd (hc := hs) (hK := ?_) | refine cm (hc := hs) (hK := ?_) | refine ct (hc := hs) (hK := ?_)); (simp only [go_sem]) | ((first | refine mx 6 [] follows ?_ | refine mx 5 [] follows ?_ | refine mx 4 [] follows ?_ | refine mx 3 [] follows ?_ | refine mx 2 [] follows ?_ | refine mx 1 [] follows ?_ | refine mx 0 [] follows ?_ | fail); (simp only [go_sem])) | fail)
      (refine hR _ ?_; refine rat [] (hK := ⟨rfl, rfl⟩))
    | _ =>
      simp only [E.ruleI, ruT]
      simp only [E.tm, nd]
      refine fn_in ?_; refine acl_in Tryz.func164 rfl isfn_164 (Nat.le_of_ble_eq_true rfl) (fun R hR => ?_); rw [Tryz.results164] at hR; refine wg_run ?_; (simp only [Tryz.f164, go_sem])
      repeat' (first | (first | (((first | refine sp1 ?_ ?_ | refine sp2 ?_ ?_ | refine sp3 ?_ ?_ | refine sp4 ?_ ?_ | refine sp5 ?_ ?_ | refine sp6 ?_ ?_ | refine sp7 ?_ ?_) <;> intro hb) <;> (simp only [go_sem, hb])) | ((first | refine wm_done ?_ | refine wt_done ?_ | refine wg_run ?_ | refine fk ?_ ?_) <;> (simp only [go_sem]))) | ((first | refine mx 6 [] follows ?_ | refine mx 5 [] follows ?_ | refine mx 4 [] follows ?_ | refine mx 3 [] follows ?_ | refine mx 2 [] follows ?_ | refine mx 1 [] follows ?_ | refine mx 0 [] follows ?_ | fail); (simp only [go_sem])) | fail)
      (refine hR _ ?_; refine rat [] (hK := ⟨rfl, rfl⟩))
  | add a b =>
    cases a with
    | num n =>
      cases b with
      | num m =>
        simp only [E.wf, Bool.and_eq_true, decide_eq_true_eq] at h
        have hw : IntKind.i64.wrap (n + m) = n + m := IntWalk.i64_in _ (by omega)
        simp only [E.ruleI, ruT]
        simp only [E.tm, nd]
        refine fn_in ?_; refine acl_in Tryz.func164 rfl isfn_164 (Nat.le_of_ble_eq_true rfl) (fun R hR => ?_); rw [Tryz.results164] at hR; refine wg_run ?_; (simp only [Tryz.f164, go_sem, hw])
        repeat' (first | (first | (simp only [go_sem, hw, int_bne]) | (((first | refine sp1 ?_ ?_ | refine sp2 ?_ ?_ | refine sp3 ?_ ?_ | refine sp4 ?_ ?_ | refine sp5 ?_ ?_ | refine sp6 ?_ ?_ | refine sp7 ?_ ?_) <;> intro hb) <;> (simp only [go_sem, hb, hw, int_bne])) | ((first | refine wm_done ?_ | refine wt_done ?_ | refine wg_run ?_ | refine fk ?_ ?_) <;> (simp only [go_sem, hw, int_bne]))) | ((first | refine mx 6 [] follows ?_ | refine mx 5 [] follows ?_ | refine mx 4 [] follows ?_ | refine mx 3 [] follows ?_ | refine mx 2 [] follows ?_ | refine mx 1 [] follows ?_ | refine mx 0 [] follows ?_ | fail); (simp only [go_sem, hw, int_bne])) | fail)
        (refine hR _ ?_; refine rat [] (hK := ⟨rfl, rfl⟩))
      | _ =>
        simp only [E.ruleI, ruT]
        simp only [E.tm, nd]
        refine fn_in ?_; refine acl_in Tryz.func164 rfl isfn_164 (Nat.le_of_ble_eq_true rfl) (fun R hR => ?_); rw [Tryz.results164] at hR; refine wg_run ?_; (simp only [Tryz.f164, go_sem])
        repeat' (first | (first | (simp only [go_sem, int_bne]) | (((first | refine sp1 ?_ ?_ | refine sp2 ?_ ?_ | refine sp3 ?_ ?_ | refine sp4 ?_ ?_ | refine sp5 ?_ ?_ | refine sp6 ?_ ?_ | refine sp7 ?_ ?_) <;> intro hb) <;> (simp only [go_sem, hb, int_bne])) | ((first | refine wm_done ?_ | refine wt_done ?_ | refine wg_run ?_ | refine fk ?_ ?_) <;> (simp only [go_sem, int_bne]))) | ((first | refine mx 6 [] follows ?_ | refine mx 5 [] follows ?_ | refine mx 4 [] follows ?_ | refine mx 3 [] follows ?_ | refine mx 2 [] follows ?_ | refine mx 1 [] follows ?_ | refine mx 0 [] follows ?_ | fail); (simp only [go_sem, int_bne])) | fail)
        (refine hR _ ?_; refine rat [] (hK := ⟨rfl, rfl⟩))
    | _ =>
      simp only [E.ruleI, ruT]
      simp only [E.tm, nd]
      refine fn_in ?_; refine acl_in Tryz.func164 rfl isfn_164 (Nat.le_of_ble_eq_true rfl) (fun R hR => ?_); rw [Tryz.results164] at hR; refine wg_run ?_; (simp only [Tryz.f164, go_sem])
      repeat' (first | (first | (simp only [go_sem, int_bne]) | (((first | refine sp1 ?_ ?_ | refine sp2 ?_ ?_ | refine sp3 ?_ ?_ | refine sp4 ?_ ?_ | refine sp5 ?_ ?_ | refine sp6 ?_ ?_ | refine sp7 ?_ ?_) <;> intro hb) <;> (simp only [go_sem, hb, int_bne])) | ((first | refine wm_done ?_ | refine wt_done ?_ | refine wg_run ?_ | refine fk ?_ ?_) <;> (simp only [go_sem, int_bne]))) | ((first | refine mx 6 [] follows ?_ | refine mx 5 [] follows ?_ | refine mx 4 [] follows ?_ | refine mx 3 [] follows ?_ | refine mx 2 [] follows ?_ | refine mx 1 [] follows ?_ | refine mx 0 [] follows ?_ | fail); (simp only [go_sem, int_bne])) | fail)
      (refine hR _ ?_; refine rat [] (hK := ⟨rfl, rfl⟩))
  | less a b =>
    cases a with
    | num n =>
      cases b with
      | num m =>
        have ht := iTruth (decide (n < m))
        simp only [E.ruleI, ruT]
        cases hd : decide (n < m)
        all_goals
          rw [hd] at ht
          simp only [E.tm, nd] at ht ⊢
          refine fn_in ?_; refine acl_in Tryz.func164 rfl isfn_164 (Nat.le_of_ble_eq_true rfl) (fun R hR => ?_); rw [Tryz.results164] at hR; refine wg_run ?_; (simp only [Tryz.f164, go_sem, hd])
          repeat' (first | (first | (simp only [go_sem, hd, int_bne]) | (((first | refine sp1 ?_ ?_ | refine sp2 ?_ ?_ | refine sp3 ?_ ?_ | refine sp4 ?_ ?_ | refine sp5 ?_ ?_ | refine sp6 ?_ ?_ | refine sp7 ?_ ?_) <;> intro hb) <;> (simp only [go_sem, hb, hd, int_bne])) | ((first | refine wm_done ?_ | refine wt_done ?_ | refine wg_run ?_ | refine fk ?_ ?_) <;> (simp only [go_sem, hd, int_bne]))) | ((first | refine mx 6 [] follows ?_ | refine mx 5 [] follows ?_ | refine mx 4 [] follows ?_ | refine mx 3 [] follows ?_ | refine mx 2 [] follows ?_ | refine mx 1 [] follows ?_ | refine mx 0 [] follows ?_ | fail); (simp only [go_sem, hd, int_bne])) | (first | refine cd (hc := ht) (hK := ?_) | refine cm (hc := ht) (hK := ?_) | refine ct (hc := ht) (hK := ?_)); (simp only [go_sem]) | fail)
          (refine hR _ ?_; refine rat [] (hK := ⟨rfl, rfl⟩))
      | _ =>
        simp only [E.ruleI, ruT]
        simp only [E.tm, nd]
        refine fn_in ?_; refine acl_in Tryz.func164 rfl isfn_164 (Nat.le_of_ble_eq_true rfl) (fun R hR => ?_); rw [Tryz.results164] at hR; refine wg_run ?_; (simp only [Tryz.f164, go_sem])
        repeat' (first | (first | (simp only [go_sem, int_bne]) | (((first | refine sp1 ?_ ?_ | refine sp2 ?_ ?_ | refine sp3 ?_ ?_ | refine sp4 ?_ ?_ | refine sp5 ?_ ?_ | refine sp6 ?_ ?_ | refine sp7 ?_ ?_) <;> intro hb) <;> (simp only [go_sem, hb, int_bne])) | ((first | refine wm_done ?_ | refine wt_done ?_ | refine wg_run ?_ | refine fk ?_ ?_) <;> (simp only [go_sem, int_bne]))) | ((first | refine mx 6 [] follows ?_ | refine mx 5 [] follows ?_ | refine mx 4 [] follows ?_ | refine mx 3 [] follows ?_ | refine mx 2 [] follows ?_ | refine mx 1 [] follows ?_ | refine mx 0 [] follows ?_ | fail); (simp only [go_sem, int_bne])) | fail)
        (refine hR _ ?_; refine rat [] (hK := ⟨rfl, rfl⟩))
    | _ =>
      simp only [E.ruleI, ruT]
      simp only [E.tm, nd]
      refine fn_in ?_; refine acl_in Tryz.func164 rfl isfn_164 (Nat.le_of_ble_eq_true rfl) (fun R hR => ?_); rw [Tryz.results164] at hR; refine wg_run ?_; (simp only [Tryz.f164, go_sem])
      repeat' (first | (first | (simp only [go_sem, int_bne]) | (((first | refine sp1 ?_ ?_ | refine sp2 ?_ ?_ | refine sp3 ?_ ?_ | refine sp4 ?_ ?_ | refine sp5 ?_ ?_ | refine sp6 ?_ ?_ | refine sp7 ?_ ?_) <;> intro hb) <;> (simp only [go_sem, hb, int_bne])) | ((first | refine wm_done ?_ | refine wt_done ?_ | refine wg_run ?_ | refine fk ?_ ?_) <;> (simp only [go_sem, int_bne]))) | ((first | refine mx 6 [] follows ?_ | refine mx 5 [] follows ?_ | refine mx 4 [] follows ?_ | refine mx 3 [] follows ?_ | refine mx 2 [] follows ?_ | refine mx 1 [] follows ?_ | refine mx 0 [] follows ?_ | fail); (simp only [go_sem, int_bne])) | fail)
      (refine hR _ ?_; refine rat [] (hK := ⟨rfl, rfl⟩))
  | ite a b c =>
    cases a <;> simp only [E.ruleI, ruT] <;> simp only [E.tm, nd]
    all_goals
      refine fn_in ?_; refine acl_in Tryz.func164 rfl isfn_164 (Nat.le_of_ble_eq_true rfl) (fun R hR => ?_); rw [Tryz.results164] at hR; refine wg_run ?_; (simp only [Tryz.f164, go_sem])
      repeat' (first | (first | (simp only [go_sem, int_bne]) | (((first | refine sp1 ?_ ?_ | refine sp2 ?_ ?_ | refine sp3 ?_ ?_ | refine sp4 ?_ ?_ | refine sp5 ?_ ?_ | refine sp6 ?_ ?_ | refine sp7 ?_ ?_) <;> intro hb) <;> (simp only [go_sem, hb, int_bne])) | ((first | refine wm_done ?_ | refine wt_done ?_ | refine wg_run ?_ | refine fk ?_ ?_) <;> (simp only [go_sem, int_bne]))) | ((first | refine mx 6 [] follows ?_ | refine mx 5 [] follows ?_ | refine mx 4 [] follows ?_ | refine mx 3 [] follows ?_ | refine mx 2 [] follows ?_ | refine mx 1 [] follows ?_ | refine mx 0 [] follows ?_ | fail); (simp only [go_sem, int_bne])) | fail)
      (refine hR _ ?_; refine rat [] (hK := ⟨rfl, rfl⟩))
  | fst a =>
    cases a <;> simp only [E.ruleI, ruT] <;> simp only [E.tm, nd]
    all_goals
      refine fn_in ?_; refine acl_in Tryz.func164 rfl isfn_164 (Nat.le_of_ble_eq_true rfl) (fun R hR => ?_); rw [Tryz.results164] at hR; refine wg_run ?_; (simp only [Tryz.f164, go_sem])
      repeat' (first | (first | (simp only [go_sem, int_bne]) | (((first | refine sp1 ?_ ?_ | refine sp2 ?_ ?_ | refine sp3 ?_ ?_ | refine sp4 ?_ ?_ | refine sp5 ?_ ?_ | refine sp6 ?_ ?_ | refine sp7 ?_ ?_) <;> intro hb) <;> (simp only [go_sem, hb, int_bne])) | ((first | refine wm_done ?_ | refine wt_done ?_ | refine wg_run ?_ | refine fk ?_ ?_) <;> (simp only [go_sem, int_bne]))) | ((first | refine mx 6 [] follows ?_ | refine mx 5 [] follows ?_ | refine mx 4 [] follows ?_ | refine mx 3 [] follows ?_ | refine mx 2 [] follows ?_ | refine mx 1 [] follows ?_ | refine mx 0 [] follows ?_ | fail); (simp only [go_sem, int_bne])) | fail)
      (refine hR _ ?_; refine rat [] (hK := ⟨rfl, rfl⟩))
  | snd a =>
    cases a <;> simp only [E.ruleI, ruT] <;> simp only [E.tm, nd]
    all_goals
      refine fn_in ?_; refine acl_in Tryz.func164 rfl isfn_164 (Nat.le_of_ble_eq_true rfl) (fun R hR => ?_); rw [Tryz.results164] at hR; refine wg_run ?_; (simp only [Tryz.f164, go_sem])
      repeat' (first | (first | (simp only [go_sem, int_bne]) | (((first | refine sp1 ?_ ?_ | refine sp2 ?_ ?_ | refine sp3 ?_ ?_ | refine sp4 ?_ ?_ | refine sp5 ?_ ?_ | refine sp6 ?_ ?_ | refine sp7 ?_ ?_) <;> intro hb) <;> (simp only [go_sem, hb, int_bne])) | ((first | refine wm_done ?_ | refine wt_done ?_ | refine wg_run ?_ | refine fk ?_ ?_) <;> (simp only [go_sem, int_bne]))) | ((first | refine mx 6 [] follows ?_ | refine mx 5 [] follows ?_ | refine mx 4 [] follows ?_ | refine mx 3 [] follows ?_ | refine mx 2 [] follows ?_ | refine mx 1 [] follows ?_ | refine mx 0 [] follows ?_ | fail); (simp only [go_sem, int_bne])) | fail)
      (refine hR _ ?_; refine rat [] (hK := ⟨rfl, rfl⟩))
  | _ =>
    simp only [E.ruleI, ruT]
    simp only [E.tm, nd]
    refine fn_in ?_; refine acl_in Tryz.func164 rfl isfn_164 (Nat.le_of_ble_eq_true rfl) (fun R hR => ?_); rw [Tryz.results164] at hR; refine wg_run ?_; (simp only [Tryz.f164, go_sem])
    repeat' (first | (first | (simp only [go_sem, int_bne]) | (((first | refine sp1 ?_ ?_ | refine sp2 ?_ ?_ | refine sp3 ?_ ?_ | refine sp4 ?_ ?_ | refine sp5 ?_ ?_ | refine sp6 ?_ ?_ | refine sp7 ?_ ?_) <;> intro hb) <;> (simp only [go_sem, hb, int_bne])) | ((first | refine wm_done ?_ | refine wt_done ?_ | refine wg_run ?_ | refine fk ?_ ?_) <;> (simp only [go_sem, int_bne]))) | ((first | refine mx 6 [] follows ?_ | refine mx 5 [] follows ?_ | refine mx 4 [] follows ?_ | refine mx 3 [] follows ?_ | refine mx 2 [] follows ?_ | refine mx 1 [] follows ?_ | refine mx 0 [] follows ?_ | fail); (simp only [go_sem, int_bne])) | fail)
    (refine hR _ ?_; refine rat [] (hK := ⟨rfl, rfl⟩))
end Go.Proofs.YtnaebafafhamjaaGreat
/- Steps of terms with casts: the rules for casts, in the program. On shadows. -/
namespace Go.Proofs.YtnaebafafhamjaaGreat
open Go.RowKit Go.Proofs.Sh Go.Proofs.Grad
set_option maxRecDepth 100000
set_option maxHeartbeats 8000000
theorem iInj0 (t : Tm) (h : (t.kind == 14) = false) : AFn Tryz.prog 157 [.agg (teC t)] (.one (.sc (.bool false))) := by
  refine fn_in ?_; refine acl_in Tryz.func157 rfl isfn_157 (Nat.le_of_ble_eq_true rfl) (fun R hR => ?_); rw [Tryz.results157] at hR; refine wg_run ?_; (simp only [Tryz.f157, go_sem, h])
  repeat' (first | (simp only [go_sem, h]) | (((first | refine sp1 ?_ ?_ | refine sp2 ?_ ?_ | refine sp3 ?_ ?_ | refine sp4 ?_ ?_ | refine sp5 ?_ ?_ | refine sp6 ?_ ?_ | refine sp7 ?_ ?_) <;> intro hb) <;> (simp only [go_sem, hb, h])) | ((first | refine wm_done ?_ | refine wt_done ?_ | refine wg_run ?_ | refine fk ?_ ?_) <;> (simp only [go_sem, h])))
  all_goals (refine hR _ ?_; refine rat [] (hK := ⟨rfl, rfl⟩))
theorem iProxy0 (t : Tm) (h : (t.kind == 14) = false) : AFn Tryz.prog 156 [.agg (teC t)] (.one (.sc (.bool false))) := by
  refine fn_in ?_; refine acl_in Tryz.func156 rfl isfn_156 (Nat.le_of_ble_eq_true rfl) (fun R hR => ?_); rw [Tryz.results156] at hR; refine wg_run ?_; (simp only [Tryz.f156, go_sem, h])
  repeat' (first | (simp only [go_sem, h]) | (((first | refine sp1 ?_ ?_ | refine sp2 ?_ ?_ | refine sp3 ?_ ?_ | refine sp4 ?_ ?_ | refine sp5 ?_ ?_ | refine sp6 ?_ ?_ | refine sp7 ?_ ?_) <;> intro hb) <;> (simp only [go_sem, hb, h])) | ((first | refine wm_done ?_ | refine wt_done ?_ | refine wg_run ?_ | refine fk ?_ ?_) <;> (simp only [go_sem, h])))
  all_goals (refine hR _ ?_; refine rat [] (hK := ⟨rfl, rfl⟩))
def srT (r : SR) : AV := .tup [.agg (teC r.tm), .one (.sc (.int .i64 r.code)), .one (.sc (.int .i64 r.lab))]
/-- the rule of casts, at a cast -/
theorem iCastRule0 (s t : T) (l : Int) (v : E) (h : (E.cast s t l v).wf = true) (hz : v.tm.size < 100000000) : AFn Tryz.prog 165 [.agg (teC (E.cast s t l v).tm)] (srT (ruleCast s t l v)) := by
  simp only [E.wf, Bool.and_eq_true, decide_eq_true_eq] at h
  have gs := iGround s
  have gt := iGround t
  rw [← T.ty_kind] at gs gt
  have hig := iIsGround t.ty (by have := T.ty_small h.1.2; omega)
  rw [T.isG_ty] at hig
  have c1 := fun f y => iCasted v.tm f y l
  have c2 := fun a f y => iCasted (.mk 14 ByteArray.empty 0 a s.ty l [v.tm]) f y l
  unfold ruleCast
  cases e1 : (s.ty.kind == t.ty.kind)
  · cases e2 : (t.ty.kind == 1)
    · cases e3 : t.isG
      · rw [e3] at hig
        simp only [srT, SR.tm, SR.code, SR.lab]
        simp only [E.tm]
        refine fn_in ?_; refine acl_in Tryz.func165 rfl isfn_165 (Nat.le_of_ble_eq_true rfl) (fun R hR => ?_); rw [Tryz.results165] at hR; refine wg_run ?_; (simp only [Tryz.f165, go_sem, e1, e2])
        repeat' (first | (first | (simp only [go_sem, e1, e2, int_bne]) | (((first | refine sp1 ?_ ?_ | refine sp2 ?_ ?_ | refine sp3 ?_ ?_ | refine sp4 ?_ ?_ | refine sp5 ?_ ?_ | refine sp6 ?_ ?_ | refine sp7 ?_ ?_) <;> intro hb) <;> (simp only [go_sem, hb, e1, e2, int_bne])) | ((first | refine wm_done ?_ | refine wt_done ?_ | refine wg_run ?_ | refine fk ?_ ?_) <;> (simp only [go_sem, e1, e2, int_bne]))) | (first | (refine tr (.op 0 false (.op 1 false (.op 2 false (.op 3 false (.op 4 false (.op 5 false (.op 6 false (.op 7 false (.fork 8 false (.op 9 false (.op 10 false (.op 11 true .nil))) (.op 9 false (.op 8 false (.op 10 false (.op 11 true .nil))))))))))))) [1] follows ?_; (simp only [go_sem, e1, e2, int_bne])) | (refine tr (.op 0 false (.op 1 false (.op 2 false (.op 3 false (.op 4 false (.op 5 false .nil)))))) [1] follows ?_; (simp only [go_sem, e1, e2, int_bne])) | fail) | ((first | refine mx 6 [] follows ?_ | refine mx 5 [] follows ?_ | refine mx 4 [] follows ?_ | refine mx 3 [] follows ?_ | refine mx 2 [] follows ?_ | refine mx 1 [] follows ?_ | refine mx 0 [] follows ?_ | fail); (simp only [go_sem, e1, e2, int_bne])) | (first | refine cd (hc := gt) (hK := ?_) | refine cm (hc := gt) (hK := ?_) | refine ct (hc := gt) (hK := ?_)); (simp only [go_sem]) | (first | refine cd (hc := hig) (hK := ?_) | refine cm (hc := hig) (hK := ?_) | refine ct (hc := hig) (hK := ?_)); (simp only [go_sem]) | (first | refine cd (hc := c1 _ _) (hK := ?_) | refine cm (hc := c1 _ _) (hK := ?_) | refine ct (hc := c1 _ _) (hK := ?_)); (simp only [go_sem]) | (first | refine cd (hc := c2 _ _ _) (hK := ?_) | refine cm (hc := c2 _ _ _) (hK := ?_) | refine ct (hc := c2 _ _ _) (hK := ?_)); (simp only [go_sem]) | fail)
        all_goals (refine hR _ ?_; refine rat [] (hK := ⟨rfl, rfl⟩))
      · rw [e3] at hig
        cases v with
        | cast s' t' l' w =>
          have h' := h.2.2.2
          simp only [E.wf, Bool.and_eq_true, decide_eq_true_eq] at h'
          have hi := iInj (E.cast s' t' l' w).tm (by omega)
          simp only [E.tm, Tm.kind, Tm.type, Tm.frm] at hi
          rw [injB_T] at hi
          have hs := iSame 1000 (by omega) s'.ty t.ty (T.ty_small h'.1.1)
          simp only [ruleOut]
          cases e4 : injT s' t'
          · rw [e4] at hi
            simp only [srT, SR.tm, SR.code, SR.lab]
            simp only [E.tm]
            refine fn_in ?_; refine acl_in Tryz.func165 rfl isfn_165 (Nat.le_of_ble_eq_true rfl) (fun R hR => ?_); rw [Tryz.results165] at hR; refine wg_run ?_; (simp only [Tryz.f165, go_sem, e1, e2])
            repeat' (first | (first | (simp only [go_sem, e1, e2, int_bne]) | (((first | refine sp1 ?_ ?_ | refine sp2 ?_ ?_ | refine sp3 ?_ ?_ | refine sp4 ?_ ?_ | refine sp5 ?_ ?_ | refine sp6 ?_ ?_ | refine sp7 ?_ ?_) <;> intro hb) <;> (simp only [go_sem, hb, e1, e2, int_bne])) | ((first | refine wm_done ?_ | refine wt_done ?_ | refine wg_run ?_ | refine fk ?_ ?_) <;> (simp only [go_sem, e1, e2, int_bne]))) | (first | (refine tr (.op 0 false (.op 1 false (.op 2 false (.op 3 false (.op 4 false (.op 5 false (.op 6 false (.op 7 false (.fork 8 false (.op 9 false (.op 10 false (.op 11 true .nil))) (.op 9 false (.op 8 false (.op 10 false (.op 11 true .nil))))))))))))) [1] follows ?_; (simp only [go_sem, e1, e2, int_bne])) | (refine tr (.op 0 false (.op 1 false (.op 2 false (.op 3 false (.op 4 false (.op 5 false .nil)))))) [1] follows ?_; (simp only [go_sem, e1, e2, int_bne])) | fail) | ((first | refine mx 6 [] follows ?_ | refine mx 5 [] follows ?_ | refine mx 4 [] follows ?_ | refine mx 3 [] follows ?_ | refine mx 2 [] follows ?_ | refine mx 1 [] follows ?_ | refine mx 0 [] follows ?_ | fail); (simp only [go_sem, e1, e2, int_bne])) | (first | refine cd (hc := hig) (hK := ?_) | refine cm (hc := hig) (hK := ?_) | refine ct (hc := hig) (hK := ?_)); (simp only [go_sem]) | (first | refine cd (hc := hi) (hK := ?_) | refine cm (hc := hi) (hK := ?_) | refine ct (hc := hi) (hK := ?_)); (simp only [go_sem]) | fail)
            all_goals (refine hR _ ?_; refine rat [] (hK := ⟨rfl, rfl⟩))
          · rw [e4] at hi
            have e5 : s'.isG = true := by simp only [injT, Bool.and_eq_true] at e4; exact e4.2
            rw [T.same_G e5 e3] at hs
            cases e6 : (s'.ty.kind == t.ty.kind)
            all_goals
              rw [e6] at hs
              simp only [srT, SR.tm, SR.code, SR.lab]
              simp only [E.tm]
              refine fn_in ?_; refine acl_in Tryz.func165 rfl isfn_165 (Nat.le_of_ble_eq_true rfl) (fun R hR => ?_); rw [Tryz.results165] at hR; refine wg_run ?_; (simp only [Tryz.f165, go_sem, e1, e2])
              repeat' (first | (first | (simp only [go_sem, e1, e2, int_bne]) | (((first | refine sp1 ?_ ?_ | refine sp2 ?_ ?_ | refine sp3 ?_ ?_ | refine sp4 ?_ ?_ | refine sp5 ?_ ?_ | refine sp6 ?_ ?_ | refine sp7 ?_ ?_) <;> intro hb) <;> (simp only [go_sem, hb, e1, e2, int_bne])) | ((first | refine wm_done ?_ | refine wt_done ?_ | refine wg_run ?_ | refine fk ?_ ?_) <;> (simp only [go_sem, e1, e2, int_bne]))) | (first | (refine tr (.op 0 false (.op 1 false (.op 2 false (.op 3 false (.op 4 false (.op 5 false (.op 6 false (.op 7 false (.fork 8 false (.op 9 false (.op 10 false (.op 11 true .nil))) (.op 9 false (.op 8 false (.op 10 false (.op 11 true .nil))))))))))))) [1] follows ?_; (simp only [go_sem, e1, e2, int_bne])) | (refine tr (.op 0 false (.op 1 false (.op 2 false (.op 3 false (.op 4 false (.op 5 false .nil)))))) [1] follows ?_; (simp only [go_sem, e1, e2, int_bne])) | fail) | ((first | refine mx 6 [] follows ?_ | refine mx 5 [] follows ?_ | refine mx 4 [] follows ?_ | refine mx 3 [] follows ?_ | refine mx 2 [] follows ?_ | refine mx 1 [] follows ?_ | refine mx 0 [] follows ?_ | fail); (simp only [go_sem, e1, e2, int_bne])) | (first | refine cd (hc := hig) (hK := ?_) | refine cm (hc := hig) (hK := ?_) | refine ct (hc := hig) (hK := ?_)); (simp only [go_sem]) | (first | refine cd (hc := hi) (hK := ?_) | refine cm (hc := hi) (hK := ?_) | refine ct (hc := hi) (hK := ?_)); (simp only [go_sem]) | (first | refine cd (hc := hs) (hK := ?_) | refine cm (hc := hs) (hK := ?_) | refine ct (hc := hs) (hK := ?_)); (simp only [go_sem]) | fail)
              all_goals (refine hR _ ?_; refine rat [] (hK := ⟨rfl, rfl⟩))
        | _ =>
          simp only [ruleOut]
          simp only [srT, SR.tm, SR.code, SR.lab]
          simp only [E.tm, nd]
          refine fn_in ?_; refine acl_in Tryz.func165 rfl isfn_165 (Nat.le_of_ble_eq_true rfl) (fun R hR => ?_); rw [Tryz.results165] at hR; refine wg_run ?_; (simp only [Tryz.f165, go_sem, e1, e2])
          repeat' (first | (first | (simp only [go_sem, e1, e2, int_bne]) | (((first | refine sp1 ?_ ?_ | refine sp2 ?_ ?_ | refine sp3 ?_ ?_ | refine sp4 ?_ ?_ | refine sp5 ?_ ?_ | refine sp6 ?_ ?_ | refine sp7 ?_ ?_) <;> intro hb) <;> (simp only [go_sem, hb, e1, e2, int_bne])) | ((first | refine wm_done ?_ | refine wt_done ?_ | refine wg_run ?_ | refine fk ?_ ?_) <;> (simp only [go_sem, e1, e2, int_bne]))) | (first | (refine tr (.op 0 false (.op 1 false (.op 2 false (.op 3 false (.op 4 false (.op 5 false (.op 6 false (.op 7 false (.fork 8 false (.op 9 false (.op 10 false (.op 11 true .nil))) (.op 9 false (.op 8 false (.op 10 false (.op 11 true .nil))))))))))))) [1] follows ?_; (simp only [go_sem, e1, e2, int_bne])) | (refine tr (.op 0 false (.op 1 false (.op 2 false (.op 3 false (.op 4 false (.op 5 false .nil)))))) [1] follows ?_; (simp only [go_sem, e1, e2, int_bne])) | fail) | ((first | refine mx 6 [] follows ?_ | refine mx 5 [] follows ?_ | refine mx 4 [] follows ?_ | refine mx 3 [] follows ?_ | refine mx 2 [] follows ?_ | refine mx 1 [] follows ?_ | refine mx 0 [] follows ?_ | fail); (simp only [go_sem, e1, e2, int_bne])) | (first | refine cd (hc := hig) (hK := ?_) | refine cm (hc := hig) (hK := ?_) | refine ct (hc := hig) (hK := ?_)); (simp only [go_sem]) | (first | refine cd (hc := iInj0 _ rfl) (hK := ?_) | refine cm (hc := iInj0 _ rfl) (hK := ?_) | refine ct (hc := iInj0 _ rfl) (hK := ?_)); (simp only [go_sem]) | fail)
          all_goals (refine hR _ ?_; refine rat [] (hK := ⟨rfl, rfl⟩))
    · have ht := kind_one e2
      subst ht
      have e1' : (s.ty.kind == (1 : Int)) = false := e1
      simp only [srT, SR.tm, SR.code, SR.lab]
      simp only [E.tm, T.ty]
      refine fn_in ?_; refine acl_in Tryz.func165 rfl isfn_165 (Nat.le_of_ble_eq_true rfl) (fun R hR => ?_); rw [Tryz.results165] at hR; refine wg_run ?_; (simp only [Tryz.f165, go_sem, e1'])
      repeat' (first | (first | (simp only [go_sem, e1', int_bne]) | (((first | refine sp1 ?_ ?_ | refine sp2 ?_ ?_ | refine sp3 ?_ ?_ | refine sp4 ?_ ?_ | refine sp5 ?_ ?_ | refine sp6 ?_ ?_ | refine sp7 ?_ ?_) <;> intro hb) <;> (simp only [go_sem, hb, e1', int_bne])) | ((first | refine wm_done ?_ | refine wt_done ?_ | refine wg_run ?_ | refine fk ?_ ?_) <;> (simp only [go_sem, e1', int_bne]))) | (first | (refine tr (.op 0 false (.op 1 false (.op 2 false (.op 3 false (.op 4 false (.op 5 false (.op 6 false (.op 7 false (.fork 8 false (.op 9 false (.op 10 false (.op 11 true .nil))) (.op 9 false (.op 8 false (.op 10 false (.op 11 true .nil))))))))))))) [1] follows ?_; (simp only [go_sem, e1', int_bne])) | (refine tr (.op 0 false (.op 1 false (.op 2 false (.op 3 false (.op 4 false (.op 5 false .nil)))))) [1] follows ?_; (simp only [go_sem, e1', int_bne])) | fail) | ((first | refine mx 6 [] follows ?_ | refine mx 5 [] follows ?_ | refine mx 4 [] follows ?_ | refine mx 3 [] follows ?_ | refine mx 2 [] follows ?_ | refine mx 1 [] follows ?_ | refine mx 0 [] follows ?_ | fail); (simp only [go_sem, e1', int_bne])) | (first | refine cd (hc := gs) (hK := ?_) | refine cm (hc := gs) (hK := ?_) | refine ct (hc := gs) (hK := ?_)); (simp only [go_sem]) | (first | refine cd (hc := c1 _ _) (hK := ?_) | refine cm (hc := c1 _ _) (hK := ?_) | refine ct (hc := c1 _ _) (hK := ?_)); (simp only [go_sem]) | (first | refine cd (hc := c2 _ _ _) (hK := ?_) | refine cm (hc := c2 _ _ _) (hK := ?_) | refine ct (hc := c2 _ _ _) (hK := ?_)); (simp only [go_sem]) | fail)
      all_goals (refine hR _ ?_; refine rat [] (hK := ⟨rfl, rfl⟩))
  · simp only [srT, SR.tm, SR.code, SR.lab]
    simp only [E.tm]
    refine fn_in ?_; refine acl_in Tryz.func165 rfl isfn_165 (Nat.le_of_ble_eq_true rfl) (fun R hR => ?_); rw [Tryz.results165] at hR; refine wg_run ?_; (simp only [Tryz.f165, go_sem, e1])
    repeat' (first | (first | (simp only [go_sem, e1, int_bne]) | (((first | refine sp1 ?_ ?_ | refine sp2 ?_ ?_ | refine sp3 ?_ ?_ | refine sp4 ?_ ?_ | refine sp5 ?_ ?_ | refine sp6 ?_ ?_ | refine sp7 ?_ ?_) <;> intro hb) <;> (simp only [go_sem, hb, e1, int_bne])) | ((first | refine wm_done ?_ | refine wt_done ?_ | refine wg_run ?_ | refine fk ?_ ?_) <;> (simp only [go_sem, e1, int_bne]))) | (first | (refine tr (.op 0 false (.op 1 false (.op 2 false (.op 3 false (.op 4 false (.op 5 false (.op 6 false (.op 7 false (.fork 8 false (.op 9 false (.op 10 false (.op 11 true .nil))) (.op 9 false (.op 8 false (.op 10 false (.op 11 true .nil))))))))))))) [1] follows ?_; (simp only [go_sem, e1, int_bne])) | (refine tr (.op 0 false (.op 1 false (.op 2 false (.op 3 false (.op 4 false (.op 5 false .nil)))))) [1] follows ?_; (simp only [go_sem, e1, int_bne])) | fail) | ((first | refine mx 6 [] follows ?_ | refine mx 5 [] follows ?_ | refine mx 4 [] follows ?_ | refine mx 3 [] follows ?_ | refine mx 2 [] follows ?_ | refine mx 1 [] follows ?_ | refine mx 0 [] follows ?_ | fail); (simp only [go_sem, e1, int_bne])) | fail)
    all_goals (refine hR _ ?_; refine rat [] (hK := ⟨rfl, rfl⟩))
theorem iCastRule (e : E) (h : e.wf = true) (hz : e.tm.size < 100000000) (hk : e.tm.kids ≠ []) : AFn Tryz.prog 165 [.agg (teC e.tm)] (srT e.castR) := by
  cases e with
  | cast s t l v => exact iCastRule0 s t l v h (by simp only [E.tm, Tm.size, Tm.sizes] at hz; omega)
  | app a b =>
    cases a with
    | cast s t l f =>
      simp only [E.wf, Bool.and_eq_true, decide_eq_true_eq] at h
      have hp := iProxy (E.cast s t l f).tm
      simp only [E.tm, Tm.kind, Tm.type, Tm.frm] at hp
      rw [proxyB_T] at hp
      have hn := fun ks => iNode 6 ks
      have c1 := fun a f y l => iCasted a f y l
      have hw : IntKind.i64.wrap (0 - l) = -l := by have := lab_bd2 h.1.2.2.1; rw [IntWalk.i64_in _ (by omega)]; omega
      cases s <;> cases t <;> simp only [proxyT, T.isFn, T.isPr, Bool.false_and, Bool.and_false, Bool.and_true, Bool.true_and, Bool.or_false, Bool.or_true, Bool.or_self] at hp
      all_goals
        simp only [E.castR, srT, SR.tm, SR.code, SR.lab]
        simp only [E.tm, nd, T.ty] at hp ⊢
        refine fn_in ?_; refine acl_in Tryz.func165 rfl isfn_165 (Nat.le_of_ble_eq_true rfl) (fun R hR => ?_); rw [Tryz.results165] at hR; refine wg_run ?_; (simp only [Tryz.f165, go_sem, hw])
        repeat' (first | (first | (simp only [go_sem, hw, int_bne]) | (((first | refine sp1 ?_ ?_ | refine sp2 ?_ ?_ | refine sp3 ?_ ?_ | refine sp4 ?_ ?_ | refine sp5 ?_ ?_ | refine sp6 ?_ ?_ | refine sp7 ?_ ?_) <;> intro hb) <;> (simp only [go_sem, hb, hw, int_bne])) | ((first | refine wm_done ?_ | refine wt_done ?_ | refine wg_run ?_ | refine fk ?_ ?_) <;> (simp only [go_sem, hw, int_bne]))) | (first | (refine tr (.op 0 false (.op 1 false (.op 2 false (.op 3 false (.op 4 false (.op 5 false (.op 6 false (.op 7 false (.fork 8 false (.op 9 false (.op 10 false (.op 11 true .nil))) (.op 9 false (.op 8 false (.op 10 false (.op 11 true .nil))))))))))))) [1] follows ?_; (simp only [go_sem, hw, int_bne])) | (refine tr (.op 0 false (.op 1 false (.op 2 false (.op 3 false (.op 4 false (.op 5 false .nil)))))) [1] follows ?_; (simp only [go_sem, hw, int_bne])) | fail) | ((first | refine mx 6 [] follows ?_ | refine mx 5 [] follows ?_ | refine mx 4 [] follows ?_ | refine mx 3 [] follows ?_ | refine mx 2 [] follows ?_ | refine mx 1 [] follows ?_ | refine mx 0 [] follows ?_ | fail); (simp only [go_sem, hw, int_bne])) | (first | refine cd (hc := hp) (hK := ?_) | refine cm (hc := hp) (hK := ?_) | refine ct (hc := hp) (hK := ?_)); (simp only [go_sem]) | (first | refine cd (hc := c1 _ _ _ _) (hK := ?_) | refine cm (hc := c1 _ _ _ _) (hK := ?_) | refine ct (hc := c1 _ _ _ _) (hK := ?_)); (simp only [go_sem]) | (first | refine cd (hc := hn [_, _]) (hK := ?_) | refine cm (hc := hn [_, _]) (hK := ?_) | refine ct (hc := hn [_, _]) (hK := ?_)); (simp only [go_sem]) | fail)
        all_goals (refine hR _ ?_; refine rat [] (hK := ⟨rfl, rfl⟩))
    | _ =>
      simp only [E.castR, srT, SR.tm, SR.code, SR.lab]
      simp only [E.tm, nd]
      refine fn_in ?_; refine acl_in Tryz.func165 rfl isfn_165 (Nat.le_of_ble_eq_true rfl) (fun R hR => ?_); rw [Tryz.results165] at hR; refine wg_run ?_; (simp only [Tryz.f165, go_sem])
      repeat' (first | (first | (simp only [go_sem, int_bne]) | (((first | refine sp1 ?_ ?_ | refine sp2 ?_ ?_ | refine sp3 ?_ ?_ | refine sp4 ?_ ?_ | refine sp5 ?_ ?_ | refine sp6 ?_ ?_ | refine sp7 ?_ ?_) <;> intro hb) <;> (simp only [go_sem, hb, int_bne])) | ((first | refine wm_done ?_ | refine wt_done ?_ | refine wg_run ?_ | refine fk ?_ ?_) <;> (simp only [go_sem, int_bne]))) | (first | (refine tr (.op 0 false (.op 1 false (.op 2 false (.op 3 false (.op 4 false (.op 5 false (.op 6 false (.op 7 false (.fork 8 false (.op 9 false (.op 10 false (.op 11 true .nil))) (.op 9 false (.op 8 false (.op 10 false (.op 11 true .nil))))))))))))) [1] follows ?_; (simp only [go_sem, int_bne])) | (refine tr (.op 0 false (.op 1 false (.op 2 false (.op 3 false (.op 4 false (.op 5 false .nil)))))) [1] follows ?_; (simp only [go_sem, int_bne])) | fail) | ((first | refine mx 6 [] follows ?_ | refine mx 5 [] follows ?_ | refine mx 4 [] follows ?_ | refine mx 3 [] follows ?_ | refine mx 2 [] follows ?_ | refine mx 1 [] follows ?_ | refine mx 0 [] follows ?_ | fail); (simp only [go_sem, int_bne])) | (first | refine cd (hc := iProxy0 _ rfl) (hK := ?_) | refine cm (hc := iProxy0 _ rfl) (hK := ?_) | refine ct (hc := iProxy0 _ rfl) (hK := ?_)); (simp only [go_sem]) | fail)
      all_goals (refine hR _ ?_; refine rat [] (hK := ⟨rfl, rfl⟩))
  | fst a | snd a =>
    cases a with
    | cast s t l f =>
      have hp := iProxy (E.cast s t l f).tm
      simp only [E.tm, Tm.kind, Tm.type, Tm.frm] at hp
      rw [proxyB_T] at hp
      have hn := fun k ks => iNode k ks
      have c1 := fun a f y l => iCasted a f y l
      cases s <;> cases t <;> simp only [proxyT, T.isFn, T.isPr, Bool.false_and, Bool.and_false, Bool.and_true, Bool.true_and, Bool.or_false, Bool.or_true, Bool.or_self] at hp
      all_goals
        simp only [E.castR, srT, SR.tm, SR.code, SR.lab]
        simp only [E.tm, nd, T.ty] at hp ⊢
        refine fn_in ?_; refine acl_in Tryz.func165 rfl isfn_165 (Nat.le_of_ble_eq_true rfl) (fun R hR => ?_); rw [Tryz.results165] at hR; refine wg_run ?_; (simp only [Tryz.f165, go_sem])
        repeat' (first | (first | (simp only [go_sem, int_bne]) | (((first | refine sp1 ?_ ?_ | refine sp2 ?_ ?_ | refine sp3 ?_ ?_ | refine sp4 ?_ ?_ | refine sp5 ?_ ?_ | refine sp6 ?_ ?_ | refine sp7 ?_ ?_) <;> intro hb) <;> (simp only [go_sem, hb, int_bne])) | ((first | refine wm_done ?_ | refine wt_done ?_ | refine wg_run ?_ | refine fk ?_ ?_) <;> (simp only [go_sem, int_bne]))) | (first | (refine tr (.op 0 false (.op 1 false (.op 2 false (.op 3 false (.op 4 false (.op 5 false (.op 6 false (.op 7 false (.fork 8 false (.op 9 false (.op 10 false (.op 11 true .nil))) (.op 9 false (.op 8 false (.op 10 false (.op 11 true .nil))))))))))))) [1] follows ?_; (simp only [go_sem, int_bne])) | (refine tr (.op 0 false (.op 1 false (.op 2 false (.op 3 false (.op 4 false (.op 5 false .nil)))))) [1] follows ?_; (simp only [go_sem, int_bne])) | fail) | ((first | refine mx 6 [] follows ?_ | refine mx 5 [] follows ?_ | refine mx 4 [] follows ?_ | refine mx 3 [] follows ?_ | refine mx 2 [] follows ?_ | refine mx 1 [] follows ?_ | refine mx 0 [] follows ?_ | fail); (simp only [go_sem, int_bne])) | (first | refine cd (hc := hp) (hK := ?_) | refine cm (hc := hp) (hK := ?_) | refine ct (hc := hp) (hK := ?_)); (simp only [go_sem]) | (first | refine cd (hc := c1 _ _ _ _) (hK := ?_) | refine cm (hc := c1 _ _ _ _) (hK := ?_) | refine ct (hc := c1 _ _ _ _) (hK := ?_)); (simp only [go_sem]) | (first | refine cd (hc := hn _ [_]) (hK := ?_) | refine cm (hc := hn _ [_]) (hK := ?_) | refine ct (hc := hn _ [_]) (hK := ?_)); (simp only [go_sem]) | fail)
        all_goals (refine hR _ ?_; refine rat [] (hK := ⟨rfl, rfl⟩))
    | _ =>
      simp only [E.castR, srT, SR.tm, SR.code, SR.lab]
      simp only [E.tm, nd]
      refine fn_in ?_; refine acl_in Tryz.func165 rfl isfn_165 (Nat.le_of_ble_eq_true rfl) (fun R hR => ?_); rw [Tryz.results165] at hR; refine wg_run ?_; (simp only [Tryz.f165, go_sem])
      repeat' (first | (first | (simp only [go_sem, int_bne]) | (((first | refine sp1 ?_ ?_ | refine sp2 ?_ ?_ | refine sp3 ?_ ?_ | refine sp4 ?_ ?_ | refine sp5 ?_ ?_ | refine sp6 ?_ ?_ | refine sp7 ?_ ?_) <;> intro hb) <;> (simp only [go_sem, hb, int_bne])) | ((first | refine wm_done ?_ | refine wt_done ?_ | refine wg_run ?_ | refine fk ?_ ?_) <;> (simp only [go_sem, int_bne]))) | (first | (refine tr (.op 0 false (.op 1 false (.op 2 false (.op 3 false (.op 4 false (.op 5 false (.op 6 false (.op 7 false (.fork 8 false (.op 9 false (.op 10 false (.op 11 true .nil))) (.op 9 false (.op 8 false (.op 10 false (.op 11 true .nil))))))))))))) [1] follows ?_; (simp only [go_sem, int_bne])) | (refine tr (.op 0 false (.op 1 false (.op 2 false (.op 3 false (.op 4 false (.op 5 false .nil)))))) [1] follows ?_; (simp only [go_sem, int_bne])) | fail) | ((first | refine mx 6 [] follows ?_ | refine mx 5 [] follows ?_ | refine mx 4 [] follows ?_ | refine mx 3 [] follows ?_ | refine mx 2 [] follows ?_ | refine mx 1 [] follows ?_ | refine mx 0 [] follows ?_ | fail); (simp only [go_sem, int_bne])) | (first | refine cd (hc := iProxy0 _ rfl) (hK := ?_) | refine cm (hc := iProxy0 _ rfl) (hK := ?_) | refine ct (hc := iProxy0 _ rfl) (hK := ?_)); (simp only [go_sem]) | fail)
      all_goals (refine hR _ ?_; refine rat [] (hK := ⟨rfl, rfl⟩))
  | var _ | num _ | tru | fls => simp [E.tm, nd, Tm.kids] at hk
  | _ =>
    simp only [E.castR, srT, SR.tm, SR.code, SR.lab]
    simp only [E.tm, nd]
    refine fn_in ?_; refine acl_in Tryz.func165 rfl isfn_165 (Nat.le_of_ble_eq_true rfl) (fun R hR => ?_); rw [Tryz.results165] at hR; refine wg_run ?_; (simp only [Tryz.f165, go_sem])
    repeat' (first | (first | (simp only [go_sem, int_bne]) | (((first | refine sp1 ?_ ?_ | refine sp2 ?_ ?_ | refine sp3 ?_ ?_ | refine sp4 ?_ ?_ | refine sp5 ?_ ?_ | refine sp6 ?_ ?_ | refine sp7 ?_ ?_) <;> intro hb) <;> (simp only [go_sem, hb, int_bne])) | ((first | refine wm_done ?_ | refine wt_done ?_ | refine wg_run ?_ | refine fk ?_ ?_) <;> (simp only [go_sem, int_bne]))) | (first | (refine tr (.op 0 false (.op 1 false (.op 2 false (.op 3 false (.op 4 false (.op 5 false (.op 6 false (.op 7 false (.fork 8 false (.op 9 false (.op 10 false (.op 11 true .nil))) (.op 9 false (.op 8 false (.op 10 false (.op 11 true .nil))))))))))))) [1] follows ?_; (simp only [go_sem, int_bne])) | (refine tr (.op 0 false (.op 1 false (.op 2 false (.op 3 false (.op 4 false (.op 5 false .nil)))))) [1] follows ?_; (simp only [go_sem, int_bne])) | fail) | ((first | refine mx 6 [] follows ?_ | refine mx 5 [] follows ?_ | refine mx 4 [] follows ?_ | refine mx 3 [] follows ?_ | refine mx 2 [] follows ?_ | refine mx 1 [] follows ?_ | refine mx 0 [] follows ?_ | fail); (simp only [go_sem, int_bne])) | (first | refine cd (hc := iProxy0 _ rfl) (hK := ?_) | refine cm (hc := iProxy0 _ rfl) (hK := ?_) | refine ct (hc := iProxy0 _ rfl) (hK := ?_)); (simp only [go_sem]) | fail)
    all_goals (refine hR _ ?_; refine rat [] (hK := ⟨rfl, rfl⟩))
end Go.Proofs.YtnaebafafhamjaaGreat
