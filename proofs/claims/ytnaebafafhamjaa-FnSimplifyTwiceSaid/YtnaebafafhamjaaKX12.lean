/- Texts of the proof, one behind another. -/
import Derived.Test.YtnaebafafhamjaaKX11
set_option linter.unusedSimpArgs false
set_option linter.unusedVariables false
/- Terms: copies, and terms mapped; on shadows. -/
namespace Go.Proofs.Sh
open Go.Proofs.Grad
@[go_sem] theorem teC_apps (t : Tm) (l : List C) : teC t ++ l = .sc (.int .i64 (t.kind)) :: .sc (.string (t.name)) :: .sc (.int .i64 (t.num)) :: .sc (.int .i64 (t.type).kind) :: .sl (tyR (t.type).kids) :: .sc (.int .i64 (t.frm).kind) :: .sl (tyR (t.frm).kids) :: .sc (.int .i64 (t.label)) :: .sl (teR (t.kids)) :: l := by rw [teC_eq]; rfl
attribute [go_sem] List.getD_cons_zero List.getD_cons_succ List.getD_nil
/-- the cells of a node whose operands' slice is c -/
def teK (t : Tm) (c : C) : List C := [.sc (.int .i64 (t.kind)), .sc (.string (t.name)), .sc (.int .i64 (t.num)), .sc (.int .i64 (t.type).kind), .sl (tyR (t.type).kids), .sc (.int .i64 (t.frm).kind), .sl (tyR (t.frm).kids), .sc (.int .i64 (t.label)), c]
end Go.Proofs.Sh
namespace Go.Proofs.Ytnaebafafhamjaa
open Go.RowKit Go.Proofs.Sh Go.Proofs.Grad
set_option maxRecDepth 100000
set_option maxHeartbeats 8000000
theorem l2Copy (n : Nat) (hn : n ≤ 274877906944) : ∀ t : Tm, t.size < n → AFn Try.prog 71 [.agg (teC t)] (.agg (teC t)) := by
  induction n with
  | zero => intro t h; omega
  | succ n ih =>
    intro t h
    have hl := telen_lt t
    have h1 := l1Copy 274877906944 (by omega) t.type (Nat.lt_trans (by cases t; simp only [Tm.size, Tm.type]; omega : t.type.size < t.size) (by omega))
    have h2 := l1Copy 274877906944 (by omega) t.frm (Nat.lt_trans (by cases t; simp only [Tm.size, Tm.frm]; omega : t.frm.size < t.size) (by omega))
    refine fn_in ?_; refine acl_in Try.func71 rfl isfn_71 (Nat.le_of_ble_eq_true rfl) (fun R hR => ?_); rw [Try.results71] at hR; refine wg_run ?_; (simp only [Try.f71, go_sem])
    repeat' (first | (first | (((first | apply sp1 | apply sp2 | apply sp3 | apply sp4 | apply sp5 | apply sp6 | apply sp7) <;> intro hb) <;> (simp only [go_sem, hb])) | ((first | apply wm_done | apply wt_done | apply wg_run | refine fk ?_ ?_) <;> (simp only [go_sem]))) | (first | refine cdq ?_ (hc := h1) | refine cmq ?_ (hc := h1) | refine ctq ?_ (hc := h1)); (simp only [go_sem]) | (first | refine cdq ?_ (hc := h2) | refine cmq ?_ (hc := h2) | refine ctq ?_ (hc := h2)); (simp only [go_sem]))
    refine wd_for [1, 2, 3, 4] (fun k => [.one (.ptr 9 0 0 0), .one (.ptr 9 1 0 0), .one (.ptr 9 2 0 0), .one (.sc (.int .i64 (k : Nat)))])
      (fun k => [⟨9, 28, .mut, [teC t]⟩, ⟨9, 28, .mut, [[.sc (.int .i64 0), .sc (.string { data := { toList := [] } }), .sc (.int .i64 0), .sc (.int .i64 0), .sc (.slice none 0 0), .sc (.int .i64 0), .sc (.slice none 0 0), .sc (.int .i64 0), .sc (.slice none 0 0)]]⟩] ++ (match k with | 0 => [⟨9, 28, .mut, [teK t (.sc (.slice none 0 0))]⟩] | k + 1 => [⟨9, 28, .mut, [teK t (.row 9 3 (k + 1))]⟩, ⟨9, 28, .mut, teR (t.kids.take (k + 1))⟩]))
      (fun k => k ≤ t.kids.length) (fun k => t.kids.length - k) 0 (Nat.zero_le _) (hat [0, 1, 2] (hI := ⟨rfl, rfl⟩)) ?_
    rintro (_ | k) hk G hG
    · refine wg_run ?_
      simp only [teK] at hG ⊢
      (simp only [go_sem])
      ((first | apply sp1 | apply sp2 | apply sp3 | apply sp4 | apply sp5 | apply sp6 | apply sp7) <;> intro hb) <;> (simp only [go_sem, hb])
      · have hk1 : 0 < t.kids.length := by have := of_decide_eq_true hb; omega
        have hc := ih (by omega) (teKid t.kids 0) (by have := teKid_lt hk1; omega)
        repeat' (first | (first | (simp only [go_sem, hb]) | (((first | apply sp1 | apply sp2 | apply sp3 | apply sp4 | apply sp5 | apply sp6 | apply sp7) <;> intro hb) <;> (simp only [go_sem, hb, hb])) | ((first | apply wm_done | apply wt_done | apply wg_run | refine fk ?_ ?_) <;> (simp only [go_sem, hb]))) | ((first | refine mxq6 [] ?_ | refine mxq5 [] ?_ | refine mxq4 [] ?_ | refine mxq3 [] ?_ | refine mxq2 [] ?_ | refine mxq1 [] ?_ | refine mxq0 [] ?_ | fail); (simp only [go_sem, hb])) | (first | refine cdq ?_ (hc := hc) | refine cmq ?_ (hc := hc) | refine ctq ?_ (hc := hc)); (simp only [go_sem]))
        refine hG 1 _ _ (by omega) (by omega) (hat [0, 1, 2, 4] (hI := ⟨rfl, ?_⟩))
        simp only [teR_take hk1, List.take_zero, teR, List.nil_append, List.cons_append]
      · have hk1 : t.kids = [] := by have := of_decide_eq_false hb; exact List.eq_nil_of_length_eq_zero (by omega)
        (refine hR _ (rat [] (hK := ⟨?_, rfl⟩)))
        rw [teC_eq, hk1]; rfl
    · refine wg_run ?_
      simp only [teK] at hG ⊢
      have hw1 : k + 1 < t.kids.length → IntKind.i64.wrap (((k + 1 : Nat) : Int) + 1) = ((k + 1 + 1 : Nat) : Int) := fun h => wrap_succ h (by omega)
      (simp only [go_sem])
      ((first | apply sp1 | apply sp2 | apply sp3 | apply sp4 | apply sp5 | apply sp6 | apply sp7) <;> intro hb) <;> (simp only [go_sem, hb])
      · have hk1 : k + 1 < t.kids.length := by have := of_decide_eq_true hb; omega
        have hw1 := hw1 hk1
        have hlen : (t.kids.take (k + 1)).length = k + 1 := by rw [List.length_take]; omega
        have hcap : (k + 1 + 1) * 128 ≤ 140737488355328 := by omega
        have hc := ih (by omega) (teKid t.kids (k + 1)) (by have := teKid_lt hk1; omega)
        repeat' (first | (first | (simp only [go_sem, hb, hlen, hcap, hw1]) | (((first | apply sp1 | apply sp2 | apply sp3 | apply sp4 | apply sp5 | apply sp6 | apply sp7) <;> intro hb) <;> (simp only [go_sem, hb, hb, hlen, hcap, hw1])) | ((first | apply wm_done | apply wt_done | apply wg_run | refine fk ?_ ?_) <;> (simp only [go_sem, hb, hlen, hcap, hw1]))) | ((first | refine mxq6 [] ?_ | refine mxq5 [] ?_ | refine mxq4 [] ?_ | refine mxq3 [] ?_ | refine mxq2 [] ?_ | refine mxq1 [] ?_ | refine mxq0 [] ?_ | fail); (simp only [go_sem, hb, hlen, hcap, hw1])) | (first | refine cdq ?_ (hc := hc) | refine cmq ?_ (hc := hc) | refine ctq ?_ (hc := hc)); (simp only [go_sem]))
        refine hG (k + 2) _ _ (by omega) (by omega) (hat [0, 1, 2, 5] (hI := ⟨rfl, ?_⟩))
        rw [← teR_take hk1]
        rfl
      · have hk1 : t.kids.take (k + 1) = t.kids := by have := of_decide_eq_false hb; exact List.take_of_length_le (by omega)
        have hlen : t.kids.length = k + 1 := by have := of_decide_eq_false hb; omega
        rw [hk1]
        (refine hR _ (ret_at [] (by (simp only [go_sem, hlen]); first | done | rfl) (by (simp only [go_sem, hlen]); first | done | rfl) ⟨?_, rfl⟩))
        rw [teC_eq]
/-- a copy, its uppermost slice its own -/
def OwnTm (t : Tm) (r : AV) (H' : List Blk) : Prop := (t.kids = [] ∧ r = .agg (teK t (.sc (.slice none 0 0))) ∧ H' = []) ∨ (0 < t.kids.length ∧ r = .agg (teK t (.row 9 0 t.kids.length)) ∧ H' = [⟨9, 28, .mut, teR t.kids⟩])
theorem l2CopyO (n : Nat) (hn : n ≤ 274877906944) (t : Tm) (h : t.size < n) : ACl Try.prog 71 [.agg (teC t)] [] (OwnTm t) := by
  have ih := l2Copy n hn
  have hl := telen_lt t
  have h1 := l1Copy 274877906944 (by omega) t.type (Nat.lt_trans (by cases t; simp only [Tm.size, Tm.type]; omega : t.type.size < t.size) (by omega))
  have h2 := l1Copy 274877906944 (by omega) t.frm (Nat.lt_trans (by cases t; simp only [Tm.size, Tm.frm]; omega : t.frm.size < t.size) (by omega))
  refine acl_in Try.func71 rfl isfn_71 (Nat.le_of_ble_eq_true rfl) (fun R hR => ?_); rw [Try.results71] at hR; refine wg_run ?_; (simp only [Try.f71, go_sem])
  repeat' (first | (first | (((first | apply sp1 | apply sp2 | apply sp3 | apply sp4 | apply sp5 | apply sp6 | apply sp7) <;> intro hb) <;> (simp only [go_sem, hb])) | ((first | apply wm_done | apply wt_done | apply wg_run | refine fk ?_ ?_) <;> (simp only [go_sem]))) | (first | refine cdq ?_ (hc := h1) | refine cmq ?_ (hc := h1) | refine ctq ?_ (hc := h1)); (simp only [go_sem]) | (first | refine cdq ?_ (hc := h2) | refine cmq ?_ (hc := h2) | refine ctq ?_ (hc := h2)); (simp only [go_sem]))
  refine wd_for [1, 2, 3, 4] (fun k => [.one (.ptr 9 0 0 0), .one (.ptr 9 1 0 0), .one (.ptr 9 2 0 0), .one (.sc (.int .i64 (k : Nat)))])
    (fun k => [⟨9, 28, .mut, [teC t]⟩, ⟨9, 28, .mut, [[.sc (.int .i64 0), .sc (.string { data := { toList := [] } }), .sc (.int .i64 0), .sc (.int .i64 0), .sc (.slice none 0 0), .sc (.int .i64 0), .sc (.slice none 0 0), .sc (.int .i64 0), .sc (.slice none 0 0)]]⟩] ++ (match k with | 0 => [⟨9, 28, .mut, [teK t (.sc (.slice none 0 0))]⟩] | k + 1 => [⟨9, 28, .mut, [teK t (.row 9 3 (k + 1))]⟩, ⟨9, 28, .mut, teR (t.kids.take (k + 1))⟩]))
    (fun k => k ≤ t.kids.length) (fun k => t.kids.length - k) 0 (Nat.zero_le _) (hat [0, 1, 2] (hI := ⟨rfl, rfl⟩)) ?_
  rintro (_ | k) hk G hG
  · refine wg_run ?_
    simp only [teK] at hG ⊢
    (simp only [go_sem])
    ((first | apply sp1 | apply sp2 | apply sp3 | apply sp4 | apply sp5 | apply sp6 | apply sp7) <;> intro hb) <;> (simp only [go_sem, hb])
    · have hk1 : 0 < t.kids.length := by have := of_decide_eq_true hb; omega
      have hc := ih (teKid t.kids 0) (by have := teKid_lt hk1; omega)
      repeat' (first | (first | (simp only [go_sem, hb]) | (((first | apply sp1 | apply sp2 | apply sp3 | apply sp4 | apply sp5 | apply sp6 | apply sp7) <;> intro hb) <;> (simp only [go_sem, hb, hb])) | ((first | apply wm_done | apply wt_done | apply wg_run | refine fk ?_ ?_) <;> (simp only [go_sem, hb]))) | ((first | refine mxq6 [] ?_ | refine mxq5 [] ?_ | refine mxq4 [] ?_ | refine mxq3 [] ?_ | refine mxq2 [] ?_ | refine mxq1 [] ?_ | refine mxq0 [] ?_ | fail); (simp only [go_sem, hb])) | (first | refine cdq ?_ (hc := hc) | refine cmq ?_ (hc := hc) | refine ctq ?_ (hc := hc)); (simp only [go_sem]))
      refine hG 1 _ _ (by omega) (by omega) (hat [0, 1, 2, 4] (hI := ⟨rfl, ?_⟩))
      simp only [teR_take hk1, List.take_zero, teR, List.nil_append, List.cons_append]
    · have hk1 : t.kids = [] := by have := of_decide_eq_false hb; exact List.eq_nil_of_length_eq_zero (by omega)
      exact hR _ (rwn [] (hK := (.inl ⟨hk1, rfl, rfl⟩)))
  · refine wg_run ?_
    simp only [teK] at hG ⊢
    have hw1 : k + 1 < t.kids.length → IntKind.i64.wrap (((k + 1 : Nat) : Int) + 1) = ((k + 1 + 1 : Nat) : Int) := fun h => wrap_succ h (by omega)
    (simp only [go_sem])
    ((first | apply sp1 | apply sp2 | apply sp3 | apply sp4 | apply sp5 | apply sp6 | apply sp7) <;> intro hb) <;> (simp only [go_sem, hb])
    · have hk1 : k + 1 < t.kids.length := by have := of_decide_eq_true hb; omega
      have hw1 := hw1 hk1
      have hlen : (t.kids.take (k + 1)).length = k + 1 := by rw [List.length_take]; omega
      have hcap : (k + 1 + 1) * 128 ≤ 140737488355328 := by omega
      have hc := ih (teKid t.kids (k + 1)) (by have := teKid_lt hk1; omega)
      repeat' (first | (first | (simp only [go_sem, hb, hlen, hcap, hw1]) | (((first | apply sp1 | apply sp2 | apply sp3 | apply sp4 | apply sp5 | apply sp6 | apply sp7) <;> intro hb) <;> (simp only [go_sem, hb, hb, hlen, hcap, hw1])) | ((first | apply wm_done | apply wt_done | apply wg_run | refine fk ?_ ?_) <;> (simp only [go_sem, hb, hlen, hcap, hw1]))) | ((first | refine mxq6 [] ?_ | refine mxq5 [] ?_ | refine mxq4 [] ?_ | refine mxq3 [] ?_ | refine mxq2 [] ?_ | refine mxq1 [] ?_ | refine mxq0 [] ?_ | fail); (simp only [go_sem, hb, hlen, hcap, hw1])) | (first | refine cdq ?_ (hc := hc) | refine cmq ?_ (hc := hc) | refine ctq ?_ (hc := hc)); (simp only [go_sem]))
      refine hG (k + 2) _ _ (by omega) (by omega) (hat [0, 1, 2, 5] (hI := ⟨rfl, ?_⟩))
      rw [← teR_take hk1]
      rfl
    · have hk1 : t.kids.take (k + 1) = t.kids := by have := of_decide_eq_false hb; exact List.take_of_length_le (by omega)
      have hlen : t.kids.length = k + 1 := by have := of_decide_eq_false hb; omega
      rw [hk1]
      exact hR _ (ret_own [3] (by (simp only [go_sem, hlen]); first | done | rfl) (by (simp only [go_sem, hlen]); first | done | rfl) (.inr ⟨by omega, by rw [hlen]; rfl, rfl⟩))
end Go.Proofs.Ytnaebafafhamjaa
/- Terms: terms mapped by a function, on shadows. -/
namespace Go.Proofs.Grad
def E.mapE (φ : E → E) : E → E
  | .var x => φ (.var x)
  | .num n => φ (.num n)
  | .tru => φ .tru
  | .fls => φ .fls
  | .lam x t a => φ (.lam x t (a.mapE φ))
  | .app a b => φ (.app (a.mapE φ) (b.mapE φ))
  | .add a b => φ (.add (a.mapE φ) (b.mapE φ))
  | .less a b => φ (.less (a.mapE φ) (b.mapE φ))
  | .ite a b c => φ (.ite (a.mapE φ) (b.mapE φ) (c.mapE φ))
  | .pair a b => φ (.pair (a.mapE φ) (b.mapE φ))
  | .fst a => φ (.fst (a.mapE φ))
  | .snd a => φ (.snd (a.mapE φ))
  | .asc t a => φ (.asc t (a.mapE φ))
  | .cast s t l a => φ (.cast s t l (a.mapE φ))
theorem E.mapE_wf {φ : E → E} (h : ∀ x : E, x.wf = true → (φ x).wf = true) (e : E) : e.wf = true → (e.mapE φ).wf = true := by
  induction e with
  | var _ | num _ | tru | fls => intro hw; exact h _ hw
  | lam _ _ a ih => intro hw; simp only [E.wf, Bool.and_eq_true] at hw; refine h _ ?_; simp only [E.wf, Bool.and_eq_true]; exact ⟨hw.1, hw.2.1, ih hw.2.2⟩
  | app a b iha ihb | add a b iha ihb | less a b iha ihb | pair a b iha ihb =>
    intro hw; simp only [E.wf, Bool.and_eq_true] at hw; refine h _ ?_; simp only [E.wf, Bool.and_eq_true]; exact ⟨iha hw.1, ihb hw.2⟩
  | ite a b c iha ihb ihc =>
    intro hw; simp only [E.wf, Bool.and_eq_true] at hw; refine h _ ?_; simp only [E.wf, Bool.and_eq_true]; exact ⟨iha hw.1, ihb hw.2.1, ihc hw.2.2⟩
  | fst a ih | snd a ih => intro hw; refine h _ ?_; exact ih hw
  | cast s t l a ih => intro hw; simp only [E.wf, Bool.and_eq_true] at hw; refine h _ ?_; simp only [E.wf, Bool.and_eq_true]; exact ⟨hw.1, hw.2.1, hw.2.2.1, ih hw.2.2.2⟩
  | _ => rename_i t a ih; intro hw; simp only [E.wf, Bool.and_eq_true] at hw; refine h _ ?_; simp only [E.wf, Bool.and_eq_true]; exact ⟨hw.1, ih hw.2⟩
theorem T.ty_small {t : T} (h : t.depth ≤ 4) : t.ty.size < 1000 := by
  have : ∀ (x : T) (d : Nat), x.depth ≤ d → d ≤ 4 → x.size < 2 ^ d := by
    intro x
    induction x with
    | any | int | bool => intro d h1 h2; simp only [T.depth, T.size] at *; exact Nat.one_lt_two_pow (by omega)
    | fn a b iha ihb | pr a b iha ihb =>
      intro d h1 h2
      simp only [T.depth, T.size] at *
      obtain ⟨d, rfl⟩ : ∃ e, d = e + 1 := ⟨d - 1, by omega⟩
      have := iha d (by omega) (by omega); have := ihb d (by omega) (by omega)
      rw [Nat.pow_succ]; omega
  have := this t 4 h (Nat.le_refl _)
  rw [T.ty_size]; omega
end Go.Proofs.Grad
namespace Go.Proofs.Ytnaebafafhamjaa
open Go.RowKit Go.Proofs.Sh Go.Proofs.Grad
set_option maxRecDepth 100000
set_option maxHeartbeats 8000000
theorem iOwnNo : AFn Try.prog 92 [.agg (tyC noTy)] (.agg (tyC noTy)) := iOwnTy 1000 (by omega) noTy (by simp [noTy, Ty.size, Ty.sizes])
theorem iOwnT {t : T} (h : t.depth ≤ 4) : AFn Try.prog 92 [.agg (tyC t.ty)] (.agg (tyC t.ty)) := iOwnTy 1000 (by omega) t.ty (T.ty_small h)
theorem iMapped (g : FuncId) (φ : E → E) (hφ : ∀ x : E, x.wf = true → (φ x).wf = true) (hg : ∀ x : E, x.wf = true → AFn Try.prog g [.agg (teC x.tm)] (.agg (teC (φ x).tm))) (e : E) (h : e.wf = true) :
    AFn Try.prog 65 [.agg (teC e.tm), .one (.fn g [])] (.agg (teC (e.mapE φ).tm)) := by
  have ho := iOwnNo
  induction e with
  | var _ | num _ | tru | fls =>
    have hg := hg _ h
    simp only [E.mapE]
    rw [teC_eq] at hg
    simp only [E.tm, nd] at hg ⊢
    refine fn_in ?_; refine acl_in Try.func65 rfl isfn_65 (Nat.le_of_ble_eq_true rfl) (fun R hR => ?_); rw [Try.results65] at hR; refine wg_run ?_; (simp only [Try.f65, go_sem])
    repeat' (first | (first | (((first | apply sp1 | apply sp2 | apply sp3 | apply sp4 | apply sp5 | apply sp6 | apply sp7) <;> intro hb) <;> (simp only [go_sem, hb])) | ((first | apply wm_done | apply wt_done | apply wg_run | refine fk ?_ ?_) <;> (simp only [go_sem]))) | (first | (refine wl_next (wg_run ?_); (simp only [go_sem])) | refine wd_rounds 6 ?_) | (first | refine cdq ?_ (hc := ho) | refine cmq ?_ (hc := ho) | refine ctq ?_ (hc := ho)); (simp only [go_sem]) | ((first | refine mxq6 [] ?_ | refine mxq5 [] ?_ | refine mxq4 [] ?_ | refine mxq3 [] ?_ | refine mxq2 [] ?_ | refine mxq1 [] ?_ | refine mxq0 [] ?_ | fail); (simp only [go_sem])) | (first | refine cdq ?_ (hc := hg) | refine cmq ?_ (hc := hg) | refine ctq ?_ (hc := hg)); (simp only [go_sem]))
    (refine hR _ (rat [] (hK := ⟨?_, rfl⟩)))
    rfl
  | app a b iha ihb | add a b iha ihb | less a b iha ihb | pair a b iha ihb =>
    simp only [E.wf, Bool.and_eq_true] at h
    have iha := iha h.1
    have ihb := ihb h.2
    have wa := E.mapE_wf hφ a h.1
    have wb := E.mapE_wf hφ b h.2
    have g1 := hg (.app (a.mapE φ) (b.mapE φ)) (by simp only [E.wf, Bool.and_eq_true]; exact ⟨wa, wb⟩)
    have g2 := hg (.add (a.mapE φ) (b.mapE φ)) (by simp only [E.wf, Bool.and_eq_true]; exact ⟨wa, wb⟩)
    have g3 := hg (.less (a.mapE φ) (b.mapE φ)) (by simp only [E.wf, Bool.and_eq_true]; exact ⟨wa, wb⟩)
    have g4 := hg (.pair (a.mapE φ) (b.mapE φ)) (by simp only [E.wf, Bool.and_eq_true]; exact ⟨wa, wb⟩)
    clear hg
    simp only [E.mapE]
    rw [teC_eq] at g1 g2 g3 g4
    simp only [E.tm, nd, go_sem] at g1 g2 g3 g4 ⊢
    refine fn_in ?_; refine acl_in Try.func65 rfl isfn_65 (Nat.le_of_ble_eq_true rfl) (fun R hR => ?_); rw [Try.results65] at hR; refine wg_run ?_; (simp only [Try.f65, go_sem])
    repeat' (first | (first | (((first | apply sp1 | apply sp2 | apply sp3 | apply sp4 | apply sp5 | apply sp6 | apply sp7) <;> intro hb) <;> (simp only [go_sem, hb])) | ((first | apply wm_done | apply wt_done | apply wg_run | refine fk ?_ ?_) <;> (simp only [go_sem]))) | (first | (refine wl_next (wg_run ?_); (simp only [go_sem])) | refine wd_rounds 6 ?_) | (first | refine cdq ?_ (hc := iha) | refine cmq ?_ (hc := iha) | refine ctq ?_ (hc := iha)); (simp only [go_sem]) | (first | refine cdq ?_ (hc := ihb) | refine cmq ?_ (hc := ihb) | refine ctq ?_ (hc := ihb)); (simp only [go_sem]) | (first | refine cdq ?_ (hc := ho) | refine cmq ?_ (hc := ho) | refine ctq ?_ (hc := ho)); (simp only [go_sem]) | ((first | refine mxq6 [] ?_ | refine mxq5 [] ?_ | refine mxq4 [] ?_ | refine mxq3 [] ?_ | refine mxq2 [] ?_ | refine mxq1 [] ?_ | refine mxq0 [] ?_ | fail); (simp only [go_sem])) | (first | refine cdq ?_ (hc := g1) | refine cmq ?_ (hc := g1) | refine ctq ?_ (hc := g1)); (simp only [go_sem]) | (first | refine cdq ?_ (hc := g2) | refine cmq ?_ (hc := g2) | refine ctq ?_ (hc := g2)); (simp only [go_sem]) | (first | refine cdq ?_ (hc := g3) | refine cmq ?_ (hc := g3) | refine ctq ?_ (hc := g3)); (simp only [go_sem]) | (first | refine cdq ?_ (hc := g4) | refine cmq ?_ (hc := g4) | refine ctq ?_ (hc := g4)); (simp only [go_sem]))
    (refine hR _ (rat [] (hK := ⟨?_, rfl⟩)))
    rfl
  | ite a b c iha ihb ihc =>
    simp only [E.wf, Bool.and_eq_true] at h
    have iha := iha h.1
    have ihb := ihb h.2.1
    have ihc := ihc h.2.2
    have g1 := hg (.ite (a.mapE φ) (b.mapE φ) (c.mapE φ)) (by simp only [E.wf, Bool.and_eq_true]; exact ⟨E.mapE_wf hφ a h.1, E.mapE_wf hφ b h.2.1, E.mapE_wf hφ c h.2.2⟩)
    clear hg
    simp only [E.mapE]
    rw [teC_eq] at g1
    simp only [E.tm, nd, go_sem] at g1 ⊢
    refine fn_in ?_; refine acl_in Try.func65 rfl isfn_65 (Nat.le_of_ble_eq_true rfl) (fun R hR => ?_); rw [Try.results65] at hR; refine wg_run ?_; (simp only [Try.f65, go_sem])
    repeat' (first | (first | (((first | apply sp1 | apply sp2 | apply sp3 | apply sp4 | apply sp5 | apply sp6 | apply sp7) <;> intro hb) <;> (simp only [go_sem, hb])) | ((first | apply wm_done | apply wt_done | apply wg_run | refine fk ?_ ?_) <;> (simp only [go_sem]))) | (first | (refine wl_next (wg_run ?_); (simp only [go_sem])) | refine wd_rounds 6 ?_) | (first | refine cdq ?_ (hc := iha) | refine cmq ?_ (hc := iha) | refine ctq ?_ (hc := iha)); (simp only [go_sem]) | (first | refine cdq ?_ (hc := ihb) | refine cmq ?_ (hc := ihb) | refine ctq ?_ (hc := ihb)); (simp only [go_sem]) | (first | refine cdq ?_ (hc := ihc) | refine cmq ?_ (hc := ihc) | refine ctq ?_ (hc := ihc)); (simp only [go_sem]) | (first | refine cdq ?_ (hc := ho) | refine cmq ?_ (hc := ho) | refine ctq ?_ (hc := ho)); (simp only [go_sem]) | ((first | refine mxq6 [] ?_ | refine mxq5 [] ?_ | refine mxq4 [] ?_ | refine mxq3 [] ?_ | refine mxq2 [] ?_ | refine mxq1 [] ?_ | refine mxq0 [] ?_ | fail); (simp only [go_sem])) | (first | refine cdq ?_ (hc := g1) | refine cmq ?_ (hc := g1) | refine ctq ?_ (hc := g1)); (simp only [go_sem]))
    (refine hR _ (rat [] (hK := ⟨?_, rfl⟩)))
    rfl
  | lam x t a ih =>
    simp only [E.wf, Bool.and_eq_true, decide_eq_true_eq] at h
    have ih := ih h.2.2
    have hot := iOwnT h.2.1
    have g1 := hg (.lam x t (a.mapE φ)) (by simp only [E.wf, Bool.and_eq_true, decide_eq_true_eq]; exact ⟨h.1, h.2.1, E.mapE_wf hφ a h.2.2⟩)
    clear hg
    simp only [E.mapE]
    rw [teC_eq] at g1
    simp only [E.tm, nd, go_sem] at g1 ⊢
    refine fn_in ?_; refine acl_in Try.func65 rfl isfn_65 (Nat.le_of_ble_eq_true rfl) (fun R hR => ?_); rw [Try.results65] at hR; refine wg_run ?_; (simp only [Try.f65, go_sem])
    repeat' (first | (first | (((first | apply sp1 | apply sp2 | apply sp3 | apply sp4 | apply sp5 | apply sp6 | apply sp7) <;> intro hb) <;> (simp only [go_sem, hb])) | ((first | apply wm_done | apply wt_done | apply wg_run | refine fk ?_ ?_) <;> (simp only [go_sem]))) | (first | (refine wl_next (wg_run ?_); (simp only [go_sem])) | refine wd_rounds 6 ?_) | (first | refine cdq ?_ (hc := ih) | refine cmq ?_ (hc := ih) | refine ctq ?_ (hc := ih)); (simp only [go_sem]) | (first | refine cdq ?_ (hc := hot) | refine cmq ?_ (hc := hot) | refine ctq ?_ (hc := hot)); (simp only [go_sem]) | (first | refine cdq ?_ (hc := ho) | refine cmq ?_ (hc := ho) | refine ctq ?_ (hc := ho)); (simp only [go_sem]) | ((first | refine mxq6 [] ?_ | refine mxq5 [] ?_ | refine mxq4 [] ?_ | refine mxq3 [] ?_ | refine mxq2 [] ?_ | refine mxq1 [] ?_ | refine mxq0 [] ?_ | fail); (simp only [go_sem])) | (first | refine cdq ?_ (hc := g1) | refine cmq ?_ (hc := g1) | refine ctq ?_ (hc := g1)); (simp only [go_sem]))
    (refine hR _ (rat [] (hK := ⟨?_, rfl⟩)))
    rfl
  | fst a ih | snd a ih =>
    simp only [E.wf] at h
    have ih := ih h
    have g1 := hg (.fst (a.mapE φ)) (E.mapE_wf hφ a h)
    have g2 := hg (.snd (a.mapE φ)) (E.mapE_wf hφ a h)
    clear hg
    simp only [E.mapE]
    rw [teC_eq] at g1 g2
    simp only [E.tm, nd, go_sem] at g1 g2 ⊢
    refine fn_in ?_; refine acl_in Try.func65 rfl isfn_65 (Nat.le_of_ble_eq_true rfl) (fun R hR => ?_); rw [Try.results65] at hR; refine wg_run ?_; (simp only [Try.f65, go_sem])
    repeat' (first | (first | (((first | apply sp1 | apply sp2 | apply sp3 | apply sp4 | apply sp5 | apply sp6 | apply sp7) <;> intro hb) <;> (simp only [go_sem, hb])) | ((first | apply wm_done | apply wt_done | apply wg_run | refine fk ?_ ?_) <;> (simp only [go_sem]))) | (first | (refine wl_next (wg_run ?_); (simp only [go_sem])) | refine wd_rounds 6 ?_) | (first | refine cdq ?_ (hc := ih) | refine cmq ?_ (hc := ih) | refine ctq ?_ (hc := ih)); (simp only [go_sem]) | (first | refine cdq ?_ (hc := ho) | refine cmq ?_ (hc := ho) | refine ctq ?_ (hc := ho)); (simp only [go_sem]) | ((first | refine mxq6 [] ?_ | refine mxq5 [] ?_ | refine mxq4 [] ?_ | refine mxq3 [] ?_ | refine mxq2 [] ?_ | refine mxq1 [] ?_ | refine mxq0 [] ?_ | fail); (simp only [go_sem])) | (first | refine cdq ?_ (hc := g1) | refine cmq ?_ (hc := g1) | refine ctq ?_ (hc := g1)); (simp only [go_sem]) | (first | refine cdq ?_ (hc := g2) | refine cmq ?_ (hc := g2) | refine ctq ?_ (hc := g2)); (simp only [go_sem]))
    (refine hR _ (rat [] (hK := ⟨?_, rfl⟩)))
    rfl
  | cast s t l a ih =>
    simp only [E.wf, Bool.and_eq_true, decide_eq_true_eq] at h
    have ih := ih h.2.2.2
    have hos := iOwnT h.1.1
    have hot := iOwnT h.1.2
    have g1 := hg (.cast s t l (a.mapE φ)) (by simp only [E.wf, Bool.and_eq_true, decide_eq_true_eq]; exact ⟨h.1, h.2.1, h.2.2.1, E.mapE_wf hφ a h.2.2.2⟩)
    clear hg
    simp only [E.mapE]
    rw [teC_eq] at g1
    simp only [E.tm, nd, go_sem] at g1 ⊢
    refine fn_in ?_; refine acl_in Try.func65 rfl isfn_65 (Nat.le_of_ble_eq_true rfl) (fun R hR => ?_); rw [Try.results65] at hR; refine wg_run ?_; (simp only [Try.f65, go_sem])
    repeat' (first | (first | (((first | apply sp1 | apply sp2 | apply sp3 | apply sp4 | apply sp5 | apply sp6 | apply sp7) <;> intro hb) <;> (simp only [go_sem, hb])) | ((first | apply wm_done | apply wt_done | apply wg_run | refine fk ?_ ?_) <;> (simp only [go_sem]))) | (first | (refine wl_next (wg_run ?_); (simp only [go_sem])) | refine wd_rounds 6 ?_) | (first | refine cdq ?_ (hc := ih) | refine cmq ?_ (hc := ih) | refine ctq ?_ (hc := ih)); (simp only [go_sem]) | (first | refine cdq ?_ (hc := hot) | refine cmq ?_ (hc := hot) | refine ctq ?_ (hc := hot)); (simp only [go_sem]) | (first | refine cdq ?_ (hc := hos) | refine cmq ?_ (hc := hos) | refine ctq ?_ (hc := hos)); (simp only [go_sem]) | ((first | refine mxq6 [] ?_ | refine mxq5 [] ?_ | refine mxq4 [] ?_ | refine mxq3 [] ?_ | refine mxq2 [] ?_ | refine mxq1 [] ?_ | refine mxq0 [] ?_ | fail); (simp only [go_sem])) | (first | refine cdq ?_ (hc := g1) | refine cmq ?_ (hc := g1) | refine ctq ?_ (hc := g1)); (simp only [go_sem]))
    (refine hR _ (rat [] (hK := ⟨?_, rfl⟩)))
    rfl
  | _ =>
    rename_i t a ih
    simp only [E.wf, Bool.and_eq_true, decide_eq_true_eq] at h
    have ih := ih h.2
    have hot := iOwnT h.1
    have g1 := hg (E.asc t (a.mapE φ)) (by simp only [E.wf, Bool.and_eq_true, decide_eq_true_eq]; exact ⟨h.1, E.mapE_wf hφ a h.2⟩)
    clear hg
    simp only [E.mapE]
    rw [teC_eq] at g1
    simp only [E.tm, nd, go_sem] at g1 ⊢
    refine fn_in ?_; refine acl_in Try.func65 rfl isfn_65 (Nat.le_of_ble_eq_true rfl) (fun R hR => ?_); rw [Try.results65] at hR; refine wg_run ?_; (simp only [Try.f65, go_sem])
    repeat' (first | (first | (((first | apply sp1 | apply sp2 | apply sp3 | apply sp4 | apply sp5 | apply sp6 | apply sp7) <;> intro hb) <;> (simp only [go_sem, hb])) | ((first | apply wm_done | apply wt_done | apply wg_run | refine fk ?_ ?_) <;> (simp only [go_sem]))) | (first | (refine wl_next (wg_run ?_); (simp only [go_sem])) | refine wd_rounds 6 ?_) | (first | refine cdq ?_ (hc := ih) | refine cmq ?_ (hc := ih) | refine ctq ?_ (hc := ih)); (simp only [go_sem]) | (first | refine cdq ?_ (hc := hot) | refine cmq ?_ (hc := hot) | refine ctq ?_ (hc := hot)); (simp only [go_sem]) | (first | refine cdq ?_ (hc := ho) | refine cmq ?_ (hc := ho) | refine ctq ?_ (hc := ho)); (simp only [go_sem]) | ((first | refine mxq6 [] ?_ | refine mxq5 [] ?_ | refine mxq4 [] ?_ | refine mxq3 [] ?_ | refine mxq2 [] ?_ | refine mxq1 [] ?_ | refine mxq0 [] ?_ | fail); (simp only [go_sem])) | (first | refine cdq ?_ (hc := g1) | refine cmq ?_ (hc := g1) | refine ctq ?_ (hc := g1)); (simp only [go_sem]))
    (refine hR _ (rat [] (hK := ⟨?_, rfl⟩)))
    rfl
end Go.Proofs.Ytnaebafafhamjaa
/- Terms: the casts of a term, on shadows. -/
namespace Go.Proofs.Grad
def ownCast (t : Tm) : List Tm := match t.kind == 14 with | true => [t] | false => []
mutual
def Tm.castsL : Tm → List Tm | .mk k n m t f b l => ownCast (.mk k n m t f b l) ++ Tm.castsLs l
def Tm.castsLs : List Tm → List Tm | [] => [] | t :: l => t.castsL ++ Tm.castsLs l
end
theorem Tm.castsL_eq (t : Tm) : t.castsL = ownCast t ++ Tm.castsLs t.kids := by cases t; rfl
theorem ownCast_len (t : Tm) : (ownCast t).length ≤ 1 := by unfold ownCast; split <;> simp
mutual
theorem Tm.castsL_len : ∀ t : Tm, t.castsL.length ≤ t.nodes
  | .mk k n m t f b l => by have := Tm.castsLs_len l; have := ownCast_len (.mk k n m t f b l); simp only [Tm.castsL, Tm.nodes, List.length_append]; omega
theorem Tm.castsLs_len : ∀ l : List Tm, (Tm.castsLs l).length ≤ Tm.nodess l
  | [] => by simp [Tm.castsLs]
  | t :: l => by have := Tm.castsL_len t; have := Tm.castsLs_len l; simp only [Tm.castsLs, Tm.nodess, List.length_append]; omega
end
theorem Tm.castsLs_append (l m : List Tm) : Tm.castsLs (l ++ m) = Tm.castsLs l ++ Tm.castsLs m := by
  induction l with
  | nil => rfl
  | cons t l ih => simp [Tm.castsLs, ih]
theorem Tm.castsLs_take {l : List Tm} {k : Nat} (h : k < l.length) : Tm.castsLs (l.take (k + 1)) = Tm.castsLs (l.take k) ++ (Sh.teKid l k).castsL := by
  rw [Sh.tetake_kid h, Tm.castsLs_append]; simp [Tm.castsLs]
theorem Tm.castsLs_take_len (l : List Tm) (k : Nat) : (Tm.castsLs (l.take k)).length ≤ Tm.nodess l := Nat.le_trans (Tm.castsLs_len _) (Tm.nodess_le_take l k)
end Go.Proofs.Grad
namespace Go.Proofs.Sh
attribute [go_sem] List.getD_cons_zero List.getD_cons_succ List.getD_nil
end Go.Proofs.Sh
namespace Go.Proofs.Ytnaebafafhamjaa
open Go.RowKit Go.Proofs.Sh Go.Proofs.Grad
set_option maxRecDepth 100000
set_option maxHeartbeats 8000000
theorem iCasts (n : Nat) (hn : n ≤ 274877906944) : ∀ t : Tm, t.size < n → AFn Try.prog 68 [.agg (teC t)] (.one (.sl (teR t.castsL))) := by
  induction n with
  | zero => intro t h; omega
  | succ n ih =>
    intro t h
    have hl := telen_lt t
    have hnl := t.nodes_le
    have hne := t.nodes_eq
    have e0 : ownCast t = (match t.kind == 14 with | true => [t] | false => []) := rfl
    cases hty : (t.kind == 14)
    all_goals
      rw [hty] at e0
      simp only [] at e0
      refine fn_in ?_; refine acl_in Try.func68 rfl isfn_68 (Nat.le_of_ble_eq_true rfl) (fun R hR => ?_); rw [Try.results68] at hR; refine wg_run ?_; (simp only [Try.f68, go_sem])
      repeat' (first | (simp only [go_sem, hty]) | (((first | apply sp1 | apply sp2 | apply sp3 | apply sp4 | apply sp5 | apply sp6 | apply sp7) <;> intro hb) <;> (simp only [go_sem, hb, hty])) | ((first | apply wm_done | apply wt_done | apply wg_run | refine fk ?_ ?_) <;> (simp only [go_sem, hty])))
      first
        | refine wd_for [3, 14, 15, 16] (fun (x : Nat × List Tm) => [.one (match x.2 with | [] => .sc (.slice none 0 0) | a :: l => .row 9 0 (l.length + 1)), .one (.sl (teR t.kids)), .one (.sc (.int .i64 t.kids.length)), .one (.sc (.int .i64 (x.1 : Nat)))])
            (fun x => match x.2 with | [] => [] | a :: l => [⟨9, 28, .mut, teR (a :: l)⟩])
            (fun x => x.1 ≤ t.kids.length ∧ x.2 = ownCast t ++ Tm.castsLs (t.kids.take x.1)) (fun x => t.kids.length - x.1) (0, []) ⟨Nat.zero_le _, by rw [e0]; rfl⟩ (hat [] (hI := ⟨rfl, rfl⟩)) ?_
        | refine wd_for [3, 14, 15, 16] (fun (x : Nat × List Tm) => [.one (match x.2 with | [] => .sc (.slice none 0 0) | a :: l => .row 9 0 (l.length + 1)), .one (.sl (teR t.kids)), .one (.sc (.int .i64 t.kids.length)), .one (.sc (.int .i64 (x.1 : Nat)))])
            (fun x => match x.2 with | [] => [] | a :: l => [⟨9, 28, .mut, teR (a :: l)⟩])
            (fun x => x.1 ≤ t.kids.length ∧ x.2 = ownCast t ++ Tm.castsLs (t.kids.take x.1)) (fun x => t.kids.length - x.1) (0, [t]) ⟨Nat.zero_le _, by rw [e0]; rfl⟩ (hat [2] (hI := ⟨rfl, rfl⟩)) ?_
      rintro ⟨k, acc⟩ ⟨hk, hacc⟩ G hG
      simp only [] at hk hacc hG
      have hal : acc.length ≤ 1 + Tm.nodess t.kids := by
        have := ownCast_len t; have := Tm.castsLs_take_len t.kids k
        rw [hacc, List.length_append]; omega
      rcases acc with _ | ⟨a, acc⟩
      all_goals
        refine wg_run ?_
        (simp only [go_sem])
        ((first | apply sp1 | apply sp2 | apply sp3 | apply sp4 | apply sp5 | apply sp6 | apply sp7) <;> intro hb) <;> (simp only [go_sem, hb])
        · have hk1 : k < t.kids.length := by have := of_decide_eq_true hb; omega
          have hw1 := wrap_succ hk1 (by omega)
          have hc := ih (by omega) (teKid t.kids k) (by have := teKid_lt hk1; omega)
          have hkl := Tm.castsL_len (teKid t.kids k)
          have hkn := Tm.nodess_le_take t.kids (k + 1)
          rw [Tm.nodess_take hk1] at hkn
          have hnx : ownCast t ++ Tm.castsLs (t.kids.take (k + 1)) = ownCast t ++ Tm.castsLs (t.kids.take k) ++ (teKid t.kids k).castsL := by rw [Tm.castsLs_take hk1, List.append_assoc]
          rw [← hacc] at hnx
          cases hkt : (teKid t.kids k).castsL with
          | nil =>
            rw [hkt] at hc hnx
            repeat' (first | (first | (simp only [go_sem, hw1, hb]) | (((first | apply sp1 | apply sp2 | apply sp3 | apply sp4 | apply sp5 | apply sp6 | apply sp7) <;> intro hb) <;> (simp only [go_sem, hb, hw1, hb])) | ((first | apply wm_done | apply wt_done | apply wg_run | refine fk ?_ ?_) <;> (simp only [go_sem, hw1, hb]))) | (first | refine cdq ?_ (hc := hc) | refine cmq ?_ (hc := hc) | refine ctq ?_ (hc := hc)); (simp only [go_sem]))
            rw [List.append_nil] at hnx
            first
              | exact hG (k + 1, []) _ _ ⟨by omega, hnx.symm⟩ (by simp only []; omega) (hat [] (hI := ⟨rfl, rfl⟩))
              | exact hG (k + 1, a :: acc) _ _ ⟨by omega, hnx.symm⟩ (by simp only []; omega) (hat [0] (hI := ⟨rfl, rfl⟩))
          | cons b m =>
            rw [hkt] at hc hnx hkl
            simp only [List.length_cons] at hkl hal
            have hcap1 : (m.length + 1) * 128 ≤ 140737488355328 := by omega
            first
              | (have hcap2 : (acc.length + 1 + (m.length + 1)) * 128 ≤ 140737488355328 := by omega
                 repeat' (first | (first | (simp only [go_sem, hw1, hb, hcap1, hcap2]) | (((first | apply sp1 | apply sp2 | apply sp3 | apply sp4 | apply sp5 | apply sp6 | apply sp7) <;> intro hb) <;> (simp only [go_sem, hb, hw1, hb, hcap1, hcap2])) | ((first | apply wm_done | apply wt_done | apply wg_run | refine fk ?_ ?_) <;> (simp only [go_sem, hw1, hb, hcap1, hcap2]))) | (first | refine cdq ?_ (hc := hc) | refine cmq ?_ (hc := hc) | refine ctq ?_ (hc := hc)); (simp only [go_sem]))
                 refine hG (k + 1, a :: acc ++ b :: m) _ _ ⟨by omega, hnx.symm⟩ (by simp only []; omega) (hat [2] (hI := ⟨?_, ?_⟩))
                 · simp only [List.cons_append, List.length_append, List.length_cons]
                   rw [show acc.length + 1 + (m.length + 1) = acc.length + (m.length + 1) + 1 by omega]
                 · simp only [List.cons_append, teR, teR_append])
              | (repeat' (first | (first | (simp only [go_sem, hw1, hb, hcap1]) | (((first | apply sp1 | apply sp2 | apply sp3 | apply sp4 | apply sp5 | apply sp6 | apply sp7) <;> intro hb) <;> (simp only [go_sem, hb, hw1, hb, hcap1])) | ((first | apply wm_done | apply wt_done | apply wg_run | refine fk ?_ ?_) <;> (simp only [go_sem, hw1, hb, hcap1]))) | (first | refine cdq ?_ (hc := hc) | refine cmq ?_ (hc := hc) | refine ctq ?_ (hc := hc)); (simp only [go_sem]))
                 refine hG (k + 1, b :: m) _ _ ⟨by omega, hnx.symm⟩ (by simp only []; omega) (hat [1] (hI := ⟨rfl, rfl⟩)))
        · have hk1 : t.kids.take k = t.kids := List.take_of_length_le (by have := of_decide_eq_false hb; omega)
          rw [hk1, ← Tm.castsL_eq] at hacc
          (refine hR _ (rat [] (hK := ⟨?_, rfl⟩)))
          rw [← hacc]; rfl

end Go.Proofs.Ytnaebafafhamjaa
