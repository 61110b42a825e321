/- Texts of the proof, one behind another. -/
import Derived.Test.YtbiobfbonpiiiaaK12
import Derived.Test.YtbiobfbonpiiiaaK13
set_option linter.unusedSimpArgs false
set_option linter.unusedVariables false
/- Law: identities are neutral. On shadows. -/
namespace Go.Proofs.Grad
theorem Co.typedV_some {c : Co} {t u : Ty} (h : c.typedV t u = true) : ∃ (k : K) (x y : T), c = k.co ∧ t = x.ty ∧ u = y.ty ∧ k.ok = true ∧ x.depth ≤ 4 ∧ y.depth ≤ 4 ∧ k.typed x y = true := by
  unfold Co.typedV at h
  cases e1 : c.k? with
  | none => rw [e1] at h; cases h
  | some k =>
    cases e2 : t.t? with
    | none => rw [e1, e2] at h; cases h
    | some x =>
      cases e3 : u.t? with
      | none => rw [e1, e2, e3] at h; cases h
      | some y =>
        rw [e1, e2, e3] at h
        exact ⟨k, x, y, (Co.k?_some e1).1, (Ty.t?_some e2).1, (Ty.t?_some e3).1, (Co.k?_some e1).2, (Ty.t?_some e2).2, (Ty.t?_some e3).2, h⟩
theorem T.idK_ok {x : T} (h : x.depth ≤ 4) : x.idK.ok = true := by
  have := T.idK_ident x
  simp only [K.ok, this.2.1, this.2.2.1, Bool.true_and, decide_eq_true_eq]; omega
theorem T.castV_self {x : T} (h : x.depth ≤ 4) : x.ty.castV x.ty 1 = some x.idK := by
  simp [Ty.castV, Ty.t?_ty h, T.cons_refl, T.cast_self, lab]
theorem K.neutralL {k m : K} {x y : T} (hk : k.ok = true) (ht : k.typed x y = true) (h : x.idK.co.compV k.co = some m) : m = k := by
  obtain ⟨a, b, e1, e2, _, _, h, _⟩ := Co.compV_some h
  cases K.co_inj _ _ e1; cases K.co_inj _ _ e2
  simp only [K.ok, Bool.and_eq_true] at hk
  exact (K.idK_neutral _ k (Nat.lt_succ_self _) hk.1).1 m x y ht h
theorem K.neutralR {k m : K} {x y : T} (hk : k.ok = true) (ht : k.typed x y = true) (h : k.co.compV y.idK.co = some m) : m = k := by
  obtain ⟨a, b, e1, e2, _, _, h, _⟩ := Co.compV_some h
  cases K.co_inj _ _ e1; cases K.co_inj _ _ e2
  simp only [K.ok, Bool.and_eq_true] at hk
  exact (K.idK_neutral _ k (Nat.lt_succ_self _) hk.1).2 m x y ht h
end Go.Proofs.Grad
namespace Go.Proofs.Ytbiobfbonpiiiaa
open Go.RowKit Go.Proofs.Sh Go.Proofs.Grad
set_option maxRecDepth 100000
set_option maxHeartbeats 8000000
theorem lIdent (l : List Int) (hc : ∀ k, 0 ≤ byte l k ∧ byte l k < 256) : AFn Try.prog 8 [.one (.sl (byR l))] (.one (.sc (.bool true))) := by
  by_cases hlen : 1048576 < l.length
  · have hg : decide (((l.length : Nat) : Int) > 1048576) = true := by simp; omega
    refine fn_in ?_; refine acl_in Try.func8 rfl isfn_8 (Nat.le_of_ble_eq_true rfl) (fun R hR => ?_); rw [Try.results8] at hR; refine wg_run ?_; (simp only [Try.f8, go_sem, hg])
    (refine hR _ (ret_at [] (by (simp only [go_sem]); first | done | rfl) (by (simp only [go_sem]); first | done | rfl) ⟨rfl, rfl⟩))
  · have hg : decide (((l.length : Nat) : Int) > 1048576) = false := by simp; omega
    have hd := dTyped l ⟨by omega, hc⟩
    refine fn_in ?_; refine acl_in Try.func8 rfl isfn_8 (Nat.le_of_ble_eq_true rfl) (fun R hR => ?_); rw [Try.results8] at hR; refine wg_run ?_; (simp only [Try.f8, go_sem, hg])
    ((first | refine wd_cl [] (by (simp only [go_sem]); first | done | rfl) (hd) ?_ | refine wm_cl [] (by (simp only [go_sem]); first | done | rfl) (hd) (by (simp only [go_sem]); first | done | rfl) (by (simp only [go_sem]); first | done | rfl) ?_ | refine wt_cl [] (by (simp only [go_sem]); first | done | rfl) (hd) (by (simp only [go_sem]); first | done | rfl) (by (simp only [go_sem]); first | done | rfl) ?_); rintro _ _ ⟨c, t, u, rfl, hcs, hts, hus, rfl⟩ <;> (simp only [go_sem]))
    have i1 := iTyped c t u
    have i2 := sTypedV c t u (by omega)
    cases et : c.typedV t u with
    | false =>
      rw [et] at i1 i2
      repeat' (first | (first | ((first | refine wd_split _ (fun hb => ?_) (fun hb => ?_) | refine wd_nwant _ (fun hb => ?_) (fun hb => ?_) | refine wm_nwant _ (fun hb => ?_) (fun hb => ?_) | refine wd_want _ (fun hb => ?_) (fun hb => ?_) | refine wm_want _ (fun hb => ?_) (fun hb => ?_) | refine wt_nwant _ (fun hb => ?_) (fun hb => ?_) | refine wt_want _ (fun hb => ?_) (fun hb => ?_)) <;> (simp only [go_sem, hb])) | (refine wm_done ?_; (simp only [go_sem])) | (refine wt_done ?_; (simp only [go_sem])) | (refine wg_run ?_; (simp only [go_sem])) | (refine wt_fork (by (simp only [go_sem]); first | done | rfl) ?_ ?_ <;> (simp only [go_sem]))) | (first | refine wd_fn (by (simp only [go_sem]); first | done | rfl) (i1) ?_ | refine wm_fn (by (simp only [go_sem]); first | done | rfl) (i1) (by (simp only [go_sem]); first | done | rfl) (by (simp only [go_sem]); first | done | rfl) ?_ | refine wt_fn (by (simp only [go_sem]); first | done | rfl) (i1) (by (simp only [go_sem]); first | done | rfl) (by (simp only [go_sem]); first | done | rfl) ?_); (simp only [go_sem]) | (first | refine wd_fn (by (simp only [go_sem]); first | done | rfl) (i2) ?_ | refine wm_fn (by (simp only [go_sem]); first | done | rfl) (i2) (by (simp only [go_sem]); first | done | rfl) (by (simp only [go_sem]); first | done | rfl) ?_ | refine wt_fn (by (simp only [go_sem]); first | done | rfl) (i2) (by (simp only [go_sem]); first | done | rfl) (by (simp only [go_sem]); first | done | rfl) ?_); (simp only [go_sem]) | ((first | refine wd_mix 6 [] follows (by decide +kernel) (by (simp only [go_sem]); first | done | rfl) ?_ | refine wd_mix 5 [] follows (by decide +kernel) (by (simp only [go_sem]); first | done | rfl) ?_ | refine wd_mix 4 [] follows (by decide +kernel) (by (simp only [go_sem]); first | done | rfl) ?_ | refine wd_mix 3 [] follows (by decide +kernel) (by (simp only [go_sem]); first | done | rfl) ?_ | refine wd_mix 2 [] follows (by decide +kernel) (by (simp only [go_sem]); first | done | rfl) ?_ | refine wd_mix 1 [] follows (by decide +kernel) (by (simp only [go_sem]); first | done | rfl) ?_ | refine wd_mix 0 [] follows (by decide +kernel) (by (simp only [go_sem]); first | done | rfl) ?_ | fail); (simp only [go_sem])))
      all_goals (refine hR _ (ret_at [] (by (simp only [go_sem]); first | done | rfl) (by (simp only [go_sem]); first | done | rfl) ⟨rfl, rfl⟩))
    | true =>
      rw [et] at i1 i2
      obtain ⟨k, x, y, rfl, rfl, rfl, hk, hx, hy, ht⟩ := Co.typedV_some et
      have c1 := iCoerceOf x.ty x.ty 1
      have c2 := iCoerceOf y.ty y.ty 1
      rw [T.castV_self hx] at c1
      rw [T.castV_self hy] at c2
      simp only [K.coO, Option.isSome_some] at c1 c2
      have c3 := iComp x.idK.co k.co
      have c4 := iComp k.co y.idK.co
      have c5 := iIdent x.idK.co (by rw [K.co_size]; have h := T.idK_ok hx; simp only [K.ok, Bool.and_eq_true, decide_eq_true_eq] at h; have := K.size_depth _ 9 h.2; omega)
      rw [show x.idK.co.ident = true by simp [Co.ident, K.k?_co (T.idK_ok hx), (T.idK_ident x).1]] at c5
      have n1 : (x.idK.co.compV k.co).isSome = true → AFn Try.prog 16 [.agg (coC (K.coO (x.idK.co.compV k.co))), .agg (coC k.co)] (.one (.sc (.bool true))) := by
        intro h
        obtain ⟨m, h⟩ := Option.isSome_iff_exists.1 h
        rw [h]
        rw [K.neutralL hk ht h]
        exact iSameR k.co (by omega)
      have n2 : (k.co.compV y.idK.co).isSome = true → AFn Try.prog 16 [.agg (coC (K.coO (k.co.compV y.idK.co))), .agg (coC k.co)] (.one (.sc (.bool true))) := by
        intro h
        obtain ⟨m, h⟩ := Option.isSome_iff_exists.1 h
        rw [h]
        rw [K.neutralR hk ht h]
        exact iSameR k.co (by omega)
      generalize K.coO (x.idK.co.compV k.co) = v at *
      generalize (x.idK.co.compV k.co).isSome = bv at *
      generalize K.coO (k.co.compV y.idK.co) = w at *
      generalize (k.co.compV y.idK.co).isSome = bw at *
      cases bv <;> cases bw <;> simp only [Bool.false_eq_true, false_implies, forall_const] at n1 n2
      all_goals
        repeat' (first | (first | ((first | refine wd_split _ (fun hb => ?_) (fun hb => ?_) | refine wd_nwant _ (fun hb => ?_) (fun hb => ?_) | refine wm_nwant _ (fun hb => ?_) (fun hb => ?_) | refine wd_want _ (fun hb => ?_) (fun hb => ?_) | refine wm_want _ (fun hb => ?_) (fun hb => ?_) | refine wt_nwant _ (fun hb => ?_) (fun hb => ?_) | refine wt_want _ (fun hb => ?_) (fun hb => ?_)) <;> (simp only [go_sem, hb])) | (refine wm_done ?_; (simp only [go_sem])) | (refine wt_done ?_; (simp only [go_sem])) | (refine wg_run ?_; (simp only [go_sem])) | (refine wt_fork (by (simp only [go_sem]); first | done | rfl) ?_ ?_ <;> (simp only [go_sem]))) | (first | refine wd_fn (by (simp only [go_sem]); first | done | rfl) (i1) ?_ | refine wm_fn (by (simp only [go_sem]); first | done | rfl) (i1) (by (simp only [go_sem]); first | done | rfl) (by (simp only [go_sem]); first | done | rfl) ?_ | refine wt_fn (by (simp only [go_sem]); first | done | rfl) (i1) (by (simp only [go_sem]); first | done | rfl) (by (simp only [go_sem]); first | done | rfl) ?_); (simp only [go_sem]) | (first | refine wd_fn (by (simp only [go_sem]); first | done | rfl) (i2) ?_ | refine wm_fn (by (simp only [go_sem]); first | done | rfl) (i2) (by (simp only [go_sem]); first | done | rfl) (by (simp only [go_sem]); first | done | rfl) ?_ | refine wt_fn (by (simp only [go_sem]); first | done | rfl) (i2) (by (simp only [go_sem]); first | done | rfl) (by (simp only [go_sem]); first | done | rfl) ?_); (simp only [go_sem]) | (first | refine wd_fn (by (simp only [go_sem]); first | done | rfl) (c1) ?_ | refine wm_fn (by (simp only [go_sem]); first | done | rfl) (c1) (by (simp only [go_sem]); first | done | rfl) (by (simp only [go_sem]); first | done | rfl) ?_ | refine wt_fn (by (simp only [go_sem]); first | done | rfl) (c1) (by (simp only [go_sem]); first | done | rfl) (by (simp only [go_sem]); first | done | rfl) ?_); (simp only [go_sem]) | (first | refine wd_fn (by (simp only [go_sem]); first | done | rfl) (c2) ?_ | refine wm_fn (by (simp only [go_sem]); first | done | rfl) (c2) (by (simp only [go_sem]); first | done | rfl) (by (simp only [go_sem]); first | done | rfl) ?_ | refine wt_fn (by (simp only [go_sem]); first | done | rfl) (c2) (by (simp only [go_sem]); first | done | rfl) (by (simp only [go_sem]); first | done | rfl) ?_); (simp only [go_sem]) | (first | refine wd_fn (by (simp only [go_sem]); first | done | rfl) (c3) ?_ | refine wm_fn (by (simp only [go_sem]); first | done | rfl) (c3) (by (simp only [go_sem]); first | done | rfl) (by (simp only [go_sem]); first | done | rfl) ?_ | refine wt_fn (by (simp only [go_sem]); first | done | rfl) (c3) (by (simp only [go_sem]); first | done | rfl) (by (simp only [go_sem]); first | done | rfl) ?_); (simp only [go_sem]) | (first | refine wd_fn (by (simp only [go_sem]); first | done | rfl) (c4) ?_ | refine wm_fn (by (simp only [go_sem]); first | done | rfl) (c4) (by (simp only [go_sem]); first | done | rfl) (by (simp only [go_sem]); first | done | rfl) ?_ | refine wt_fn (by (simp only [go_sem]); first | done | rfl) (c4) (by (simp only [go_sem]); first | done | rfl) (by (simp only [go_sem]); first | done | rfl) ?_); (simp only [go_sem]) | (first | refine wd_fn (by (simp only [go_sem]); first | done | rfl) (c5) ?_ | refine wm_fn (by (simp only [go_sem]); first | done | rfl) (c5) (by (simp only [go_sem]); first | done | rfl) (by (simp only [go_sem]); first | done | rfl) ?_ | refine wt_fn (by (simp only [go_sem]); first | done | rfl) (c5) (by (simp only [go_sem]); first | done | rfl) (by (simp only [go_sem]); first | done | rfl) ?_); (simp only [go_sem]) | (first | refine wd_fn (by (simp only [go_sem]); first | done | rfl) (n1) ?_ | refine wm_fn (by (simp only [go_sem]); first | done | rfl) (n1) (by (simp only [go_sem]); first | done | rfl) (by (simp only [go_sem]); first | done | rfl) ?_ | refine wt_fn (by (simp only [go_sem]); first | done | rfl) (n1) (by (simp only [go_sem]); first | done | rfl) (by (simp only [go_sem]); first | done | rfl) ?_); (simp only [go_sem]) | (first | refine wd_fn (by (simp only [go_sem]); first | done | rfl) (n2) ?_ | refine wm_fn (by (simp only [go_sem]); first | done | rfl) (n2) (by (simp only [go_sem]); first | done | rfl) (by (simp only [go_sem]); first | done | rfl) ?_ | refine wt_fn (by (simp only [go_sem]); first | done | rfl) (n2) (by (simp only [go_sem]); first | done | rfl) (by (simp only [go_sem]); first | done | rfl) ?_); (simp only [go_sem]) | ((first | refine wd_mix 6 [] follows (by decide +kernel) (by (simp only [go_sem]); first | done | rfl) ?_ | refine wd_mix 5 [] follows (by decide +kernel) (by (simp only [go_sem]); first | done | rfl) ?_ | refine wd_mix 4 [] follows (by decide +kernel) (by (simp only [go_sem]); first | done | rfl) ?_ | refine wd_mix 3 [] follows (by decide +kernel) (by (simp only [go_sem]); first | done | rfl) ?_ | refine wd_mix 2 [] follows (by decide +kernel) (by (simp only [go_sem]); first | done | rfl) ?_ | refine wd_mix 1 [] follows (by decide +kernel) (by (simp only [go_sem]); first | done | rfl) ?_ | refine wd_mix 0 [] follows (by decide +kernel) (by (simp only [go_sem]); first | done | rfl) ?_ | fail); (simp only [go_sem])))
      all_goals (refine hR _ (ret_at [] (by (simp only [go_sem]); first | done | rfl) (by (simp only [go_sem]); first | done | rfl) ⟨rfl, rfl⟩))
end Go.Proofs.Ytbiobfbonpiiiaa
