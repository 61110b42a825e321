/- Texts of the proof, one behind another. -/
import Derived.Test.YtjmicohbnpbemaaGreatKE13
import Derived.Test.YtjmicohbnpbemaaGreatKE19
set_option linter.unusedSimpArgs false
set_option linter.unusedVariables false
/- Insertion of casts, in the reference. On shadows. -/
namespace Go.Proofs.Grad
theorem T.mfn_fn {s p q : T} (h : s.mfn = some (p, q)) (hs : s.depth ≤ 4) : (T.fn p q).depth ≤ 4 := by
  cases s <;> simp only [T.mfn, Option.some.injEq, Prod.mk.injEq, reduceCtorEq] at h
  · obtain ⟨rfl, rfl⟩ := h; decide
  · obtain ⟨rfl, rfl⟩ := h; exact hs
theorem T.mpr_pr {s p q : T} (h : s.mpr = some (p, q)) (hs : s.depth ≤ 4) : (T.pr p q).depth ≤ 4 := by
  cases s <;> simp only [T.mpr, Option.some.injEq, Prod.mk.injEq, reduceCtorEq] at h
  · obtain ⟨rfl, rfl⟩ := h; decide
  · obtain ⟨rfl, rfl⟩ := h; exact hs
theorem r_app {a b : E} {Γ : Ctx} {t : T} (h : (E.app a b).rty Γ = some t) : ∃ s u p q, a.rty Γ = some s ∧ b.rty Γ = some u ∧ s.mfn = some (p, q) := by
  simp only [E.rty] at h
  split at h
  · rename_i s es
    split at h
    · rename_i u eu
      unfold rApp at h
      split at h
      · rename_i p q em; exact ⟨s, u, p, q, es, eu, em⟩
      · cases h
    · cases h
  · cases h
theorem r_two {a b : E} {Γ : Ctx} {t : T} {f : T → T → Option T} (h : (match a.rty Γ with | some s => (match b.rty Γ with | some u => f s u | none => none) | none => none) = some t) : ∃ s u, a.rty Γ = some s ∧ b.rty Γ = some u := by
  split at h
  · rename_i s es
    split at h
    · rename_i u eu; exact ⟨s, u, es, eu⟩
    · cases h
  · cases h
theorem r_ite {a b c : E} {Γ : Ctx} {t : T} (h : (E.ite a b c).rty Γ = some t) : ∃ s u w, a.rty Γ = some s ∧ b.rty Γ = some u ∧ c.rty Γ = some w := by
  simp only [E.rty] at h
  split at h
  · rename_i s es
    split at h
    · rename_i u eu
      split at h
      · rename_i w ew; exact ⟨s, u, w, es, eu, ew⟩
      · cases h
    · cases h
  · cases h
theorem r_fst {a : E} {Γ : Ctx} {t : T} (h : (E.fst a).rty Γ = some t) : ∃ s p q, a.rty Γ = some s ∧ s.mpr = some (p, q) := by
  simp only [E.rty] at h
  split at h
  · rename_i s es
    unfold rFst at h
    split at h
    · rename_i p q em; exact ⟨s, p, q, es, em⟩
    · cases h
  · cases h
theorem r_snd {a : E} {Γ : Ctx} {t : T} (h : (E.snd a).rty Γ = some t) : ∃ s p q, a.rty Γ = some s ∧ s.mpr = some (p, q) := by
  simp only [E.rty] at h
  split at h
  · rename_i s es
    unfold rSnd at h
    split at h
    · rename_i p q em; exact ⟨s, p, q, es, em⟩
    · cases h
  · cases h
theorem r_asc {a : E} {Γ : Ctx} {t u : T} (h : (E.asc u a).rty Γ = some t) : ∃ s, a.rty Γ = some s := by
  simp only [E.rty] at h
  split at h
  · rename_i s es; exact ⟨s, es⟩
  · cases h
theorem r_lam {x : UInt8} {a : E} {Γ : Ctx} {t u : T} (h : (E.lam x u a).rty Γ = some t) : ∃ s, a.rty (Γ ++ [(x, u)]) = some s := by
  simp only [E.rty] at h
  split at h
  · rename_i s es; exact ⟨s, es⟩
  · cases h
end Go.Proofs.Grad
namespace Go.Proofs.YtjmicohbnpbemaaGreat
open Go.RowKit Go.Proofs.Sh Go.Proofs.Grad
set_option maxRecDepth 100000
set_option maxHeartbeats 16000000
/-- a term with casts put in, not too large, its type, and the next label -/
def InsR (e : E) (t : T) (n : Int) (r : AV) (H' : List Blk) : Prop := ∃ (x : Tm) (m : Int), r = .tup [.agg (teC x), .agg (tyC t.ty), .one (.sc (.int .i64 m))] ∧ x.size ≤ 120 * e.nodes ∧ n ≤ m ∧ m ≤ n + 3 * e.nodes ∧ H' = []
theorem tyFn {Γ : Ctx} {e : E} {t : T} {f : FuncId} {args : List AV} (h : ACl Tryz.prog f args [] (TyR (e.rty Γ))) (ht : e.rty Γ = some t) : AFn Tryz.prog f args (.tup [.agg (tyC t.ty), .one (.sc (.bool true))]) := by
  refine fn_in (h.mono fun r H' h => ?_)
  rcases h with ⟨v, ev, rfl, rfl⟩ | ⟨ev, _⟩
  · rw [ht] at ev; cases ev; exact ⟨rfl, rfl⟩
  · rw [ht] at ev; cases ev
theorem sIns6 (a : E) (b : E) (iha : ∀ (Γ : Ctx) (n : Int) (t : T), a.wf = true → a.noC = true → ctxOk Γ → Γ.length + a.tm.size < 40000 → a.rty Γ = some t → 0 ≤ n → n + 3 * a.nodes ≤ 1000000000 → ACl Tryz.prog 131 [.one (.sl (bdR Γ)), .agg (teC a.tm), .one (.sc (.int .i64 n))] [] (InsR a t n)) (ihb : ∀ (Γ : Ctx) (n : Int) (t : T), b.wf = true → b.noC = true → ctxOk Γ → Γ.length + b.tm.size < 40000 → b.rty Γ = some t → 0 ≤ n → n + 3 * b.nodes ≤ 1000000000 → ACl Tryz.prog 131 [.one (.sl (bdR Γ)), .agg (teC b.tm), .one (.sc (.int .i64 n))] [] (InsR b t n)) :
    ∀ (Γ : Ctx) (n : Int) (t : T), (E.app a b).wf = true → (E.app a b).noC = true → ctxOk Γ → Γ.length + (E.app a b).tm.size < 40000 → (E.app a b).rty Γ = some t → 0 ≤ n → n + 3 * (E.app a b).nodes ≤ 1000000000 → ACl Tryz.prog 131 [.one (.sl (bdR Γ)), .agg (teC (E.app a b).tm), .one (.sc (.int .i64 n))] [] (InsR (E.app a b) t n) := by
  intro Γ n t hw hn hc hl ht hlo hhi
  have hnd := E.nodes_tm (E.app a b)
  have hT := tyFn (l3Type (E.app a b) Γ hw hn hc (by omega)) ht
  have hcp := l2Copy 274877906944 (by omega) (E.app a b).tm (by omega)
  have htd := E.rty_depth (E.app a b) Γ t hw hc ht
  obtain ⟨s, u, p, q, es, eu, em⟩ := r_app ht
  simp only [E.wf, Bool.and_eq_true] at hw
  simp only [E.noC, Bool.and_eq_true] at hn
  simp only [E.tm, nd, Tm.size, Tm.sizes] at hl
  simp only [E.nodes] at hhi
  have ds := E.rty_depth a Γ s hw.1 hc es
  have du := E.rty_depth b Γ u hw.2 hc eu
  simp only [E.tm, nd] at hT hcp ⊢
  refine acl_in Tryz.func131 rfl isfn_131 (Nat.le_of_ble_eq_true rfl) (fun R hR => ?_); rw [Tryz.results131] at hR; refine wg_run ?_; (simp only [Tryz.f131, go_sem])
  have h1 := iha Γ n s hw.1 hn.1 hc (by omega) es (by omega) (by omega)
  repeat' (first | (first | (((first | apply sp1 | apply sp2 | apply sp3 | apply sp4 | apply sp5 | apply sp6 | apply sp7) <;> intro hb) <;> (simp only [go_sem, hb])) | ((first | apply wm_done | apply wt_done | apply wg_run | refine fk ?_ ?_) <;> (simp only [go_sem]))) | (first | refine cdq ?_ (hc := hT) | refine cmq ?_ (hc := hT) | refine ctq ?_ (hc := hT)); (simp only [go_sem]) | (first | refine cdq ?_ (hc := hcp) | refine cmq ?_ (hc := hcp) | refine ctq ?_ (hc := hcp)); (simp only [go_sem]) | (first | (refine wl_next (wg_run ?_); (simp only [go_sem])) | refine wd_rounds 6 ?_) | (first | (refine tr (.op 0 false (.op 1 false (.op 2 false (.op 3 false (.op 4 false (.op 5 false (.op 6 false (.op 7 true (.op 8 false .nil))))))))) [1, 2] follows ?_; (simp only [go_sem])) | (refine tr (.op 0 false (.op 1 false (.op 2 false (.op 3 false (.op 4 true (.op 5 false .nil)))))) [1, 2] follows ?_; (simp only [go_sem])) | fail) | ((first | refine mxq6 [] ?_ | refine mxq5 [] ?_ | refine mxq4 [] ?_ | refine mxq3 [] ?_ | refine mxq2 [] ?_ | refine mxq1 [] ?_ | refine mxq0 [] ?_ | fail); (simp only [go_sem])) | ((first | refine kdq [] ?_ (hc := h1) | refine kmq [] ?_ (hc := h1) | refine ktq [] ?_ (hc := h1)); rintro _ _ ⟨x1, m1, rfl, hx1, hl1, hu1, rfl⟩ <;> (simp only [go_sem])) | fail)
  have h2 := ihb Γ m1 u hw.2 hn.2 hc (by omega) eu (by omega) (by omega)
  repeat' (first | (first | (((first | apply sp1 | apply sp2 | apply sp3 | apply sp4 | apply sp5 | apply sp6 | apply sp7) <;> intro hb) <;> (simp only [go_sem, hb])) | ((first | apply wm_done | apply wt_done | apply wg_run | refine fk ?_ ?_) <;> (simp only [go_sem]))) | (first | refine cdq ?_ (hc := hT) | refine cmq ?_ (hc := hT) | refine ctq ?_ (hc := hT)); (simp only [go_sem]) | (first | refine cdq ?_ (hc := hcp) | refine cmq ?_ (hc := hcp) | refine ctq ?_ (hc := hcp)); (simp only [go_sem]) | (first | (refine wl_next (wg_run ?_); (simp only [go_sem])) | refine wd_rounds 6 ?_) | (first | (refine tr (.op 0 false (.op 1 false (.op 2 false (.op 3 false (.op 4 false (.op 5 false (.op 6 false (.op 7 true (.op 8 false .nil))))))))) [1, 2] follows ?_; (simp only [go_sem])) | (refine tr (.op 0 false (.op 1 false (.op 2 false (.op 3 false (.op 4 true (.op 5 false .nil)))))) [1, 2] follows ?_; (simp only [go_sem])) | fail) | ((first | refine mxq6 [] ?_ | refine mxq5 [] ?_ | refine mxq4 [] ?_ | refine mxq3 [] ?_ | refine mxq2 [] ?_ | refine mxq1 [] ?_ | refine mxq0 [] ?_ | fail); (simp only [go_sem])) | ((first | refine kdq [] ?_ (hc := h2) | refine kmq [] ?_ (hc := h2) | refine ktq [] ?_ (hc := h2)); rintro _ _ ⟨x2, m2, rfl, hx2, hl2, hu2, rfl⟩ <;> (simp only [go_sem])) | fail)
  have hw0 := want6 (Tm.mk 6 ByteArray.empty 0 noTy noTy 0 [a.tm, b.tm]) rfl s u t p q em ds
  have g1 := l4Cast x1 s (T.fn p q) ds (T.mfn_fn em ds) m2 (by omega) (by omega)
  have z1 := casT_size x1 ds (t := (T.fn p q)) (T.mfn_fn em ds) m2
  generalize hq1 : casT x1 s (T.fn p q) m2 = c1 at g1 z1
  have g2 := l4Cast x2 u p du (T.mfn_depth em ds).1 c1.2 (by omega) (by omega)
  have z2 := casT_size x2 du (t := p) (T.mfn_depth em ds).1 c1.2
  generalize hq2 : casT x2 u p c1.2 = c2 at g2 z2
  repeat' (first | (first | (((first | apply sp1 | apply sp2 | apply sp3 | apply sp4 | apply sp5 | apply sp6 | apply sp7) <;> intro hb) <;> (simp only [go_sem, hb])) | ((first | apply wm_done | apply wt_done | apply wg_run | refine fk ?_ ?_) <;> (simp only [go_sem]))) | (first | refine cdq ?_ (hc := hT) | refine cmq ?_ (hc := hT) | refine ctq ?_ (hc := hT)); (simp only [go_sem]) | (first | refine cdq ?_ (hc := hcp) | refine cmq ?_ (hc := hcp) | refine ctq ?_ (hc := hcp)); (simp only [go_sem]) | (first | (refine wl_next (wg_run ?_); (simp only [go_sem])) | refine wd_rounds 6 ?_) | (first | (refine tr (.op 0 false (.op 1 false (.op 2 false (.op 3 false (.op 4 false (.op 5 false (.op 6 false (.op 7 true (.op 8 false .nil))))))))) [1, 2] follows ?_; (simp only [go_sem])) | (refine tr (.op 0 false (.op 1 false (.op 2 false (.op 3 false (.op 4 true (.op 5 false .nil)))))) [1, 2] follows ?_; (simp only [go_sem])) | fail) | ((first | refine mxq6 [] ?_ | refine mxq5 [] ?_ | refine mxq4 [] ?_ | refine mxq3 [] ?_ | refine mxq2 [] ?_ | refine mxq1 [] ?_ | refine mxq0 [] ?_ | fail); (simp only [go_sem])) | (first | refine cdq ?_ (hc := hw0) | refine cmq ?_ (hc := hw0) | refine ctq ?_ (hc := hw0)); (simp only [go_sem]) | (first | refine cdq ?_ (hc := g1) | refine cmq ?_ (hc := g1) | refine ctq ?_ (hc := g1)); (simp only [go_sem]) | (first | refine cdq ?_ (hc := g2) | refine cmq ?_ (hc := g2) | refine ctq ?_ (hc := g2)); (simp only [go_sem]) | fail)
  exact hR _ (rat [] (hK := ⟨(Tm.mk 6 ByteArray.empty 0 noTy noTy 0 [c1.1, c2.1]), c2.2, rfl, by simp only [Tm.size, Tm.sizes, noTy, Ty.size, Ty.sizes, E.nodes]; omega, by omega, by simp only [E.nodes]; omega, rfl⟩))
theorem sIns7 (a : E) (b : E) (iha : ∀ (Γ : Ctx) (n : Int) (t : T), a.wf = true → a.noC = true → ctxOk Γ → Γ.length + a.tm.size < 40000 → a.rty Γ = some t → 0 ≤ n → n + 3 * a.nodes ≤ 1000000000 → ACl Tryz.prog 131 [.one (.sl (bdR Γ)), .agg (teC a.tm), .one (.sc (.int .i64 n))] [] (InsR a t n)) (ihb : ∀ (Γ : Ctx) (n : Int) (t : T), b.wf = true → b.noC = true → ctxOk Γ → Γ.length + b.tm.size < 40000 → b.rty Γ = some t → 0 ≤ n → n + 3 * b.nodes ≤ 1000000000 → ACl Tryz.prog 131 [.one (.sl (bdR Γ)), .agg (teC b.tm), .one (.sc (.int .i64 n))] [] (InsR b t n)) :
    ∀ (Γ : Ctx) (n : Int) (t : T), (E.add a b).wf = true → (E.add a b).noC = true → ctxOk Γ → Γ.length + (E.add a b).tm.size < 40000 → (E.add a b).rty Γ = some t → 0 ≤ n → n + 3 * (E.add a b).nodes ≤ 1000000000 → ACl Tryz.prog 131 [.one (.sl (bdR Γ)), .agg (teC (E.add a b).tm), .one (.sc (.int .i64 n))] [] (InsR (E.add a b) t n) := by
  intro Γ n t hw hn hc hl ht hlo hhi
  have hnd := E.nodes_tm (E.add a b)
  have hT := tyFn (l3Type (E.add a b) Γ hw hn hc (by omega)) ht
  have hcp := l2Copy 274877906944 (by omega) (E.add a b).tm (by omega)
  have htd := E.rty_depth (E.add a b) Γ t hw hc ht
  obtain ⟨s, u, es, eu⟩ := r_two (f := rNum .int) ht
  simp only [E.wf, Bool.and_eq_true] at hw
  simp only [E.noC, Bool.and_eq_true] at hn
  simp only [E.tm, nd, Tm.size, Tm.sizes] at hl
  simp only [E.nodes] at hhi
  have ds := E.rty_depth a Γ s hw.1 hc es
  have du := E.rty_depth b Γ u hw.2 hc eu
  simp only [E.tm, nd] at hT hcp ⊢
  refine acl_in Tryz.func131 rfl isfn_131 (Nat.le_of_ble_eq_true rfl) (fun R hR => ?_); rw [Tryz.results131] at hR; refine wg_run ?_; (simp only [Tryz.f131, go_sem])
  have h1 := iha Γ n s hw.1 hn.1 hc (by omega) es (by omega) (by omega)
  repeat' (first | (first | (((first | apply sp1 | apply sp2 | apply sp3 | apply sp4 | apply sp5 | apply sp6 | apply sp7) <;> intro hb) <;> (simp only [go_sem, hb])) | ((first | apply wm_done | apply wt_done | apply wg_run | refine fk ?_ ?_) <;> (simp only [go_sem]))) | (first | refine cdq ?_ (hc := hT) | refine cmq ?_ (hc := hT) | refine ctq ?_ (hc := hT)); (simp only [go_sem]) | (first | refine cdq ?_ (hc := hcp) | refine cmq ?_ (hc := hcp) | refine ctq ?_ (hc := hcp)); (simp only [go_sem]) | (first | (refine wl_next (wg_run ?_); (simp only [go_sem])) | refine wd_rounds 6 ?_) | (first | (refine tr (.op 0 false (.op 1 false (.op 2 false (.op 3 false (.op 4 false (.op 5 false (.op 6 false (.op 7 true (.op 8 false .nil))))))))) [1, 2] follows ?_; (simp only [go_sem])) | (refine tr (.op 0 false (.op 1 false (.op 2 false (.op 3 false (.op 4 true (.op 5 false .nil)))))) [1, 2] follows ?_; (simp only [go_sem])) | fail) | ((first | refine mxq6 [] ?_ | refine mxq5 [] ?_ | refine mxq4 [] ?_ | refine mxq3 [] ?_ | refine mxq2 [] ?_ | refine mxq1 [] ?_ | refine mxq0 [] ?_ | fail); (simp only [go_sem])) | ((first | refine kdq [] ?_ (hc := h1) | refine kmq [] ?_ (hc := h1) | refine ktq [] ?_ (hc := h1)); rintro _ _ ⟨x1, m1, rfl, hx1, hl1, hu1, rfl⟩ <;> (simp only [go_sem])) | fail)
  have h2 := ihb Γ m1 u hw.2 hn.2 hc (by omega) eu (by omega) (by omega)
  repeat' (first | (first | (((first | apply sp1 | apply sp2 | apply sp3 | apply sp4 | apply sp5 | apply sp6 | apply sp7) <;> intro hb) <;> (simp only [go_sem, hb])) | ((first | apply wm_done | apply wt_done | apply wg_run | refine fk ?_ ?_) <;> (simp only [go_sem]))) | (first | refine cdq ?_ (hc := hT) | refine cmq ?_ (hc := hT) | refine ctq ?_ (hc := hT)); (simp only [go_sem]) | (first | refine cdq ?_ (hc := hcp) | refine cmq ?_ (hc := hcp) | refine ctq ?_ (hc := hcp)); (simp only [go_sem]) | (first | (refine wl_next (wg_run ?_); (simp only [go_sem])) | refine wd_rounds 6 ?_) | (first | (refine tr (.op 0 false (.op 1 false (.op 2 false (.op 3 false (.op 4 false (.op 5 false (.op 6 false (.op 7 true (.op 8 false .nil))))))))) [1, 2] follows ?_; (simp only [go_sem])) | (refine tr (.op 0 false (.op 1 false (.op 2 false (.op 3 false (.op 4 true (.op 5 false .nil)))))) [1, 2] follows ?_; (simp only [go_sem])) | fail) | ((first | refine mxq6 [] ?_ | refine mxq5 [] ?_ | refine mxq4 [] ?_ | refine mxq3 [] ?_ | refine mxq2 [] ?_ | refine mxq1 [] ?_ | refine mxq0 [] ?_ | fail); (simp only [go_sem])) | ((first | refine kdq [] ?_ (hc := h2) | refine kmq [] ?_ (hc := h2) | refine ktq [] ?_ (hc := h2)); rintro _ _ ⟨x2, m2, rfl, hx2, hl2, hu2, rfl⟩ <;> (simp only [go_sem])) | fail)
  have hw0 := want7 (Tm.mk 7 ByteArray.empty 0 noTy noTy 0 [a.tm, b.tm]) rfl s u t 
  have g1 := l4Cast x1 s T.int ds (by decide) m2 (by omega) (by omega)
  have z1 := casT_size x1 ds (t := T.int) (by decide) m2
  generalize hq1 : casT x1 s T.int m2 = c1 at g1 z1
  have g2 := l4Cast x2 u T.int du (by decide) c1.2 (by omega) (by omega)
  have z2 := casT_size x2 du (t := T.int) (by decide) c1.2
  generalize hq2 : casT x2 u T.int c1.2 = c2 at g2 z2
  repeat' (first | (first | (((first | apply sp1 | apply sp2 | apply sp3 | apply sp4 | apply sp5 | apply sp6 | apply sp7) <;> intro hb) <;> (simp only [go_sem, hb])) | ((first | apply wm_done | apply wt_done | apply wg_run | refine fk ?_ ?_) <;> (simp only [go_sem]))) | (first | refine cdq ?_ (hc := hT) | refine cmq ?_ (hc := hT) | refine ctq ?_ (hc := hT)); (simp only [go_sem]) | (first | refine cdq ?_ (hc := hcp) | refine cmq ?_ (hc := hcp) | refine ctq ?_ (hc := hcp)); (simp only [go_sem]) | (first | (refine wl_next (wg_run ?_); (simp only [go_sem])) | refine wd_rounds 6 ?_) | (first | (refine tr (.op 0 false (.op 1 false (.op 2 false (.op 3 false (.op 4 false (.op 5 false (.op 6 false (.op 7 true (.op 8 false .nil))))))))) [1, 2] follows ?_; (simp only [go_sem])) | (refine tr (.op 0 false (.op 1 false (.op 2 false (.op 3 false (.op 4 true (.op 5 false .nil)))))) [1, 2] follows ?_; (simp only [go_sem])) | fail) | ((first | refine mxq6 [] ?_ | refine mxq5 [] ?_ | refine mxq4 [] ?_ | refine mxq3 [] ?_ | refine mxq2 [] ?_ | refine mxq1 [] ?_ | refine mxq0 [] ?_ | fail); (simp only [go_sem])) | (first | refine cdq ?_ (hc := hw0) | refine cmq ?_ (hc := hw0) | refine ctq ?_ (hc := hw0)); (simp only [go_sem]) | (first | refine cdq ?_ (hc := g1) | refine cmq ?_ (hc := g1) | refine ctq ?_ (hc := g1)); (simp only [go_sem]) | (first | refine cdq ?_ (hc := g2) | refine cmq ?_ (hc := g2) | refine ctq ?_ (hc := g2)); (simp only [go_sem]) | fail)
  exact hR _ (rat [] (hK := ⟨(Tm.mk 7 ByteArray.empty 0 noTy noTy 0 [c1.1, c2.1]), c2.2, rfl, by simp only [Tm.size, Tm.sizes, noTy, Ty.size, Ty.sizes, E.nodes]; omega, by omega, by simp only [E.nodes]; omega, rfl⟩))
theorem sIns8 (a : E) (b : E) (iha : ∀ (Γ : Ctx) (n : Int) (t : T), a.wf = true → a.noC = true → ctxOk Γ → Γ.length + a.tm.size < 40000 → a.rty Γ = some t → 0 ≤ n → n + 3 * a.nodes ≤ 1000000000 → ACl Tryz.prog 131 [.one (.sl (bdR Γ)), .agg (teC a.tm), .one (.sc (.int .i64 n))] [] (InsR a t n)) (ihb : ∀ (Γ : Ctx) (n : Int) (t : T), b.wf = true → b.noC = true → ctxOk Γ → Γ.length + b.tm.size < 40000 → b.rty Γ = some t → 0 ≤ n → n + 3 * b.nodes ≤ 1000000000 → ACl Tryz.prog 131 [.one (.sl (bdR Γ)), .agg (teC b.tm), .one (.sc (.int .i64 n))] [] (InsR b t n)) :
    ∀ (Γ : Ctx) (n : Int) (t : T), (E.less a b).wf = true → (E.less a b).noC = true → ctxOk Γ → Γ.length + (E.less a b).tm.size < 40000 → (E.less a b).rty Γ = some t → 0 ≤ n → n + 3 * (E.less a b).nodes ≤ 1000000000 → ACl Tryz.prog 131 [.one (.sl (bdR Γ)), .agg (teC (E.less a b).tm), .one (.sc (.int .i64 n))] [] (InsR (E.less a b) t n) := by
  intro Γ n t hw hn hc hl ht hlo hhi
  have hnd := E.nodes_tm (E.less a b)
  have hT := tyFn (l3Type (E.less a b) Γ hw hn hc (by omega)) ht
  have hcp := l2Copy 274877906944 (by omega) (E.less a b).tm (by omega)
  have htd := E.rty_depth (E.less a b) Γ t hw hc ht
  obtain ⟨s, u, es, eu⟩ := r_two (f := rNum .bool) ht
  simp only [E.wf, Bool.and_eq_true] at hw
  simp only [E.noC, Bool.and_eq_true] at hn
  simp only [E.tm, nd, Tm.size, Tm.sizes] at hl
  simp only [E.nodes] at hhi
  have ds := E.rty_depth a Γ s hw.1 hc es
  have du := E.rty_depth b Γ u hw.2 hc eu
  simp only [E.tm, nd] at hT hcp ⊢
  refine acl_in Tryz.func131 rfl isfn_131 (Nat.le_of_ble_eq_true rfl) (fun R hR => ?_); rw [Tryz.results131] at hR; refine wg_run ?_; (simp only [Tryz.f131, go_sem])
  have h1 := iha Γ n s hw.1 hn.1 hc (by omega) es (by omega) (by omega)
  repeat' (first | (first | (((first | apply sp1 | apply sp2 | apply sp3 | apply sp4 | apply sp5 | apply sp6 | apply sp7) <;> intro hb) <;> (simp only [go_sem, hb])) | ((first | apply wm_done | apply wt_done | apply wg_run | refine fk ?_ ?_) <;> (simp only [go_sem]))) | (first | refine cdq ?_ (hc := hT) | refine cmq ?_ (hc := hT) | refine ctq ?_ (hc := hT)); (simp only [go_sem]) | (first | refine cdq ?_ (hc := hcp) | refine cmq ?_ (hc := hcp) | refine ctq ?_ (hc := hcp)); (simp only [go_sem]) | (first | (refine wl_next (wg_run ?_); (simp only [go_sem])) | refine wd_rounds 6 ?_) | (first | (refine tr (.op 0 false (.op 1 false (.op 2 false (.op 3 false (.op 4 false (.op 5 false (.op 6 false (.op 7 true (.op 8 false .nil))))))))) [1, 2] follows ?_; (simp only [go_sem])) | (refine tr (.op 0 false (.op 1 false (.op 2 false (.op 3 false (.op 4 true (.op 5 false .nil)))))) [1, 2] follows ?_; (simp only [go_sem])) | fail) | ((first | refine mxq6 [] ?_ | refine mxq5 [] ?_ | refine mxq4 [] ?_ | refine mxq3 [] ?_ | refine mxq2 [] ?_ | refine mxq1 [] ?_ | refine mxq0 [] ?_ | fail); (simp only [go_sem])) | ((first | refine kdq [] ?_ (hc := h1) | refine kmq [] ?_ (hc := h1) | refine ktq [] ?_ (hc := h1)); rintro _ _ ⟨x1, m1, rfl, hx1, hl1, hu1, rfl⟩ <;> (simp only [go_sem])) | fail)
  have h2 := ihb Γ m1 u hw.2 hn.2 hc (by omega) eu (by omega) (by omega)
  repeat' (first | (first | (((first | apply sp1 | apply sp2 | apply sp3 | apply sp4 | apply sp5 | apply sp6 | apply sp7) <;> intro hb) <;> (simp only [go_sem, hb])) | ((first | apply wm_done | apply wt_done | apply wg_run | refine fk ?_ ?_) <;> (simp only [go_sem]))) | (first | refine cdq ?_ (hc := hT) | refine cmq ?_ (hc := hT) | refine ctq ?_ (hc := hT)); (simp only [go_sem]) | (first | refine cdq ?_ (hc := hcp) | refine cmq ?_ (hc := hcp) | refine ctq ?_ (hc := hcp)); (simp only [go_sem]) | (first | (refine wl_next (wg_run ?_); (simp only [go_sem])) | refine wd_rounds 6 ?_) | (first | (refine tr (.op 0 false (.op 1 false (.op 2 false (.op 3 false (.op 4 false (.op 5 false (.op 6 false (.op 7 true (.op 8 false .nil))))))))) [1, 2] follows ?_; (simp only [go_sem])) | (refine tr (.op 0 false (.op 1 false (.op 2 false (.op 3 false (.op 4 true (.op 5 false .nil)))))) [1, 2] follows ?_; (simp only [go_sem])) | fail) | ((first | refine mxq6 [] ?_ | refine mxq5 [] ?_ | refine mxq4 [] ?_ | refine mxq3 [] ?_ | refine mxq2 [] ?_ | refine mxq1 [] ?_ | refine mxq0 [] ?_ | fail); (simp only [go_sem])) | ((first | refine kdq [] ?_ (hc := h2) | refine kmq [] ?_ (hc := h2) | refine ktq [] ?_ (hc := h2)); rintro _ _ ⟨x2, m2, rfl, hx2, hl2, hu2, rfl⟩ <;> (simp only [go_sem])) | fail)
  have hw0 := want8 (Tm.mk 8 ByteArray.empty 0 noTy noTy 0 [a.tm, b.tm]) rfl s u t 
  have g1 := l4Cast x1 s T.int ds (by decide) m2 (by omega) (by omega)
  have z1 := casT_size x1 ds (t := T.int) (by decide) m2
  generalize hq1 : casT x1 s T.int m2 = c1 at g1 z1
  have g2 := l4Cast x2 u T.int du (by decide) c1.2 (by omega) (by omega)
  have z2 := casT_size x2 du (t := T.int) (by decide) c1.2
  generalize hq2 : casT x2 u T.int c1.2 = c2 at g2 z2
  repeat' (first | (first | (((first | apply sp1 | apply sp2 | apply sp3 | apply sp4 | apply sp5 | apply sp6 | apply sp7) <;> intro hb) <;> (simp only [go_sem, hb])) | ((first | apply wm_done | apply wt_done | apply wg_run | refine fk ?_ ?_) <;> (simp only [go_sem]))) | (first | refine cdq ?_ (hc := hT) | refine cmq ?_ (hc := hT) | refine ctq ?_ (hc := hT)); (simp only [go_sem]) | (first | refine cdq ?_ (hc := hcp) | refine cmq ?_ (hc := hcp) | refine ctq ?_ (hc := hcp)); (simp only [go_sem]) | (first | (refine wl_next (wg_run ?_); (simp only [go_sem])) | refine wd_rounds 6 ?_) | (first | (refine tr (.op 0 false (.op 1 false (.op 2 false (.op 3 false (.op 4 false (.op 5 false (.op 6 false (.op 7 true (.op 8 false .nil))))))))) [1, 2] follows ?_; (simp only [go_sem])) | (refine tr (.op 0 false (.op 1 false (.op 2 false (.op 3 false (.op 4 true (.op 5 false .nil)))))) [1, 2] follows ?_; (simp only [go_sem])) | fail) | ((first | refine mxq6 [] ?_ | refine mxq5 [] ?_ | refine mxq4 [] ?_ | refine mxq3 [] ?_ | refine mxq2 [] ?_ | refine mxq1 [] ?_ | refine mxq0 [] ?_ | fail); (simp only [go_sem])) | (first | refine cdq ?_ (hc := hw0) | refine cmq ?_ (hc := hw0) | refine ctq ?_ (hc := hw0)); (simp only [go_sem]) | (first | refine cdq ?_ (hc := g1) | refine cmq ?_ (hc := g1) | refine ctq ?_ (hc := g1)); (simp only [go_sem]) | (first | refine cdq ?_ (hc := g2) | refine cmq ?_ (hc := g2) | refine ctq ?_ (hc := g2)); (simp only [go_sem]) | fail)
  exact hR _ (rat [] (hK := ⟨(Tm.mk 8 ByteArray.empty 0 noTy noTy 0 [c1.1, c2.1]), c2.2, rfl, by simp only [Tm.size, Tm.sizes, noTy, Ty.size, Ty.sizes, E.nodes]; omega, by omega, by simp only [E.nodes]; omega, rfl⟩))
theorem sIns9 (a : E) (b : E) (c : E) (iha : ∀ (Γ : Ctx) (n : Int) (t : T), a.wf = true → a.noC = true → ctxOk Γ → Γ.length + a.tm.size < 40000 → a.rty Γ = some t → 0 ≤ n → n + 3 * a.nodes ≤ 1000000000 → ACl Tryz.prog 131 [.one (.sl (bdR Γ)), .agg (teC a.tm), .one (.sc (.int .i64 n))] [] (InsR a t n)) (ihb : ∀ (Γ : Ctx) (n : Int) (t : T), b.wf = true → b.noC = true → ctxOk Γ → Γ.length + b.tm.size < 40000 → b.rty Γ = some t → 0 ≤ n → n + 3 * b.nodes ≤ 1000000000 → ACl Tryz.prog 131 [.one (.sl (bdR Γ)), .agg (teC b.tm), .one (.sc (.int .i64 n))] [] (InsR b t n)) (ihc : ∀ (Γ : Ctx) (n : Int) (t : T), c.wf = true → c.noC = true → ctxOk Γ → Γ.length + c.tm.size < 40000 → c.rty Γ = some t → 0 ≤ n → n + 3 * c.nodes ≤ 1000000000 → ACl Tryz.prog 131 [.one (.sl (bdR Γ)), .agg (teC c.tm), .one (.sc (.int .i64 n))] [] (InsR c t n)) :
    ∀ (Γ : Ctx) (n : Int) (t : T), (E.ite a b c).wf = true → (E.ite a b c).noC = true → ctxOk Γ → Γ.length + (E.ite a b c).tm.size < 40000 → (E.ite a b c).rty Γ = some t → 0 ≤ n → n + 3 * (E.ite a b c).nodes ≤ 1000000000 → ACl Tryz.prog 131 [.one (.sl (bdR Γ)), .agg (teC (E.ite a b c).tm), .one (.sc (.int .i64 n))] [] (InsR (E.ite a b c) t n) := by
  intro Γ n t hw hn hc hl ht hlo hhi
  have hnd := E.nodes_tm (E.ite a b c)
  have hT := tyFn (l3Type (E.ite a b c) Γ hw hn hc (by omega)) ht
  have hcp := l2Copy 274877906944 (by omega) (E.ite a b c).tm (by omega)
  have htd := E.rty_depth (E.ite a b c) Γ t hw hc ht
  obtain ⟨s, u, w, es, eu, ew⟩ := r_ite ht
  simp only [E.wf, Bool.and_eq_true] at hw
  simp only [E.noC, Bool.and_eq_true] at hn
  simp only [E.tm, nd, Tm.size, Tm.sizes] at hl
  simp only [E.nodes] at hhi
  have ds := E.rty_depth a Γ s hw.1 hc es
  have du := E.rty_depth b Γ u hw.2.1 hc eu
  have dw := E.rty_depth c Γ w hw.2.2 hc ew
  simp only [E.tm, nd] at hT hcp ⊢
  refine acl_in Tryz.func131 rfl isfn_131 (Nat.le_of_ble_eq_true rfl) (fun R hR => ?_); rw [Tryz.results131] at hR; refine wg_run ?_; (simp only [Tryz.f131, go_sem])
  have h1 := iha Γ n s hw.1 hn.1 hc (by omega) es (by omega) (by omega)
  repeat' (first | (first | (((first | apply sp1 | apply sp2 | apply sp3 | apply sp4 | apply sp5 | apply sp6 | apply sp7) <;> intro hb) <;> (simp only [go_sem, hb])) | ((first | apply wm_done | apply wt_done | apply wg_run | refine fk ?_ ?_) <;> (simp only [go_sem]))) | (first | refine cdq ?_ (hc := hT) | refine cmq ?_ (hc := hT) | refine ctq ?_ (hc := hT)); (simp only [go_sem]) | (first | refine cdq ?_ (hc := hcp) | refine cmq ?_ (hc := hcp) | refine ctq ?_ (hc := hcp)); (simp only [go_sem]) | (first | (refine wl_next (wg_run ?_); (simp only [go_sem])) | refine wd_rounds 6 ?_) | (first | (refine tr (.op 0 false (.op 1 false (.op 2 false (.op 3 false (.op 4 false (.op 5 false (.op 6 false (.op 7 true (.op 8 false .nil))))))))) [1, 2] follows ?_; (simp only [go_sem])) | (refine tr (.op 0 false (.op 1 false (.op 2 false (.op 3 false (.op 4 true (.op 5 false .nil)))))) [1, 2] follows ?_; (simp only [go_sem])) | fail) | ((first | refine mxq6 [] ?_ | refine mxq5 [] ?_ | refine mxq4 [] ?_ | refine mxq3 [] ?_ | refine mxq2 [] ?_ | refine mxq1 [] ?_ | refine mxq0 [] ?_ | fail); (simp only [go_sem])) | ((first | refine kdq [] ?_ (hc := h1) | refine kmq [] ?_ (hc := h1) | refine ktq [] ?_ (hc := h1)); rintro _ _ ⟨x1, m1, rfl, hx1, hl1, hu1, rfl⟩ <;> (simp only [go_sem])) | fail)
  have h2 := ihb Γ m1 u hw.2.1 hn.2.1 hc (by omega) eu (by omega) (by omega)
  repeat' (first | (first | (((first | apply sp1 | apply sp2 | apply sp3 | apply sp4 | apply sp5 | apply sp6 | apply sp7) <;> intro hb) <;> (simp only [go_sem, hb])) | ((first | apply wm_done | apply wt_done | apply wg_run | refine fk ?_ ?_) <;> (simp only [go_sem]))) | (first | refine cdq ?_ (hc := hT) | refine cmq ?_ (hc := hT) | refine ctq ?_ (hc := hT)); (simp only [go_sem]) | (first | refine cdq ?_ (hc := hcp) | refine cmq ?_ (hc := hcp) | refine ctq ?_ (hc := hcp)); (simp only [go_sem]) | (first | (refine wl_next (wg_run ?_); (simp only [go_sem])) | refine wd_rounds 6 ?_) | (first | (refine tr (.op 0 false (.op 1 false (.op 2 false (.op 3 false (.op 4 false (.op 5 false (.op 6 false (.op 7 true (.op 8 false .nil))))))))) [1, 2] follows ?_; (simp only [go_sem])) | (refine tr (.op 0 false (.op 1 false (.op 2 false (.op 3 false (.op 4 true (.op 5 false .nil)))))) [1, 2] follows ?_; (simp only [go_sem])) | fail) | ((first | refine mxq6 [] ?_ | refine mxq5 [] ?_ | refine mxq4 [] ?_ | refine mxq3 [] ?_ | refine mxq2 [] ?_ | refine mxq1 [] ?_ | refine mxq0 [] ?_ | fail); (simp only [go_sem])) | ((first | refine kdq [] ?_ (hc := h2) | refine kmq [] ?_ (hc := h2) | refine ktq [] ?_ (hc := h2)); rintro _ _ ⟨x2, m2, rfl, hx2, hl2, hu2, rfl⟩ <;> (simp only [go_sem])) | fail)
  have h3 := ihc Γ m2 w hw.2.2 hn.2.2 hc (by omega) ew (by omega) (by omega)
  repeat' (first | (first | (((first | apply sp1 | apply sp2 | apply sp3 | apply sp4 | apply sp5 | apply sp6 | apply sp7) <;> intro hb) <;> (simp only [go_sem, hb])) | ((first | apply wm_done | apply wt_done | apply wg_run | refine fk ?_ ?_) <;> (simp only [go_sem]))) | (first | refine cdq ?_ (hc := hT) | refine cmq ?_ (hc := hT) | refine ctq ?_ (hc := hT)); (simp only [go_sem]) | (first | refine cdq ?_ (hc := hcp) | refine cmq ?_ (hc := hcp) | refine ctq ?_ (hc := hcp)); (simp only [go_sem]) | (first | (refine wl_next (wg_run ?_); (simp only [go_sem])) | refine wd_rounds 6 ?_) | (first | (refine tr (.op 0 false (.op 1 false (.op 2 false (.op 3 false (.op 4 false (.op 5 false (.op 6 false (.op 7 true (.op 8 false .nil))))))))) [1, 2] follows ?_; (simp only [go_sem])) | (refine tr (.op 0 false (.op 1 false (.op 2 false (.op 3 false (.op 4 true (.op 5 false .nil)))))) [1, 2] follows ?_; (simp only [go_sem])) | fail) | ((first | refine mxq6 [] ?_ | refine mxq5 [] ?_ | refine mxq4 [] ?_ | refine mxq3 [] ?_ | refine mxq2 [] ?_ | refine mxq1 [] ?_ | refine mxq0 [] ?_ | fail); (simp only [go_sem])) | ((first | refine kdq [] ?_ (hc := h3) | refine kmq [] ?_ (hc := h3) | refine ktq [] ?_ (hc := h3)); rintro _ _ ⟨x3, m3, rfl, hx3, hl3, hu3, rfl⟩ <;> (simp only [go_sem])) | fail)
  have hw0 := want9 (Tm.mk 9 ByteArray.empty 0 noTy noTy 0 [a.tm, b.tm, c.tm]) rfl s u w t 
  have g1 := l4Cast x1 s T.bool ds (by decide) m3 (by omega) (by omega)
  have z1 := casT_size x1 ds (t := T.bool) (by decide) m3
  generalize hq1 : casT x1 s T.bool m3 = c1 at g1 z1
  have g2 := l4Cast x2 u t du htd c1.2 (by omega) (by omega)
  have z2 := casT_size x2 du (t := t) htd c1.2
  generalize hq2 : casT x2 u t c1.2 = c2 at g2 z2
  have g3 := l4Cast x3 w t dw htd c2.2 (by omega) (by omega)
  have z3 := casT_size x3 dw (t := t) htd c2.2
  generalize hq3 : casT x3 w t c2.2 = c3 at g3 z3
  repeat' (first | (first | (((first | apply sp1 | apply sp2 | apply sp3 | apply sp4 | apply sp5 | apply sp6 | apply sp7) <;> intro hb) <;> (simp only [go_sem, hb])) | ((first | apply wm_done | apply wt_done | apply wg_run | refine fk ?_ ?_) <;> (simp only [go_sem]))) | (first | refine cdq ?_ (hc := hT) | refine cmq ?_ (hc := hT) | refine ctq ?_ (hc := hT)); (simp only [go_sem]) | (first | refine cdq ?_ (hc := hcp) | refine cmq ?_ (hc := hcp) | refine ctq ?_ (hc := hcp)); (simp only [go_sem]) | (first | (refine wl_next (wg_run ?_); (simp only [go_sem])) | refine wd_rounds 6 ?_) | (first | (refine tr (.op 0 false (.op 1 false (.op 2 false (.op 3 false (.op 4 false (.op 5 false (.op 6 false (.op 7 true (.op 8 false .nil))))))))) [1, 2] follows ?_; (simp only [go_sem])) | (refine tr (.op 0 false (.op 1 false (.op 2 false (.op 3 false (.op 4 true (.op 5 false .nil)))))) [1, 2] follows ?_; (simp only [go_sem])) | fail) | ((first | refine mxq6 [] ?_ | refine mxq5 [] ?_ | refine mxq4 [] ?_ | refine mxq3 [] ?_ | refine mxq2 [] ?_ | refine mxq1 [] ?_ | refine mxq0 [] ?_ | fail); (simp only [go_sem])) | (first | refine cdq ?_ (hc := hw0) | refine cmq ?_ (hc := hw0) | refine ctq ?_ (hc := hw0)); (simp only [go_sem]) | (first | refine cdq ?_ (hc := g1) | refine cmq ?_ (hc := g1) | refine ctq ?_ (hc := g1)); (simp only [go_sem]) | (first | refine cdq ?_ (hc := g2) | refine cmq ?_ (hc := g2) | refine ctq ?_ (hc := g2)); (simp only [go_sem]) | (first | refine cdq ?_ (hc := g3) | refine cmq ?_ (hc := g3) | refine ctq ?_ (hc := g3)); (simp only [go_sem]) | fail)
  exact hR _ (rat [] (hK := ⟨(Tm.mk 9 ByteArray.empty 0 noTy noTy 0 [c1.1, c2.1, c3.1]), c3.2, rfl, by simp only [Tm.size, Tm.sizes, noTy, Ty.size, Ty.sizes, E.nodes]; omega, by omega, by simp only [E.nodes]; omega, rfl⟩))
theorem sIns10 (a : E) (b : E) (iha : ∀ (Γ : Ctx) (n : Int) (t : T), a.wf = true → a.noC = true → ctxOk Γ → Γ.length + a.tm.size < 40000 → a.rty Γ = some t → 0 ≤ n → n + 3 * a.nodes ≤ 1000000000 → ACl Tryz.prog 131 [.one (.sl (bdR Γ)), .agg (teC a.tm), .one (.sc (.int .i64 n))] [] (InsR a t n)) (ihb : ∀ (Γ : Ctx) (n : Int) (t : T), b.wf = true → b.noC = true → ctxOk Γ → Γ.length + b.tm.size < 40000 → b.rty Γ = some t → 0 ≤ n → n + 3 * b.nodes ≤ 1000000000 → ACl Tryz.prog 131 [.one (.sl (bdR Γ)), .agg (teC b.tm), .one (.sc (.int .i64 n))] [] (InsR b t n)) :
    ∀ (Γ : Ctx) (n : Int) (t : T), (E.pair a b).wf = true → (E.pair a b).noC = true → ctxOk Γ → Γ.length + (E.pair a b).tm.size < 40000 → (E.pair a b).rty Γ = some t → 0 ≤ n → n + 3 * (E.pair a b).nodes ≤ 1000000000 → ACl Tryz.prog 131 [.one (.sl (bdR Γ)), .agg (teC (E.pair a b).tm), .one (.sc (.int .i64 n))] [] (InsR (E.pair a b) t n) := by
  intro Γ n t hw hn hc hl ht hlo hhi
  have hnd := E.nodes_tm (E.pair a b)
  have hT := tyFn (l3Type (E.pair a b) Γ hw hn hc (by omega)) ht
  have hcp := l2Copy 274877906944 (by omega) (E.pair a b).tm (by omega)
  have htd := E.rty_depth (E.pair a b) Γ t hw hc ht
  obtain ⟨s, u, es, eu⟩ := r_two (f := twoP) ht
  simp only [E.wf, Bool.and_eq_true] at hw
  simp only [E.noC, Bool.and_eq_true] at hn
  simp only [E.tm, nd, Tm.size, Tm.sizes] at hl
  simp only [E.nodes] at hhi
  have ds := E.rty_depth a Γ s hw.1 hc es
  have du := E.rty_depth b Γ u hw.2 hc eu
  simp only [E.tm, nd] at hT hcp ⊢
  refine acl_in Tryz.func131 rfl isfn_131 (Nat.le_of_ble_eq_true rfl) (fun R hR => ?_); rw [Tryz.results131] at hR; refine wg_run ?_; (simp only [Tryz.f131, go_sem])
  have h1 := iha Γ n s hw.1 hn.1 hc (by omega) es (by omega) (by omega)
  repeat' (first | (first | (((first | apply sp1 | apply sp2 | apply sp3 | apply sp4 | apply sp5 | apply sp6 | apply sp7) <;> intro hb) <;> (simp only [go_sem, hb])) | ((first | apply wm_done | apply wt_done | apply wg_run | refine fk ?_ ?_) <;> (simp only [go_sem]))) | (first | refine cdq ?_ (hc := hT) | refine cmq ?_ (hc := hT) | refine ctq ?_ (hc := hT)); (simp only [go_sem]) | (first | refine cdq ?_ (hc := hcp) | refine cmq ?_ (hc := hcp) | refine ctq ?_ (hc := hcp)); (simp only [go_sem]) | (first | (refine wl_next (wg_run ?_); (simp only [go_sem])) | refine wd_rounds 6 ?_) | (first | (refine tr (.op 0 false (.op 1 false (.op 2 false (.op 3 false (.op 4 false (.op 5 false (.op 6 false (.op 7 true (.op 8 false .nil))))))))) [1, 2] follows ?_; (simp only [go_sem])) | (refine tr (.op 0 false (.op 1 false (.op 2 false (.op 3 false (.op 4 true (.op 5 false .nil)))))) [1, 2] follows ?_; (simp only [go_sem])) | fail) | ((first | refine mxq6 [] ?_ | refine mxq5 [] ?_ | refine mxq4 [] ?_ | refine mxq3 [] ?_ | refine mxq2 [] ?_ | refine mxq1 [] ?_ | refine mxq0 [] ?_ | fail); (simp only [go_sem])) | ((first | refine kdq [] ?_ (hc := h1) | refine kmq [] ?_ (hc := h1) | refine ktq [] ?_ (hc := h1)); rintro _ _ ⟨x1, m1, rfl, hx1, hl1, hu1, rfl⟩ <;> (simp only [go_sem])) | fail)
  have h2 := ihb Γ m1 u hw.2 hn.2 hc (by omega) eu (by omega) (by omega)
  repeat' (first | (first | (((first | apply sp1 | apply sp2 | apply sp3 | apply sp4 | apply sp5 | apply sp6 | apply sp7) <;> intro hb) <;> (simp only [go_sem, hb])) | ((first | apply wm_done | apply wt_done | apply wg_run | refine fk ?_ ?_) <;> (simp only [go_sem]))) | (first | refine cdq ?_ (hc := hT) | refine cmq ?_ (hc := hT) | refine ctq ?_ (hc := hT)); (simp only [go_sem]) | (first | refine cdq ?_ (hc := hcp) | refine cmq ?_ (hc := hcp) | refine ctq ?_ (hc := hcp)); (simp only [go_sem]) | (first | (refine wl_next (wg_run ?_); (simp only [go_sem])) | refine wd_rounds 6 ?_) | (first | (refine tr (.op 0 false (.op 1 false (.op 2 false (.op 3 false (.op 4 false (.op 5 false (.op 6 false (.op 7 true (.op 8 false .nil))))))))) [1, 2] follows ?_; (simp only [go_sem])) | (refine tr (.op 0 false (.op 1 false (.op 2 false (.op 3 false (.op 4 true (.op 5 false .nil)))))) [1, 2] follows ?_; (simp only [go_sem])) | fail) | ((first | refine mxq6 [] ?_ | refine mxq5 [] ?_ | refine mxq4 [] ?_ | refine mxq3 [] ?_ | refine mxq2 [] ?_ | refine mxq1 [] ?_ | refine mxq0 [] ?_ | fail); (simp only [go_sem])) | ((first | refine kdq [] ?_ (hc := h2) | refine kmq [] ?_ (hc := h2) | refine ktq [] ?_ (hc := h2)); rintro _ _ ⟨x2, m2, rfl, hx2, hl2, hu2, rfl⟩ <;> (simp only [go_sem])) | fail)
  have hw0 := want10 (Tm.mk 10 ByteArray.empty 0 noTy noTy 0 [a.tm, b.tm]) rfl s u t 
  have g1 := l4Cast x1 s s ds ds m2 (by omega) (by omega)
  have z1 := casT_size x1 ds (t := s) ds m2
  generalize hq1 : casT x1 s s m2 = c1 at g1 z1
  have g2 := l4Cast x2 u u du du c1.2 (by omega) (by omega)
  have z2 := casT_size x2 du (t := u) du c1.2
  generalize hq2 : casT x2 u u c1.2 = c2 at g2 z2
  repeat' (first | (first | (((first | apply sp1 | apply sp2 | apply sp3 | apply sp4 | apply sp5 | apply sp6 | apply sp7) <;> intro hb) <;> (simp only [go_sem, hb])) | ((first | apply wm_done | apply wt_done | apply wg_run | refine fk ?_ ?_) <;> (simp only [go_sem]))) | (first | refine cdq ?_ (hc := hT) | refine cmq ?_ (hc := hT) | refine ctq ?_ (hc := hT)); (simp only [go_sem]) | (first | refine cdq ?_ (hc := hcp) | refine cmq ?_ (hc := hcp) | refine ctq ?_ (hc := hcp)); (simp only [go_sem]) | (first | (refine wl_next (wg_run ?_); (simp only [go_sem])) | refine wd_rounds 6 ?_) | (first | (refine tr (.op 0 false (.op 1 false (.op 2 false (.op 3 false (.op 4 false (.op 5 false (.op 6 false (.op 7 true (.op 8 false .nil))))))))) [1, 2] follows ?_; (simp only [go_sem])) | (refine tr (.op 0 false (.op 1 false (.op 2 false (.op 3 false (.op 4 true (.op 5 false .nil)))))) [1, 2] follows ?_; (simp only [go_sem])) | fail) | ((first | refine mxq6 [] ?_ | refine mxq5 [] ?_ | refine mxq4 [] ?_ | refine mxq3 [] ?_ | refine mxq2 [] ?_ | refine mxq1 [] ?_ | refine mxq0 [] ?_ | fail); (simp only [go_sem])) | (first | refine cdq ?_ (hc := hw0) | refine cmq ?_ (hc := hw0) | refine ctq ?_ (hc := hw0)); (simp only [go_sem]) | (first | refine cdq ?_ (hc := g1) | refine cmq ?_ (hc := g1) | refine ctq ?_ (hc := g1)); (simp only [go_sem]) | (first | refine cdq ?_ (hc := g2) | refine cmq ?_ (hc := g2) | refine ctq ?_ (hc := g2)); (simp only [go_sem]) | fail)
  exact hR _ (rat [] (hK := ⟨(Tm.mk 10 ByteArray.empty 0 noTy noTy 0 [c1.1, c2.1]), c2.2, rfl, by simp only [Tm.size, Tm.sizes, noTy, Ty.size, Ty.sizes, E.nodes]; omega, by omega, by simp only [E.nodes]; omega, rfl⟩))
theorem sIns11 (a : E) (iha : ∀ (Γ : Ctx) (n : Int) (t : T), a.wf = true → a.noC = true → ctxOk Γ → Γ.length + a.tm.size < 40000 → a.rty Γ = some t → 0 ≤ n → n + 3 * a.nodes ≤ 1000000000 → ACl Tryz.prog 131 [.one (.sl (bdR Γ)), .agg (teC a.tm), .one (.sc (.int .i64 n))] [] (InsR a t n)) :
    ∀ (Γ : Ctx) (n : Int) (t : T), (E.fst a).wf = true → (E.fst a).noC = true → ctxOk Γ → Γ.length + (E.fst a).tm.size < 40000 → (E.fst a).rty Γ = some t → 0 ≤ n → n + 3 * (E.fst a).nodes ≤ 1000000000 → ACl Tryz.prog 131 [.one (.sl (bdR Γ)), .agg (teC (E.fst a).tm), .one (.sc (.int .i64 n))] [] (InsR (E.fst a) t n) := by
  intro Γ n t hw hn hc hl ht hlo hhi
  have hnd := E.nodes_tm (E.fst a)
  have hT := tyFn (l3Type (E.fst a) Γ hw hn hc (by omega)) ht
  have hcp := l2Copy 274877906944 (by omega) (E.fst a).tm (by omega)
  have htd := E.rty_depth (E.fst a) Γ t hw hc ht
  obtain ⟨s, p, q, es, em⟩ := r_fst ht
  simp only [E.wf] at hw
  simp only [E.noC] at hn
  simp only [E.tm, nd, Tm.size, Tm.sizes] at hl
  simp only [E.nodes] at hhi
  have ds := E.rty_depth a Γ s hw hc es
  simp only [E.tm, nd] at hT hcp ⊢
  refine acl_in Tryz.func131 rfl isfn_131 (Nat.le_of_ble_eq_true rfl) (fun R hR => ?_); rw [Tryz.results131] at hR; refine wg_run ?_; (simp only [Tryz.f131, go_sem])
  have h1 := iha Γ n s hw hn hc (by omega) es (by omega) (by omega)
  repeat' (first | (first | (((first | apply sp1 | apply sp2 | apply sp3 | apply sp4 | apply sp5 | apply sp6 | apply sp7) <;> intro hb) <;> (simp only [go_sem, hb])) | ((first | apply wm_done | apply wt_done | apply wg_run | refine fk ?_ ?_) <;> (simp only [go_sem]))) | (first | refine cdq ?_ (hc := hT) | refine cmq ?_ (hc := hT) | refine ctq ?_ (hc := hT)); (simp only [go_sem]) | (first | refine cdq ?_ (hc := hcp) | refine cmq ?_ (hc := hcp) | refine ctq ?_ (hc := hcp)); (simp only [go_sem]) | (first | (refine wl_next (wg_run ?_); (simp only [go_sem])) | refine wd_rounds 6 ?_) | (first | (refine tr (.op 0 false (.op 1 false (.op 2 false (.op 3 false (.op 4 false (.op 5 false (.op 6 false (.op 7 true (.op 8 false .nil))))))))) [1, 2] follows ?_; (simp only [go_sem])) | (refine tr (.op 0 false (.op 1 false (.op 2 false (.op 3 false (.op 4 true (.op 5 false .nil)))))) [1, 2] follows ?_; (simp only [go_sem])) | fail) | ((first | refine mxq6 [] ?_ | refine mxq5 [] ?_ | refine mxq4 [] ?_ | refine mxq3 [] ?_ | refine mxq2 [] ?_ | refine mxq1 [] ?_ | refine mxq0 [] ?_ | fail); (simp only [go_sem])) | ((first | refine kdq [] ?_ (hc := h1) | refine kmq [] ?_ (hc := h1) | refine ktq [] ?_ (hc := h1)); rintro _ _ ⟨x1, m1, rfl, hx1, hl1, hu1, rfl⟩ <;> (simp only [go_sem])) | fail)
  have hw0 := want11 (Tm.mk 11 ByteArray.empty 0 noTy noTy 0 [a.tm]) rfl s t p q em ds
  have g1 := l4Cast x1 s (T.pr p q) ds (T.mpr_pr em ds) m1 (by omega) (by omega)
  have z1 := casT_size x1 ds (t := (T.pr p q)) (T.mpr_pr em ds) m1
  generalize hq1 : casT x1 s (T.pr p q) m1 = c1 at g1 z1
  repeat' (first | (first | (((first | apply sp1 | apply sp2 | apply sp3 | apply sp4 | apply sp5 | apply sp6 | apply sp7) <;> intro hb) <;> (simp only [go_sem, hb])) | ((first | apply wm_done | apply wt_done | apply wg_run | refine fk ?_ ?_) <;> (simp only [go_sem]))) | (first | refine cdq ?_ (hc := hT) | refine cmq ?_ (hc := hT) | refine ctq ?_ (hc := hT)); (simp only [go_sem]) | (first | refine cdq ?_ (hc := hcp) | refine cmq ?_ (hc := hcp) | refine ctq ?_ (hc := hcp)); (simp only [go_sem]) | (first | (refine wl_next (wg_run ?_); (simp only [go_sem])) | refine wd_rounds 6 ?_) | (first | (refine tr (.op 0 false (.op 1 false (.op 2 false (.op 3 false (.op 4 false (.op 5 false (.op 6 false (.op 7 true (.op 8 false .nil))))))))) [1, 2] follows ?_; (simp only [go_sem])) | (refine tr (.op 0 false (.op 1 false (.op 2 false (.op 3 false (.op 4 true (.op 5 false .nil)))))) [1, 2] follows ?_; (simp only [go_sem])) | fail) | ((first | refine mxq6 [] ?_ | refine mxq5 [] ?_ | refine mxq4 [] ?_ | refine mxq3 [] ?_ | refine mxq2 [] ?_ | refine mxq1 [] ?_ | refine mxq0 [] ?_ | fail); (simp only [go_sem])) | (first | refine cdq ?_ (hc := hw0) | refine cmq ?_ (hc := hw0) | refine ctq ?_ (hc := hw0)); (simp only [go_sem]) | (first | refine cdq ?_ (hc := g1) | refine cmq ?_ (hc := g1) | refine ctq ?_ (hc := g1)); (simp only [go_sem]) | fail)
  exact hR _ (rat [] (hK := ⟨(Tm.mk 11 ByteArray.empty 0 noTy noTy 0 [c1.1]), c1.2, rfl, by simp only [Tm.size, Tm.sizes, noTy, Ty.size, Ty.sizes, E.nodes]; omega, by omega, by simp only [E.nodes]; omega, rfl⟩))
theorem sIns12 (a : E) (iha : ∀ (Γ : Ctx) (n : Int) (t : T), a.wf = true → a.noC = true → ctxOk Γ → Γ.length + a.tm.size < 40000 → a.rty Γ = some t → 0 ≤ n → n + 3 * a.nodes ≤ 1000000000 → ACl Tryz.prog 131 [.one (.sl (bdR Γ)), .agg (teC a.tm), .one (.sc (.int .i64 n))] [] (InsR a t n)) :
    ∀ (Γ : Ctx) (n : Int) (t : T), (E.snd a).wf = true → (E.snd a).noC = true → ctxOk Γ → Γ.length + (E.snd a).tm.size < 40000 → (E.snd a).rty Γ = some t → 0 ≤ n → n + 3 * (E.snd a).nodes ≤ 1000000000 → ACl Tryz.prog 131 [.one (.sl (bdR Γ)), .agg (teC (E.snd a).tm), .one (.sc (.int .i64 n))] [] (InsR (E.snd a) t n) := by
  intro Γ n t hw hn hc hl ht hlo hhi
  have hnd := E.nodes_tm (E.snd a)
  have hT := tyFn (l3Type (E.snd a) Γ hw hn hc (by omega)) ht
  have hcp := l2Copy 274877906944 (by omega) (E.snd a).tm (by omega)
  have htd := E.rty_depth (E.snd a) Γ t hw hc ht
  obtain ⟨s, p, q, es, em⟩ := r_snd ht
  simp only [E.wf] at hw
  simp only [E.noC] at hn
  simp only [E.tm, nd, Tm.size, Tm.sizes] at hl
  simp only [E.nodes] at hhi
  have ds := E.rty_depth a Γ s hw hc es
  simp only [E.tm, nd] at hT hcp ⊢
  refine acl_in Tryz.func131 rfl isfn_131 (Nat.le_of_ble_eq_true rfl) (fun R hR => ?_); rw [Tryz.results131] at hR; refine wg_run ?_; (simp only [Tryz.f131, go_sem])
  have h1 := iha Γ n s hw hn hc (by omega) es (by omega) (by omega)
  repeat' (first | (first | (((first | apply sp1 | apply sp2 | apply sp3 | apply sp4 | apply sp5 | apply sp6 | apply sp7) <;> intro hb) <;> (simp only [go_sem, hb])) | ((first | apply wm_done | apply wt_done | apply wg_run | refine fk ?_ ?_) <;> (simp only [go_sem]))) | (first | refine cdq ?_ (hc := hT) | refine cmq ?_ (hc := hT) | refine ctq ?_ (hc := hT)); (simp only [go_sem]) | (first | refine cdq ?_ (hc := hcp) | refine cmq ?_ (hc := hcp) | refine ctq ?_ (hc := hcp)); (simp only [go_sem]) | (first | (refine wl_next (wg_run ?_); (simp only [go_sem])) | refine wd_rounds 6 ?_) | (first | (refine tr (.op 0 false (.op 1 false (.op 2 false (.op 3 false (.op 4 false (.op 5 false (.op 6 false (.op 7 true (.op 8 false .nil))))))))) [1, 2] follows ?_; (simp only [go_sem])) | (refine tr (.op 0 false (.op 1 false (.op 2 false (.op 3 false (.op 4 true (.op 5 false .nil)))))) [1, 2] follows ?_; (simp only [go_sem])) | fail) | ((first | refine mxq6 [] ?_ | refine mxq5 [] ?_ | refine mxq4 [] ?_ | refine mxq3 [] ?_ | refine mxq2 [] ?_ | refine mxq1 [] ?_ | refine mxq0 [] ?_ | fail); (simp only [go_sem])) | ((first | refine kdq [] ?_ (hc := h1) | refine kmq [] ?_ (hc := h1) | refine ktq [] ?_ (hc := h1)); rintro _ _ ⟨x1, m1, rfl, hx1, hl1, hu1, rfl⟩ <;> (simp only [go_sem])) | fail)
  have hw0 := want12 (Tm.mk 12 ByteArray.empty 0 noTy noTy 0 [a.tm]) rfl s t p q em ds
  have g1 := l4Cast x1 s (T.pr p q) ds (T.mpr_pr em ds) m1 (by omega) (by omega)
  have z1 := casT_size x1 ds (t := (T.pr p q)) (T.mpr_pr em ds) m1
  generalize hq1 : casT x1 s (T.pr p q) m1 = c1 at g1 z1
  repeat' (first | (first | (((first | apply sp1 | apply sp2 | apply sp3 | apply sp4 | apply sp5 | apply sp6 | apply sp7) <;> intro hb) <;> (simp only [go_sem, hb])) | ((first | apply wm_done | apply wt_done | apply wg_run | refine fk ?_ ?_) <;> (simp only [go_sem]))) | (first | refine cdq ?_ (hc := hT) | refine cmq ?_ (hc := hT) | refine ctq ?_ (hc := hT)); (simp only [go_sem]) | (first | refine cdq ?_ (hc := hcp) | refine cmq ?_ (hc := hcp) | refine ctq ?_ (hc := hcp)); (simp only [go_sem]) | (first | (refine wl_next (wg_run ?_); (simp only [go_sem])) | refine wd_rounds 6 ?_) | (first | (refine tr (.op 0 false (.op 1 false (.op 2 false (.op 3 false (.op 4 false (.op 5 false (.op 6 false (.op 7 true (.op 8 false .nil))))))))) [1, 2] follows ?_; (simp only [go_sem])) | (refine tr (.op 0 false (.op 1 false (.op 2 false (.op 3 false (.op 4 true (.op 5 false .nil)))))) [1, 2] follows ?_; (simp only [go_sem])) | fail) | ((first | refine mxq6 [] ?_ | refine mxq5 [] ?_ | refine mxq4 [] ?_ | refine mxq3 [] ?_ | refine mxq2 [] ?_ | refine mxq1 [] ?_ | refine mxq0 [] ?_ | fail); (simp only [go_sem])) | (first | refine cdq ?_ (hc := hw0) | refine cmq ?_ (hc := hw0) | refine ctq ?_ (hc := hw0)); (simp only [go_sem]) | (first | refine cdq ?_ (hc := g1) | refine cmq ?_ (hc := g1) | refine ctq ?_ (hc := g1)); (simp only [go_sem]) | fail)
  exact hR _ (rat [] (hK := ⟨(Tm.mk 12 ByteArray.empty 0 noTy noTy 0 [c1.1]), c1.2, rfl, by simp only [Tm.size, Tm.sizes, noTy, Ty.size, Ty.sizes, E.nodes]; omega, by omega, by simp only [E.nodes]; omega, rfl⟩))
theorem sIns13 (ty : T) (a : E) (iha : ∀ (Γ : Ctx) (n : Int) (t : T), a.wf = true → a.noC = true → ctxOk Γ → Γ.length + a.tm.size < 40000 → a.rty Γ = some t → 0 ≤ n → n + 3 * a.nodes ≤ 1000000000 → ACl Tryz.prog 131 [.one (.sl (bdR Γ)), .agg (teC a.tm), .one (.sc (.int .i64 n))] [] (InsR a t n)) :
    ∀ (Γ : Ctx) (n : Int) (t : T), (E.asc ty a).wf = true → (E.asc ty a).noC = true → ctxOk Γ → Γ.length + (E.asc ty a).tm.size < 40000 → (E.asc ty a).rty Γ = some t → 0 ≤ n → n + 3 * (E.asc ty a).nodes ≤ 1000000000 → ACl Tryz.prog 131 [.one (.sl (bdR Γ)), .agg (teC (E.asc ty a).tm), .one (.sc (.int .i64 n))] [] (InsR (E.asc ty a) t n) := by
  intro Γ n t hw hn hc hl ht hlo hhi
  have hnd := E.nodes_tm (E.asc ty a)
  have hT := tyFn (l3Type (E.asc ty a) Γ hw hn hc (by omega)) ht
  have hcp := l2Copy 274877906944 (by omega) (E.asc ty a).tm (by omega)
  have htd := E.rty_depth (E.asc ty a) Γ t hw hc ht
  obtain ⟨s, es⟩ := r_asc ht
  simp only [E.wf, Bool.and_eq_true, decide_eq_true_eq] at hw
  simp only [E.noC] at hn
  simp only [E.tm, nd, Tm.size, Tm.sizes] at hl
  simp only [E.nodes] at hhi
  have ds := E.rty_depth a Γ s hw.2 hc es
  simp only [E.tm, nd] at hT hcp ⊢
  refine acl_in Tryz.func131 rfl isfn_131 (Nat.le_of_ble_eq_true rfl) (fun R hR => ?_); rw [Tryz.results131] at hR; refine wg_run ?_; (simp only [Tryz.f131, go_sem])
  have h1 := iha Γ n s hw.2 hn hc (by omega) es (by omega) (by omega)
  repeat' (first | (first | (((first | apply sp1 | apply sp2 | apply sp3 | apply sp4 | apply sp5 | apply sp6 | apply sp7) <;> intro hb) <;> (simp only [go_sem, hb])) | ((first | apply wm_done | apply wt_done | apply wg_run | refine fk ?_ ?_) <;> (simp only [go_sem]))) | (first | refine cdq ?_ (hc := hT) | refine cmq ?_ (hc := hT) | refine ctq ?_ (hc := hT)); (simp only [go_sem]) | (first | refine cdq ?_ (hc := hcp) | refine cmq ?_ (hc := hcp) | refine ctq ?_ (hc := hcp)); (simp only [go_sem]) | (first | (refine wl_next (wg_run ?_); (simp only [go_sem])) | refine wd_rounds 6 ?_) | (first | (refine tr (.op 0 false (.op 1 false (.op 2 false (.op 3 false (.op 4 false (.op 5 false (.op 6 false (.op 7 true (.op 8 false .nil))))))))) [1, 2] follows ?_; (simp only [go_sem])) | (refine tr (.op 0 false (.op 1 false (.op 2 false (.op 3 false (.op 4 true (.op 5 false .nil)))))) [1, 2] follows ?_; (simp only [go_sem])) | fail) | ((first | refine mxq6 [] ?_ | refine mxq5 [] ?_ | refine mxq4 [] ?_ | refine mxq3 [] ?_ | refine mxq2 [] ?_ | refine mxq1 [] ?_ | refine mxq0 [] ?_ | fail); (simp only [go_sem])) | ((first | refine kdq [] ?_ (hc := h1) | refine kmq [] ?_ (hc := h1) | refine ktq [] ?_ (hc := h1)); rintro _ _ ⟨x1, m1, rfl, hx1, hl1, hu1, rfl⟩ <;> (simp only [go_sem])) | fail)
  have hw0 := want13 (Tm.mk 13 ByteArray.empty 0 ty.ty noTy 0 [a.tm]) rfl s t 
  have g1 := l4Cast x1 s t ds htd m1 (by omega) (by omega)
  have z1 := casT_size x1 ds (t := t) htd m1
  generalize hq1 : casT x1 s t m1 = c1 at g1 z1
  repeat' (first | (first | (((first | apply sp1 | apply sp2 | apply sp3 | apply sp4 | apply sp5 | apply sp6 | apply sp7) <;> intro hb) <;> (simp only [go_sem, hb])) | ((first | apply wm_done | apply wt_done | apply wg_run | refine fk ?_ ?_) <;> (simp only [go_sem]))) | (first | refine cdq ?_ (hc := hT) | refine cmq ?_ (hc := hT) | refine ctq ?_ (hc := hT)); (simp only [go_sem]) | (first | refine cdq ?_ (hc := hcp) | refine cmq ?_ (hc := hcp) | refine ctq ?_ (hc := hcp)); (simp only [go_sem]) | (first | (refine wl_next (wg_run ?_); (simp only [go_sem])) | refine wd_rounds 6 ?_) | (first | (refine tr (.op 0 false (.op 1 false (.op 2 false (.op 3 false (.op 4 false (.op 5 false (.op 6 false (.op 7 true (.op 8 false .nil))))))))) [1, 2] follows ?_; (simp only [go_sem])) | (refine tr (.op 0 false (.op 1 false (.op 2 false (.op 3 false (.op 4 true (.op 5 false .nil)))))) [1, 2] follows ?_; (simp only [go_sem])) | fail) | ((first | refine mxq6 [] ?_ | refine mxq5 [] ?_ | refine mxq4 [] ?_ | refine mxq3 [] ?_ | refine mxq2 [] ?_ | refine mxq1 [] ?_ | refine mxq0 [] ?_ | fail); (simp only [go_sem])) | (first | refine cdq ?_ (hc := hw0) | refine cmq ?_ (hc := hw0) | refine ctq ?_ (hc := hw0)); (simp only [go_sem]) | (first | refine cdq ?_ (hc := g1) | refine cmq ?_ (hc := g1) | refine ctq ?_ (hc := g1)); (simp only [go_sem]) | fail)
  exact hR _ (rat [] (hK := ⟨c1.1, c1.2, rfl, by simp only [Tm.size, Tm.sizes, noTy, Ty.size, Ty.sizes, E.nodes]; omega, by omega, by simp only [E.nodes]; omega, rfl⟩))
theorem sIns5 (x : UInt8) (ty : T) (a : E) (iha : ∀ (Γ : Ctx) (n : Int) (t : T), a.wf = true → a.noC = true → ctxOk Γ → Γ.length + a.tm.size < 40000 → a.rty Γ = some t → 0 ≤ n → n + 3 * a.nodes ≤ 1000000000 → ACl Tryz.prog 131 [.one (.sl (bdR Γ)), .agg (teC a.tm), .one (.sc (.int .i64 n))] [] (InsR a t n)) :
    ∀ (Γ : Ctx) (n : Int) (t : T), (E.lam x ty a).wf = true → (E.lam x ty a).noC = true → ctxOk Γ → Γ.length + (E.lam x ty a).tm.size < 40000 → (E.lam x ty a).rty Γ = some t → 0 ≤ n → n + 3 * (E.lam x ty a).nodes ≤ 1000000000 → ACl Tryz.prog 131 [.one (.sl (bdR Γ)), .agg (teC (E.lam x ty a).tm), .one (.sc (.int .i64 n))] [] (InsR (E.lam x ty a) t n) := by
  intro Γ n t hw hn hc hl ht hlo hhi
  have hnd := E.nodes_tm (E.lam x ty a)
  have hT := tyFn (l3Type (E.lam x ty a) Γ hw hn hc (by omega)) ht
  have hcp := l2Copy 274877906944 (by omega) (E.lam x ty a).tm (by omega)
  have htd := E.rty_depth (E.lam x ty a) Γ t hw hc ht
  obtain ⟨s, es⟩ := r_lam ht
  simp only [E.wf, Bool.and_eq_true, decide_eq_true_eq] at hw
  simp only [E.noC] at hn
  simp only [E.tm, nd, Tm.size, Tm.sizes] at hl
  simp only [E.nodes] at hhi
  have hm := l3More Γ (by omega) x ty
  have hc := ctxOk_snoc (x := x) hc hw.2.1
  have hlen : (Γ ++ [(x, ty)]).length = Γ.length + 1 := by simp
  have ds := E.rty_depth a (Γ ++ [(x, ty)]) s hw.2.2 hc es
  simp only [E.tm, nd] at hT hcp ⊢
  refine acl_in Tryz.func131 rfl isfn_131 (Nat.le_of_ble_eq_true rfl) (fun R hR => ?_); rw [Tryz.results131] at hR; refine wg_run ?_; (simp only [Tryz.f131, go_sem])
  have h1 := iha (Γ ++ [(x, ty)]) n s hw.2.2 hn hc (by rw [hlen]; omega) es (by omega) (by omega)
  repeat' (first | (first | (((first | apply sp1 | apply sp2 | apply sp3 | apply sp4 | apply sp5 | apply sp6 | apply sp7) <;> intro hb) <;> (simp only [go_sem, hb])) | ((first | apply wm_done | apply wt_done | apply wg_run | refine fk ?_ ?_) <;> (simp only [go_sem]))) | (first | refine cdq ?_ (hc := hT) | refine cmq ?_ (hc := hT) | refine ctq ?_ (hc := hT)); (simp only [go_sem]) | (first | refine cdq ?_ (hc := hcp) | refine cmq ?_ (hc := hcp) | refine ctq ?_ (hc := hcp)); (simp only [go_sem]) | (first | (refine wl_next (wg_run ?_); (simp only [go_sem])) | refine wd_rounds 6 ?_) | (first | refine cdq ?_ (hc := hm) | refine cmq ?_ (hc := hm) | refine ctq ?_ (hc := hm)); (simp only [go_sem]) | (first | (refine tr (.op 0 false (.op 1 false (.op 2 false (.op 3 false (.op 4 false (.op 5 false (.op 6 false (.op 7 true (.op 8 false .nil))))))))) [1, 2] follows ?_; (simp only [go_sem])) | (refine tr (.op 0 false (.op 1 false (.op 2 false (.op 3 false (.op 4 true (.op 5 false .nil)))))) [1, 2] follows ?_; (simp only [go_sem])) | fail) | ((first | refine mxq6 [] ?_ | refine mxq5 [] ?_ | refine mxq4 [] ?_ | refine mxq3 [] ?_ | refine mxq2 [] ?_ | refine mxq1 [] ?_ | refine mxq0 [] ?_ | fail); (simp only [go_sem])) | ((first | refine kdq [] ?_ (hc := h1) | refine kmq [] ?_ (hc := h1) | refine ktq [] ?_ (hc := h1)); rintro _ _ ⟨x1, m1, rfl, hx1, hl1, hu1, rfl⟩ <;> (simp only [go_sem])) | fail)
  have hw0 := want5 (Tm.mk 5 (nm x) 0 ty.ty noTy 0 [a.tm]) rfl s t 
  have g1 := l4Cast x1 s s ds ds m1 (by omega) (by omega)
  have z1 := casT_size x1 ds (t := s) ds m1
  generalize hq1 : casT x1 s s m1 = c1 at g1 z1
  repeat' (first | (first | (((first | apply sp1 | apply sp2 | apply sp3 | apply sp4 | apply sp5 | apply sp6 | apply sp7) <;> intro hb) <;> (simp only [go_sem, hb])) | ((first | apply wm_done | apply wt_done | apply wg_run | refine fk ?_ ?_) <;> (simp only [go_sem]))) | (first | refine cdq ?_ (hc := hT) | refine cmq ?_ (hc := hT) | refine ctq ?_ (hc := hT)); (simp only [go_sem]) | (first | refine cdq ?_ (hc := hcp) | refine cmq ?_ (hc := hcp) | refine ctq ?_ (hc := hcp)); (simp only [go_sem]) | (first | (refine wl_next (wg_run ?_); (simp only [go_sem])) | refine wd_rounds 6 ?_) | (first | refine cdq ?_ (hc := hm) | refine cmq ?_ (hc := hm) | refine ctq ?_ (hc := hm)); (simp only [go_sem]) | (first | (refine tr (.op 0 false (.op 1 false (.op 2 false (.op 3 false (.op 4 false (.op 5 false (.op 6 false (.op 7 true (.op 8 false .nil))))))))) [1, 2] follows ?_; (simp only [go_sem])) | (refine tr (.op 0 false (.op 1 false (.op 2 false (.op 3 false (.op 4 true (.op 5 false .nil)))))) [1, 2] follows ?_; (simp only [go_sem])) | fail) | ((first | refine mxq6 [] ?_ | refine mxq5 [] ?_ | refine mxq4 [] ?_ | refine mxq3 [] ?_ | refine mxq2 [] ?_ | refine mxq1 [] ?_ | refine mxq0 [] ?_ | fail); (simp only [go_sem])) | (first | refine cdq ?_ (hc := hw0) | refine cmq ?_ (hc := hw0) | refine ctq ?_ (hc := hw0)); (simp only [go_sem]) | (first | refine cdq ?_ (hc := g1) | refine cmq ?_ (hc := g1) | refine ctq ?_ (hc := g1)); (simp only [go_sem]) | fail)
  exact hR _ (rat [] (hK := ⟨(Tm.mk 5 (nm x) 0 ty.ty noTy 0 [c1.1]), c1.2, rfl, by simp only [Tm.size, Tm.sizes, noTy, Ty.size, Ty.sizes, E.nodes]; have := T.ty_size16 hw.2.1; omega, by omega, by simp only [E.nodes]; omega, rfl⟩))
theorem sIns1 (x : UInt8) : ∀ (Γ : Ctx) (n : Int) (t : T), (E.var x).wf = true → (E.var x).noC = true → ctxOk Γ → Γ.length + (E.var x).tm.size < 40000 → (E.var x).rty Γ = some t → 0 ≤ n → n + 3 * (E.var x).nodes ≤ 1000000000 → ACl Tryz.prog 131 [.one (.sl (bdR Γ)), .agg (teC (E.var x).tm), .one (.sc (.int .i64 n))] [] (InsR (E.var x) t n) := by
  intro Γ n t hw hn hc hl ht hlo hhi
  have hnd := E.nodes_tm (E.var x)
  have hT := tyFn (l3Type (E.var x) Γ hw hn hc (by omega)) ht
  have hcp := l2Copy 274877906944 (by omega) (E.var x).tm (by omega)
  have hw0 := want0 (Tm.mk 1 (nm x) 0 noTy noTy 0 []) (by simp [Tm.kind]) t
  simp only [E.tm, nd] at hT hcp ⊢
  refine acl_in Tryz.func131 rfl isfn_131 (Nat.le_of_ble_eq_true rfl) (fun R hR => ?_); rw [Tryz.results131] at hR; refine wg_run ?_; (simp only [Tryz.f131, go_sem])
  repeat' (first | (first | (((first | apply sp1 | apply sp2 | apply sp3 | apply sp4 | apply sp5 | apply sp6 | apply sp7) <;> intro hb) <;> (simp only [go_sem, hb])) | ((first | apply wm_done | apply wt_done | apply wg_run | refine fk ?_ ?_) <;> (simp only [go_sem]))) | (first | refine cdq ?_ (hc := hT) | refine cmq ?_ (hc := hT) | refine ctq ?_ (hc := hT)); (simp only [go_sem]) | (first | refine cdq ?_ (hc := hcp) | refine cmq ?_ (hc := hcp) | refine ctq ?_ (hc := hcp)); (simp only [go_sem]) | (first | (refine wl_next (wg_run ?_); (simp only [go_sem])) | refine wd_rounds 6 ?_) | (first | refine cdq ?_ (hc := hw0) | refine cmq ?_ (hc := hw0) | refine ctq ?_ (hc := hw0)); (simp only [go_sem]) | (first | (refine tr (.op 0 false (.op 1 false (.op 2 false (.op 3 false (.op 4 false (.op 5 false (.op 6 false (.op 7 true (.op 8 false .nil))))))))) [1, 2] follows ?_; (simp only [go_sem])) | (refine tr (.op 0 false (.op 1 false (.op 2 false (.op 3 false (.op 4 true (.op 5 false .nil)))))) [1, 2] follows ?_; (simp only [go_sem])) | fail) | ((first | refine mxq6 [] ?_ | refine mxq5 [] ?_ | refine mxq4 [] ?_ | refine mxq3 [] ?_ | refine mxq2 [] ?_ | refine mxq1 [] ?_ | refine mxq0 [] ?_ | fail); (simp only [go_sem])) | fail)
  exact hR _ (rat [] (hK := ⟨(Tm.mk 1 (nm x) 0 noTy noTy 0 []), n, rfl, by simp only [Tm.size, Tm.sizes, noTy, Ty.size, Ty.sizes, E.nodes]; omega, by omega, by simp only [E.nodes]; omega, rfl⟩))
theorem sIns2 (z : Int) : ∀ (Γ : Ctx) (n : Int) (t : T), (E.num z).wf = true → (E.num z).noC = true → ctxOk Γ → Γ.length + (E.num z).tm.size < 40000 → (E.num z).rty Γ = some t → 0 ≤ n → n + 3 * (E.num z).nodes ≤ 1000000000 → ACl Tryz.prog 131 [.one (.sl (bdR Γ)), .agg (teC (E.num z).tm), .one (.sc (.int .i64 n))] [] (InsR (E.num z) t n) := by
  intro Γ n t hw hn hc hl ht hlo hhi
  have hnd := E.nodes_tm (E.num z)
  have hT := tyFn (l3Type (E.num z) Γ hw hn hc (by omega)) ht
  have hcp := l2Copy 274877906944 (by omega) (E.num z).tm (by omega)
  have hw0 := want0 (Tm.mk 2 ByteArray.empty z noTy noTy 0 []) (by simp [Tm.kind]) t
  simp only [E.tm, nd] at hT hcp ⊢
  refine acl_in Tryz.func131 rfl isfn_131 (Nat.le_of_ble_eq_true rfl) (fun R hR => ?_); rw [Tryz.results131] at hR; refine wg_run ?_; (simp only [Tryz.f131, go_sem])
  repeat' (first | (first | (((first | apply sp1 | apply sp2 | apply sp3 | apply sp4 | apply sp5 | apply sp6 | apply sp7) <;> intro hb) <;> (simp only [go_sem, hb])) | ((first | apply wm_done | apply wt_done | apply wg_run | refine fk ?_ ?_) <;> (simp only [go_sem]))) | (first | refine cdq ?_ (hc := hT) | refine cmq ?_ (hc := hT) | refine ctq ?_ (hc := hT)); (simp only [go_sem]) | (first | refine cdq ?_ (hc := hcp) | refine cmq ?_ (hc := hcp) | refine ctq ?_ (hc := hcp)); (simp only [go_sem]) | (first | (refine wl_next (wg_run ?_); (simp only [go_sem])) | refine wd_rounds 6 ?_) | (first | refine cdq ?_ (hc := hw0) | refine cmq ?_ (hc := hw0) | refine ctq ?_ (hc := hw0)); (simp only [go_sem]) | (first | (refine tr (.op 0 false (.op 1 false (.op 2 false (.op 3 false (.op 4 false (.op 5 false (.op 6 false (.op 7 true (.op 8 false .nil))))))))) [1, 2] follows ?_; (simp only [go_sem])) | (refine tr (.op 0 false (.op 1 false (.op 2 false (.op 3 false (.op 4 true (.op 5 false .nil)))))) [1, 2] follows ?_; (simp only [go_sem])) | fail) | ((first | refine mxq6 [] ?_ | refine mxq5 [] ?_ | refine mxq4 [] ?_ | refine mxq3 [] ?_ | refine mxq2 [] ?_ | refine mxq1 [] ?_ | refine mxq0 [] ?_ | fail); (simp only [go_sem])) | fail)
  exact hR _ (rat [] (hK := ⟨(Tm.mk 2 ByteArray.empty z noTy noTy 0 []), n, rfl, by simp only [Tm.size, Tm.sizes, noTy, Ty.size, Ty.sizes, E.nodes]; omega, by omega, by simp only [E.nodes]; omega, rfl⟩))
theorem sIns3  : ∀ (Γ : Ctx) (n : Int) (t : T), (E.tru).wf = true → (E.tru).noC = true → ctxOk Γ → Γ.length + (E.tru).tm.size < 40000 → (E.tru).rty Γ = some t → 0 ≤ n → n + 3 * (E.tru).nodes ≤ 1000000000 → ACl Tryz.prog 131 [.one (.sl (bdR Γ)), .agg (teC (E.tru).tm), .one (.sc (.int .i64 n))] [] (InsR (E.tru) t n) := by
  intro Γ n t hw hn hc hl ht hlo hhi
  have hnd := E.nodes_tm (E.tru)
  have hT := tyFn (l3Type (E.tru) Γ hw hn hc (by omega)) ht
  have hcp := l2Copy 274877906944 (by omega) (E.tru).tm (by omega)
  have hw0 := want0 (Tm.mk 3 ByteArray.empty 0 noTy noTy 0 []) (by simp [Tm.kind]) t
  simp only [E.tm, nd] at hT hcp ⊢
  refine acl_in Tryz.func131 rfl isfn_131 (Nat.le_of_ble_eq_true rfl) (fun R hR => ?_); rw [Tryz.results131] at hR; refine wg_run ?_; (simp only [Tryz.f131, go_sem])
  repeat' (first | (first | (((first | apply sp1 | apply sp2 | apply sp3 | apply sp4 | apply sp5 | apply sp6 | apply sp7) <;> intro hb) <;> (simp only [go_sem, hb])) | ((first | apply wm_done | apply wt_done | apply wg_run | refine fk ?_ ?_) <;> (simp only [go_sem]))) | (first | refine cdq ?_ (hc := hT) | refine cmq ?_ (hc := hT) | refine ctq ?_ (hc := hT)); (simp only [go_sem]) | (first | refine cdq ?_ (hc := hcp) | refine cmq ?_ (hc := hcp) | refine ctq ?_ (hc := hcp)); (simp only [go_sem]) | (first | (refine wl_next (wg_run ?_); (simp only [go_sem])) | refine wd_rounds 6 ?_) | (first | refine cdq ?_ (hc := hw0) | refine cmq ?_ (hc := hw0) | refine ctq ?_ (hc := hw0)); (simp only [go_sem]) | (first | (refine tr (.op 0 false (.op 1 false (.op 2 false (.op 3 false (.op 4 false (.op 5 false (.op 6 false (.op 7 true (.op 8 false .nil))))))))) [1, 2] follows ?_; (simp only [go_sem])) | (refine tr (.op 0 false (.op 1 false (.op 2 false (.op 3 false (.op 4 true (.op 5 false .nil)))))) [1, 2] follows ?_; (simp only [go_sem])) | fail) | ((first | refine mxq6 [] ?_ | refine mxq5 [] ?_ | refine mxq4 [] ?_ | refine mxq3 [] ?_ | refine mxq2 [] ?_ | refine mxq1 [] ?_ | refine mxq0 [] ?_ | fail); (simp only [go_sem])) | fail)
  exact hR _ (rat [] (hK := ⟨(Tm.mk 3 ByteArray.empty 0 noTy noTy 0 []), n, rfl, by simp only [Tm.size, Tm.sizes, noTy, Ty.size, Ty.sizes, E.nodes]; omega, by omega, by simp only [E.nodes]; omega, rfl⟩))
theorem sIns4  : ∀ (Γ : Ctx) (n : Int) (t : T), (E.fls).wf = true → (E.fls).noC = true → ctxOk Γ → Γ.length + (E.fls).tm.size < 40000 → (E.fls).rty Γ = some t → 0 ≤ n → n + 3 * (E.fls).nodes ≤ 1000000000 → ACl Tryz.prog 131 [.one (.sl (bdR Γ)), .agg (teC (E.fls).tm), .one (.sc (.int .i64 n))] [] (InsR (E.fls) t n) := by
  intro Γ n t hw hn hc hl ht hlo hhi
  have hnd := E.nodes_tm (E.fls)
  have hT := tyFn (l3Type (E.fls) Γ hw hn hc (by omega)) ht
  have hcp := l2Copy 274877906944 (by omega) (E.fls).tm (by omega)
  have hw0 := want0 (Tm.mk 4 ByteArray.empty 0 noTy noTy 0 []) (by simp [Tm.kind]) t
  simp only [E.tm, nd] at hT hcp ⊢
  refine acl_in Tryz.func131 rfl isfn_131 (Nat.le_of_ble_eq_true rfl) (fun R hR => ?_); rw [Tryz.results131] at hR; refine wg_run ?_; (simp only [Tryz.f131, go_sem])
  repeat' (first | (first | (((first | apply sp1 | apply sp2 | apply sp3 | apply sp4 | apply sp5 | apply sp6 | apply sp7) <;> intro hb) <;> (simp only [go_sem, hb])) | ((first | apply wm_done | apply wt_done | apply wg_run | refine fk ?_ ?_) <;> (simp only [go_sem]))) | (first | refine cdq ?_ (hc := hT) | refine cmq ?_ (hc := hT) | refine ctq ?_ (hc := hT)); (simp only [go_sem]) | (first | refine cdq ?_ (hc := hcp) | refine cmq ?_ (hc := hcp) | refine ctq ?_ (hc := hcp)); (simp only [go_sem]) | (first | (refine wl_next (wg_run ?_); (simp only [go_sem])) | refine wd_rounds 6 ?_) | (first | refine cdq ?_ (hc := hw0) | refine cmq ?_ (hc := hw0) | refine ctq ?_ (hc := hw0)); (simp only [go_sem]) | (first | (refine tr (.op 0 false (.op 1 false (.op 2 false (.op 3 false (.op 4 false (.op 5 false (.op 6 false (.op 7 true (.op 8 false .nil))))))))) [1, 2] follows ?_; (simp only [go_sem])) | (refine tr (.op 0 false (.op 1 false (.op 2 false (.op 3 false (.op 4 true (.op 5 false .nil)))))) [1, 2] follows ?_; (simp only [go_sem])) | fail) | ((first | refine mxq6 [] ?_ | refine mxq5 [] ?_ | refine mxq4 [] ?_ | refine mxq3 [] ?_ | refine mxq2 [] ?_ | refine mxq1 [] ?_ | refine mxq0 [] ?_ | fail); (simp only [go_sem])) | fail)
  exact hR _ (rat [] (hK := ⟨(Tm.mk 4 ByteArray.empty 0 noTy noTy 0 []), n, rfl, by simp only [Tm.size, Tm.sizes, noTy, Ty.size, Ty.sizes, E.nodes]; omega, by omega, by simp only [E.nodes]; omega, rfl⟩))
theorem l4Insert (e : E) : ∀ (Γ : Ctx) (n : Int) (t : T), e.wf = true → e.noC = true → ctxOk Γ → Γ.length + e.tm.size < 40000 → e.rty Γ = some t → 0 ≤ n → n + 3 * e.nodes ≤ 1000000000 → ACl Tryz.prog 131 [.one (.sl (bdR Γ)), .agg (teC e.tm), .one (.sc (.int .i64 n))] [] (InsR e t n) := by
  induction e with
  | var x => exact sIns1 x
  | num z => exact sIns2 z
  | tru => exact sIns3
  | fls => exact sIns4
  | lam x t a ih => exact sIns5 x t a ih
  | app a b iha ihb => exact sIns6 a b iha ihb
  | add a b iha ihb => exact sIns7 a b iha ihb
  | less a b iha ihb => exact sIns8 a b iha ihb
  | ite a b c iha ihb ihc => exact sIns9 a b c iha ihb ihc
  | pair a b iha ihb => exact sIns10 a b iha ihb
  | fst a ih => exact sIns11 a ih
  | snd a ih => exact sIns12 a ih
  | asc t a ih => exact sIns13 t a ih
  | cast s t l a ih => intro Γ n t hw hn; simp [E.noC] at hn
/-- a term with casts put in, its type, true; or something, and false -/
def InsC (n : Nat) (r : AV) (H' : List Blk) : Prop := (∃ (x : Tm) (t : T), r = .tup [.agg (teC x), .agg (tyC t.ty), .one (.sc (.bool true))] ∧ x.size ≤ 120 * n ∧ t.depth ≤ 4 ∧ H' = []) ∨ (r = .tup [.agg (teC tm0), .agg (tyC noTy), .one (.sc (.bool false))] ∧ H' = [])
theorem sInsertCasts (e : E) (hw : e.wf = true) (hn : e.noC = true) (hz : e.tm.size < 40000) : ACl Tryz.prog 81 [.agg (teC e.tm)] [] (InsC e.nodes) := by
  have h1 := sTypeOf e hw hn hz
  have hnd := E.nodes_tm e
  refine acl_in Tryz.func81 rfl isfn_81 (Nat.le_of_ble_eq_true rfl) (fun R hR => ?_); rw [Tryz.results81] at hR; refine wg_run ?_; (simp only [Tryz.f81, go_sem])
  repeat' (first | (first | (((first | apply sp1 | apply sp2 | apply sp3 | apply sp4 | apply sp5 | apply sp6 | apply sp7) <;> intro hb) <;> (simp only [go_sem, hb])) | ((first | apply wm_done | apply wt_done | apply wg_run | refine fk ?_ ?_) <;> (simp only [go_sem]))) | fail)
  ((first | refine kdq [] ?_ (hc := h1) | refine kmq [] ?_ (hc := h1) | refine ktq [] ?_ (hc := h1)); rintro _ _ (⟨t, et, rfl, rfl⟩ | ⟨rfl, rfl⟩) <;> (simp only [go_sem]))
  · have h2 := l4Insert e [] 1 t hw hn ctxOk_nil (by simp; omega) et (by omega) (by omega)
    repeat' (first | (first | (((first | apply sp1 | apply sp2 | apply sp3 | apply sp4 | apply sp5 | apply sp6 | apply sp7) <;> intro hb) <;> (simp only [go_sem, hb])) | ((first | apply wm_done | apply wt_done | apply wg_run | refine fk ?_ ?_) <;> (simp only [go_sem]))) | fail)
    ((first | refine kdq [] ?_ (hc := h2) | refine kmq [] ?_ (hc := h2) | refine ktq [] ?_ (hc := h2)); rintro _ _ ⟨x, m, rfl, hx, hl, hu, rfl⟩ <;> (simp only [go_sem]))
    repeat' (first | (first | (((first | apply sp1 | apply sp2 | apply sp3 | apply sp4 | apply sp5 | apply sp6 | apply sp7) <;> intro hb) <;> (simp only [go_sem, hb])) | ((first | apply wm_done | apply wt_done | apply wg_run | refine fk ?_ ?_) <;> (simp only [go_sem]))) | (first | (refine tr (.op 0 false (.op 1 false (.op 2 false (.op 3 true (.op 4 false .nil))))) [1, 2] follows ?_; (simp only [go_sem])) | fail) | fail)
    exact hR _ (rat [] (hK := (.inl ⟨x, t, rfl, hx, E.rty_depth e [] t hw ctxOk_nil et, rfl⟩)))
  · repeat' (first | (first | (((first | apply sp1 | apply sp2 | apply sp3 | apply sp4 | apply sp5 | apply sp6 | apply sp7) <;> intro hb) <;> (simp only [go_sem, hb])) | ((first | apply wm_done | apply wt_done | apply wg_run | refine fk ?_ ?_) <;> (simp only [go_sem]))) | fail)
    exact hR _ (rat [] (hK := (.inr ⟨rfl, rfl⟩)))
end Go.Proofs.YtjmicohbnpbemaaGreat
