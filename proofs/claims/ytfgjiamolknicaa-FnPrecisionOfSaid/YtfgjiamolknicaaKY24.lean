/- Texts of the proof, one behind another. -/
import Derived.Lib.Strings
import Derived.Lib.Slices
import Derived.Lib.Walk
import Derived.Lib.Bytealg
import Derived.Test.YtfgjiamolknicaaKY8
import Derived.Test.YtfgjiamolknicaaKY10
import Derived.Test.YtfgjiamolknicaaKY11
import Derived.Test.YtfgjiamolknicaaKY13
import Derived.Test.YtfgjiamolknicaaKY14
import Derived.Test.YtfgjiamolknicaaKY16
import Derived.Test.YtfgjiamolknicaaKY17
import Derived.Test.YtfgjiamolknicaaKY19
import Derived.Test.YtfgjiamolknicaaKY20
import Derived.Test.YtfgjiamolknicaaKY22
import Derived.Test.YtfgjiamolknicaaKY23
set_option linter.unusedSimpArgs false
set_option linter.unusedVariables false
/- The reference's draws of less precise terms. On shadows. -/
namespace Go.Proofs.Ytfgjiamolknicaa
open Go.RowKit Go.Proofs.Sh Go.Proofs.Grad
set_option maxRecDepth 100000
set_option maxHeartbeats 16000000
theorem l3BlurD (bs : List Int) (hB : Bs bs) (p : Nat) (hp : p < 900000000) (e : E) (hz : e.tm.size < 1000000) : ACl Try.prog 113 [.one (.ptr 2 0 0 0), .agg (teC e.tm)] [(⟨2, 106, .mut, [[.sl (byR bs), .sc (.int .i64 ((p : Nat) : Int))]]⟩ : Blk)] (DrawsX bs p 500 5000) := by
  cases ho : e.okT
  · have hv : e.tm.termV = false := by rw [E.termV_tm]; exact ho
    have h1 := sTermTypesBad e.tm hv (by omega)
    have h2 := sWithBad e.tm hv (by omega)
    have ht0 : tm0.size ≤ 10 := by simp [tm0, noTy, Tm.size, Ty.size, Ty.sizes, Tm.sizes]
    simp only [tm0, noTy] at h2
    generalize e.tm = t at *
    refine acl_in Try.func113 rfl isfn_113 (Nat.le_of_ble_eq_true rfl) (fun R hR => ?_); rw [Try.results113] at hR; refine wg_run ?_; (simp only [Try.f113, go_sem])
    repeat' (first | (first | (((first | apply sp1 | apply sp2 | apply sp3 | apply sp4 | apply sp5 | apply sp6 | apply sp7) <;> intro hb) <;> (simp only [go_sem, hb])) | ((first | apply wm_done | apply wt_done | apply wg_run | refine fk ?_ ?_) <;> (simp only [go_sem]))) | (first | refine cdq ?_ (hc := h1) | refine cmq ?_ (hc := h1) | refine ctq ?_ (hc := h1)); (simp only [go_sem]) | (first | refine cdq ?_ (hc := h2) | refine cmq ?_ (hc := h2) | refine ctq ?_ (hc := h2)); (simp only [go_sem]) | (first | (refine wl_next (wg_run ?_); (simp only [go_sem])) | refine wd_rounds 6 ?_) | fail)
    exact hR _ (rat [] (hK := ⟨tm0, p, rfl, by omega, by omega, rfl⟩))
  · have hc := sTermTypesO e ho
    have hn30 := nt30 ho
    have hnl := e.tl_length
    have ho' := ho
    simp only [E.okT, Bool.and_eq_true, decide_eq_true_eq] at ho'
    have hd := E.tl_depth e ho'.1 ho'.2.1
    have hwt : ∀ L : List T, (∀ t ∈ L, t.depth ≤ 4) → L.length = e.nt → _ := fun L hL hlen => sWithTypes e ho L hL hlen
    have hws : ∀ L : List T, (∀ t ∈ L, t.depth ≤ 4) → (e.wt L).1.tm.size ≤ 1200 := fun L hL => E.size_okT (E.wt_okT ho hL)
    generalize e.tl = L0 at *
    generalize e.nt = n at *
    refine acl_in Try.func113 rfl isfn_113 (Nat.le_of_ble_eq_true rfl) (fun R hR => ?_); rw [Try.results113] at hR; refine wg_run ?_; (simp only [Try.f113, go_sem])
    repeat' (first | (first | (((first | apply sp1 | apply sp2 | apply sp3 | apply sp4 | apply sp5 | apply sp6 | apply sp7) <;> intro hb) <;> (simp only [go_sem, hb])) | ((first | apply wm_done | apply wt_done | apply wg_run | refine fk ?_ ?_) <;> (simp only [go_sem]))) | ((first | refine kdq [] ?_ (hc := hc) | refine kmq [] ?_ (hc := hc) | refine ktq [] ?_ (hc := hc)); rintro _ _ ⟨rfl, rfl⟩ <;> (simp only [go_sem])) | fail)
    refine wd_for (σ := Nat × Nat × List T) [0, 3, 4, 5, 6] (fun x => [.one (.ptr 2 0 0 0), .one (.ptr 9 1 0 0), .one (.ptr 9 2 0 0), .one (.row 2 3 n), .one (.sc (.int .i64 (x.1 : Nat)))])
      (fun x => [(⟨2, 106, .mut, [[.sl (byR bs), .sc (.int .i64 ((x.2.1 : Nat) : Int))]]⟩ : Blk), ⟨9, 28, .mut, [teC e.tm]⟩, ⟨9, 28, .mut, [[.sc (.int .i64 0), .sc (.string { data := { toList := [] } }), .sc (.int .i64 0), .sc (.int .i64 0), .sc (.slice none 0 0), .sc (.int .i64 0), .sc (.slice none 0 0), .sc (.int .i64 0), .sc (.slice none 0 0)]]⟩, ⟨2, 25, .mut, tyR (x.2.2.map T.ty)⟩])
      (fun x => x.1 ≤ n ∧ x.2.1 ≤ p + 16 * x.1 ∧ x.2.2.length = n ∧ ∀ t ∈ x.2.2, t.depth ≤ 4) (fun x => n - x.1) (0, p, L0) ⟨Nat.zero_le _, Nat.le_refl _, hnl, hd⟩ (hat [1, 2, 3] (hI := ⟨rfl, rfl⟩)) ?_
    rintro ⟨k, q, L⟩ ⟨hk, hq, hl, hL⟩ G hG
    simp only [] at hk hq hl hL hG
    refine wg_run ?_
    by_cases hk1 : k < n
    · have d1 : decide ((k : Int) < (n : Nat)) = true := by simp; omega
      have hin : decide (k < n) = true := by simp; omega
      have hw1 := wrap_succ hk1 (by omega)
      have hkL : k < L.length := by omega
      have hu := hL _ (List.getElem_mem hkL)
      have hg : (tyR (L.map T.ty))[k]? = some (tyC L[k].ty) := by rw [tyR_get, List.getElem?_map, List.getElem?_eq_getElem hkL]; rfl
      have hus := tys 4 L[k] hu
      have hb := l1BlurS bs hB L[k] q (by omega)
      have hset := fun x : T => tyRset (L.map T.ty) k x.ty
      generalize L[k] = u at *
      rw [tyC_eq] at hg hb
      repeat' (first | (first | (simp only [go_sem, d1, hin, hg]) | (((first | apply sp1 | apply sp2 | apply sp3 | apply sp4 | apply sp5 | apply sp6 | apply sp7) <;> intro hb) <;> (simp only [go_sem, hb, d1, hin, hg])) | ((first | apply wm_done | apply wt_done | apply wg_run | refine fk ?_ ?_) <;> (simp only [go_sem, d1, hin, hg]))) | fail)
      ((first | refine kdq [0] ?_ (hc := hb) | refine kmq [0] ?_ (hc := hb) | refine ktq [0] ?_ (hc := hb)); rintro _ _ ⟨x, q1, rfl, hx, hq1, rfl⟩ <;> (simp only [go_sem]))
      have hs1 := hset x
      rw [← List.map_set, tyC_eq] at hs1
      rw [tyC_eq]
      repeat' (first | (first | (simp only [go_sem, d1, hin, hg, hs1, hw1]) | (((first | apply sp1 | apply sp2 | apply sp3 | apply sp4 | apply sp5 | apply sp6 | apply sp7) <;> intro hb) <;> (simp only [go_sem, hb, d1, hin, hg, hs1, hw1])) | ((first | apply wm_done | apply wt_done | apply wg_run | refine fk ?_ ?_) <;> (simp only [go_sem, d1, hin, hg, hs1, hw1]))) | fail)
      exact hG (k + 1, q1, L.set k x) _ _ ⟨by simp only []; omega, by simp only []; omega, by simp only [List.length_set]; exact hl, fun t ht => by
        rcases List.mem_or_eq_of_mem_set ht with h | h
        · exact hL t h
        · subst h; omega⟩ (by simp only []; omega) (hat [1, 2, 3] (hI := ⟨rfl, rfl⟩))
    · have d1 : decide ((k : Int) < (n : Nat)) = false := by simp; omega
      have hlm : (L.map T.ty).length = n := by rw [List.length_map]; exact hl
      have htk : (tyR (L.map T.ty)).take n = tyR (L.map T.ty) := List.take_of_length_le (by rw [tyR_length, hlm]; exact Nat.le_refl _)
      have hw := hwt L hL hl
      have hs := hws L hL
      clear hG
      generalize (e.wt L).1.tm = t2 at *
      generalize e.tm = t at *
      repeat' (first | (first | (simp only [go_sem, d1, hlm, htk]) | (((first | apply sp1 | apply sp2 | apply sp3 | apply sp4 | apply sp5 | apply sp6 | apply sp7) <;> intro hb) <;> (simp only [go_sem, hb, d1, hlm, htk])) | ((first | apply wm_done | apply wt_done | apply wg_run | refine fk ?_ ?_) <;> (simp only [go_sem, d1, hlm, htk]))) | (first | refine cd (hp := (by (simp only [go_sem, hlm, htk]); first | done | rfl)) (hc := hw) (hK := ?_) | refine cm (hp := (by (simp only [go_sem, hlm, htk]); first | done | rfl)) (hc := hw) (hK := ?_) | refine ct (hp := (by (simp only [go_sem, hlm, htk]); first | done | rfl)) (hc := hw) (hK := ?_)); (simp only [go_sem, hlm, htk]) | fail)
      exact hR _ (rat [] (hK := ⟨t2, q, rfl, by omega, by omega, rfl⟩))
/-- two terms, small -/
def TwoM (r : AV) (H' : List Blk) : Prop := ∃ x y : Tm, r = .tup [.agg (teC x), .agg (teC y)] ∧ x.size ≤ 5000000 ∧ y.size ≤ 5000000 ∧ H' = []
theorem dTermPrecise (l : List Int) (hl : Code8 l) : ACl Try.prog 46 [.one (.sl (byR l))] [] TwoM := by
  have ho := opn l hl.len hl.all
  refine acl_in Try.func46 rfl isfn_46 (Nat.le_of_ble_eq_true rfl) (fun R hR => ?_); rw [Try.results46] at hR; refine wg_run ?_; (simp only [Try.f46, go_sem])
  ((first | refine kdq [] ?_ (hc := ho) | refine kmq [] ?_ (hc := ho) | refine ktq [] ?_ (hc := ho)); rintro _ _ ⟨bs, hB, rfl, rfl⟩ <;> (simp only [go_sem]))
  have hT := l3Typed bs hB 0 (by omega)
  repeat' (first | (first | (((first | apply sp1 | apply sp2 | apply sp3 | apply sp4 | apply sp5 | apply sp6 | apply sp7) <;> intro hb) <;> (simp only [go_sem, hb])) | ((first | apply wm_done | apply wt_done | apply wg_run | refine fk ?_ ?_) <;> (simp only [go_sem]))) | fail)
  ((first | refine kdq [2] ?_ (hc := hT) | refine kmq [2] ?_ (hc := hT) | refine ktq [2] ?_ (hc := hT)); rintro _ _ ⟨e, q, rfl, he, hc, hs, hq, rfl⟩ <;> (simp only [go_sem]))
  have hk := pick bs hB q (by omega) 4 (by omega) (by omega)
  repeat' (first | (first | (((first | apply sp1 | apply sp2 | apply sp3 | apply sp4 | apply sp5 | apply sp6 | apply sp7) <;> intro hb) <;> (simp only [go_sem, hb])) | ((first | apply wm_done | apply wt_done | apply wg_run | refine fk ?_ ?_) <;> (simp only [go_sem]))) | fail)
  ((first | refine kdq [2] ?_ (hc := hk) | refine kmq [2] ?_ (hc := hk) | refine ktq [2] ?_ (hc := hk)); rintro _ _ ⟨z, rfl, hz, hz1, rfl⟩ <;> (simp only [go_sem]))
  repeat' (first | (first | (((first | apply sp1 | apply sp2 | apply sp3 | apply sp4 | apply sp5 | apply sp6 | apply sp7) <;> intro hb) <;> (simp only [go_sem, hb])) | ((first | apply wm_done | apply wt_done | apply wg_run | refine fk ?_ ?_) <;> (simp only [go_sem]))) | fail)
  · have h1 := l3Typed bs hB (q + 1) (by omega)
    repeat' (first | (first | (((first | apply sp1 | apply sp2 | apply sp3 | apply sp4 | apply sp5 | apply sp6 | apply sp7) <;> intro hb) <;> (simp only [go_sem, hb])) | ((first | apply wm_done | apply wt_done | apply wg_run | refine fk ?_ ?_) <;> (simp only [go_sem]))) | (first | (refine tr (.op 0 false (.op 1 false (.op 3 false (.op 2 false (.op 4 false (.op 5 true .nil)))))) [0, 1, 2] follows ?_; (simp only [go_sem])) | fail) | ((first | refine mxq6 [0, 1, 2] ?_ | refine mxq5 [0, 1, 2] ?_ | refine mxq4 [0, 1, 2] ?_ | refine mxq3 [0, 1, 2] ?_ | refine mxq2 [0, 1, 2] ?_ | refine mxq1 [0, 1, 2] ?_ | refine mxq0 [0, 1, 2] ?_ | fail); (simp only [go_sem])) | fail)
    all_goals
      ((first | refine kdq [2] ?_ (hc := h1) | refine kmq [2] ?_ (hc := h1) | refine ktq [2] ?_ (hc := h1)); rintro _ _ ⟨x, q2, rfl, hx, hxc, hxs, hq2, rfl⟩ <;> (simp only [go_sem]))
      repeat' (first | (first | (((first | apply sp1 | apply sp2 | apply sp3 | apply sp4 | apply sp5 | apply sp6 | apply sp7) <;> intro hb) <;> (simp only [go_sem, hb])) | ((first | apply wm_done | apply wt_done | apply wg_run | refine fk ?_ ?_) <;> (simp only [go_sem]))) | fail)
      exact hR _ (rat [] (hK := ⟨e.tm, x.tm, rfl, by omega, by omega, rfl⟩))
  · have h2 := l3BlurD bs hB (q + 1) (by omega) e (by omega)
    repeat' (first | (first | (((first | apply sp1 | apply sp2 | apply sp3 | apply sp4 | apply sp5 | apply sp6 | apply sp7) <;> intro hb) <;> (simp only [go_sem, hb])) | ((first | apply wm_done | apply wt_done | apply wg_run | refine fk ?_ ?_) <;> (simp only [go_sem]))) | (first | (refine tr (.op 0 false (.op 1 false (.op 3 false (.op 2 false (.op 4 false (.op 5 true .nil)))))) [0, 1, 2] follows ?_; (simp only [go_sem])) | fail) | ((first | refine mxq6 [0, 1, 2] ?_ | refine mxq5 [0, 1, 2] ?_ | refine mxq4 [0, 1, 2] ?_ | refine mxq3 [0, 1, 2] ?_ | refine mxq2 [0, 1, 2] ?_ | refine mxq1 [0, 1, 2] ?_ | refine mxq0 [0, 1, 2] ?_ | fail); (simp only [go_sem])) | fail)
    all_goals
      ((first | refine kdq [2] ?_ (hc := h2) | refine kmq [2] ?_ (hc := h2) | refine ktq [2] ?_ (hc := h2)); rintro _ _ ⟨x, q2, rfl, hx, hq2, rfl⟩ <;> (simp only [go_sem]))
      repeat' (first | (first | (((first | apply sp1 | apply sp2 | apply sp3 | apply sp4 | apply sp5 | apply sp6 | apply sp7) <;> intro hb) <;> (simp only [go_sem, hb])) | ((first | apply wm_done | apply wt_done | apply wg_run | refine fk ?_ ?_) <;> (simp only [go_sem]))) | fail)
      exact hR _ (rat [] (hK := ⟨x, e.tm, rfl, by omega, by omega, rfl⟩))
  · have h3 := l2Mutate bs hB (q + 1) (by omega) e.tm (by omega)
    repeat' (first | (first | (((first | apply sp1 | apply sp2 | apply sp3 | apply sp4 | apply sp5 | apply sp6 | apply sp7) <;> intro hb) <;> (simp only [go_sem, hb])) | ((first | apply wm_done | apply wt_done | apply wg_run | refine fk ?_ ?_) <;> (simp only [go_sem]))) | (first | (refine tr (.op 0 false (.op 1 false (.op 3 false (.op 2 false (.op 4 false (.op 5 true .nil)))))) [0, 1, 2] follows ?_; (simp only [go_sem])) | fail) | ((first | refine mxq6 [0, 1, 2] ?_ | refine mxq5 [0, 1, 2] ?_ | refine mxq4 [0, 1, 2] ?_ | refine mxq3 [0, 1, 2] ?_ | refine mxq2 [0, 1, 2] ?_ | refine mxq1 [0, 1, 2] ?_ | refine mxq0 [0, 1, 2] ?_ | fail); (simp only [go_sem])) | fail)
    all_goals
      ((first | refine kdq [2] ?_ (hc := h3) | refine kmq [2] ?_ (hc := h3) | refine ktq [2] ?_ (hc := h3)); rintro _ _ ⟨x, q2, rfl, hx, hq2, rfl⟩ <;> (simp only [go_sem]))
      have h2 := l3BlurD bs hB q2 (by omega) e (by omega)
      repeat' (first | (first | (((first | apply sp1 | apply sp2 | apply sp3 | apply sp4 | apply sp5 | apply sp6 | apply sp7) <;> intro hb) <;> (simp only [go_sem, hb])) | ((first | apply wm_done | apply wt_done | apply wg_run | refine fk ?_ ?_) <;> (simp only [go_sem]))) | fail)
      ((first | refine kdq [2] ?_ (hc := h2) | refine kmq [2] ?_ (hc := h2) | refine ktq [2] ?_ (hc := h2)); rintro _ _ ⟨y, q3, rfl, hy, hq3, rfl⟩ <;> (simp only [go_sem]))
      repeat' (first | (first | (((first | apply sp1 | apply sp2 | apply sp3 | apply sp4 | apply sp5 | apply sp6 | apply sp7) <;> intro hb) <;> (simp only [go_sem, hb])) | ((first | apply wm_done | apply wt_done | apply wg_run | refine fk ?_ ?_) <;> (simp only [go_sem]))) | fail)
      exact hR _ (rat [] (hK := ⟨x, y, rfl, by omega, by omega, rfl⟩))
end Go.Proofs.Ytfgjiamolknicaa
/- Free names of terms, names in order, and substitution: the plain law. No program, no world. -/
namespace Go.Proofs.Grad
/-- x stands free in a term -/
def E.fr (x : UInt8) : E → Bool
  | .var y => y == x
  | .num _ | .tru | .fls => false
  | .lam y _ a => !(y == x) && a.fr x
  | .app a b | .add a b | .less a b | .pair a b => a.fr x || b.fr x
  | .ite a b c => a.fr x || (b.fr x || c.fr x)
  | .fst a | .snd a | .asc _ a | .cast _ _ _ a => a.fr x
theorem E.subst_id {x : UInt8} {v : E} (e : E) (h : e.fr x = false) : e.subst x v = e := by
  induction e with
  | var y => simp only [E.fr] at h; simp only [E.subst, h]
  | lam y t a ih =>
    simp only [E.fr, Bool.and_eq_false_iff, Bool.not_eq_false'] at h
    simp only [E.subst]
    cases e1 : (y == x) with
    | true => rfl
    | false => rw [e1] at h; simp only [Bool.false_eq_true, false_or] at h; simp only [ih h]
  | _ => simp_all [E.subst, E.fr]
theorem E.subst_fr {x : UInt8} {v : E} (hv : ∀ y, v.fr y = false) (y : UInt8) (e : E) : (e.subst x v).fr y = (e.fr y && !(y == x)) := by
  induction e with
  | var z =>
    simp only [E.subst]
    cases e1 : (z == x) with
    | true =>
      simp only [hv, E.fr]
      rw [eq_of_beq e1]
      by_cases e2 : x = y
      · subst e2; simp
      · simp [e2]
    | false =>
      simp only [E.fr]
      cases e2 : (z == y) with
      | false => rfl
      | true => rw [← eq_of_beq e2, e1]; rfl
  | lam z t a ih =>
    simp only [E.subst]
    cases e1 : (z == x) with
    | true =>
      simp only [E.fr]
      rw [eq_of_beq e1]
      by_cases e2 : x = y
      · subst e2; simp
      · have : (y == x) = false := by simp; exact fun h => e2 h.symm
        simp [this]
    | false => simp only [E.fr, ih]; cases (z == y) <;> simp
  | app a b iha ihb | add a b iha ihb | less a b iha ihb | pair a b iha ihb =>
    simp only [E.subst, E.fr, iha, ihb]; cases (y == x) <;> simp
  | ite a b c iha ihb ihc => simp only [E.subst, E.fr, iha, ihb, ihc]; cases (y == x) <;> simp
  | _ => simp_all [E.subst, E.fr]
theorem E.subst_comm {x z : UInt8} {v w : E} (hv : ∀ y, v.fr y = false) (hw : ∀ y, w.fr y = false) (hxz : (x == z) = false) (e : E) : (e.subst x v).subst z w = (e.subst z w).subst x v := by
  have hzx : (z == x) = false := by simp at hxz ⊢; exact fun h => hxz h.symm
  induction e with
  | var y =>
    simp only [E.subst]
    cases e1 : (y == x) with
    | true =>
      have : (y == z) = false := by rw [eq_of_beq e1]; exact hxz
      simp only [this, E.subst, e1]
      exact E.subst_id v (hv z)
    | false =>
      cases e2 : (y == z) with
      | true => simp only [E.subst, e2]; exact (E.subst_id w (hw x)).symm
      | false => simp only [E.subst, e1, e2]
  | lam y t a ih =>
    simp only [E.subst]
    cases e1 : (y == x) <;> cases e2 : (y == z) <;> simp only [E.subst, e1, e2, ih]
  | _ => simp_all [E.subst]
theorem E.subst_nodes {x : UInt8} {v : E} (e : E) : e.nodes ≤ (e.subst x v).nodes := by
  induction e with
  | var y => simp only [E.subst]; have := v.nodes_pos; split <;> simp only [E.nodes] <;> omega
  | lam y t a ih => simp only [E.subst]; split <;> simp only [E.nodes] <;> omega
  | _ => simp only [E.subst, E.nodes] <;> omega
theorem E.subst_depth {x : UInt8} {v : E} (e : E) : e.depth ≤ (e.subst x v).depth := by
  induction e with
  | var y => simp only [E.subst]; have := v.depth_pos; split <;> simp only [E.depth] <;> omega
  | lam y t a ih => simp only [E.subst]; split <;> simp only [E.depth] <;> omega
  | _ => simp only [E.subst, E.depth] <;> omega
theorem E.subst_noC {x : UInt8} {v : E} (hv : v.noC = true) (e : E) (h : e.noC = true) : (e.subst x v).noC = true := by
  induction e with
  | var y => simp only [E.subst]; split <;> simp_all [E.noC]
  | lam y t a ih => simp only [E.subst]; split <;> simp_all [E.noC]
  | _ => simp_all [E.subst, E.noC]
/-- what is valid when a name is replaced behind it was valid -/
theorem E.subst_okT {x z : UInt8} {v w e : E} (he : e.okT = true) (hw : w.okT = true) (h : ((e.subst z w).subst x v).okT = true) : (e.subst z w).okT = true := by
  simp only [E.okT, Bool.and_eq_true, decide_eq_true_eq] at *
  have h1 := (e.subst z w).subst_nodes (x := x) (v := v)
  have h2 := (e.subst z w).subst_depth (x := x) (v := v)
  exact ⟨E.subst_wf hw.1 e he.1, E.subst_noC hw.2.1 e he.2.1, by omega, by omega⟩
/-! ### names in order -/
def letters : List UInt8 := (List.range 26).map (fun i => UInt8.ofNat (97 + i))
def names (p : UInt8 → Bool) : List UInt8 := letters.filter p
theorem mem_letters {x : UInt8} : x ∈ letters ↔ nmB x = true := by
  simp only [letters, List.mem_map, List.mem_range, nmB, Bool.and_eq_true, decide_eq_true_eq]
  constructor
  · rintro ⟨i, hi, rfl⟩
    simp only [UInt8.toNat_ofNat']
    omega
  · rintro ⟨h1, h2⟩
    refine ⟨x.toNat - 97, by omega, UInt8.toNat_inj.1 ?_⟩
    simp only [UInt8.toNat_ofNat']
    omega
theorem mem_names {p : UInt8 → Bool} {x : UInt8} : x ∈ names p ↔ nmB x = true ∧ p x = true := by rw [names, List.mem_filter, mem_letters]
theorem letters_sorted : letters.Pairwise (· < ·) := by decide
theorem names_sorted (p : UInt8 → Bool) : (names p).Pairwise (· < ·) := letters_sorted.filter _
theorem names_congr {p q : UInt8 → Bool} (h : ∀ x, nmB x = true → p x = q x) : names p = names q := List.filter_congr fun x hx => h x (mem_letters.1 hx)
theorem names_len (p : UInt8 → Bool) : (names p).length ≤ 26 := Nat.le_trans (List.length_filter_le _ _) (by decide)
theorem names_nil {p : UInt8 → Bool} : names p = [] ↔ ∀ x, nmB x = true → p x = false := by
  simp only [names, List.filter_eq_nil_iff, mem_letters, Bool.not_eq_true]
theorem sorted_ext : ∀ {l m : List UInt8}, l.Pairwise (· < ·) → m.Pairwise (· < ·) → (∀ x, x ∈ l ↔ x ∈ m) → l = m
  | [], [], _, _, _ => rfl
  | [], b :: m, _, _, h => by have := (h b).2 (by simp); simp at this
  | a :: l, [], _, _, h => by have := (h a).1 (by simp); simp at this
  | a :: l, b :: m, hl, hm, h => by
    rw [List.pairwise_cons] at hl hm
    have hab : a = b := by
      have h1 := (h a).1 (by simp)
      have h2 := (h b).2 (by simp)
      rw [List.mem_cons] at h1 h2
      rcases h1 with h1 | h1
      · exact h1
      · rcases h2 with h2 | h2
        · exact h2.symm
        · exact absurd (UInt8.lt_trans (hl.1 b h2) (hm.1 a h1)) (UInt8.lt_irrefl _)
    subst hab
    rw [sorted_ext hl.2 hm.2 fun x => ?_]
    constructor
    · intro hx
      have := (h x).1 (List.mem_cons_of_mem _ hx)
      rcases List.mem_cons.1 this with e | e
      · subst e; exact absurd (hl.1 x hx) (UInt8.lt_irrefl _)
      · exact e
    · intro hx
      have := (h x).2 (List.mem_cons_of_mem _ hx)
      rcases List.mem_cons.1 this with e | e
      · subst e; exact absurd (hm.1 x hx) (UInt8.lt_irrefl _)
      · exact e
theorem names_have {p : UInt8 → Bool} {y : UInt8} (h : y ∈ names p) : names p = names (fun x => p x || x == y) := by
  refine names_congr fun x hx => ?_
  cases e : (x == y) with
  | false => simp
  | true => rw [eq_of_beq e, (mem_names.1 h).2]; rfl
theorem names_add {p : UInt8 → Bool} {y : UInt8} (hy : nmB y = true) {k : Nat} (hk : k ≤ (names p).length) (h1 : ∀ x ∈ (names p).take k, x < y) (h2 : ∀ x ∈ (names p).drop k, y < x) : (names p).take k ++ [y] ++ (names p).drop k = names (fun x => p x || x == y) := by
  have hs := names_sorted p
  refine sorted_ext ?_ (names_sorted _) fun x => ?_
  · have e := hs
    rw [← List.take_append_drop k (names p), List.pairwise_append] at e
    rw [List.append_assoc, List.pairwise_append]
    refine ⟨e.1, ?_, ?_⟩
    · rw [List.singleton_append, List.pairwise_cons]; exact ⟨h2, e.2.1⟩
    · intro a ha b hb
      rw [List.singleton_append, List.mem_cons] at hb
      rcases hb with rfl | hb
      · exact h1 a ha
      · exact e.2.2 a ha b hb
  · rw [mem_names, Bool.or_eq_true, beq_iff_eq]
    have hm : x ∈ names p ↔ x ∈ (names p).take k ∨ x ∈ (names p).drop k := by rw [← List.mem_append, List.take_append_drop]
    simp only [List.mem_append, List.mem_singleton]
    constructor
    · rintro ((h | h) | h)
      · have := mem_names.1 (hm.2 (.inl h)); exact ⟨this.1, .inl this.2⟩
      · subst h; exact ⟨hy, .inr rfl⟩
      · have := mem_names.1 (hm.2 (.inr h)); exact ⟨this.1, .inl this.2⟩
    · rintro ⟨h, h3 | h3⟩
      · rcases hm.1 (mem_names.2 ⟨h, h3⟩) with h | h
        · exact .inl (.inl h)
        · exact .inr h
      · exact .inl (.inr h3)
theorem names_only {p : UInt8 → Bool} (y : UInt8) : (names p).filter (fun x => !(x == y)) = names (fun x => p x && !(x == y)) := by
  simp only [names, List.filter_filter]; congr 1; funext x; exact Bool.and_comm _ _
/-- the first k letters that are in a set -/
def namesK (p : UInt8 → Bool) (k : Nat) : List UInt8 := (letters.take k).filter p
theorem namesK_all (p : UInt8 → Bool) : namesK p 26 = names p := rfl
theorem letters_get (k : Nat) (h : k < 26) : letters[k]? = some (UInt8.ofNat (97 + k)) := by simp [letters, h]
theorem namesK_succ (p : UInt8 → Bool) (k : Nat) (h : k < 26) : namesK p (k + 1) = namesK p k ++ (match p (UInt8.ofNat (97 + k)) with | true => [UInt8.ofNat (97 + k)] | false => []) := by
  rw [namesK, List.take_add_one, letters_get k h, List.filter_append, namesK]
  generalize UInt8.ofNat (97 + k) = y
  cases e : p y <;> simp [e]
theorem namesK_len (p : UInt8 → Bool) (k : Nat) : (namesK p k).length ≤ 26 := by
  refine Nat.le_trans (List.length_filter_le _ _) ?_
  have : letters.length = 26 := by decide
  rw [List.length_take, this]; omega
end Go.Proofs.Grad
/- Meets and precision, element by element: the plain law. No program, no world. -/
namespace Go.Proofs.Grad
theorem T.prec_any (a : T) : a.prec .any = true := by cases a <;> rfl
theorem T.prec_self (a : T) : a.prec a = true := by induction a <;> simp [T.prec, *]
/-- how much of a type is known -/
def T.wg (t : T) : Nat := t.size - t.count
theorem T.cnt_le (x : T) : x.count ≤ x.size := by induction x <;> simp only [T.count, T.size] <;> omega
theorem T.wg_fn (a b : T) : (T.fn a b).wg = a.wg + b.wg + 1 := by have := a.cnt_le; have := b.cnt_le; simp only [T.wg, T.size, T.count]; omega
theorem T.wg_pr (a b : T) : (T.pr a b).wg = a.wg + b.wg + 1 := by have := a.cnt_le; have := b.cnt_le; simp only [T.wg, T.size, T.count]; omega
theorem T.prec_wg (a : T) : ∀ b : T, a.prec b = true → b.wg ≤ a.wg ∧ (a.wg = b.wg → a = b) := by
  induction a with
  | any => intro b h; cases b <;> simp_all [T.prec]
  | int | bool => intro b h; cases b <;> simp_all [T.prec, T.wg, T.size, T.count]
  | fn a1 a2 ih1 ih2 =>
    intro b h
    cases b <;> simp [T.prec] at h
    · rw [T.wg_fn, show T.any.wg = 0 from rfl]; exact ⟨by omega, fun h => by omega⟩
    · rename_i b1 b2
      have h1 := ih1 b1 h.1; have h2 := ih2 b2 h.2
      rw [T.wg_fn, T.wg_fn]
      refine ⟨by omega, fun h => ?_⟩
      rw [h1.2 (by omega), h2.2 (by omega)]
  | pr a1 a2 ih1 ih2 =>
    intro b h
    cases b <;> simp [T.prec] at h
    · rw [T.wg_pr, show T.any.wg = 0 from rfl]; exact ⟨by omega, fun h => by omega⟩
    · rename_i b1 b2
      have h1 := ih1 b1 h.1; have h2 := ih2 b2 h.2
      rw [T.wg_pr, T.wg_pr]
      refine ⟨by omega, fun h => ?_⟩
      rw [h1.2 (by omega), h2.2 (by omega)]
/-! ### lists -/
def all2P (q : T → T → Bool) : List T → List T → Bool
  | [], [] => true
  | a :: l, b :: m => q a b && all2P q l m
  | _, _ => false
/-- how much of some types is known -/
def wgs : List T → Nat | [] => 0 | t :: l => t.wg + wgs l
theorem prec_wgs : ∀ {l m : List T}, all2P T.prec l m = true → wgs m ≤ wgs l ∧ (wgs l = wgs m → l = m)
  | [], [], _ => ⟨Nat.le_refl _, fun _ => rfl⟩
  | a :: l, b :: m, h => by
    simp only [all2P, Bool.and_eq_true] at h
    have h1 := prec_wgs h.2
    have h2 := T.prec_wg a b h.1
    simp only [wgs]
    refine ⟨by omega, fun h => ?_⟩
    rw [h1.2 (by omega), h2.2 (by omega)]
  | [], _ :: _, h => by simp [all2P] at h
  | _ :: _, [], h => by simp [all2P] at h
theorem wgs_any (n : Nat) : wgs (List.replicate n .any) = 0 := by
  induction n with
  | zero => rfl
  | succ n ih => rw [List.replicate_succ, wgs, ih]; rfl
end Go.Proofs.Grad
/- Terms that are alike but for their types, related by a relation of types. On shadows. -/
namespace Go.Proofs.Grad
/-- two terms are alike, and their types stand in a relation -/
def alkB (q : Ty → Ty → Bool) (k : Int) (n : ByteArray) (m : Int) (t : Ty) (c : Tm) (r : Bool) : Bool :=
  !(hasTy k && (k == c.kind && !q t c.type)) && (k == c.kind && (n.toList == c.name.toList && (m == c.num && r)))
mutual
def Tm.alk (q : Ty → Ty → Bool) : Tm → Tm → Bool
  | .mk k n m t _ _ l, c => alkB q k n m t c (Tm.alks q l c.kids)
def Tm.alks (q : Ty → Ty → Bool) : List Tm → List Tm → Bool
  | [], [] => true
  | a :: l, b :: m => a.alk q b && Tm.alks q l m
  | _, _ => false
end
theorem alks_all2 (q : Ty → Ty → Bool) : ∀ a b : List Tm, Tm.alks q a b = Sh.teall2 (Tm.alk q) a b
  | [], [] => by simp [Tm.alks, Sh.teall2]
  | [], _ :: _ => by simp [Tm.alks, Sh.teall2]
  | _ :: _, [] => by simp [Tm.alks, Sh.teall2]
  | _ :: a, _ :: b => by simp only [Tm.alks, Sh.teall2, alks_all2 q a b]
/-- a relation holds of two lists' types -/
def all2T (q : Ty → Ty → Bool) : List T → List T → Bool
  | [], [] => true
  | a :: l, b :: m => q a.ty b.ty && all2T q l m
  | _, _ => false
theorem all2T_append {q : Ty → Ty → Bool} : ∀ {l m l' m' : List T}, l.length = l'.length → all2T q (l ++ m) (l' ++ m') = (all2T q l l' && all2T q m m')
  | [], _, [], _, _ => rfl
  | [], _, _ :: _, _, h => by simp at h
  | _ :: _, _, [], _, h => by simp at h
  | a :: l, m, b :: l', m', h => by simp only [List.cons_append, all2T, all2T_append (l := l) (l' := l') (by simpa using h), Bool.and_assoc]
theorem nm_toList {x y : UInt8} : (nm x).toList = (nm y).toList ↔ x = y := by simp [nm, ByteArray.toList_eq]
theorem E.wt_app (e : E) : ∀ l m : List T, l.length = e.nt → e.wt (l ++ m) = ((e.wt l).1, m) := by
  intro l m h
  have h1 : (e.wt (l ++ m)).1 = (e.wt l).1 := by
    rw [← E.wt_wt e l (l ++ m) (by omega) (by rw [List.length_append]; omega)]
    have h2 : (e.wt l).1.tl = l := by rw [E.wt_tl e l (by omega), List.take_of_length_le (by omega)]
    have h3 := E.wt_self (e.wt l).1 m
    rw [h2] at h3; rw [h3]
  have h2 : (e.wt (l ++ m)).2 = m := by rw [E.wt_rest e _ (by rw [List.length_append]; omega), ← h, List.drop_left]
  exact Prod.ext h1 h2
theorem E.alk_wt {q : Ty → Ty → Bool} (e : E) : e.noC = true → ∀ l : List T, l.length = e.nt → e.tm.alk q (e.wt l).1.tm = all2T q e.tl l := by
  induction e with
  | cast _ _ _ a ih => intro h; simp [E.noC] at h
  | lam x t a ih | asc t a ih =>
    intro h l hl
    simp only [E.noC] at h
    cases l with
    | nil => simp only [E.nt, List.length_nil] at hl; omega
    | cons u l =>
      have := ih h l (by simp only [E.nt, List.length_cons] at hl; omega)
      simp [E.wt, E.tm, nd, Tm.alk, Tm.alks, alkB, Tm.kind, Tm.name, Tm.num, Tm.type, Tm.kids, hasTy, E.tl, all2T, this]
  | fst a ih | snd a ih =>
    intro h l hl
    simp only [E.noC] at h
    have := ih h l hl
    simp [E.wt, E.tm, nd, Tm.alk, Tm.alks, alkB, Tm.kind, Tm.name, Tm.num, Tm.type, Tm.kids, hasTy, E.tl, this]
  | app a b iha ihb | add a b iha ihb | less a b iha ihb | pair a b iha ihb =>
    intro h l hl
    simp only [E.noC, Bool.and_eq_true] at h
    simp only [E.nt] at hl
    have h1 := iha h.1 (l.take a.nt) (by rw [List.length_take]; omega)
    have h2 := ihb h.2 (l.drop a.nt) (by rw [List.length_drop]; omega)
    have h3 := E.wt_app a (l.take a.nt) (l.drop a.nt) (by rw [List.length_take]; omega)
    rw [List.take_append_drop] at h3
    have h4 : all2T q (a.tl ++ b.tl) l = (all2T q a.tl (l.take a.nt) && all2T q b.tl (l.drop a.nt)) := by
      rw [← all2T_append (by rw [E.tl_length, List.length_take]; omega), List.take_append_drop]
    simp [E.wt, E.tm, nd, Tm.alk, Tm.alks, alkB, Tm.kind, Tm.name, Tm.num, Tm.type, Tm.kids, hasTy, E.tl, h1, h2, h3, h4]
  | ite a b c iha ihb ihc =>
    intro h l hl
    simp only [E.noC, Bool.and_eq_true] at h
    simp only [E.nt] at hl
    have h1 := iha h.1 (l.take a.nt) (by rw [List.length_take]; omega)
    have h3 := E.wt_app a (l.take a.nt) (l.drop a.nt) (by rw [List.length_take]; omega)
    rw [List.take_append_drop] at h3
    have h4 : all2T q (a.tl ++ (b.tl ++ c.tl)) l = (all2T q a.tl (l.take a.nt) && all2T q (b.tl ++ c.tl) (l.drop a.nt)) := by
      rw [← all2T_append (by rw [E.tl_length, List.length_take]; omega), List.take_append_drop]
    obtain ⟨l2, hl2⟩ : ∃ l2, l2 = l.drop a.nt := ⟨_, rfl⟩
    rw [← hl2] at h3 h4
    have hl2l : l2.length = b.nt + c.nt := by rw [hl2, List.length_drop]; omega
    have h5 := ihb h.2.1 (l2.take b.nt) (by rw [List.length_take]; omega)
    have h6 := ihc h.2.2 (l2.drop b.nt) (by rw [List.length_drop]; omega)
    have h7 := E.wt_app b (l2.take b.nt) (l2.drop b.nt) (by rw [List.length_take]; omega)
    rw [List.take_append_drop] at h7
    have h8 : all2T q (b.tl ++ c.tl) l2 = (all2T q b.tl (l2.take b.nt) && all2T q c.tl (l2.drop b.nt)) := by
      rw [← all2T_append (by rw [E.tl_length, List.length_take]; omega), List.take_append_drop]
    simp [E.wt, E.tm, nd, Tm.alk, Tm.alks, alkB, Tm.kind, Tm.name, Tm.num, Tm.type, Tm.kids, hasTy, E.tl, h1, h3, h4, h5, h6, h7, h8]
  | _ =>
    intro h l hl
    have : l = [] := List.eq_nil_of_length_eq_zero hl
    subst this
    simp [E.wt, E.tm, nd, Tm.alk, Tm.alks, alkB, Tm.kind, Tm.name, Tm.num, Tm.type, Tm.kids, hasTy, E.tl, all2T]
theorem E.alk_form {q : Ty → Ty → Bool} (a : E) : ∀ b : E, a.noC = true → b.noC = true → a.tm.alk q b.tm = true → b = (a.wt b.tl).1 ∧ b.nt = a.nt := by
  induction a with
  | cast _ _ _ a ih => intro b h; simp [E.noC] at h
  | var x | num x | tru | fls =>
    intro b _ _ h
    cases b <;> simp [E.tm, nd, Tm.alk, alkB, Tm.kind, Tm.name, Tm.num, Tm.kids, Tm.alks, nm_toList] at h <;> simp_all [E.wt, E.nt]
  | lam x t a ih =>
    intro b hn hb h
    cases b <;> simp [E.tm, nd, Tm.alk, alkB, Tm.kind, Tm.name, Tm.num, Tm.kids, Tm.alks, nm_toList] at h
    rename_i y u b
    obtain ⟨h1, h2⟩ := ih b hn hb h.2.2
    exact ⟨by rw [h.2.1]; simp only [E.tl, E.wt]; rw [← h1], by simp only [E.nt, h2]⟩
  | asc t a ih =>
    intro b hn hb h
    cases b <;> simp [E.tm, nd, Tm.alk, alkB, Tm.kind, Tm.name, Tm.num, Tm.kids, Tm.alks, nm_toList] at h
    rename_i u b
    obtain ⟨h1, h2⟩ := ih b hn hb h.2
    exact ⟨by simp only [E.tl, E.wt]; rw [← h1], by simp only [E.nt, h2]⟩
  | fst a ih | snd a ih =>
    intro b hn hb h
    cases b <;> simp [E.tm, nd, Tm.alk, alkB, Tm.kind, Tm.name, Tm.num, Tm.kids, Tm.alks, nm_toList, hasTy] at h
    rename_i b
    obtain ⟨h1, h2⟩ := ih b hn hb h
    exact ⟨by simp only [E.tl, E.wt]; rw [← h1], by simp only [E.nt, h2]⟩
  | app a1 a2 ih1 ih2 | add a1 a2 ih1 ih2 | less a1 a2 ih1 ih2 | pair a1 a2 ih1 ih2 =>
    intro b hn hb h
    cases b <;> simp [E.tm, nd, Tm.alk, alkB, Tm.kind, Tm.name, Tm.num, Tm.kids, Tm.alks, nm_toList, hasTy] at h
    rename_i b1 b2
    simp only [E.noC, Bool.and_eq_true] at hn hb
    obtain ⟨h1, h2⟩ := ih1 b1 hn.1 hb.1 h.1
    obtain ⟨h3, h4⟩ := ih2 b2 hn.2 hb.2 h.2
    have h5 := E.wt_app a1 b1.tl b2.tl (by rw [E.tl_length, h2])
    exact ⟨by simp only [E.tl, E.wt]; rw [h5, ← h1, ← h3], by simp only [E.nt, h2, h4]⟩
  | ite a1 a2 a3 ih1 ih2 ih3 =>
    intro b hn hb h
    cases b <;> simp [E.tm, nd, Tm.alk, alkB, Tm.kind, Tm.name, Tm.num, Tm.kids, Tm.alks, nm_toList, hasTy] at h
    rename_i b1 b2 b3
    simp only [E.noC, Bool.and_eq_true] at hn hb
    obtain ⟨h1, h2⟩ := ih1 b1 hn.1 hb.1 h.1
    obtain ⟨h3, h4⟩ := ih2 b2 hn.2.1 hb.2.1 h.2.1
    obtain ⟨h6, h7⟩ := ih3 b3 hn.2.2 hb.2.2 h.2.2
    have h5 := E.wt_app a1 b1.tl (b2.tl ++ b3.tl) (by rw [E.tl_length, h2])
    have h8 := E.wt_app a2 b2.tl b3.tl (by rw [E.tl_length, h4])
    exact ⟨by simp only [E.tl, E.wt]; rw [h5, h8, ← h1, ← h3, ← h6], by simp only [E.nt, h2, h4, h7]⟩
theorem E.alk_iff {q : Ty → Ty → Bool} {a b : E} (ha : a.noC = true) (hb : b.noC = true) (h : a.tm.alk q b.tm = true) : b = (a.wt b.tl).1 ∧ b.nt = a.nt ∧ all2T q a.tl b.tl = true := by
  obtain ⟨h1, h2⟩ := E.alk_form a b ha hb h
  refine ⟨h1, h2, ?_⟩
  rw [← E.alk_wt a ha b.tl (by rw [E.tl_length, h2]), ← h1, h]
end Go.Proofs.Grad
namespace Go.Proofs.Ytfgjiamolknicaa
open Go.RowKit Go.Proofs.Sh Go.Proofs.Grad
set_option maxRecDepth 100000
set_option maxHeartbeats 8000000
theorem teEqFunc1 (g : FuncId) (f : FuncId) (ty : TypeId) (Q : Tm → Tm → Bool) (l m : List Tm) (hl : l.length < 4611686018427387904)
    (hg : ∀ k, k < l.length → k < m.length → ACl Try.prog g [.agg (teC (teKid l k)), .agg (teC (teKid m k)), .one (.ptr 1 0 0 0)] [⟨1, ty, .mut, [[.fn f []]]⟩] (fun r H' => r = .one (.sc (.bool (Q (teKid l k) (teKid m k)))) ∧ H' = [⟨1, ty, .mut, [[.fn f []]]⟩])) :
    ACl Try.prog 72 [.one (.sl (teR l)), .one (.sl (teR m)), .one (.fn g [.ptr 1 0 0 0])] [⟨1, ty, .mut, [[.fn f []]]⟩] (fun r H' => r = .one (.sc (.bool (teall2 Q l m))) ∧ H' = [⟨1, ty, .mut, [[.fn f []]]⟩]) := by
  refine acl_in Try.func72 rfl isfn_72 (Nat.le_of_ble_eq_true rfl) (fun R hR => ?_); rw [Try.results72] at hR; refine wg_run ?_; (simp only [Try.f72, go_sem])
  repeat' (first | (((first | apply sp1 | apply sp2 | apply sp3 | apply sp4 | apply sp5 | apply sp6 | apply sp7) <;> intro hb) <;> (simp only [go_sem, hb])) | ((first | apply wm_done | apply wt_done | apply wg_run | refine fk ?_ ?_) <;> (simp only [go_sem])))
  · (refine hR _ (rat [] (hK := ⟨?_, ?_⟩)))
    · rw [teall2_len]
      intro h; simp [h] at hb
    · rfl
  · have hlm : l.length = m.length := by simp at hb; omega
    clear hb
    refine wd_for [0, 1, 2, 15, 16, 17] (fun k => [.one (.sl (teR l)), .one (.sl (teR m)), .one (.fn g [.ptr 1 0 0 0]), .one (.sl (teR l)), .one (.sc (.int .i64 l.length)), .one (.sc (.int .i64 (k : Nat)))]) (fun k => [⟨1, ty, .mut, [[.fn f []]]⟩])
      (fun k => k ≤ l.length ∧ teall2 Q (l.drop k) (m.drop k) = teall2 Q l m) (fun k => l.length - k) 0 ⟨Nat.zero_le _, rfl⟩ (hat [] (hI := ⟨rfl, rfl⟩)) ?_
    rintro k ⟨hk, hs⟩ G hG
    refine wg_run ?_
    (simp only [go_sem])
    ((first | apply sp1 | apply sp2 | apply sp3 | apply sp4 | apply sp5 | apply sp6 | apply sp7) <;> intro hb) <;> (simp only [go_sem, hb])
    · have hk1 : k < l.length := by have := of_decide_eq_true hb; omega
      have hk2 : decide ((k : Int) < (m.length : Int)) = true := by simp; omega
      rw [teall2_kid hk1 (by omega)] at hs
      have hw1 := wrap_succ hk1 (by omega)
      (simp only [go_sem, hk2])
      (first | refine kdq [0] ?_ (hc := hg k hk1 (by omega)) | refine kmq [0] ?_ (hc := hg k hk1 (by omega)) | refine ktq [0] ?_ (hc := hg k hk1 (by omega))); rintro _ _ ⟨rfl, rfl⟩; (simp only [go_sem])
      repeat' (first | (simp only [go_sem, hw1]) | (((first | apply sp1 | apply sp2 | apply sp3 | apply sp4 | apply sp5 | apply sp6 | apply sp7) <;> intro hb) <;> (simp only [go_sem, hb, hw1])) | ((first | apply wm_done | apply wt_done | apply wg_run | refine fk ?_ ?_) <;> (simp only [go_sem, hw1])))
      · exact hG (k + 1) _ _ ⟨by omega, by simpa [hb] using hs⟩ (by omega) (hat [] (hI := ⟨rfl, rfl⟩))
      · (refine hR _ (rat [] (hK := ⟨?_, ?_⟩)))
        · simpa [hb] using hs
        · rfl
    · have hk1 : ¬ k < l.length := by have := of_decide_eq_false hb; omega
      rw [teall2_end hk1 hlm] at hs
      (refine hR _ (rat [] (hK := ⟨?_, ?_⟩)))
      · simpa using hs
      · rfl
theorem iAlike (g : FuncId) (q : Ty → Ty → Bool) (hg : ∀ x y : Ty, x.size < 4611686018427387904 → AFn Try.prog g [.agg (tyC x), .agg (tyC y)] (.one (.sc (.bool (q x y))))) (n : Nat) (hn : n ≤ 4611686018427387904) : ∀ a b : Tm, a.size < n → AFn Try.prog 107 [.agg (teC a), .agg (teC b), .one (.fn g [])] (.one (.sc (.bool (a.alk q b)))) := by
  induction n with
  | zero => intro a b h; omega
  | succ n ih =>
    intro a b h
    have hl := telen_lt a
    have hk : ∀ k, k < a.kids.length → k < b.kids.length → ACl Try.prog 154 [.agg (teC (teKid a.kids k)), .agg (teC (teKid b.kids k)), .one (.ptr 1 0 0 0)] [⟨1, 80, .mut, [[.fn g []]]⟩] (fun r H' => r = .one (.sc (.bool ((teKid a.kids k).alk q (teKid b.kids k)))) ∧ H' = [⟨1, 80, .mut, [[.fn g []]]⟩]) := by
      intro k h1 h2
      have hi := ih (by omega) (teKid a.kids k) (teKid b.kids k) (by have := teKid_lt h1; omega)
      refine acl_in Try.func154 rfl isfn_154 (Nat.le_of_ble_eq_true rfl) (fun R hR => ?_); rw [Try.results154] at hR; refine wg_run ?_; (simp only [Try.f154, go_sem])
      repeat' (first | (first | (((first | apply sp1 | apply sp2 | apply sp3 | apply sp4 | apply sp5 | apply sp6 | apply sp7) <;> intro hb) <;> (simp only [go_sem, hb])) | ((first | apply wm_done | apply wt_done | apply wg_run | refine fk ?_ ?_) <;> (simp only [go_sem]))) | (first | refine cdq ?_ (hc := hi) | refine cmq ?_ (hc := hi) | refine ctq ?_ (hc := hi)); (simp only [go_sem]) | fail)
      (refine hR _ (rat [] (hK := ⟨?_, ?_⟩)))
      · rfl
      · rfl
    have hf := teEqFunc1 154 g 80 (Tm.alk q) a.kids b.kids (by omega) hk
    have h1 := hg a.type b.type (by cases a; simp only [Tm.size, Tm.type] at *; omega)
    have h0 := iHasType a
    clear hk ih
    have e : a.alk q b = alkB q a.kind a.name a.num a.type b (teall2 (Tm.alk q) a.kids b.kids) := by
      cases a; cases b; rw [← alks_all2]; simp only [Tm.alk, Tm.kind, Tm.name, Tm.num, Tm.type, Tm.kids]
    rw [e]
    unfold alkB
    generalize teall2 (Tm.alk q) a.kids b.kids = z at *
    refine fn_in ?_; refine acl_in Try.func107 rfl isfn_107 (Nat.le_of_ble_eq_true rfl) (fun R hR => ?_); rw [Try.results107] at hR; refine wg_run ?_; (simp only [Try.f107, go_sem])
    repeat' (first | (first | (((first | apply sp1 | apply sp2 | apply sp3 | apply sp4 | apply sp5 | apply sp6 | apply sp7) <;> intro hb) <;> (simp only [go_sem, hb])) | ((first | apply wm_done | apply wt_done | apply wg_run | refine fk ?_ ?_) <;> (simp only [go_sem]))) | (first | refine cdq ?_ (hc := h0) | refine cmq ?_ (hc := h0) | refine ctq ?_ (hc := h0)); (simp only [go_sem]) | (first | refine cdq ?_ (hc := h1) | refine cmq ?_ (hc := h1) | refine ctq ?_ (hc := h1)); (simp only [go_sem]) | (first | refine kdq [2] ?_ (hc := hf) | refine kmq [2] ?_ (hc := hf) | refine ktq [2] ?_ (hc := hf)); rintro _ _ ⟨rfl, rfl⟩; (simp only [go_sem]) | ((first | refine mxq6 [] ?_ | refine mxq5 [] ?_ | refine mxq4 [] ?_ | refine mxq3 [] ?_ | refine mxq2 [] ?_ | refine mxq1 [] ?_ | refine mxq0 [] ?_ | fail); (simp only [go_sem])) | fail)
    all_goals (refine hR _ (rat [] (hK := ⟨?_, rfl⟩)))
    all_goals (clear hR h1 h0 hf; simp_all)
end Go.Proofs.Ytfgjiamolknicaa
/- More on terms with other types: free names, erased terms, precision, merges. No program, no world. -/
namespace Go.Proofs.Grad
theorem E.wt_fr (y : UInt8) (e : E) : ∀ l, (e.wt l).1.fr y = e.fr y := by
  induction e with
  | lam x _ a ih | asc _ a ih => intro l; cases l <;> simp_all [E.wt, E.fr]
  | _ => intro l; simp_all [E.wt, E.fr]
theorem E.era_wt (e : E) : e.mapE E.era1 = (e.wt (List.replicate e.nt .any)).1 := by
  have := e.wt_any 0
  rw [Nat.add_zero] at this; rw [this]
theorem E.era_nt (e : E) : (e.mapE E.era1).nt = e.nt := by rw [E.era_wt, E.wt_nt]
theorem E.era_era (e : E) : (e.mapE E.era1).mapE E.era1 = e.mapE E.era1 := by
  rw [E.era_wt (e.mapE E.era1), E.era_nt, E.era_wt e, E.wt_wt _ _ _ (by simp) (by simp)]
theorem E.era_tl (e : E) : (e.mapE E.era1).tl = List.replicate e.nt .any := by
  rw [E.era_wt, E.wt_tl _ _ (by simp)]; simp
theorem any_depth {n : Nat} : ∀ t ∈ List.replicate n T.any, t.depth ≤ 4 := by
  intro t ht; rw [List.eq_of_mem_replicate ht]; decide
theorem E.era_okT {e : E} (h : e.okT = true) : (e.mapE E.era1).okT = true := by rw [E.era_wt]; exact E.wt_okT h any_depth
theorem E.era_fr (y : UInt8) (e : E) : (e.mapE E.era1).fr y = e.fr y := by rw [E.era_wt, E.wt_fr]
theorem E.era_nodes (e : E) : (e.mapE E.era1).nodes = e.nodes := by rw [E.era_wt, E.wt_nodes]
theorem all2T_P {q : Ty → Ty → Bool} {r : T → T → Bool} (h : ∀ a b : T, q a.ty b.ty = r a b) : ∀ l m : List T, all2T q l m = all2P r l m
  | [], [] => rfl
  | a :: l, b :: m => by simp only [all2T, all2P, h, all2T_P h l m]
  | [], _ :: _ => rfl
  | _ :: _, [] => rfl
theorem prec_blur1 : ∀ (l : List T) (f : Nat → T → T), (∀ (i : Nat) (t : T), t.prec (f i t) = true) → all2P T.prec l (l.mapIdx f) = true
  | [], _, _ => rfl
  | a :: l, f, h => by
    rw [List.mapIdx_cons, all2P, h, prec_blur1 l _ fun i t => h (i + 1) t]; rfl
theorem prec_blurL (m : Nat) (l : List T) : all2P T.prec l (blurL m l) = true :=
  prec_blur1 l _ fun i t => by split; exact T.prec_any t; exact T.prec_self t
theorem E.blur_prec {e : E} (h : e.noC = true) (m : Nat) : e.tm.alk Ty.prec (e.blur m).tm = true := by
  rw [E.blur, E.alk_wt e h _ (by rw [blurL_length, E.tl_length]), all2T_P (fun a b => T.prec_ty a b), prec_blurL]
theorem E.alk_prec {a b : E} (ha : a.noC = true) (hb : b.noC = true) (h : a.tm.alk Ty.prec b.tm = true) : b = (a.wt b.tl).1 ∧ all2P T.prec a.tl b.tl = true := by
  obtain ⟨h1, _, h3⟩ := E.alk_iff ha hb h
  rw [all2T_P (fun a b => T.prec_ty a b)] at h3
  exact ⟨h1, h3⟩
theorem wgs_ty (l : List T) : Ty.wgs (l.map T.ty) = (wgs l : Int) := by
  induction l with
  | nil => rfl
  | cons t l ih =>
    have := t.cnt_le
    simp only [List.map_cons, Ty.wgs, wgs, ih, Ty.wg_ty, T.wg]; omega
/-- a more precise term has more that is known, and as much only if it is the same -/
theorem E.prec_wgs {a b : E} (ha : a.noC = true) (hb : b.noC = true) (h : a.tm.alk Ty.prec b.tm = true) : wgs b.tl ≤ wgs a.tl ∧ ((wgs a.tl == wgs b.tl) = a.tm.same b.tm) := by
  obtain ⟨h1, h2⟩ := E.alk_prec ha hb h
  have h3 := Grad.prec_wgs h2
  refine ⟨h3.1, ?_⟩
  rw [Bool.eq_iff_iff, beq_iff_eq, Tm.same_iff]
  constructor
  · intro h4
    have h5 := h3.2 h4
    rw [← h5, E.wt_own] at h1
    rw [← h1]
  · intro h4
    rw [E.tm_inj _ _ h4]
theorem or_at (m n : Nat) (hm : m < 2 ^ 62) (hn : n < 2 ^ 62) : IntKind.i64.wrap ((BitVec.ofInt 64 (m : Int) ||| BitVec.ofInt 64 (n : Int)).toNat : Nat) = ((m ||| n : Nat) : Int) := by
  have h1 : (BitVec.ofInt 64 (m : Int) ||| BitVec.ofInt 64 (n : Int)).toNat = m ||| n := by
    rw [BitVec.toNat_or, BitVec.toNat_ofInt, BitVec.toNat_ofInt]
    congr 1 <;> omega
  have h2 : m ||| n < 2 ^ 62 := Nat.or_lt_two_pow hm hn
  rw [h1, IntWalk.i64_in _ (by omega)]
end Go.Proofs.Grad
/- Whether a byte stands in a text: the library's own function, as a contract on shadows. -/
namespace Go.Proofs.Grad
theorem indexByte_has (l : List UInt8) (y : UInt8) : decide (0 ≤ Go.Lib.indexByte l y) = l.contains y := by
  have h1 := Go.Lib.indexByte_ge
  induction l with
  | nil => rfl
  | cons b l ih =>
    rw [Go.Lib.indexByte, List.contains_cons]
    have := h1 l y
    cases e : (b == y) with
    | true => rw [show (y == b) = true from by rw [eq_of_beq e]; exact beq_self_eq_true _]; simp
    | false =>
      have e2 : (y == b) = false := by
        cases e2 : (y == b) with
        | false => rfl
        | true => rw [eq_of_beq e2, beq_self_eq_true] at e; cases e
      rw [e2, Bool.false_or, ← ih]
      by_cases e3 : Go.Lib.indexByte l y = -1
      · simp [e3]
      · have e4 : (Go.Lib.indexByte l y == -1) = false := by simpa using e3
        rw [e4]
        simp only [Bool.false_eq_true, if_false]
        rw [decide_eq_decide]; omega
end Go.Proofs.Grad
namespace Go.Proofs.Ytfgjiamolknicaa
open Go.RowKit Go.Proofs.Sh Go.Proofs.Grad
set_option maxRecDepth 100000
set_option maxHeartbeats 2000000
theorem sctByte (s : ByteArray) (c : Int) (w : World) :
    Calls Try.prog 218 #[.string s, .int .u8 c] w fun e w' => e = .returned (.int .i64 (Lib.indexByte s.data.toList c.toNat.toUInt8)) ∧ w' = w := by
  go_enter Try.func218, Try.ntmps218
  go_wp2
  rw [run_callFunc_extern Try.func223 (by kernel_rfl) (by kernel_rfl) (by kernel_rfl) (e := Extern.BytealgIndexByte.indexByte) (by kernel_rfl), Lib.run_indexByteString]
  simp only [Result.andThen]
  rw [Oper.upon_value]
  go_wp2
  go_ret
  exact ⟨rfl, rfl⟩
theorem sctIndex0 (s : ByteArray) (c : UInt8) (w : World) :
    Calls Try.prog 214 #[.string s, .string ⟨#[c]⟩] w fun e w' => e = .returned (.int .i64 (Lib.indexByte s.data.toList c)) ∧ w' = w := by
  go_enter Try.func214, Try.ntmps214
  go_wp2_with (go_at_call 218; refine (sctByte _ _ _).mono ?_; rintro e w' ⟨rfl, rfl⟩)
  · have h : ([c] == s.toList) = true := by assumption
    go_ret
    refine ⟨?_, rfl⟩
    have e : s.data.toList = [c] := by rw [← Lib.toList_data]; exact (beq_iff_eq.1 h).symm
    rw [e]
    simp [Lib.indexByte]
  · go_ret
    exact ⟨rfl, rfl⟩
theorem sctIndex (s : ByteArray) (c : UInt8) (w : World) :
    Calls Try.prog 200 #[.string s, .string ⟨#[c]⟩] w fun e w' => e = .returned (.int .i64 (Lib.indexByte s.data.toList c)) ∧ w' = w := by
  go_enter Try.func200, Try.ntmps200
  go_wp2_with (go_at_call 214; refine (sctIndex0 _ _ _).mono ?_; rintro e w' ⟨rfl, rfl⟩)
  go_ret
  exact ⟨rfl, rfl⟩
theorem sctContains (s : ByteArray) (c : UInt8) (w : World) :
    Calls Try.prog 169 #[.string s, .string ⟨#[c]⟩] w fun e w' => e = .returned (.bool (decide (0 ≤ Lib.indexByte s.data.toList c))) ∧ w' = w := by
  go_enter Try.func169, Try.ntmps169
  go_wp2_with (go_at_call 200; refine (sctIndex _ _ _).mono ?_; rintro e w' ⟨rfl, rfl⟩)
  go_ret
  exact ⟨rfl, rfl⟩
theorem iContains (l : List UInt8) (y : UInt8) : AFn Try.prog 169 [.one (.sc (.string (bsOf l))), .one (.sc (.string (nm y)))] (.one (.sc (.bool (l.contains y)))) := by
  refine fn_in ⟨⟨isfn_169, fun X μ w vs hS hr => ?_⟩⟩
  simp only [AV.repl, AV.rep, C.rep] at hr
  obtain ⟨u, us, e1, ⟨rfl, -⟩, u2, us2, rfl, ⟨rfl, -⟩, rfl⟩ := hr
  obtain rfl : vs = #[.string (bsOf l), .string (nm y)] := by rw [← Array.toList_inj]; exact e1
  refine (sctContains (bsOf l) y w).mono fun e w' ⟨he, hw⟩ => ?_
  subst hw
  rw [show (bsOf l).data.toList = l from rfl, indexByte_has] at he
  exact ⟨.one (.sc (.bool (l.contains y))), [], μ, _, he, ⟨rfl, rfl⟩, hS, Stp.refl _ _ _, by simp only [AV.rep, C.rep]; first | exact ⟨trivial, trivial⟩ | exact ⟨trivial, rfl⟩ | simp⟩
end Go.Proofs.Ytfgjiamolknicaa
