/- Texts of the proof, one behind another. -/
import Derived.IntWalk
import Derived.Laws.BitsAllLaws
import Derived.Test.YtnaebafafhamjaaGreatKX8
import Derived.Test.YtnaebafafhamjaaGreatKX9
import Derived.Test.YtnaebafafhamjaaGreatKX10
import Derived.Test.YtnaebafafhamjaaGreatKX11
import Derived.Test.YtnaebafafhamjaaGreatKX12
import Derived.Test.YtnaebafafhamjaaGreatKX14
set_option linter.unusedSimpArgs false
set_option linter.unusedVariables false
/- Bare terms, and the types of a label's casts, in the program. On shadows. -/
namespace Go.Proofs.Grad
/-- a node without a cast, an annotation, a function's type -/
def E.bare1 : E → E
  | .asc _ a => a
  | .cast _ _ _ a => a
  | .lam x _ a => .lam x .any a
  | e => e
theorem E.bare1_wf (x : E) (h : x.wf = true) : x.bare1.wf = true := by
  cases x <;> simp only [E.bare1] <;> try exact h
  · simp only [E.wf, Bool.and_eq_true] at h ⊢; exact ⟨h.1, by decide, h.2.2⟩
  · simp only [E.wf, Bool.and_eq_true] at h; exact h.2
  · simp only [E.wf, Bool.and_eq_true] at h; exact h.2.2.2
theorem E.bare_labs (e : E) : (e.mapE E.bare1).labs = [] := by
  induction e with
  | app a b iha ihb | add a b iha ihb | less a b iha ihb | pair a b iha ihb => simp only [E.mapE, E.bare1, E.labs, iha, ihb]; rfl
  | ite a b c iha ihb ihc => simp only [E.mapE, E.bare1, E.labs, iha, ihb, ihc]; rfl
  | lam _ _ a ih | fst a ih | snd a ih | asc _ a ih | cast _ _ _ a ih => simp only [E.mapE, E.bare1, E.labs, ih]
  | _ => rfl
theorem E.bare_castN (e : E) : (e.mapE E.bare1).tm.castN = 0 := by
  unfold Tm.castN
  split
  · have h := E.labs_tm (e.mapE E.bare1)
    rw [E.bare_labs] at h
    have : (e.mapE E.bare1).tm.castsL.length = ((e.mapE E.bare1).tm.labs).length := by simp [Tm.labs]
    rw [this, h]; rfl
  · rfl
theorem E.bare_nodes (e : E) : (e.mapE E.bare1).nodes ≤ e.nodes := by
  induction e with
  | app a b iha ihb | add a b iha ihb | less a b iha ihb | pair a b iha ihb => simp only [E.mapE, E.bare1, E.nodes]; omega
  | ite a b c iha ihb ihc => simp only [E.mapE, E.bare1, E.nodes]; omega
  | lam _ _ a ih | fst a ih | snd a ih | asc _ a ih | cast _ _ _ a ih => simp only [E.mapE, E.bare1, E.nodes]; omega
  | _ => exact Nat.le_refl _
theorem E.castN_ok {e : E} (h : e.okC = true) : e.tm.castN = e.labs.length := by
  have h' : e.tm.castV = true := by rw [E.castV_tm]; exact h
  unfold Tm.castN
  rw [h', ← E.labs_tm]
  simp [Tm.labs]
/-- the types of the casts with a label -/
def ctyOf (l : Int) : List Tm → List Ty
  | [] => []
  | c :: cs => match c.label == l with | true => c.frm :: c.type :: ctyOf l cs | false => ctyOf l cs
theorem ctyOf_append (l : Int) (a b : List Tm) : ctyOf l (a ++ b) = ctyOf l a ++ ctyOf l b := by
  induction a with
  | nil => rfl
  | cons c a ih =>
    simp only [List.cons_append, ctyOf]
    split <;> simp [ih]
theorem ctyOf_len (l : Int) (cs : List Tm) : (ctyOf l cs).length = 2 * (labsOf cs).count l := by
  induction cs with
  | nil => rfl
  | cons c cs ih =>
    simp only [ctyOf, labsOf, List.map_cons, List.count_cons]
    split
    · rename_i h; simp only [List.length_cons, ih, h, labsOf]; simp; omega
    · rename_i h; simp only [ih, h, labsOf]; simp
theorem ctyOf_bd (l : Int) (cs : List Tm) : (ctyOf l cs).length ≤ 2 * cs.length := by
  rw [ctyOf_len]
  have := List.count_le_length (a := l) (l := labsOf cs)
  have : (labsOf cs).length = cs.length := by simp [labsOf]
  omega
theorem ctyOf_take (l : Int) {cs : List Tm} {k : Nat} (h : k < cs.length) : ctyOf l (cs.take (k + 1)) = ctyOf l (cs.take k) ++ (match (Sh.teKid cs k).label == l with | true => [(Sh.teKid cs k).frm, (Sh.teKid cs k).type] | false => []) := by
  rw [Sh.tetake_kid h, ctyOf_append]
  simp only [ctyOf]
/-- how often the numbers of a list stand in another -/
def sumC (l : List Int) : List Int → Nat
  | [] => 0
  | z :: S => l.count z + sumC l S
theorem sumC_append (l S T : List Int) : sumC l (S ++ T) = sumC l S + sumC l T := by
  induction S with
  | nil => simp [sumC]
  | cons z S ih => simp only [List.cons_append, sumC, ih]; omega
theorem sumC_take (l : List Int) {S : List Int} {k : Nat} (h : k < S.length) : sumC l (S.take (k + 1)) = sumC l (S.take k) + l.count (Sh.num S k) := by
  rw [Sh.numtake h, sumC_append]; simp [sumC]
theorem sumC_cons (x : Int) (l : List Int) : ∀ S : List Int, sumC (x :: l) S = sumC l S + S.count x
  | [] => by simp [sumC]
  | z :: S => by
    simp only [sumC, sumC_cons x l S, List.count_cons]
    have : (x == z) = (z == x) := by rw [Bool.eq_iff_iff, beq_iff_eq, beq_iff_eq]; exact eq_comm
    rw [this]
    omega
theorem count_up {S : List Int} (h : Up S) {x : Int} (hx : x ∈ S) : S.count x = 1 := by
  induction S with
  | nil => simp at hx
  | cons z S ih =>
    simp only [Up, List.pairwise_cons] at h
    rw [List.count_cons]
    rcases List.mem_cons.1 hx with rfl | hx
    · have : S.count x = 0 := List.count_eq_zero.2 (fun hm => by have := h.1 x hm; omega)
      simp [this]
    · have h1 := h.1 x hx
      have : (z == x) = false := by simp; omega
      simp [this, ih h.2 hx]
theorem sumC_all {S : List Int} (h : Up S) : ∀ l : List Int, (∀ x ∈ l, x ∈ S) → sumC l S = l.length
  | [], _ => by
    clear h
    induction S with
    | nil => rfl
    | cons z S ih => simp only [sumC, ih (by simp), List.count_nil]; rfl
  | x :: l, hl => by
    rw [sumC_cons, sumC_all h l (fun y hy => hl y (List.mem_cons_of_mem _ hy)), count_up h (hl x (by simp))]
    rfl
theorem sumC_set (l : List Int) : sumC l (setL l) = l.length := by
  obtain ⟨h1, h2, _⟩ := setL_spec l
  exact sumC_all h1 l (fun x hx => (h2 x).2 hx)
theorem sumC_le (l S : List Int) (h : Up S) (hs : ∀ x ∈ S, x ∈ l) (k : Nat) : sumC l (S.take k) ≤ l.length * S.length := by
  have one : ∀ T : List Int, sumC l T ≤ l.length * T.length := by
    intro T
    induction T with
    | nil => simp [sumC]
    | cons z T ih =>
      have := List.count_le_length (a := z) (l := l)
      simp only [sumC, List.length_cons, Nat.mul_add]; omega
  have h1 := one (S.take k)
  have h2 : (S.take k).length ≤ S.length := by simp; omega
  exact Nat.le_trans h1 (Nat.mul_le_mul_left _ h2)
end Go.Proofs.Grad
namespace Go.Proofs.YtnaebafafhamjaaGreat
open Go.RowKit Go.Proofs.Sh Go.Proofs.Grad
set_option maxRecDepth 100000
set_option maxHeartbeats 8000000
theorem iBare1 (x : E) (h : x.wf = true) : AFn Tryz.prog 98 [.agg (teC x.tm)] (.agg (teC x.bare1.tm)) := by
  have hb := base 1
  cases x with
  | lam x t a =>
    simp only [E.tm, E.bare1, T.ty]
    refine fn_in ?_; refine acl_in Tryz.func98 rfl isfn_98 (Nat.le_of_ble_eq_true rfl) (fun R hR => ?_); rw [Tryz.results98] at hR; refine wg_run ?_; (simp only [Tryz.f98, go_sem])
    repeat' (first | (first | (simp only [go_sem, int_bne]) | (((first | apply sp1 | apply sp2 | apply sp3 | apply sp4 | apply sp5 | apply sp6 | apply sp7) <;> intro hb) <;> (simp only [go_sem, hb, int_bne])) | ((first | apply wm_done | apply wt_done | apply wg_run | refine fk ?_ ?_) <;> (simp only [go_sem, int_bne]))) | (first | refine cdq ?_ (hc := hb) | refine cmq ?_ (hc := hb) | refine ctq ?_ (hc := hb)); (simp only [go_sem]) | ((first | refine mxq6 [] ?_ | refine mxq5 [] ?_ | refine mxq4 [] ?_ | refine mxq3 [] ?_ | refine mxq2 [] ?_ | refine mxq1 [] ?_ | refine mxq0 [] ?_ | fail); (simp only [go_sem])) | fail)
    (refine hR _ (rat [] (hK := ⟨rfl, rfl⟩)))
  | _ =>
    simp only [E.tm, nd, E.bare1]
    refine fn_in ?_; refine acl_in Tryz.func98 rfl isfn_98 (Nat.le_of_ble_eq_true rfl) (fun R hR => ?_); rw [Tryz.results98] at hR; refine wg_run ?_; (simp only [Tryz.f98, go_sem])
    repeat' (first | (first | (simp only [go_sem, int_bne]) | (((first | apply sp1 | apply sp2 | apply sp3 | apply sp4 | apply sp5 | apply sp6 | apply sp7) <;> intro hb) <;> (simp only [go_sem, hb, int_bne])) | ((first | apply wm_done | apply wt_done | apply wg_run | refine fk ?_ ?_) <;> (simp only [go_sem, int_bne]))) | (first | refine cdq ?_ (hc := hb) | refine cmq ?_ (hc := hb) | refine ctq ?_ (hc := hb)); (simp only [go_sem]) | ((first | refine mxq6 [] ?_ | refine mxq5 [] ?_ | refine mxq4 [] ?_ | refine mxq3 [] ?_ | refine mxq2 [] ?_ | refine mxq1 [] ?_ | refine mxq0 [] ?_ | fail); (simp only [go_sem])) | fail)
    (refine hR _ (rat [] (hK := ⟨rfl, rfl⟩)))
theorem iBare (e : E) (h : e.wf = true) : AFn Tryz.prog 67 [.agg (teC e.tm)] (.agg (teC (e.mapE E.bare1).tm)) := by
  have hm := iMapped 98 E.bare1 E.bare1_wf iBare1 e h
  refine fn_in ?_; refine acl_in Tryz.func67 rfl isfn_67 (Nat.le_of_ble_eq_true rfl) (fun R hR => ?_); rw [Tryz.results67] at hR; refine wg_run ?_; (simp only [Tryz.f67, go_sem])
  repeat' (first | (first | (((first | apply sp1 | apply sp2 | apply sp3 | apply sp4 | apply sp5 | apply sp6 | apply sp7) <;> intro hb) <;> (simp only [go_sem, hb])) | ((first | apply wm_done | apply wt_done | apply wg_run | refine fk ?_ ?_) <;> (simp only [go_sem]))) | (first | refine cdq ?_ (hc := hm) | refine cmq ?_ (hc := hm) | refine ctq ?_ (hc := hm)); (simp only [go_sem]) | fail)
  (refine hR _ (rat [] (hK := ⟨rfl, rfl⟩)))
theorem iBareTerm (e : E) (h : e.okC = true) : AFn Tryz.prog 29 [.agg (teC e.tm)] (.tup [.agg (teC (e.mapE E.bare1).tm), .one (.sc (.bool true))]) := by
  have h1 := iTermV e.tm
  have h2 := iCastV e.tm
  rw [E.castV_tm, h] at h2
  have h3 := iBare e (E.wf_ok h)
  cases ev : e.tm.termV
  all_goals
    rw [ev] at h1
    refine fn_in ?_; refine acl_in Tryz.func29 rfl isfn_29 (Nat.le_of_ble_eq_true rfl) (fun R hR => ?_); rw [Tryz.results29] at hR; refine wg_run ?_; (simp only [Tryz.f29, go_sem])
    repeat' (first | (first | (((first | apply sp1 | apply sp2 | apply sp3 | apply sp4 | apply sp5 | apply sp6 | apply sp7) <;> intro hb) <;> (simp only [go_sem, hb])) | ((first | apply wm_done | apply wt_done | apply wg_run | refine fk ?_ ?_) <;> (simp only [go_sem]))) | (first | refine cdq ?_ (hc := h1) | refine cmq ?_ (hc := h1) | refine ctq ?_ (hc := h1)); (simp only [go_sem]) | (first | refine cdq ?_ (hc := h2) | refine cmq ?_ (hc := h2) | refine ctq ?_ (hc := h2)); (simp only [go_sem]) | (first | refine cdq ?_ (hc := h3) | refine cmq ?_ (hc := h3) | refine ctq ?_ (hc := h3)); (simp only [go_sem]) | ((first | refine mxq6 [] ?_ | refine mxq5 [] ?_ | refine mxq4 [] ?_ | refine mxq3 [] ?_ | refine mxq2 [] ?_ | refine mxq1 [] ?_ | refine mxq0 [] ?_ | fail); (simp only [go_sem])) | fail)
    (refine hR _ (rat [] (hK := ⟨rfl, rfl⟩)))
theorem iCastTypes (x : E) (hx : x.okC = true) (hz : x.tm.size < 100000000) (l : Int) : AFn Tryz.prog 28 [.agg (teC x.tm), .one (.sc (.int .i64 l))] (.one (.sl (tyR (ctyOf l x.tm.castsL)))) := by
  have hv := iCastV x.tm
  rw [E.castV_tm, hx] at hv
  have hca := iCasts 100000000 (by omega) x.tm hz
  have hn := x.labs_nodes hx
  have hcl : x.tm.castsL.length = x.labs.length := by rw [← E.labs_tm]; simp [Tm.labs]
  have hok : ∀ c ∈ x.tm.castsL, c.frm.size < 1000 ∧ c.type.size < 1000 := by
    intro c hc
    obtain ⟨s, t, k, a, rfl, h1, h2, _, _⟩ := E.castsL_ok x (E.wf_ok hx) c hc
    exact ⟨T.ty_small h1, T.ty_small h2⟩
  generalize x.tm.castsL = cs at *
  refine fn_in ?_; refine acl_in Tryz.func28 rfl isfn_28 (Nat.le_of_ble_eq_true rfl) (fun R hR => ?_); rw [Tryz.results28] at hR; refine wg_run ?_; (simp only [Tryz.f28, go_sem])
  repeat' (first | (first | (((first | apply sp1 | apply sp2 | apply sp3 | apply sp4 | apply sp5 | apply sp6 | apply sp7) <;> intro hb) <;> (simp only [go_sem, hb])) | ((first | apply wm_done | apply wt_done | apply wg_run | refine fk ?_ ?_) <;> (simp only [go_sem]))) | (first | refine cdq ?_ (hc := hv) | refine cmq ?_ (hc := hv) | refine ctq ?_ (hc := hv)); (simp only [go_sem]) | (first | refine cdq ?_ (hc := hca) | refine cmq ?_ (hc := hca) | refine ctq ?_ (hc := hca)); (simp only [go_sem]) | fail)
  refine wd_for [1, 2, 5, 12, 13, 14] (fun (x' : Nat × List Ty) => [.one (.sc (.int .i64 l)), .one (.ptr 9 0 0 0), .one (match x'.2 with | [] => .sc (.slice none 0 0) | z :: m => .row 2 1 (m.length + 1)), .one (.sl (teR cs)), .one (.sc (.int .i64 cs.length)), .one (.sc (.int .i64 (x'.1 : Nat)))])
    (fun x' => match x'.2 with | [] => [⟨9, 28, .mut, [teC x.tm]⟩] | z :: m => [⟨9, 28, .mut, [teC x.tm]⟩, ⟨2, 25, .mut, tyR (z :: m)⟩])
    (fun x' => x'.1 ≤ cs.length ∧ x'.2 = ctyOf l (cs.take x'.1)) (fun x' => cs.length - x'.1) (0, []) ⟨Nat.zero_le _, rfl⟩ (hat [0] (hI := ⟨rfl, rfl⟩)) ?_
  rintro ⟨k, acc⟩ ⟨hk, hacc⟩ G hG
  simp only [] at hk hacc hG
  have hal : acc.length ≤ 2 * cs.length := by
    have := ctyOf_bd l (cs.take k)
    rw [hacc]; simp only [List.length_take] at *; omega
  refine wg_run ?_
  (simp only [go_sem])
  ((first | apply sp1 | apply sp2 | apply sp3 | apply sp4 | apply sp5 | apply sp6 | apply sp7) <;> intro hb) <;> (simp only [go_sem, hb])
  · have hk1 : k < cs.length := by have := of_decide_eq_true hb; omega
    have hw1 := wrap_succ hk1 (by omega)
    have hnx := ctyOf_take l hk1
    rw [← hacc] at hnx
    have hm : teKid cs k ∈ cs := by rw [teKid_eq hk1]; exact List.getElem_mem hk1
    obtain ⟨z1, z2⟩ := hok _ hm
    have o1 : AFn Tryz.prog 57 [.agg [.sc (.int .i64 (teKid cs k).frm.kind), .sl (tyR (teKid cs k).frm.kids)]] (.agg (tyC (teKid cs k).frm)) := by
      have := iOwnTy 1000 (by omega) (teKid cs k).frm z1
      rw [tyC_eq] at this ⊢; exact this
    have o2 : AFn Tryz.prog 57 [.agg [.sc (.int .i64 (teKid cs k).type.kind), .sl (tyR (teKid cs k).type.kids)]] (.agg (tyC (teKid cs k).type)) := by
      have := iOwnTy 1000 (by omega) (teKid cs k).type z2
      rw [tyC_eq] at this ⊢; exact this
    have hcap1 : (acc.length + 1 + 1) * 32 ≤ 140737488355328 := by omega
    have hcap2 : (acc.length + 2) * 32 ≤ 140737488355328 := by omega
    cases el : ((teKid cs k).label == l)
    · rw [el] at hnx
      simp only [List.append_nil] at hnx
      rcases acc with _ | ⟨z, m⟩
      all_goals
        repeat' (first | (first | (simp only [go_sem, hb, hw1, el]) | (((first | apply sp1 | apply sp2 | apply sp3 | apply sp4 | apply sp5 | apply sp6 | apply sp7) <;> intro hb) <;> (simp only [go_sem, hb, hb, hw1, el])) | ((first | apply wm_done | apply wt_done | apply wg_run | refine fk ?_ ?_) <;> (simp only [go_sem, hb, hw1, el]))) | ((first | refine mxq6 [] ?_ | refine mxq5 [] ?_ | refine mxq4 [] ?_ | refine mxq3 [] ?_ | refine mxq2 [] ?_ | refine mxq1 [] ?_ | refine mxq0 [] ?_ | fail); (simp only [go_sem, hb])) | fail)
      · exact hG (k + 1, []) _ _ ⟨by omega, hnx.symm⟩ (by simp only []; omega) (hat [0] (hI := ⟨rfl, rfl⟩))
      · exact hG (k + 1, z :: m) _ _ ⟨by omega, hnx.symm⟩ (by simp only []; omega) (hat [0, 1] (hI := ⟨rfl, rfl⟩))
    · rw [el] at hnx
      simp only [] at hnx
      rcases acc with _ | ⟨z, m⟩
      all_goals
        simp only [List.length_cons, List.length_nil, List.nil_append, List.cons_append] at hcap1 hcap2 hnx
      all_goals
        repeat' (first | (first | (simp only [go_sem, hb, hw1, hcap1, hcap2, el]) | (((first | apply sp1 | apply sp2 | apply sp3 | apply sp4 | apply sp5 | apply sp6 | apply sp7) <;> intro hb) <;> (simp only [go_sem, hb, hb, hw1, hcap1, hcap2, el])) | ((first | apply wm_done | apply wt_done | apply wg_run | refine fk ?_ ?_) <;> (simp only [go_sem, hb, hw1, hcap1, hcap2, el]))) | (first | refine cdq ?_ (hc := o1) | refine cmq ?_ (hc := o1) | refine ctq ?_ (hc := o1)); (simp only [go_sem]) | (first | refine cdq ?_ (hc := o2) | refine cmq ?_ (hc := o2) | refine ctq ?_ (hc := o2)); (simp only [go_sem]) | (first | fail) | ((first | refine mxq6 [] ?_ | refine mxq5 [] ?_ | refine mxq4 [] ?_ | refine mxq3 [] ?_ | refine mxq2 [] ?_ | refine mxq1 [] ?_ | refine mxq0 [] ?_ | fail); (simp only [go_sem, hb, hcap1, hcap2])) | fail)
      all_goals
        first
          | (refine hG (k + 1, _) _ _ ⟨by omega, hnx.symm⟩ (by simp only []; omega) (hat [0, 1] (hI := ⟨?_, ?_⟩)) <;> first | rfl | (simp only [List.length_append, List.length_cons, List.length_nil]; done) | (simp only [tyR, tyR_append, List.cons_append, List.nil_append, List.append_assoc]; done))
          | (refine hG (k + 1, _) _ _ ⟨by omega, hnx.symm⟩ (by simp only []; omega) (hat [0, 2] (hI := ⟨?_, ?_⟩)) <;> first | rfl | (simp only [List.length_append, List.length_cons, List.length_nil]; done) | (simp only [tyR, tyR_append, List.cons_append, List.nil_append, List.append_assoc]; done))
          | (refine hG (k + 1, _) _ _ ⟨by omega, hnx.symm⟩ (by simp only []; omega) (hat [0, 3] (hI := ⟨?_, ?_⟩)) <;> first | rfl | (simp only [List.length_append, List.length_cons, List.length_nil]; done) | (simp only [tyR, tyR_append, List.cons_append, List.nil_append, List.append_assoc]; done))
          | (refine hG (k + 1, _) _ _ ⟨by omega, hnx.symm⟩ (by simp only []; omega) (hat [0, 4] (hI := ⟨?_, ?_⟩)) <;> first | rfl | (simp only [List.length_append, List.length_cons, List.length_nil]; done) | (simp only [tyR, tyR_append, List.cons_append, List.nil_append, List.append_assoc]; done))
  · have hk1 : cs.take k = cs := List.take_of_length_le (by have := of_decide_eq_false hb; omega)
    rw [hk1] at hacc
    clear hG
    rcases acc with _ | ⟨z, m⟩
    all_goals
      repeat' (first | (first | (((first | apply sp1 | apply sp2 | apply sp3 | apply sp4 | apply sp5 | apply sp6 | apply sp7) <;> intro hb) <;> (simp only [go_sem, hb])) | ((first | apply wm_done | apply wt_done | apply wg_run | refine fk ?_ ?_) <;> (simp only [go_sem]))) | fail)
      (refine hR _ (rat [] (hK := ⟨?_, rfl⟩)))
      rw [← hacc]
      try rfl
end Go.Proofs.YtnaebafafhamjaaGreat
/- The reference's reader, on shadows. -/
namespace Go.Proofs.Sh
open Go.RowKit
def byC (x : Int) : List C := [.sc (.int .u8 x)]
def byR (l : List Int) : List (List C) := l.map byC
def byte (l : List Int) (k : Nat) : Int := l.getD k 0
@[go_sem] theorem byC_length (x : Int) : (byC x).length = 1 := rfl
@[go_sem] theorem byC_0 (x : Int) : (byC x)[0]? = some (.sc (.int .u8 x)) := rfl
@[go_sem] theorem byR_length (l : List Int) : (byR l).length = l.length := by simp [byR]
@[go_sem] theorem byR_at (l : List Int) (i : Nat) : (byR l)[i]? = match decide ((i : Int) < (l.length : Int)) with | true => some (byC (byte l i)) | false => none := by
  by_cases h : i < l.length
  · have h' : (i : Int) < (l.length : Int) := by omega
    simp [byR, byte, h, h']
  · have h' : ¬ (i : Int) < (l.length : Int) := by omega
    simp [byR, h, h']
@[go_sem] theorem byR_tree (l : List Int) : treeRows (byR l) = true := by
  simp [byR, treeRows, treeL, byC, C.tree]
@[go_sem] theorem byR_len (l : List Int) : rowsLen 1 (byR l) = true := by
  simp [byR, rowsLen, byC]
theorem byR_take (l : List Int) (n : Nat) : (byR l).take n = byR (l.take n) := by simp [byR, List.map_take]
/-- bytes -/
structure Bs (l : List Int) : Prop where
  len : l.length ≤ 2000
  all : ∀ k, 0 ≤ byte l k ∧ byte l k < 256
theorem i64_xor' (a b : Nat) (ha : a < 9223372036854775808) (hb : b < 9223372036854775808) : IntKind.i64.wrap ((BitVec.ofInt 64 (a : Int) ^^^ BitVec.ofInt 64 (b : Int)).toNat : Int) = ((a ^^^ b : Nat) : Int) := by
  have hx : a ^^^ b < 2 ^ 63 := Nat.xor_lt_two_pow (by omega) (by omega)
  rw [BitVec.toNat_xor, ofInt_u64 a (by omega), ofInt_u64 b (by omega), IntKind.wrap_i64]
  omega
end Go.Proofs.Sh
namespace Go.Proofs.YtnaebafafhamjaaGreat
open Go.RowKit Go.Proofs.Sh
set_option maxRecDepth 100000
set_option maxHeartbeats 4000000
theorem pick (bs : List Int) (hB : Bs bs) (p : Nat) (hp : p < 1099511627776) (n : Int) (hn1 : -1099511627776 ≤ n) (hn2 : n ≤ 1099511627776) :
    ACl Tryz.prog 101 [.one (.ptr 2 0 0 0), .one (.sc (.int .i64 n))] [(⟨2, 115, .mut, [[.sl (byR bs), .sc (.int .i64 ((p : Nat) : Int))]]⟩ : Blk)] (fun r H' => ∃ z : Int, r = .one (.sc (.int .i64 z)) ∧ 0 ≤ z ∧ (z < n ∨ z = 0) ∧ H' = [(⟨2, 115, .mut, [[.sl (byR bs), .sc (.int .i64 ((p + 1 : Nat) : Int))]]⟩ : Blk)]) := by
  have wq : IntKind.i64.wrap ((p : Int) + 1) = ((p + 1 : Nat) : Int) := by rw [IntWalk.i64_in _ (by omega)]; omega
  have wr : IntKind.i64.wrap (((p + 1 : Nat) : Int) - 1) = (p : Int) := by rw [IntWalk.i64_in _ (by omega)]; omega
  by_cases hz : n < 1
  · have hd : decide (n < 1) = true := by simp [hz]
    refine acl_in Tryz.func101 rfl isfn_101 (Nat.le_of_ble_eq_true rfl) (fun R hR => ?_); rw [Tryz.results101] at hR; refine wg_run ?_; (simp only [Tryz.f101, go_sem, hd, wq])
    exact hR _ (rat [] (hK := ⟨0, rfl, Int.le_refl _, .inr rfl, rfl⟩))
  · have hd : decide (n < 1) = false := by simp; omega
    have hl := hB.len
    by_cases hm : bs.length = 0
    · have hm1 : (((bs.length : Nat) : Int) == 0) = true := by simp [hm]
      refine acl_in Tryz.func101 rfl isfn_101 (Nat.le_of_ble_eq_true rfl) (fun R hR => ?_); rw [Tryz.results101] at hR; refine wg_run ?_; (simp only [Tryz.f101, go_sem, hd, wq, hm1])
      exact hR _ (rat [] (hK := ⟨0, rfl, Int.le_refl _, .inr rfl, rfl⟩))
    · have hm1 : (((bs.length : Nat) : Int) == 0) = false := by rw [beq_eq_false_iff_ne]; omega
      have hn0 : decide (n = 0) = false := by simp; omega
      have hn00 : (n == 0) = false := by simp; omega
      by_cases hpl : p < bs.length
      · have hpp : decide ((p : Int) < (bs.length : Int)) = true := by simp; omega
        have hb := hB.all p
        have wx : IntKind.i64.wrap (byte bs p) = byte bs p := IntWalk.i64_in _ (by omega)
        have hrem : 0 ≤ (byte bs p).tmod n ∧ (byte bs p).tmod n < n := ⟨Int.tmod_nonneg _ hb.1, Int.tmod_lt_of_pos _ (by omega)⟩
        refine acl_in Tryz.func101 rfl isfn_101 (Nat.le_of_ble_eq_true rfl) (fun R hR => ?_); rw [Tryz.results101] at hR; refine wg_run ?_; (simp only [Tryz.f101, go_sem, hd, wq, hm1, wr, hpp, wx, hn0])
        exact hR _ (rat [] (hK := ⟨_, rfl, hrem.1, .inl hrem.2, rfl⟩))
      · have hpp : decide ((p : Int) < (bs.length : Int)) = false := by simp; omega
        have hm0 : decide (((bs.length : Nat) : Int) = 0) = false := by rw [decide_eq_false_iff_not]; omega
        have hx := hB.all (p % bs.length)
        have hy := hB.all ((p * 7 + 3) % bs.length)
        have t1 : (p : Int).tmod (bs.length : Int) = ((p % bs.length : Nat) : Int) := by rw [Int.tmod_eq_emod_of_nonneg (by omega)]; simp
        have t2 : ((p : Int) * 7 + 3).tmod (bs.length : Int) = (((p * 7 + 3) % bs.length : Nat) : Int) := by rw [Int.tmod_eq_emod_of_nonneg (by omega)]; simp
        have t3 : (p : Int).tdiv (bs.length : Int) = ((p / bs.length : Nat) : Int) := by rw [Int.tdiv_eq_ediv_of_nonneg (by omega)]; simp
        have g1 : decide (((p % bs.length : Nat) : Int) < (bs.length : Int)) = true := by have := Nat.mod_lt p (show 0 < bs.length by omega); simp only [decide_eq_true_eq]; omega
        have g2 : decide ((((p * 7 + 3) % bs.length : Nat) : Int) < (bs.length : Int)) = true := by have := Nat.mod_lt (p * 7 + 3) (show 0 < bs.length by omega); simp only [decide_eq_true_eq]; omega
        have hdv : p / bs.length ≤ p := Nat.div_le_self _ _
        generalize hxe : byte bs (p % bs.length) = x at *
        generalize hye : byte bs ((p * 7 + 3) % bs.length) = y at *
        generalize hdd : p / bs.length = dd at *
        have w1 : IntKind.i64.wrap ((p : Int) * 7) = (p : Int) * 7 := IntWalk.i64_in _ (by omega)
        have w2 : IntKind.i64.wrap ((p : Int) * 7 + 3) = (p : Int) * 7 + 3 := IntWalk.i64_in _ (by omega)
        have w3 : IntKind.i64.wrap (x * 131) = x * 131 := IntWalk.i64_in _ (by omega)
        have w4 : IntKind.i64.wrap (y * 1117) = y * 1117 := IntWalk.i64_in _ (by omega)
        have w5 : IntKind.i64.wrap (x * 131 + y * 1117) = x * 131 + y * 1117 := IntWalk.i64_in _ (by omega)
        have w6 : IntKind.i64.wrap ((p : Int) * 29) = (p : Int) * 29 := IntWalk.i64_in _ (by omega)
        have w7 : IntKind.i64.wrap (x * 131 + y * 1117 + (p : Int) * 29) = x * 131 + y * 1117 + (p : Int) * 29 := IntWalk.i64_in _ (by omega)
        have w8 : IntKind.i64.wrap ((dd : Int) * 53) = (dd : Int) * 53 := IntWalk.i64_in _ (by omega)
        have w9 : IntKind.i64.wrap (x * 131 + y * 1117 + (p : Int) * 29 + (dd : Int) * 53) = x * 131 + y * 1117 + (p : Int) * 29 + (dd : Int) * 53 := IntWalk.i64_in _ (by omega)
        have wx : IntKind.i64.wrap x = x := IntWalk.i64_in _ (by omega)
        have wy : IntKind.i64.wrap y = y := IntWalk.i64_in _ (by omega)
        have wd : IntKind.i64.wrap (dd : Int) = (dd : Int) := IntWalk.i64_in _ (by omega)
        obtain ⟨s, hs, hs2⟩ : ∃ s : Nat, x * 131 + y * 1117 + (p : Int) * 29 + (dd : Int) * 53 = (s : Int) ∧ s < 4611686018427387904 := ⟨(x * 131 + y * 1117 + (p : Int) * 29 + (dd : Int) * 53).toNat, by omega, by omega⟩
        have t4 : (s : Int).tdiv 64 = ((s / 64 : Nat) : Int) := by rw [Int.tdiv_eq_ediv_of_nonneg (by omega)]; simp
        have w10 : IntKind.i64.wrap ((s / 64 : Nat) : Int) = ((s / 64 : Nat) : Int) := IntWalk.i64_in _ (by omega)
        have w11 : IntKind.i64.wrap (s : Int) = (s : Int) := IntWalk.i64_in _ (by omega)
        have hxo : IntKind.i64.wrap ((BitVec.ofInt 64 (s : Int) ^^^ BitVec.ofInt 64 ((s / 64 : Nat) : Int)).toNat : Int) = ((s ^^^ (s / 64) : Nat) : Int) := i64_xor' s (s / 64) (by omega) (by omega)
        generalize hze : s ^^^ (s / 64) = z at *
        have hrem : 0 ≤ (z : Int).tmod n ∧ (z : Int).tmod n < n := ⟨Int.tmod_nonneg _ (by omega), Int.tmod_lt_of_pos _ (by omega)⟩
        refine acl_in Tryz.func101 rfl isfn_101 (Nat.le_of_ble_eq_true rfl) (fun R hR => ?_); rw [Tryz.results101] at hR; refine wg_run ?_; (simp only [Tryz.f101, go_sem, hd, wq, hm1, wr, hpp])
        refine wd_mix 0 [] follows (by kernel_rfl) (by (simp only [go_sem]); first | done | rfl) ?_
        (simp only [go_sem, hm0, hxe, hye, t1, t2, t3, g1, g2, w1, w2, w3, w4, w5, w6, w7, w8, w9, wx, wy, wd, hs])
        refine wm_done ?_
        (simp only [go_sem, hn0, t4, w10, w11, hxo])
        refine hR _ (rat [] (hK := ⟨_, rfl, ?_, .inl ?_, rfl⟩))
        · have h := hrem.1; rw [← hxo] at h; exact h
        · have h := hrem.2; rw [← hxo] at h; exact h
/-- whole numbers as rows of a slice -/
theorem num (bs : List Int) (hB : Bs bs) (p : Nat) (hp : p < 1099511627776) (l : List Int) (h1 : 0 < l.length) (h2 : l.length < 1000) :
    ACl Tryz.prog 102 [.one (.ptr 2 0 0 0), .one (.sl (l.map fun x => [.sc (.int .i64 x)]))] [(⟨2, 115, .mut, [[.sl (byR bs), .sc (.int .i64 ((p : Nat) : Int))]]⟩ : Blk)] (fun r H' => ∃ z : Int, r = .one (.sc (.int .i64 z)) ∧ z ∈ l ∧ H' = [(⟨2, 115, .mut, [[.sl (byR bs), .sc (.int .i64 ((p + 1 : Nat) : Int))]]⟩ : Blk)]) := by
  have hk := pick bs hB p hp (l.length : Nat) (by omega) (by omega)
  refine acl_in Tryz.func102 rfl isfn_102 (Nat.le_of_ble_eq_true rfl) (fun R hR => ?_); rw [Tryz.results102] at hR; refine wg_run ?_; (simp only [Tryz.f102, go_sem, List.length_map])
  refine wd_cl [0] (by (simp only [go_sem]); first | done | rfl) hk ?_
  rintro _ _ ⟨z, rfl, hz0, hz1, rfl⟩
  obtain ⟨z, rfl⟩ := Int.eq_ofNat_of_zero_le hz0
  have hz : z < l.length := by omega
  have hm : (l.map fun x => [C.sc (.int .i64 x)])[z]? = some [C.sc (.int .i64 l[z])] := by simp [hz]
  have hz2 : decide ((0 : Int) ≤ (z : Int)) = true := by simp
  (simp only [go_sem, hm, hz2])
  exact hR _ (rat [] (hK := ⟨_, rfl, List.getElem_mem hz, rfl⟩))
theorem ofs (bs : List Int) (hB : Bs bs) (p : Nat) (hp : p < 1099511627776) (l : List ByteArray) (h1 : 0 < l.length) (h2 : l.length < 1000) :
    ACl Tryz.prog 148 [.one (.ptr 2 0 0 0), .one (.sl (l.map fun x => [.sc (.string x)]))] [(⟨2, 115, .mut, [[.sl (byR bs), .sc (.int .i64 ((p : Nat) : Int))]]⟩ : Blk)] (fun r H' => ∃ z : ByteArray, r = .one (.sc (.string z)) ∧ z ∈ l ∧ H' = [(⟨2, 115, .mut, [[.sl (byR bs), .sc (.int .i64 ((p + 1 : Nat) : Int))]]⟩ : Blk)]) := by
  have hk := pick bs hB p hp (l.length : Nat) (by omega) (by omega)
  refine acl_in Tryz.func148 rfl isfn_148 (Nat.le_of_ble_eq_true rfl) (fun R hR => ?_); rw [Tryz.results148] at hR; refine wg_run ?_; (simp only [Tryz.f148, go_sem, List.length_map])
  refine wd_cl [0] (by (simp only [go_sem]); first | done | rfl) hk ?_
  rintro _ _ ⟨z, rfl, hz0, hz1, rfl⟩
  obtain ⟨z, rfl⟩ := Int.eq_ofNat_of_zero_le hz0
  have hz : z < l.length := by omega
  have hm : (l.map fun x => [C.sc (.string x)])[z]? = some [C.sc (.string l[z])] := by simp [hz]
  have hz2 : decide ((0 : Int) ≤ (z : Int)) = true := by simp
  (simp only [go_sem, hm, hz2])
  exact hR _ (rat [] (hK := ⟨_, rfl, List.getElem_mem hz, rfl⟩))
theorem byte_take (l : List Int) (n k : Nat) : byte (l.take n) k = byte l k ∨ byte (l.take n) k = 0 := by
  unfold byte
  by_cases h : k < n
  · left; simp [List.getD_eq_getElem?_getD, List.getElem?_take, h]
  · right; simp [List.getD_eq_getElem?_getD, List.getElem?_take, h]
theorem opn (l : List Int) (hl : l.length < 4611686018427387904) (hb : ∀ k, 0 ≤ byte l k ∧ byte l k < 256) :
    ACl Tryz.prog 68 [.one (.sl (byR l))] [] (fun r H' => ∃ bs : List Int, Bs bs ∧ r = .one (.ptr 2 0 0 0) ∧ H' = [(⟨2, 115, .mut, [[.sl (byR bs), .sc (.int .i64 ((0 : Nat) : Int))]]⟩ : Blk)]) := by
  by_cases h : 2000 < l.length
  · have hd : decide (((l.length : Nat) : Int) > 2000) = true := by simp; omega
    have hd2 : decide (2000 ≤ l.length) = true := by simp; omega
    refine acl_in Tryz.func68 rfl isfn_68 (Nat.le_of_ble_eq_true rfl) (fun R hR => ?_); rw [Tryz.results68] at hR; refine wg_run ?_; (simp only [Tryz.f68, go_sem, hd, hd2, byR_take])
    refine hR _ (rat [0] (hK := ⟨l.take 2000, ⟨by simp; omega, fun k => ?_⟩, rfl, ?_⟩))
    · rcases byte_take l 2000 k with h | h <;> rw [h]
      · exact hb k
      · omega
    · simp
  · have hd : decide (((l.length : Nat) : Int) > 2000) = false := by simp; omega
    refine acl_in Tryz.func68 rfl isfn_68 (Nat.le_of_ble_eq_true rfl) (fun R hR => ?_); rw [Tryz.results68] at hR; refine wg_run ?_; (simp only [Tryz.f68, go_sem, hd])
    exact hR _ (rat [0] (hK := ⟨l, ⟨by omega, hb⟩, rfl, rfl⟩))
end Go.Proofs.YtnaebafafhamjaaGreat
/- The reference's draws of types, on shadows. -/
namespace Go.Proofs.YtnaebafafhamjaaGreat
open Go.RowKit Go.Proofs.Sh Go.Proofs.Grad
set_option maxRecDepth 100000
set_option maxHeartbeats 4000000
/-- a draw: of a type of depth at most d, at a cost of at most c -/
def DrawsT (bs : List Int) (p c d : Nat) (r : AV) (H' : List Blk) : Prop := ∃ (x : T) (p' : Nat), r = .agg (tyC x.ty) ∧ x.depth ≤ d ∧ p' ≤ p + c ∧ H' = [(⟨2, 115, .mut, [[.sl (byR bs), .sc (.int .i64 ((p' : Nat) : Int))]]⟩ : Blk)]
theorem l1Draw1 (bs : List Int) (hB : Bs bs) (p : Nat) (hp : p < 1099511627776) : ACl Tryz.prog 150 [.one (.ptr 2 0 0 0), .one (.sc (.int .i64 1))] [(⟨2, 115, .mut, [[.sl (byR bs), .sc (.int .i64 ((p : Nat) : Int))]]⟩ : Blk)] (DrawsT bs p 2 1) := by
  have hk := num bs hB p hp [2, 1, 4, 3, 5, 2, 4] (by decide) (by decide)
  refine acl_in Tryz.func150 rfl isfn_150 (Nat.le_of_ble_eq_true rfl) (fun R hR => ?_); rw [Tryz.results150] at hR; refine wg_run ?_; (simp only [Tryz.f150, go_sem])
  refine wd_cl [0] (by (simp only [go_sem]); first | done | rfl) hk ?_
  clear hk
  rintro _ _ ⟨z, rfl, hz, rfl⟩
  simp only [List.mem_cons, List.not_mem_nil, or_false] at hz
  rcases hz with rfl | rfl | rfl | rfl | rfl | rfl | rfl
  all_goals
    (simp only [go_sem])
    repeat' (first | (first | (((first | apply sp1 | apply sp2 | apply sp3 | apply sp4 | apply sp5 | apply sp6 | apply sp7) <;> intro hb) <;> (simp only [go_sem, hb])) | ((first | apply wm_done | apply wt_done | apply wg_run | refine fk ?_ ?_) <;> (simp only [go_sem]))) | (first | refine cdq ?_ (hc := l1Kids _) | refine cmq ?_ (hc := l1Kids _) | refine ctq ?_ (hc := l1Kids _)); (simp only [go_sem]) | (first | (refine wl_next (wg_run ?_); (simp only [go_sem])) | refine wd_rounds 6 ?_) | ((first | refine mxq6 [0] ?_ | refine mxq5 [0] ?_ | refine mxq4 [0] ?_ | refine mxq3 [0] ?_ | refine mxq2 [0] ?_ | refine mxq1 [0] ?_ | refine mxq0 [0] ?_ | fail); (simp only [go_sem])))
    first
      | exact hR _ (rat [] (hK := ⟨.any, p + 1, rfl, by decide, by omega, rfl⟩))
      | exact hR _ (rat [] (hK := ⟨.int, p + 1, rfl, by decide, by omega, rfl⟩))
      | exact hR _ (rat [] (hK := ⟨.bool, p + 1, rfl, by decide, by omega, rfl⟩))
theorem l1DrawN (bs : List Int) (hB : Bs bs) (d c : Nat) (hd : 1 ≤ d) (hd4 : d ≤ 4) (M : Nat) (hM : M + c + 2 ≤ 1099511627776) (ih : ∀ p, p < M + c + 2 → ACl Tryz.prog 150 [.one (.ptr 2 0 0 0), .one (.sc (.int .i64 (d : Nat)))] [(⟨2, 115, .mut, [[.sl (byR bs), .sc (.int .i64 ((p : Nat) : Int))]]⟩ : Blk)] (DrawsT bs p c d)) :
    ∀ p, p < M → ACl Tryz.prog 150 [.one (.ptr 2 0 0 0), .one (.sc (.int .i64 ((d + 1 : Nat) : Int)))] [(⟨2, 115, .mut, [[.sl (byR bs), .sc (.int .i64 ((p : Nat) : Int))]]⟩ : Blk)] (DrawsT bs p (1 + 2 * c) (d + 1)) := by
  intro p hp
  have hd2 : decide (((d + 1 : Nat) : Int) < 2) = false := by simp; omega
  have hw : IntKind.i64.wrap (((d + 1 : Nat) : Int) - 1) = (d : Int) := by rw [IntWalk.i64_in _ (by omega)]; omega
  have hk := num bs hB p (by omega) [2, 1, 4, 3, 5, 2, 4] (by decide) (by decide)
  refine acl_in Tryz.func150 rfl isfn_150 (Nat.le_of_ble_eq_true rfl) (fun R hR => ?_); rw [Tryz.results150] at hR; refine wg_run ?_; (simp only [Tryz.f150, go_sem])
  refine wd_cl [0] (by (simp only [go_sem]); first | done | rfl) hk ?_
  clear hk
  rintro _ _ ⟨z, rfl, hz, rfl⟩
  simp only [List.mem_cons, List.not_mem_nil, or_false] at hz
  rcases hz with rfl | rfl | rfl | rfl | rfl | rfl | rfl
  all_goals
    (simp only [go_sem, hd2])
    repeat' (first | (first | (((first | apply sp1 | apply sp2 | apply sp3 | apply sp4 | apply sp5 | apply sp6 | apply sp7) <;> intro hb) <;> (simp only [go_sem, hb])) | ((first | apply wm_done | apply wt_done | apply wg_run | refine fk ?_ ?_) <;> (simp only [go_sem]))) | (first | refine cdq ?_ (hc := l1Kids _) | refine cmq ?_ (hc := l1Kids _) | refine ctq ?_ (hc := l1Kids _)); (simp only [go_sem]) | (first | (refine wl_next (wg_run ?_); (simp only [go_sem])) | refine wd_rounds 6 ?_) | ((first | refine mxq6 [0] ?_ | refine mxq5 [0] ?_ | refine mxq4 [0] ?_ | refine mxq3 [0] ?_ | refine mxq2 [0] ?_ | refine mxq1 [0] ?_ | refine mxq0 [0] ?_ | fail); (simp only [go_sem])))
  all_goals
    first
      | exact hR _ (rat [] (hK := ⟨.any, p + 1, rfl, by simp [T.depth], by omega, rfl⟩))
      | exact hR _ (rat [] (hK := ⟨.int, p + 1, rfl, by simp [T.depth], by omega, rfl⟩))
      | exact hR _ (rat [] (hK := ⟨.bool, p + 1, rfl, by simp [T.depth], by omega, rfl⟩))
      | skip
  all_goals
    (simp only [go_sem, hw])
    ((first | refine kdq [0] ?_ (hc := ih _ (by omega)) | refine kmq [0] ?_ (hc := ih _ (by omega)) | refine ktq [0] ?_ (hc := ih _ (by omega))); rintro _ _ ⟨x1, p1, rfl, hx1, hp1, rfl⟩; (simp only [go_sem]))
    repeat' (first | (first | (((first | apply sp1 | apply sp2 | apply sp3 | apply sp4 | apply sp5 | apply sp6 | apply sp7) <;> intro hb) <;> (simp only [go_sem, hb])) | ((first | apply wm_done | apply wt_done | apply wg_run | refine fk ?_ ?_) <;> (simp only [go_sem]))) | (first | refine cdq ?_ (hc := l1Kids _) | refine cmq ?_ (hc := l1Kids _) | refine ctq ?_ (hc := l1Kids _)); (simp only [go_sem]) | (first | (refine wl_next (wg_run ?_); (simp only [go_sem])) | refine wd_rounds 6 ?_) | ((first | refine mxq6 [0] ?_ | refine mxq5 [0] ?_ | refine mxq4 [0] ?_ | refine mxq3 [0] ?_ | refine mxq2 [0] ?_ | refine mxq1 [0] ?_ | refine mxq0 [0] ?_ | fail); (simp only [go_sem])))
    (simp only [go_sem, hw])
    ((first | refine kdq [0] ?_ (hc := ih _ (by omega)) | refine kmq [0] ?_ (hc := ih _ (by omega)) | refine ktq [0] ?_ (hc := ih _ (by omega))); rintro _ _ ⟨x2, p2, rfl, hx2, hp2, rfl⟩; (simp only [go_sem]))
    repeat' (first | (first | (((first | apply sp1 | apply sp2 | apply sp3 | apply sp4 | apply sp5 | apply sp6 | apply sp7) <;> intro hb) <;> (simp only [go_sem, hb])) | ((first | apply wm_done | apply wt_done | apply wg_run | refine fk ?_ ?_) <;> (simp only [go_sem]))) | (first | refine cdq ?_ (hc := l1Kids _) | refine cmq ?_ (hc := l1Kids _) | refine ctq ?_ (hc := l1Kids _)); (simp only [go_sem]) | (first | (refine wl_next (wg_run ?_); (simp only [go_sem])) | refine wd_rounds 6 ?_) | ((first | refine mxq6 [0] ?_ | refine mxq5 [0] ?_ | refine mxq4 [0] ?_ | refine mxq3 [0] ?_ | refine mxq2 [0] ?_ | refine mxq1 [0] ?_ | refine mxq0 [0] ?_ | fail); (simp only [go_sem])))
    first
      | exact hR _ (rat [] (hK := ⟨.fn x1 x2, p2, rfl, by simp only [T.depth]; omega, by omega, rfl⟩))
      | exact hR _ (rat [] (hK := ⟨.pr x1 x2, p2, rfl, by simp only [T.depth]; omega, by omega, rfl⟩))
theorem DrawsT.mono {bs : List Int} {p c d c' d' : Nat} {r : AV} {H' : List Blk} (h : DrawsT bs p c d r H') (hc : c ≤ c') (hd : d ≤ d') : DrawsT bs p c' d' r H' := by
  obtain ⟨x, p', h1, h2, h3, h4⟩ := h
  exact ⟨x, p', h1, by omega, by omega, h4⟩
/-- a draw of a type of depth at most d costs at most 23 -/
theorem l1Draw (bs : List Int) (hB : Bs bs) (d : Nat) (hd : 1 ≤ d) (hd4 : d ≤ 4) (p : Nat) (hp : p < 1000000000) : ACl Tryz.prog 150 [.one (.ptr 2 0 0 0), .one (.sc (.int .i64 (d : Nat)))] [(⟨2, 115, .mut, [[.sl (byR bs), .sc (.int .i64 ((p : Nat) : Int))]]⟩ : Blk)] (DrawsT bs p 23 d) := by
  have h1 : ∀ p, p < 1000001000 → ACl Tryz.prog 150 [.one (.ptr 2 0 0 0), .one (.sc (.int .i64 ((1 : Nat) : Int)))] [(⟨2, 115, .mut, [[.sl (byR bs), .sc (.int .i64 ((p : Nat) : Int))]]⟩ : Blk)] (DrawsT bs p 2 1) := fun p hp => l1Draw1 bs hB p (by omega)
  have h2 := l1DrawN bs hB 1 2 (by omega) (by omega) 1000000900 (by omega) (fun p hp => h1 p (by omega))
  have h3 := l1DrawN bs hB 2 5 (by omega) (by omega) 1000000800 (by omega) (fun p hp => h2 p (by omega))
  have h4 := l1DrawN bs hB 3 11 (by omega) (by omega) 1000000000 (by omega) (fun p hp => h3 p (by omega))
  obtain rfl | rfl | rfl | rfl : d = 1 ∨ d = 2 ∨ d = 3 ∨ d = 4 := by omega
  · exact (h1 p (by omega)).mono fun r H' h => h.mono (by omega) (by omega)
  · exact (h2 p (by omega)).mono fun r H' h => h.mono (by omega) (by omega)
  · exact (h3 p (by omega)).mono fun r H' h => h.mono (by omega) (by omega)
  · exact (h4 p hp).mono fun r H' h => h.mono (by omega) (by omega)
theorem l1Type (bs : List Int) (hB : Bs bs) (p : Nat) (hp : p < 999999000) : ACl Tryz.prog 104 [.one (.ptr 2 0 0 0)] [(⟨2, 115, .mut, [[.sl (byR bs), .sc (.int .i64 ((p : Nat) : Int))]]⟩ : Blk)] (DrawsT bs p 24 4) := by
  have hk := num bs hB p (by omega) [3, 2, 4, 1, 3] (by decide) (by decide)
  have hd : ∀ d : Nat, 1 ≤ d → d ≤ 4 → ∀ p, p < 1000000000 → ACl Tryz.prog 150 [.one (.ptr 2 0 0 0), .one (.sc (.int .i64 (d : Nat)))] [(⟨2, 115, .mut, [[.sl (byR bs), .sc (.int .i64 ((p : Nat) : Int))]]⟩ : Blk)] (DrawsT bs p 23 d) := fun d h1 h2 p hp => l1Draw bs hB d h1 h2 p hp
  refine acl_in Tryz.func104 rfl isfn_104 (Nat.le_of_ble_eq_true rfl) (fun R hR => ?_); rw [Tryz.results104] at hR; refine wg_run ?_; (simp only [Tryz.f104, go_sem])
  ((first | refine kdq [0] ?_ (hc := hk) | refine kmq [0] ?_ (hc := hk) | refine ktq [0] ?_ (hc := hk)); rintro _ _ ⟨z, rfl, hz, rfl⟩; (simp only [go_sem]))
  simp only [List.mem_cons, List.not_mem_nil, or_false] at hz
  obtain ⟨d, rfl, hd1, hd4⟩ : ∃ d : Nat, z = (d : Int) ∧ 1 ≤ d ∧ d ≤ 4 := ⟨z.toNat, by omega, by omega, by omega⟩
  ((first | refine kdq [0] ?_ (hc := hd d hd1 hd4 (p + 1) (by omega)) | refine kmq [0] ?_ (hc := hd d hd1 hd4 (p + 1) (by omega)) | refine ktq [0] ?_ (hc := hd d hd1 hd4 (p + 1) (by omega))); rintro _ _ ⟨x1, p1, rfl, hx1, hp1, rfl⟩; (simp only [go_sem]))
  exact hR _ (rat [] (hK := ⟨x1, p1, rfl, by omega, by omega, rfl⟩))
theorem tys (d : Nat) (x : T) (h : x.depth ≤ d) : x.size < 2 ^ d := by
  induction x generalizing d with
  | any | int | bool => simp only [T.depth, T.size] at *; exact Nat.one_lt_two_pow (by omega)
  | fn a b iha ihb | pr a b iha ihb =>
    simp only [T.depth, T.size] at *
    obtain ⟨d, rfl⟩ : ∃ e, d = e + 1 := ⟨d - 1, by omega⟩
    have := iha d (by omega); have := ihb d (by omega)
    rw [Nat.pow_succ]; omega
theorem sizes_append (l m : List Ty) : Ty.sizes (l ++ m) = Ty.sizes l + Ty.sizes m := by
  induction l with
  | nil => simp [Ty.sizes]
  | cons x l ih => simp only [List.cons_append, Ty.sizes, ih]; omega
/-- a draw of some type, not too large -/
def DrawsY (bs : List Int) (p c n : Nat) (r : AV) (H' : List Blk) : Prop := ∃ (x : Ty) (p' : Nat), r = .agg (tyC x) ∧ x.size ≤ n ∧ p' ≤ p + c ∧ H' = [(⟨2, 115, .mut, [[.sl (byR bs), .sc (.int .i64 ((p' : Nat) : Int))]]⟩ : Blk)]
theorem l1Mutate (bs : List Int) (hB : Bs bs) (p : Nat) (hp : p < 999999000) (t : Ty) (ht : t.size < 1000000) : ACl Tryz.prog 103 [.one (.ptr 2 0 0 0), .agg (tyC t)] [(⟨2, 115, .mut, [[.sl (byR bs), .sc (.int .i64 ((p : Nat) : Int))]]⟩ : Blk)] (DrawsY bs p 2 (t.size + 8)) := by
  have hc := l1CopyO 1000000 (by omega) t ht
  have hk := pick bs hB p (by omega) 40 (by omega) (by omega)
  have hl : t.kids.length < 1000000 := by have := Ty.length_le_sizes t.kids; cases t; simp only [Ty.size, Ty.kids] at *; omega
  have hn := num bs hB (p + 1) (by omega) [0, 6, 1, 4, -1] (by decide) (by decide)
  have hcap : (t.kids.length + 1) * 32 ≤ 140737488355328 := by omega
  obtain ⟨k, l⟩ := t
  simp only [Ty.kids, Ty.kind] at hl hcap
  refine acl_in Tryz.func103 rfl isfn_103 (Nat.le_of_ble_eq_true rfl) (fun R hR => ?_); rw [Tryz.results103] at hR; refine wg_run ?_; (simp only [Tryz.f103, go_sem])
  ((first | refine kdq [] ?_ (hc := hc) | refine kmq [] ?_ (hc := hc) | refine ktq [] ?_ (hc := hc)); rintro _ _ (⟨hk0, rfl, rfl⟩ | ⟨hk0, rfl, rfl⟩) <;> (simp only [go_sem]))
  · simp only [Ty.kids] at hk0
    subst hk0
    ((first | refine kdq [0] ?_ (hc := hk) | refine kmq [0] ?_ (hc := hk) | refine ktq [0] ?_ (hc := hk)); rintro _ _ ⟨z, rfl, hz, hz1, rfl⟩; (simp only [go_sem]))
    repeat' (first | (((first | apply sp1 | apply sp2 | apply sp3 | apply sp4 | apply sp5 | apply sp6 | apply sp7) <;> intro hb) <;> (simp only [go_sem, hb])) | ((first | apply wm_done | apply wt_done | apply wg_run | refine fk ?_ ?_) <;> (simp only [go_sem])))
    · ((first | refine kdq [0] ?_ (hc := hn) | refine kmq [0] ?_ (hc := hn) | refine ktq [0] ?_ (hc := hn)); rintro _ _ ⟨y, rfl, hy, rfl⟩; (simp only [go_sem]))
      exact hR _ (rat [] (hK := ⟨.mk y [], p + 2, rfl, by simp [Ty.size, Ty.sizes], by omega, rfl⟩))
    · ((first | refine mxq6 [0] ?_ | refine mxq5 [0] ?_ | refine mxq4 [0] ?_ | refine mxq3 [0] ?_ | refine mxq2 [0] ?_ | refine mxq1 [0] ?_ | refine mxq0 [0] ?_ | fail); (simp only [go_sem]))
      repeat' (first | (first | (((first | apply sp1 | apply sp2 | apply sp3 | apply sp4 | apply sp5 | apply sp6 | apply sp7) <;> intro hb) <;> (simp only [go_sem, hb])) | ((first | apply wm_done | apply wt_done | apply wg_run | refine fk ?_ ?_) <;> (simp only [go_sem]))) | (first | refine cdq ?_ (hc := l1Any) | refine cmq ?_ (hc := l1Any) | refine ctq ?_ (hc := l1Any)); (simp only [go_sem]))
      exact hR _ (rat [] (hK := ⟨.mk k [.mk 1 []], p + 1, rfl, by simp [Ty.size, Ty.sizes], by omega, rfl⟩))
    · repeat' (first | (first | (((first | apply sp1 | apply sp2 | apply sp3 | apply sp4 | apply sp5 | apply sp6 | apply sp7) <;> intro hb) <;> (simp only [go_sem, hb])) | ((first | apply wm_done | apply wt_done | apply wg_run | refine fk ?_ ?_) <;> (simp only [go_sem]))) | (first | (refine wl_next (wg_run ?_); (simp only [go_sem])) | refine wd_rounds 6 ?_) | (first | refine cdq ?_ (hc := l1Any) | refine cmq ?_ (hc := l1Any) | refine ctq ?_ (hc := l1Any)); (simp only [go_sem]) | ((first | refine mxq6 [0] ?_ | refine mxq5 [0] ?_ | refine mxq4 [0] ?_ | refine mxq3 [0] ?_ | refine mxq2 [0] ?_ | refine mxq1 [0] ?_ | refine mxq0 [0] ?_ | fail); (simp only [go_sem])))
      exact hR _ (rat [] (hK := ⟨.mk 4 [.mk 1 [], .mk 4 [.mk 1 [], .mk 4 [.mk 1 [], .mk 4 [.mk 1 [], .mk k []]]]], p + 1, rfl, by simp [Ty.size, Ty.sizes], by omega, rfl⟩))
    · exact hR _ (rat [] (hK := ⟨.mk k [], p + 1, rfl, by simp [Ty.size, Ty.sizes], by omega, rfl⟩))
  · simp only [Ty.kids] at hk0
    ((first | refine kdq [0] ?_ (hc := hk) | refine kmq [0] ?_ (hc := hk) | refine ktq [0] ?_ (hc := hk)); rintro _ _ ⟨z, rfl, hz, hz1, rfl⟩; (simp only [go_sem]))
    repeat' (first | (((first | apply sp1 | apply sp2 | apply sp3 | apply sp4 | apply sp5 | apply sp6 | apply sp7) <;> intro hb) <;> (simp only [go_sem, hb])) | ((first | apply wm_done | apply wt_done | apply wg_run | refine fk ?_ ?_) <;> (simp only [go_sem])))
    · ((first | refine kdq [0] ?_ (hc := hn) | refine kmq [0] ?_ (hc := hn) | refine ktq [0] ?_ (hc := hn)); rintro _ _ ⟨y, rfl, hy, rfl⟩; (simp only [go_sem]))
      exact hR _ (rat [] (hK := ⟨.mk y l, p + 2, rfl, by simp [Ty.size, Ty.sizes], by omega, rfl⟩))
    · ((first | refine mxq6 [0] ?_ | refine mxq5 [0] ?_ | refine mxq4 [0] ?_ | refine mxq3 [0] ?_ | refine mxq2 [0] ?_ | refine mxq1 [0] ?_ | refine mxq0 [0] ?_ | fail); (simp only [go_sem]))
      repeat' (first | (first | (simp only [go_sem, hcap]) | (((first | apply sp1 | apply sp2 | apply sp3 | apply sp4 | apply sp5 | apply sp6 | apply sp7) <;> intro hb) <;> (simp only [go_sem, hb, hcap])) | ((first | apply wm_done | apply wt_done | apply wg_run | refine fk ?_ ?_) <;> (simp only [go_sem, hcap]))) | (first | refine cdq ?_ (hc := l1Any) | refine cmq ?_ (hc := l1Any) | refine ctq ?_ (hc := l1Any)); (simp only [go_sem]))
      refine hR _ (rat [] (hK := ⟨Ty.mk k (l ++ [Ty.mk 1 []]), p + 1, ?_, ?_, by omega, rfl⟩))
      · rw [tyC_eq (Ty.mk k (l ++ [Ty.mk 1 []])), kind_mk, kids_mk, tyR_append]; rfl
      · simp only [Ty.size, sizes_append, Ty.sizes]; omega
    · repeat' (first | (first | (((first | apply sp1 | apply sp2 | apply sp3 | apply sp4 | apply sp5 | apply sp6 | apply sp7) <;> intro hb) <;> (simp only [go_sem, hb])) | ((first | apply wm_done | apply wt_done | apply wg_run | refine fk ?_ ?_) <;> (simp only [go_sem]))) | (first | (refine wl_next (wg_run ?_); (simp only [go_sem])) | refine wd_rounds 6 ?_) | (first | refine cdq ?_ (hc := l1Any) | refine cmq ?_ (hc := l1Any) | refine ctq ?_ (hc := l1Any)); (simp only [go_sem]) | ((first | refine mxq6 [0] ?_ | refine mxq5 [0] ?_ | refine mxq4 [0] ?_ | refine mxq3 [0] ?_ | refine mxq2 [0] ?_ | refine mxq1 [0] ?_ | refine mxq0 [0] ?_ | fail); (simp only [go_sem])))
      exact hR _ (rat [] (hK := ⟨.mk 4 [.mk 1 [], .mk 4 [.mk 1 [], .mk 4 [.mk 1 [], .mk 4 [.mk 1 [], .mk k l]]]], p + 1, rfl, by simp [Ty.size, Ty.sizes]; omega, by omega, rfl⟩))
    · exact hR _ (rat [] (hK := ⟨.mk k l, p + 1, rfl, by simp [Ty.size, Ty.sizes], by omega, rfl⟩))
end Go.Proofs.YtnaebafafhamjaaGreat
/- The reference's draws of types near a type, and of pairs, on shadows. -/
namespace Go.Proofs.YtnaebafafhamjaaGreat
open Go.RowKit Go.Proofs.Sh Go.Proofs.Grad
set_option maxRecDepth 100000
set_option maxHeartbeats 4000000
/-- a code -/
structure Code8 (l : List Int) : Prop where
  len : l.length < 4611686018427387904
  all : ∀ k, 0 ≤ byte l k ∧ byte l k < 256
end Go.Proofs.YtnaebafafhamjaaGreat
