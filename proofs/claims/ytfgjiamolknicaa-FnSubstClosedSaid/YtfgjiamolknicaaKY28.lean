/- Texts of the proof, one behind another. -/
import Derived.Test.YtfgjiamolknicaaKY21
import Derived.Test.YtfgjiamolknicaaKY22
import Derived.Test.YtfgjiamolknicaaKY24
import Derived.Test.YtfgjiamolknicaaKY25
import Derived.Test.YtfgjiamolknicaaKY27
set_option linter.unusedSimpArgs false
set_option linter.unusedVariables false
/- Substitution into valid terms, in the program and in the reference. On shadows. -/
namespace Go.Proofs.Grad
theorem bsOf_nil_beq (l : List UInt8) : ((bsOf l).toList == ByteArray.toList { data := { toList := [] } }) = (l.length == 0) := by rw [Sh.bytes_nil, bsOf_size]
/-- no name stands free -/
def E.closed (e : E) : Bool := (names (fun x => e.fr x)).length == 0
theorem E.closed_fr {e : E} (hw : e.wf = true) (h : e.closed = true) (y : UInt8) : e.fr y = false := by
  have h1 : ∀ y, e.fr y = true → nmB y = true := by
    clear h
    intro y
    induction e with
    | var x => intro h; simp only [E.fr] at h; rw [← eq_of_beq h]; exact hw
    | lam x t a ih => intro h; simp only [E.wf, Bool.and_eq_true] at hw; simp only [E.fr, Bool.and_eq_true] at h; exact ih hw.2.2 h.2
    | num _ | tru | fls => intro h; simp [E.fr] at h
    | fst a ih | snd a ih => intro h; exact ih hw h
    | asc t a ih => intro h; simp only [E.wf, Bool.and_eq_true] at hw; exact ih hw.2 h
    | cast s t l a ih => intro h; simp only [E.wf, Bool.and_eq_true] at hw; exact ih hw.2.2.2 h
    | app a b iha ihb | add a b iha ihb | less a b iha ihb | pair a b iha ihb =>
      intro h
      simp only [E.wf, Bool.and_eq_true] at hw
      simp only [E.fr, Bool.or_eq_true] at h
      rcases h with h | h
      · exact iha hw.1 h
      · exact ihb hw.2 h
    | ite a b c iha ihb ihc =>
      intro h
      simp only [E.wf, Bool.and_eq_true] at hw
      simp only [E.fr, Bool.or_eq_true] at h
      rcases h with h | h | h
      · exact iha hw.1 h
      · exact ihb hw.2.1 h
      · exact ihc hw.2.2 h
  cases h2 : e.fr y with
  | false => rfl
  | true =>
    have := names_nil.1 (List.eq_nil_of_length_eq_zero (by simpa [E.closed] using h)) y (h1 y h2)
    rw [h2] at this; cases this
/-- when a substitution is taken up -/
noncomputable def subOk (x : Tm) (s : ByteArray) (v : E) : Bool := x.termV && (v.okT && (nmOk s && v.closed))
end Go.Proofs.Grad
namespace Go.Proofs.Ytfgjiamolknicaa
open Go.RowKit Go.Proofs.Sh Go.Proofs.Grad
set_option maxRecDepth 100000
set_option maxHeartbeats 8000000
theorem okT_depth {e : E} (h : e.okT = true) : e.wf = true ∧ e.depth < 1000 := by
  simp only [E.okT, Bool.and_eq_true, decide_eq_true_eq] at h; exact ⟨h.1, by omega⟩
theorem iSubBad (x : Tm) (s : ByteArray) (v : E) (h : subOk x s v = false) : AFn Try.prog 20 [.agg (teC x), .one (.sc (.string s)), .agg (teC v.tm)] (.tup [.agg (teC tm0), .one (.sc (.bool false))]) := by
  have h1 := iTermV x
  have h2 := iTermV v.tm
  have h3 := iIsName s
  rw [E.termV_tm] at h2
  simp only [tm0, noTy]
  unfold subOk at h
  cases e1 : x.termV
  · rw [e1] at h1
    generalize v.tm = v1 at *
    refine fn_in ?_; refine acl_in Try.func20 rfl isfn_20 (Nat.le_of_ble_eq_true rfl) (fun R hR => ?_); rw [Try.results20] at hR; refine wg_run ?_; (simp only [Try.f20, go_sem])
    repeat' (first | (first | (((first | apply sp1 | apply sp2 | apply sp3 | apply sp4 | apply sp5 | apply sp6 | apply sp7) <;> intro hb) <;> (simp only [go_sem, hb])) | ((first | apply wm_done | apply wt_done | apply wg_run | refine fk ?_ ?_) <;> (simp only [go_sem]))) | (first | refine cdq ?_ (hc := h1) | refine cmq ?_ (hc := h1) | refine ctq ?_ (hc := h1)); (simp only [go_sem]) | fail)
    (refine hR _ (rat [] (hK := ⟨rfl, rfl⟩)))
  · rw [e1] at h1
    cases e2 : v.okT
    · rw [e2] at h2
      generalize v.tm = v1 at *
      refine fn_in ?_; refine acl_in Try.func20 rfl isfn_20 (Nat.le_of_ble_eq_true rfl) (fun R hR => ?_); rw [Try.results20] at hR; refine wg_run ?_; (simp only [Try.f20, go_sem])
      repeat' (first | (first | (((first | apply sp1 | apply sp2 | apply sp3 | apply sp4 | apply sp5 | apply sp6 | apply sp7) <;> intro hb) <;> (simp only [go_sem, hb])) | ((first | apply wm_done | apply wt_done | apply wg_run | refine fk ?_ ?_) <;> (simp only [go_sem]))) | (first | refine cdq ?_ (hc := h1) | refine cmq ?_ (hc := h1) | refine ctq ?_ (hc := h1)); (simp only [go_sem]) | (first | refine cdq ?_ (hc := h2) | refine cmq ?_ (hc := h2) | refine ctq ?_ (hc := h2)); (simp only [go_sem]) | fail)
      (refine hR _ (rat [] (hK := ⟨rfl, rfl⟩)))
    · rw [e2] at h2
      cases e3 : nmOk s
      · rw [e3] at h3
        generalize v.tm = v1 at *
        refine fn_in ?_; refine acl_in Try.func20 rfl isfn_20 (Nat.le_of_ble_eq_true rfl) (fun R hR => ?_); rw [Try.results20] at hR; refine wg_run ?_; (simp only [Try.f20, go_sem])
        repeat' (first | (first | (((first | apply sp1 | apply sp2 | apply sp3 | apply sp4 | apply sp5 | apply sp6 | apply sp7) <;> intro hb) <;> (simp only [go_sem, hb])) | ((first | apply wm_done | apply wt_done | apply wg_run | refine fk ?_ ?_) <;> (simp only [go_sem]))) | (first | refine cdq ?_ (hc := h1) | refine cmq ?_ (hc := h1) | refine ctq ?_ (hc := h1)); (simp only [go_sem]) | (first | refine cdq ?_ (hc := h2) | refine cmq ?_ (hc := h2) | refine ctq ?_ (hc := h2)); (simp only [go_sem]) | (first | refine cdq ?_ (hc := h3) | refine cmq ?_ (hc := h3) | refine ctq ?_ (hc := h3)); (simp only [go_sem]) | fail)
        (refine hR _ (rat [] (hK := ⟨rfl, rfl⟩)))
      · rw [e3] at h3
        rw [e1, e2, e3, Bool.true_and, Bool.true_and, Bool.true_and] at h
        have h4 := iFreeNames0 v (okT_depth e2).1 (okT_depth e2).2
        unfold E.closed at h
        have hb := bsOf_nil_beq (names (fun x => v.fr x))
        rw [h] at hb
        generalize names (fun x => v.fr x) = m at *
        generalize v.tm = v1 at *
        refine fn_in ?_; refine acl_in Try.func20 rfl isfn_20 (Nat.le_of_ble_eq_true rfl) (fun R hR => ?_); rw [Try.results20] at hR; refine wg_run ?_; (simp only [Try.f20, go_sem])
        repeat' (first | (first | (simp only [go_sem, hb]) | (((first | apply sp1 | apply sp2 | apply sp3 | apply sp4 | apply sp5 | apply sp6 | apply sp7) <;> intro hb) <;> (simp only [go_sem, hb, hb])) | ((first | apply wm_done | apply wt_done | apply wg_run | refine fk ?_ ?_) <;> (simp only [go_sem, hb]))) | (first | refine cdq ?_ (hc := h1) | refine cmq ?_ (hc := h1) | refine ctq ?_ (hc := h1)); (simp only [go_sem]) | (first | refine cdq ?_ (hc := h2) | refine cmq ?_ (hc := h2) | refine ctq ?_ (hc := h2)); (simp only [go_sem]) | (first | refine cdq ?_ (hc := h3) | refine cmq ?_ (hc := h3) | refine ctq ?_ (hc := h3)); (simp only [go_sem]) | (first | refine cdq ?_ (hc := h4) | refine cmq ?_ (hc := h4) | refine ctq ?_ (hc := h4)); (simp only [go_sem]) | fail)
        (refine hR _ (rat [] (hK := ⟨rfl, rfl⟩)))
theorem iSubE (e : E) (y : UInt8) (v : E) (h : subOk e.tm (nm y) v = true) : AFn Try.prog 20 [.agg (teC e.tm), .one (.sc (.string (nm y))), .agg (teC v.tm)] (match (e.subst y v).okT with | true => .tup [.agg (teC (e.subst y v).tm), .one (.sc (.bool true))] | false => .tup [.agg (teC tm0), .one (.sc (.bool false))]) := by
  simp only [subOk, Bool.and_eq_true] at h
  obtain ⟨e1, e2, e3, e4⟩ := h
  have h1 := iTermV e.tm
  have h2 := iTermV v.tm
  have h3 := iIsName (nm y)
  have h4 := iFreeNames0 v (okT_depth e2).1 (okT_depth e2).2
  have hb := bsOf_nil_beq (names (fun x => v.fr x))
  unfold E.closed at e4
  rw [e4] at hb
  rw [e1] at h1
  rw [E.termV_tm, e2] at h2
  rw [e3] at h3
  have h5 := iSubst y v e
  have h6 := iTermV (e.subst y v).tm
  rw [E.termV_tm] at h6
  rw [E.termV_tm] at e1
  have h7 := iOwn (e.subst y v) (E.subst_wf (okT_depth e2).1 e (okT_depth e1).1)
  cases e6 : (e.subst y v).okT
  all_goals
    rw [e6] at h6
    simp only [tm0, noTy]
    generalize (e.subst y v).tm = u at *
    generalize names (fun x => v.fr x) = m at *
    generalize v.tm = v1 at *
    generalize e.tm = t at *
    generalize nm y = s at *
    refine fn_in ?_; refine acl_in Try.func20 rfl isfn_20 (Nat.le_of_ble_eq_true rfl) (fun R hR => ?_); rw [Try.results20] at hR; refine wg_run ?_; (simp only [Try.f20, go_sem])
    repeat' (first | (first | (simp only [go_sem, hb]) | (((first | apply sp1 | apply sp2 | apply sp3 | apply sp4 | apply sp5 | apply sp6 | apply sp7) <;> intro hb) <;> (simp only [go_sem, hb, hb])) | ((first | apply wm_done | apply wt_done | apply wg_run | refine fk ?_ ?_) <;> (simp only [go_sem, hb]))) | (first | refine cdq ?_ (hc := h1) | refine cmq ?_ (hc := h1) | refine ctq ?_ (hc := h1)); (simp only [go_sem]) | (first | refine cdq ?_ (hc := h2) | refine cmq ?_ (hc := h2) | refine ctq ?_ (hc := h2)); (simp only [go_sem]) | (first | refine cdq ?_ (hc := h3) | refine cmq ?_ (hc := h3) | refine ctq ?_ (hc := h3)); (simp only [go_sem]) | (first | refine cdq ?_ (hc := h4) | refine cmq ?_ (hc := h4) | refine ctq ?_ (hc := h4)); (simp only [go_sem]) | (first | refine cdq ?_ (hc := h5) | refine cmq ?_ (hc := h5) | refine ctq ?_ (hc := h5)); (simp only [go_sem]) | (first | refine cdq ?_ (hc := h6) | refine cmq ?_ (hc := h6) | refine ctq ?_ (hc := h6)); (simp only [go_sem]) | (first | refine cdq ?_ (hc := h7) | refine cmq ?_ (hc := h7) | refine ctq ?_ (hc := h7)); (simp only [go_sem]) | fail)
    (refine hR _ (rat [] (hK := ⟨rfl, rfl⟩)))
theorem sSubBad (x : Tm) (hx : x.size < 1000000000) (s : ByteArray) (v : E) (hv : v.tm.size < 1000000000) (h : subOk x s v = false) : AFn Try.prog 22 [.agg (teC x), .one (.sc (.string s)), .agg (teC v.tm)] (.tup [.agg (teC tm0), .one (.sc (.bool false))]) := by
  have h1 := sTermV x (by omega)
  have h2 := sTermV v.tm (by omega)
  have h3 := sName s
  rw [E.termV_tm] at h2
  simp only [tm0, noTy]
  unfold subOk at h
  cases e1 : x.termV
  · rw [e1] at h1
    generalize v.tm = v1 at *
    refine fn_in ?_; refine acl_in Try.func22 rfl isfn_22 (Nat.le_of_ble_eq_true rfl) (fun R hR => ?_); rw [Try.results22] at hR; refine wg_run ?_; (simp only [Try.f22, go_sem])
    repeat' (first | (first | (((first | apply sp1 | apply sp2 | apply sp3 | apply sp4 | apply sp5 | apply sp6 | apply sp7) <;> intro hb) <;> (simp only [go_sem, hb])) | ((first | apply wm_done | apply wt_done | apply wg_run | refine fk ?_ ?_) <;> (simp only [go_sem]))) | (first | refine cdq ?_ (hc := h1) | refine cmq ?_ (hc := h1) | refine ctq ?_ (hc := h1)); (simp only [go_sem]) | fail)
    (refine hR _ (rat [] (hK := ⟨rfl, rfl⟩)))
  · rw [e1] at h1
    cases e2 : v.okT
    · rw [e2] at h2
      generalize v.tm = v1 at *
      refine fn_in ?_; refine acl_in Try.func22 rfl isfn_22 (Nat.le_of_ble_eq_true rfl) (fun R hR => ?_); rw [Try.results22] at hR; refine wg_run ?_; (simp only [Try.f22, go_sem])
      repeat' (first | (first | (((first | apply sp1 | apply sp2 | apply sp3 | apply sp4 | apply sp5 | apply sp6 | apply sp7) <;> intro hb) <;> (simp only [go_sem, hb])) | ((first | apply wm_done | apply wt_done | apply wg_run | refine fk ?_ ?_) <;> (simp only [go_sem]))) | (first | refine cdq ?_ (hc := h1) | refine cmq ?_ (hc := h1) | refine ctq ?_ (hc := h1)); (simp only [go_sem]) | (first | refine cdq ?_ (hc := h2) | refine cmq ?_ (hc := h2) | refine ctq ?_ (hc := h2)); (simp only [go_sem]) | fail)
      (refine hR _ (rat [] (hK := ⟨rfl, rfl⟩)))
    · rw [e2] at h2
      cases e3 : nmOk s
      · rw [e3] at h3
        generalize v.tm = v1 at *
        refine fn_in ?_; refine acl_in Try.func22 rfl isfn_22 (Nat.le_of_ble_eq_true rfl) (fun R hR => ?_); rw [Try.results22] at hR; refine wg_run ?_; (simp only [Try.f22, go_sem])
        repeat' (first | (first | (((first | apply sp1 | apply sp2 | apply sp3 | apply sp4 | apply sp5 | apply sp6 | apply sp7) <;> intro hb) <;> (simp only [go_sem, hb])) | ((first | apply wm_done | apply wt_done | apply wg_run | refine fk ?_ ?_) <;> (simp only [go_sem]))) | (first | refine cdq ?_ (hc := h1) | refine cmq ?_ (hc := h1) | refine ctq ?_ (hc := h1)); (simp only [go_sem]) | (first | refine cdq ?_ (hc := h2) | refine cmq ?_ (hc := h2) | refine ctq ?_ (hc := h2)); (simp only [go_sem]) | (first | refine cdq ?_ (hc := h3) | refine cmq ?_ (hc := h3) | refine ctq ?_ (hc := h3)); (simp only [go_sem]) | fail)
        (refine hR _ (rat [] (hK := ⟨rfl, rfl⟩)))
      · rw [e3] at h3
        rw [e1, e2, e3, Bool.true_and, Bool.true_and, Bool.true_and] at h
        have h4 := sFree v (okT_depth e2).1 (fun _ => false) (fun _ => false)
        rw [show (fun x => false || (v.fr x && !false)) = (fun x => v.fr x) from by funext x; simp, show bsOf (names (fun _ => false)) = ⟨#[]⟩ from rfl] at h4
        unfold E.closed at h
        have hb := bsOf_nil_beq (names (fun x => v.fr x))
        rw [h] at hb
        generalize names (fun x => v.fr x) = m at *
        generalize v.tm = v1 at *
        refine fn_in ?_; refine acl_in Try.func22 rfl isfn_22 (Nat.le_of_ble_eq_true rfl) (fun R hR => ?_); rw [Try.results22] at hR; refine wg_run ?_; (simp only [Try.f22, go_sem])
        repeat' (first | (first | (simp only [go_sem, hb]) | (((first | apply sp1 | apply sp2 | apply sp3 | apply sp4 | apply sp5 | apply sp6 | apply sp7) <;> intro hb) <;> (simp only [go_sem, hb, hb])) | ((first | apply wm_done | apply wt_done | apply wg_run | refine fk ?_ ?_) <;> (simp only [go_sem, hb]))) | (first | refine cdq ?_ (hc := h1) | refine cmq ?_ (hc := h1) | refine ctq ?_ (hc := h1)); (simp only [go_sem]) | (first | refine cdq ?_ (hc := h2) | refine cmq ?_ (hc := h2) | refine ctq ?_ (hc := h2)); (simp only [go_sem]) | (first | refine cdq ?_ (hc := h3) | refine cmq ?_ (hc := h3) | refine ctq ?_ (hc := h3)); (simp only [go_sem]) | (first | refine cdq ?_ (hc := h4) | refine cmq ?_ (hc := h4) | refine ctq ?_ (hc := h4)); (simp only [go_sem]) | fail)
        (refine hR _ (rat [] (hK := ⟨rfl, rfl⟩)))
theorem sSubE (e : E) (y : UInt8) (v : E) (h : subOk e.tm (nm y) v = true) : AFn Try.prog 22 [.agg (teC e.tm), .one (.sc (.string (nm y))), .agg (teC v.tm)] (match (e.subst y v).okT with | true => .tup [.agg (teC (e.subst y v).tm), .one (.sc (.bool true))] | false => .tup [.agg (teC tm0), .one (.sc (.bool false))]) := by
  simp only [subOk, Bool.and_eq_true] at h
  obtain ⟨e1, e2, e3, e4⟩ := h
  rw [E.termV_tm] at e1
  have hz1 := E.size_okT e1
  have hz2 := E.size_okT e2
  have hw := E.subst_wf (x := y) (okT_depth e2).1 e (okT_depth e1).1
  have hz3 := (e.subst y v).size_w hw
  have hsn : (e.subst y v).nodes ≤ e.nodes * v.nodes := by
    have hp := v.nodes_pos
    clear hz1 hz2 hw hz3 e1 e2 e3 e4
    have k2 : ∀ a b : Nat, a ≤ a * v.nodes := fun a _ => Nat.le_mul_of_pos_right a hp
    induction e with
    | var x => simp only [E.subst]; split <;> simp only [E.nodes] <;> omega
    | lam x t a ih => simp only [E.subst]; split <;> simp only [E.nodes, Nat.add_mul, Nat.one_mul] <;> (have := k2 a.nodes 0) <;> omega
    | _ => simp only [E.subst, E.nodes, Nat.add_mul, Nat.one_mul] <;> omega
  have hbig : (e.subst y v).tm.size < 1000000 := by
    have a1 : e.nodes ≤ 30 := by simp only [E.okT, Bool.and_eq_true, decide_eq_true_eq] at e1; exact e1.2.2.2
    have a2 : v.nodes ≤ 30 := by simp only [E.okT, Bool.and_eq_true, decide_eq_true_eq] at e2; exact e2.2.2.2
    have : e.nodes * v.nodes ≤ 30 * 30 := Nat.mul_le_mul a1 a2
    omega
  have h1 := sTermV e.tm (by omega)
  have h2 := sTermV v.tm (by omega)
  have h3 := sName (nm y)
  have h4 := sFree v (okT_depth e2).1 (fun _ => false) (fun _ => false)
  rw [show (fun x => false || (v.fr x && !false)) = (fun x => v.fr x) from by funext x; simp, show bsOf (names (fun _ => false)) = ⟨#[]⟩ from rfl] at h4
  have hb := bsOf_nil_beq (names (fun x => v.fr x))
  unfold E.closed at e4
  rw [e4] at hb
  have h5 := sSubst y v (by omega) e (okT_depth e1).1 (by omega)
  have h6 := sTermV (e.subst y v).tm (by omega)
  rw [E.termV_tm, e1] at h1
  rw [E.termV_tm, e2] at h2
  rw [e3] at h3
  rw [E.termV_tm] at h6
  cases e6 : (e.subst y v).okT
  all_goals
    rw [e6] at h6
    simp only [tm0, noTy]
    clear hz1 hz2 hw hz3 hsn hbig e1 e2 e3 e4 e6
    generalize (e.subst y v).tm = u at *
    generalize names (fun x => v.fr x) = m at *
    generalize v.tm = v1 at *
    generalize e.tm = t at *
    generalize nm y = s at *
    refine fn_in ?_; refine acl_in Try.func22 rfl isfn_22 (Nat.le_of_ble_eq_true rfl) (fun R hR => ?_); rw [Try.results22] at hR; refine wg_run ?_; (simp only [Try.f22, go_sem])
    repeat' (first | (first | (simp only [go_sem, hb]) | (((first | apply sp1 | apply sp2 | apply sp3 | apply sp4 | apply sp5 | apply sp6 | apply sp7) <;> intro hb) <;> (simp only [go_sem, hb, hb])) | ((first | apply wm_done | apply wt_done | apply wg_run | refine fk ?_ ?_) <;> (simp only [go_sem, hb]))) | (first | refine cdq ?_ (hc := h1) | refine cmq ?_ (hc := h1) | refine ctq ?_ (hc := h1)); (simp only [go_sem]) | (first | refine cdq ?_ (hc := h2) | refine cmq ?_ (hc := h2) | refine ctq ?_ (hc := h2)); (simp only [go_sem]) | (first | refine cdq ?_ (hc := h3) | refine cmq ?_ (hc := h3) | refine ctq ?_ (hc := h3)); (simp only [go_sem]) | (first | refine cdq ?_ (hc := h4) | refine cmq ?_ (hc := h4) | refine ctq ?_ (hc := h4)); (simp only [go_sem]) | (first | refine cdq ?_ (hc := h5) | refine cmq ?_ (hc := h5) | refine ctq ?_ (hc := h5)); (simp only [go_sem]) | (first | refine cdq ?_ (hc := h6) | refine cmq ?_ (hc := h6) | refine ctq ?_ (hc := h6)); (simp only [go_sem]) | fail)
    (refine hR _ (rat [] (hK := ⟨rfl, rfl⟩)))
end Go.Proofs.Ytfgjiamolknicaa
/- Substitution: the laws' walks. On shadows. -/
namespace Go.Proofs.Ytfgjiamolknicaa
open Go.RowKit Go.Proofs.Sh Go.Proofs.Grad
set_option maxRecDepth 100000
set_option maxHeartbeats 16000000
theorem subOk_in {e : E} {y : UInt8} {v : E} (h1 : e.okT = true) (h2 : v.okT = true) (h3 : nmB y = true) (h4 : v.closed = true) : subOk e.tm (nm y) v = true := by
  rw [subOk, E.termV_tm, h1, h2, nmOk_nm, h3, h4]; rfl
theorem subAll (x : Tm) (hx : x.size < 1000000000) (s : ByteArray) (v : E) (hv : v.tm.size < 1000000000) :
    (∃ (e : E) (y : UInt8), x = e.tm ∧ s = nm y ∧ nmB y = true ∧ e.okT = true ∧ v.okT = true ∧ v.closed = true ∧ (e.subst y v).okT = true ∧
      AFn Try.prog 20 [.agg (teC x), .one (.sc (.string s)), .agg (teC v.tm)] (.tup [.agg (teC (e.subst y v).tm), .one (.sc (.bool true))]) ∧
      AFn Try.prog 22 [.agg (teC x), .one (.sc (.string s)), .agg (teC v.tm)] (.tup [.agg (teC (e.subst y v).tm), .one (.sc (.bool true))])) ∨
    (AFn Try.prog 20 [.agg (teC x), .one (.sc (.string s)), .agg (teC v.tm)] (.tup [.agg (teC tm0), .one (.sc (.bool false))]) ∧
      AFn Try.prog 22 [.agg (teC x), .one (.sc (.string s)), .agg (teC v.tm)] (.tup [.agg (teC tm0), .one (.sc (.bool false))])) := by
  cases h : subOk x s v with
  | false => exact .inr ⟨iSubBad x s v h, sSubBad x hx s v hv h⟩
  | true =>
    have h' := h
    simp only [subOk, Bool.and_eq_true] at h'
    obtain ⟨e1, e2, e3, e4⟩ := h'
    obtain ⟨e, rfl, ho⟩ := Tm.termV_E e1
    obtain ⟨y, rfl, hy⟩ := nmOk_some e3
    have h1 := iSubE e y v h
    have h2 := sSubE e y v h
    cases h6 : (e.subst y v).okT with
    | false => rw [h6] at h1 h2; exact .inr ⟨h1, h2⟩
    | true => rw [h6] at h1 h2; exact .inl ⟨e, y, rfl, rfl, hy, ho, e2, e4, h6, h1, h2⟩
theorem lSubstTwice (l l2 : List Int) (hc : ∀ k, 0 ≤ byte l k ∧ byte l k < 256) (hc2 : ∀ k, 0 ≤ byte l2 k ∧ byte l2 k < 256) : AFn Try.prog 4 [.one (.sl (byR l)), .one (.sl (byR l2))] (.one (.sc (.bool true))) := by
  by_cases hlen : 1048576 < l.length
  · have hg : decide (((l.length : Nat) : Int) > 1048576) = true := by simp; omega
    refine fn_in ?_; refine acl_in Try.func4 rfl isfn_4 (Nat.le_of_ble_eq_true rfl) (fun R hR => ?_); rw [Try.results4] at hR; refine wg_run ?_; (simp only [Try.f4, go_sem, hg])
    repeat' (first | (first | (simp only [go_sem, hg]) | (((first | apply sp1 | apply sp2 | apply sp3 | apply sp4 | apply sp5 | apply sp6 | apply sp7) <;> intro hb) <;> (simp only [go_sem, hb, hg])) | ((first | apply wm_done | apply wt_done | apply wg_run | refine fk ?_ ?_) <;> (simp only [go_sem, hg]))) | fail)
    (refine hR _ (rat [] (hK := ⟨rfl, rfl⟩)))
  · have hg : decide (((l.length : Nat) : Int) > 1048576) = false := by simp; omega
    by_cases hlen2 : 1048576 < l2.length
    · have hg2 : decide (((l2.length : Nat) : Int) > 1048576) = true := by simp; omega
      refine fn_in ?_; refine acl_in Try.func4 rfl isfn_4 (Nat.le_of_ble_eq_true rfl) (fun R hR => ?_); rw [Try.results4] at hR; refine wg_run ?_; (simp only [Try.f4, go_sem, hg, hg2])
      repeat' (first | (first | (simp only [go_sem, hg, hg2]) | (((first | apply sp1 | apply sp2 | apply sp3 | apply sp4 | apply sp5 | apply sp6 | apply sp7) <;> intro hb) <;> (simp only [go_sem, hb, hg, hg2])) | ((first | apply wm_done | apply wt_done | apply wg_run | refine fk ?_ ?_) <;> (simp only [go_sem, hg, hg2]))) | fail)
      (refine hR _ (rat [] (hK := ⟨rfl, rfl⟩)))
    · have hg2 : decide (((l2.length : Nat) : Int) > 1048576) = false := by simp; omega
      have hd := dSubstTerm l ⟨by omega, hc⟩
      have hd2 := dSubstTerm l2 ⟨by omega, hc2⟩
      refine fn_in ?_; refine acl_in Try.func4 rfl isfn_4 (Nat.le_of_ble_eq_true rfl) (fun R hR => ?_); rw [Try.results4] at hR; refine wg_run ?_; (simp only [Try.f4, go_sem, hg, hg2])
      repeat' (first | (first | (simp only [go_sem, hg, hg2]) | (((first | apply sp1 | apply sp2 | apply sp3 | apply sp4 | apply sp5 | apply sp6 | apply sp7) <;> intro hb) <;> (simp only [go_sem, hb, hg, hg2])) | ((first | apply wm_done | apply wt_done | apply wg_run | refine fk ?_ ?_) <;> (simp only [go_sem, hg, hg2]))) | fail)
      ((first | refine kdq [] ?_ (hc := hd) | refine kmq [] ?_ (hc := hd) | refine ktq [] ?_ (hc := hd)); rintro _ _ ⟨x, s, v, rfl, hx, hs, hv, hvc, hvz, rfl⟩ <;> (simp only [go_sem]))
      repeat' (first | (first | (((first | apply sp1 | apply sp2 | apply sp3 | apply sp4 | apply sp5 | apply sp6 | apply sp7) <;> intro hb) <;> (simp only [go_sem, hb])) | ((first | apply wm_done | apply wt_done | apply wg_run | refine fk ?_ ?_) <;> (simp only [go_sem]))) | fail)
      ((first | refine kdq [] ?_ (hc := hd2) | refine kmq [] ?_ (hc := hd2) | refine ktq [] ?_ (hc := hd2)); rintro _ _ ⟨x2, s2, w, rfl, hx2, hs2, hw, hwc, hwz, rfl⟩ <;> (simp only [go_sem]))
      have ht0 : tm0.size ≤ 10 := by simp [tm0, noTy, Tm.size, Ty.size, Ty.sizes, Tm.sizes]
      have hsm := tmRefl tm0 (by omega)
      rcases subAll x (by omega) (nm 120) v (by omega) with ⟨e, y, rfl, hy, hyb, ho, hvo, hvcl, hao, h1, h2⟩ | ⟨h1, h2⟩
      · obtain rfl : y = 120 := (nm_inj hy).symm
        have hz := E.size_okT hao
        have h3 := tmRefl (e.subst 120 v).tm (by omega)
        rcases subAll (e.subst 120 v).tm (by omega) (nm 122) w (by omega) with ⟨e', y', he', hy', hyb', ho', hwo, hwcl, hbo, h4, -⟩ | ⟨h4, -⟩
        · obtain rfl : y' = 122 := (nm_inj hy').symm
          obtain rfl := E.tm_inj _ _ he'
          have hcom := E.subst_comm (E.closed_fr hv hvcl) (E.closed_fr hw hwcl) (by decide : ((120 : UInt8) == 122) = false) e
          rw [hcom] at h4 hbo
          have hco := E.subst_okT ho hwo hbo
          have h5 := iSubE e 122 w (subOk_in ho hwo (by decide) hwcl)
          rw [hco] at h5
          have h6 := iSubE (e.subst 122 w) 120 v (subOk_in hco hvo (by decide) hvcl)
          rw [hbo] at h6
          simp only [] at h5 h6
          have hz2 := E.size_okT hbo
          have h7 := tmRefl ((e.subst 122 w).subst 120 v).tm (by omega)
          rw [show nm 120 = ⟨#[120]⟩ from rfl] at h1 h2 h6
          rw [show nm 122 = ⟨#[122]⟩ from rfl] at h4 h5
          generalize ((e.subst 122 w).subst 120 v).tm = t4 at *
          generalize (e.subst 122 w).tm = t3 at *
          generalize (e.subst 120 v).tm = t2 at *
          generalize e.tm = t at *
          generalize v.tm = v1 at *
          generalize w.tm = w1 at *
          repeat' (first | (first | (simp only [go_sem, int_bne, beq_self_eq_true]) | (((first | apply sp1 | apply sp2 | apply sp3 | apply sp4 | apply sp5 | apply sp6 | apply sp7) <;> intro hb) <;> (simp only [go_sem, hb, int_bne, beq_self_eq_true])) | ((first | apply wm_done | apply wt_done | apply wg_run | refine fk ?_ ?_) <;> (simp only [go_sem, int_bne, beq_self_eq_true]))) | (first | refine cdq ?_ (hc := h1) | refine cmq ?_ (hc := h1) | refine ctq ?_ (hc := h1)); (simp only [go_sem]) | (first | refine cdq ?_ (hc := h2) | refine cmq ?_ (hc := h2) | refine ctq ?_ (hc := h2)); (simp only [go_sem]) | (first | refine cdq ?_ (hc := h3) | refine cmq ?_ (hc := h3) | refine ctq ?_ (hc := h3)); (simp only [go_sem]) | (first | refine cdq ?_ (hc := h4) | refine cmq ?_ (hc := h4) | refine ctq ?_ (hc := h4)); (simp only [go_sem]) | (first | refine cdq ?_ (hc := h5) | refine cmq ?_ (hc := h5) | refine ctq ?_ (hc := h5)); (simp only [go_sem]) | (first | refine cdq ?_ (hc := h6) | refine cmq ?_ (hc := h6) | refine ctq ?_ (hc := h6)); (simp only [go_sem]) | (first | refine cdq ?_ (hc := h7) | refine cmq ?_ (hc := h7) | refine ctq ?_ (hc := h7)); (simp only [go_sem]) | ((first | refine mxq6 [] ?_ | refine mxq5 [] ?_ | refine mxq4 [] ?_ | refine mxq3 [] ?_ | refine mxq2 [] ?_ | refine mxq1 [] ?_ | refine mxq0 [] ?_ | fail); (simp only [go_sem, int_bne, beq_self_eq_true])) | fail)
          all_goals (refine hR _ (rat [] (hK := ⟨rfl, rfl⟩)))
        · rw [show nm 120 = ⟨#[120]⟩ from rfl] at h1 h2
          rw [show nm 122 = ⟨#[122]⟩ from rfl] at h4
          generalize (e.subst 120 v).tm = t2 at *
          generalize e.tm = t at *
          generalize v.tm = v1 at *
          generalize w.tm = w1 at *
          generalize tm0 = t0 at *
          repeat' (first | (first | (simp only [go_sem, int_bne, beq_self_eq_true]) | (((first | apply sp1 | apply sp2 | apply sp3 | apply sp4 | apply sp5 | apply sp6 | apply sp7) <;> intro hb) <;> (simp only [go_sem, hb, int_bne, beq_self_eq_true])) | ((first | apply wm_done | apply wt_done | apply wg_run | refine fk ?_ ?_) <;> (simp only [go_sem, int_bne, beq_self_eq_true]))) | (first | refine cdq ?_ (hc := h1) | refine cmq ?_ (hc := h1) | refine ctq ?_ (hc := h1)); (simp only [go_sem]) | (first | refine cdq ?_ (hc := h2) | refine cmq ?_ (hc := h2) | refine ctq ?_ (hc := h2)); (simp only [go_sem]) | (first | refine cdq ?_ (hc := h3) | refine cmq ?_ (hc := h3) | refine ctq ?_ (hc := h3)); (simp only [go_sem]) | (first | refine cdq ?_ (hc := h4) | refine cmq ?_ (hc := h4) | refine ctq ?_ (hc := h4)); (simp only [go_sem]) | ((first | refine mxq6 [] ?_ | refine mxq5 [] ?_ | refine mxq4 [] ?_ | refine mxq3 [] ?_ | refine mxq2 [] ?_ | refine mxq1 [] ?_ | refine mxq0 [] ?_ | fail); (simp only [go_sem, int_bne, beq_self_eq_true])) | fail)
          all_goals (refine hR _ (rat [] (hK := ⟨rfl, rfl⟩)))
      · have h4 : ∃ (r : Tm) (b : Bool), AFn Try.prog 20 [.agg (teC tm0), .one (.sc (.string (nm 122))), .agg (teC w.tm)] (.tup [.agg (teC r), .one (.sc (.bool b))]) := by
          rcases subAll tm0 (by omega) (nm 122) w (by omega) with ⟨e', y', _, _, _, _, _, _, _, h4, -⟩ | ⟨h4, -⟩
          · exact ⟨_, _, h4⟩
          · exact ⟨_, _, h4⟩
        obtain ⟨r, b, h4⟩ := h4
        rw [show nm 120 = ⟨#[120]⟩ from rfl] at h1 h2
        rw [show nm 122 = ⟨#[122]⟩ from rfl] at h4
        generalize v.tm = v1 at *
        generalize w.tm = w1 at *
        generalize tm0 = t0 at *
        repeat' (first | (first | (simp only [go_sem, int_bne, beq_self_eq_true]) | (((first | apply sp1 | apply sp2 | apply sp3 | apply sp4 | apply sp5 | apply sp6 | apply sp7) <;> intro hb) <;> (simp only [go_sem, hb, int_bne, beq_self_eq_true])) | ((first | apply wm_done | apply wt_done | apply wg_run | refine fk ?_ ?_) <;> (simp only [go_sem, int_bne, beq_self_eq_true]))) | (first | refine cdq ?_ (hc := h1) | refine cmq ?_ (hc := h1) | refine ctq ?_ (hc := h1)); (simp only [go_sem]) | (first | refine cdq ?_ (hc := h2) | refine cmq ?_ (hc := h2) | refine ctq ?_ (hc := h2)); (simp only [go_sem]) | (first | refine cdq ?_ (hc := hsm) | refine cmq ?_ (hc := hsm) | refine ctq ?_ (hc := hsm)); (simp only [go_sem]) | (first | refine cdq ?_ (hc := h4) | refine cmq ?_ (hc := h4) | refine ctq ?_ (hc := h4)); (simp only [go_sem]) | ((first | refine mxq6 [] ?_ | refine mxq5 [] ?_ | refine mxq4 [] ?_ | refine mxq3 [] ?_ | refine mxq2 [] ?_ | refine mxq1 [] ?_ | refine mxq0 [] ?_ | fail); (simp only [go_sem, int_bne, beq_self_eq_true])) | fail)
        all_goals (refine hR _ (rat [] (hK := ⟨rfl, rfl⟩)))
theorem lSubstClosed (l l2 : List Int) (hc : ∀ k, 0 ≤ byte l k ∧ byte l k < 256) (hc2 : ∀ k, 0 ≤ byte l2 k ∧ byte l2 k < 256) : AFn Try.prog 3 [.one (.sl (byR l)), .one (.sl (byR l2))] (.one (.sc (.bool true))) := by
  by_cases hlen : 1048576 < l.length
  · have hg : decide (((l.length : Nat) : Int) > 1048576) = true := by simp; omega
    refine fn_in ?_; refine acl_in Try.func3 rfl isfn_3 (Nat.le_of_ble_eq_true rfl) (fun R hR => ?_); rw [Try.results3] at hR; refine wg_run ?_; (simp only [Try.f3, go_sem, hg])
    repeat' (first | (first | (simp only [go_sem, hg]) | (((first | apply sp1 | apply sp2 | apply sp3 | apply sp4 | apply sp5 | apply sp6 | apply sp7) <;> intro hb) <;> (simp only [go_sem, hb, hg])) | ((first | apply wm_done | apply wt_done | apply wg_run | refine fk ?_ ?_) <;> (simp only [go_sem, hg]))) | fail)
    (refine hR _ (rat [] (hK := ⟨rfl, rfl⟩)))
  · have hg : decide (((l.length : Nat) : Int) > 1048576) = false := by simp; omega
    by_cases hlen2 : 1048576 < l2.length
    · have hg2 : decide (((l2.length : Nat) : Int) > 1048576) = true := by simp; omega
      refine fn_in ?_; refine acl_in Try.func3 rfl isfn_3 (Nat.le_of_ble_eq_true rfl) (fun R hR => ?_); rw [Try.results3] at hR; refine wg_run ?_; (simp only [Try.f3, go_sem, hg, hg2])
      repeat' (first | (first | (simp only [go_sem, hg, hg2]) | (((first | apply sp1 | apply sp2 | apply sp3 | apply sp4 | apply sp5 | apply sp6 | apply sp7) <;> intro hb) <;> (simp only [go_sem, hb, hg, hg2])) | ((first | apply wm_done | apply wt_done | apply wg_run | refine fk ?_ ?_) <;> (simp only [go_sem, hg, hg2]))) | fail)
      (refine hR _ (rat [] (hK := ⟨rfl, rfl⟩)))
    · have hg2 : decide (((l2.length : Nat) : Int) > 1048576) = false := by simp; omega
      have hd := dFreeNames l ⟨by omega, hc⟩
      have hd2 := dSubstTerm l2 ⟨by omega, hc2⟩
      refine fn_in ?_; refine acl_in Try.func3 rfl isfn_3 (Nat.le_of_ble_eq_true rfl) (fun R hR => ?_); rw [Try.results3] at hR; refine wg_run ?_; (simp only [Try.f3, go_sem, hg, hg2])
      repeat' (first | (first | (simp only [go_sem, hg, hg2]) | (((first | apply sp1 | apply sp2 | apply sp3 | apply sp4 | apply sp5 | apply sp6 | apply sp7) <;> intro hb) <;> (simp only [go_sem, hb, hg, hg2])) | ((first | apply wm_done | apply wt_done | apply wg_run | refine fk ?_ ?_) <;> (simp only [go_sem, hg, hg2]))) | fail)
      ((first | refine kdq [] ?_ (hc := hd) | refine kmq [] ?_ (hc := hd) | refine ktq [] ?_ (hc := hd)); rintro _ _ ⟨x, rfl, hx, rfl⟩ <;> (simp only [go_sem]))
      repeat' (first | (first | (((first | apply sp1 | apply sp2 | apply sp3 | apply sp4 | apply sp5 | apply sp6 | apply sp7) <;> intro hb) <;> (simp only [go_sem, hb])) | ((first | apply wm_done | apply wt_done | apply wg_run | refine fk ?_ ?_) <;> (simp only [go_sem]))) | fail)
      ((first | refine kdq [] ?_ (hc := hd2) | refine kmq [] ?_ (hc := hd2) | refine ktq [] ?_ (hc := hd2)); rintro _ _ ⟨x2, s, v, rfl, hx2, hs, hv, hvc, hvz, rfl⟩ <;> (simp only [go_sem]))
      have hv0 := iTermV x
      cases ev : x.termV
      · rw [ev] at hv0
        have h1 := iFreeNamesBad x ev
        have h2 := sFreeNamesBad x ev (by omega)
        generalize v.tm = v1 at *
        repeat' (first | (first | (simp only [go_sem, int_bne, beq_self_eq_true]) | (((first | apply sp1 | apply sp2 | apply sp3 | apply sp4 | apply sp5 | apply sp6 | apply sp7) <;> intro hb) <;> (simp only [go_sem, hb, int_bne, beq_self_eq_true])) | ((first | apply wm_done | apply wt_done | apply wg_run | refine fk ?_ ?_) <;> (simp only [go_sem, int_bne, beq_self_eq_true]))) | (first | refine cdq ?_ (hc := h1) | refine cmq ?_ (hc := h1) | refine ctq ?_ (hc := h1)); (simp only [go_sem]) | (first | refine cdq ?_ (hc := h2) | refine cmq ?_ (hc := h2) | refine ctq ?_ (hc := h2)); (simp only [go_sem]) | (first | refine cdq ?_ (hc := hv0) | refine cmq ?_ (hc := hv0) | refine ctq ?_ (hc := hv0)); (simp only [go_sem]) | ((first | refine mxq6 [] ?_ | refine mxq5 [] ?_ | refine mxq4 [] ?_ | refine mxq3 [] ?_ | refine mxq2 [] ?_ | refine mxq1 [] ?_ | refine mxq0 [] ?_ | fail); (simp only [go_sem, int_bne, beq_self_eq_true])) | (first | fail) | fail)
        all_goals (refine hR _ (rat [] (hK := ⟨rfl, rfl⟩)))
      · obtain ⟨e, rfl, ho⟩ := Tm.termV_E ev
        rw [ev] at hv0
        have h1 := iFreeNames e ho
        have h2 := sFreeNames e ho
        have hb := bsOf_nil_beq (names (fun x => e.fr x))
        cases hcl : e.closed
        · rw [show ((names fun x => e.fr x).length == 0) = false from hcl] at hb
          generalize names (fun x => e.fr x) = m at *
          generalize v.tm = v1 at *
          generalize e.tm = t at *
          repeat' (first | (first | (simp only [go_sem, int_bne, beq_self_eq_true, hb]) | (((first | apply sp1 | apply sp2 | apply sp3 | apply sp4 | apply sp5 | apply sp6 | apply sp7) <;> intro hb) <;> (simp only [go_sem, hb, int_bne, beq_self_eq_true, hb])) | ((first | apply wm_done | apply wt_done | apply wg_run | refine fk ?_ ?_) <;> (simp only [go_sem, int_bne, beq_self_eq_true, hb]))) | (first | refine cdq ?_ (hc := h1) | refine cmq ?_ (hc := h1) | refine ctq ?_ (hc := h1)); (simp only [go_sem]) | (first | refine cdq ?_ (hc := h2) | refine cmq ?_ (hc := h2) | refine ctq ?_ (hc := h2)); (simp only [go_sem]) | (first | refine cdq ?_ (hc := hv0) | refine cmq ?_ (hc := hv0) | refine ctq ?_ (hc := hv0)); (simp only [go_sem]) | ((first | refine mxq6 [] ?_ | refine mxq5 [] ?_ | refine mxq4 [] ?_ | refine mxq3 [] ?_ | refine mxq2 [] ?_ | refine mxq1 [] ?_ | refine mxq0 [] ?_ | fail); (simp only [go_sem, int_bne, beq_self_eq_true, hb])) | (first | fail) | fail)
          all_goals (refine hR _ (rat [] (hK := ⟨rfl, rfl⟩)))
        · rw [show ((names fun x => e.fr x).length == 0) = true from hcl] at hb
          have hz := E.size_okT ho
          have h5 := tmRefl e.tm (by omega)
          have h3 : ∃ (r : Tm) (b : Bool), (b = true → r = e.tm) ∧ AFn Try.prog 20 [.agg (teC e.tm), .one (.sc (.string s)), .agg (teC v.tm)] (.tup [.agg (teC r), .one (.sc (.bool b))]) := by
            rcases subAll e.tm (by omega) s v (by omega) with ⟨e', y', he', _, _, _, _, _, _, h4, -⟩ | ⟨h4, -⟩
            · obtain rfl := E.tm_inj _ _ he'
              rw [E.subst_id e (E.closed_fr (okT_depth ho).1 hcl y')] at h4
              exact ⟨_, _, fun _ => rfl, h4⟩
            · exact ⟨_, _, fun h => by (cases h), h4⟩
          obtain ⟨r, b, hrb, h3⟩ := h3
          cases b
          · clear hrb
            generalize names (fun x => e.fr x) = m at *
            generalize v.tm = v1 at *
            generalize e.tm = t at *
            repeat' (first | (first | (simp only [go_sem, int_bne, beq_self_eq_true, hb]) | (((first | apply sp1 | apply sp2 | apply sp3 | apply sp4 | apply sp5 | apply sp6 | apply sp7) <;> intro hb) <;> (simp only [go_sem, hb, int_bne, beq_self_eq_true, hb])) | ((first | apply wm_done | apply wt_done | apply wg_run | refine fk ?_ ?_) <;> (simp only [go_sem, int_bne, beq_self_eq_true, hb]))) | (first | refine cdq ?_ (hc := h1) | refine cmq ?_ (hc := h1) | refine ctq ?_ (hc := h1)); (simp only [go_sem]) | (first | refine cdq ?_ (hc := h2) | refine cmq ?_ (hc := h2) | refine ctq ?_ (hc := h2)); (simp only [go_sem]) | (first | refine cdq ?_ (hc := hv0) | refine cmq ?_ (hc := hv0) | refine ctq ?_ (hc := hv0)); (simp only [go_sem]) | (first | refine cdq ?_ (hc := h3) | refine cmq ?_ (hc := h3) | refine ctq ?_ (hc := h3)); (simp only [go_sem]) | ((first | refine mxq6 [] ?_ | refine mxq5 [] ?_ | refine mxq4 [] ?_ | refine mxq3 [] ?_ | refine mxq2 [] ?_ | refine mxq1 [] ?_ | refine mxq0 [] ?_ | fail); (simp only [go_sem, int_bne, beq_self_eq_true, hb])) | (first | fail) | fail)
            all_goals (refine hR _ (rat [] (hK := ⟨rfl, rfl⟩)))
          · obtain rfl := hrb rfl
            clear hrb
            generalize names (fun x => e.fr x) = m at *
            generalize v.tm = v1 at *
            generalize e.tm = t at *
            repeat' (first | (first | (simp only [go_sem, int_bne, beq_self_eq_true, hb]) | (((first | apply sp1 | apply sp2 | apply sp3 | apply sp4 | apply sp5 | apply sp6 | apply sp7) <;> intro hb) <;> (simp only [go_sem, hb, int_bne, beq_self_eq_true, hb])) | ((first | apply wm_done | apply wt_done | apply wg_run | refine fk ?_ ?_) <;> (simp only [go_sem, int_bne, beq_self_eq_true, hb]))) | (first | refine cdq ?_ (hc := h1) | refine cmq ?_ (hc := h1) | refine ctq ?_ (hc := h1)); (simp only [go_sem]) | (first | refine cdq ?_ (hc := h2) | refine cmq ?_ (hc := h2) | refine ctq ?_ (hc := h2)); (simp only [go_sem]) | (first | refine cdq ?_ (hc := hv0) | refine cmq ?_ (hc := hv0) | refine ctq ?_ (hc := hv0)); (simp only [go_sem]) | (first | refine cdq ?_ (hc := h3) | refine cmq ?_ (hc := h3) | refine ctq ?_ (hc := h3)); (simp only [go_sem]) | (first | refine cdq ?_ (hc := h5) | refine cmq ?_ (hc := h5) | refine ctq ?_ (hc := h5)); (simp only [go_sem]) | ((first | refine mxq6 [] ?_ | refine mxq5 [] ?_ | refine mxq4 [] ?_ | refine mxq3 [] ?_ | refine mxq2 [] ?_ | refine mxq1 [] ?_ | refine mxq0 [] ?_ | fail); (simp only [go_sem, int_bne, beq_self_eq_true, hb])) | (first | fail) | fail)
            all_goals (refine hR _ (rat [] (hK := ⟨rfl, rfl⟩)))
theorem lSubstTerm (l : List Int) (hc : ∀ k, 0 ≤ byte l k ∧ byte l k < 256) : AFn Try.prog 5 [.one (.sl (byR l))] (.one (.sc (.bool true))) := by
  by_cases hlen : 1048576 < l.length
  · have hg : decide (((l.length : Nat) : Int) > 1048576) = true := by simp; omega
    refine fn_in ?_; refine acl_in Try.func5 rfl isfn_5 (Nat.le_of_ble_eq_true rfl) (fun R hR => ?_); rw [Try.results5] at hR; refine wg_run ?_; (simp only [Try.f5, go_sem, hg])
    (refine hR _ (rat [] (hK := ⟨rfl, rfl⟩)))
  · have hg : decide (((l.length : Nat) : Int) > 1048576) = false := by simp; omega
    have hd := dSubstTerm l ⟨by omega, hc⟩
    refine fn_in ?_; refine acl_in Try.func5 rfl isfn_5 (Nat.le_of_ble_eq_true rfl) (fun R hR => ?_); rw [Try.results5] at hR; refine wg_run ?_; (simp only [Try.f5, go_sem, hg])
    ((first | refine kdq [] ?_ (hc := hd) | refine kmq [] ?_ (hc := hd) | refine ktq [] ?_ (hc := hd)); rintro _ _ ⟨x, s, v, rfl, hx, hs, hv, hvc, hvz, rfl⟩ <;> (simp only [go_sem]))
    have ht0 : tm0.size ≤ 10 := by simp [tm0, noTy, Tm.size, Ty.size, Ty.sizes, Tm.sizes]
    have hsm := tmRefl tm0 (by omega)
    rcases subAll x (by omega) s v (by omega) with ⟨e, y, rfl, rfl, hyb, ho, hvo, hvcl, hao, h1, h2⟩ | ⟨h1, h2⟩
    · have hz := E.size_okT hao
      have h3 := tmRefl (e.subst y v).tm (by omega)
      have h4 := iFreeNames e ho
      have h5 := iFreeNames (e.subst y v) hao
      rw [show (fun z => (e.subst y v).fr z) = (fun z => e.fr z && !(z == y)) from by funext z; rw [E.subst_fr (E.closed_fr hv hvcl)], ← names_only y] at h5
      have h6 := iTermV (e.subst y v).tm
      rw [E.termV_tm, hao] at h6
      have hhas : (names (fun z => e.fr z)).contains y = e.fr y := by rw [names_has hyb]
      have h7 : e.fr y = false → AFn Try.prog 21 [.agg (teC (e.subst y v).tm), .agg (teC e.tm)] (.one (.sc (.bool true))) := fun h => by
        rw [E.subst_id e h]; exact tmRefl e.tm (by have := E.size_okT ho; omega)
      rw [← hhas] at h7
      have hnl := names_len (fun z => e.fr z)
      generalize names (fun z => e.fr z) = fl at *
      have hsz := bsOf_size fl
      generalize (e.subst y v).tm = t2 at *
      generalize e.tm = t at *
      generalize v.tm = v1 at *
      generalize hnmy : nm y = ny at *
      repeat' (first | (first | (simp only [go_sem, int_bne, beq_self_eq_true]) | (((first | apply sp1 | apply sp2 | apply sp3 | apply sp4 | apply sp5 | apply sp6 | apply sp7) <;> intro hb) <;> (simp only [go_sem, hb, int_bne, beq_self_eq_true])) | ((first | apply wm_done | apply wt_done | apply wg_run | refine fk ?_ ?_) <;> (simp only [go_sem, int_bne, beq_self_eq_true]))) | (first | refine cdq ?_ (hc := h1) | refine cmq ?_ (hc := h1) | refine ctq ?_ (hc := h1)); (simp only [go_sem]) | (first | refine cdq ?_ (hc := h2) | refine cmq ?_ (hc := h2) | refine ctq ?_ (hc := h2)); (simp only [go_sem]) | (first | refine cdq ?_ (hc := h3) | refine cmq ?_ (hc := h3) | refine ctq ?_ (hc := h3)); (simp only [go_sem]) | (first | refine cdq ?_ (hc := h4) | refine cmq ?_ (hc := h4) | refine ctq ?_ (hc := h4)); (simp only [go_sem]) | fail)
      refine wd_for (σ := Nat) [3, 4, 6, 10, 11, 12, 13] (fun k => [.one (.ptr 9 0 0 0), .one (.sc (.string ny)), .one (.ptr 9 1 0 0), .one (.sc (.string (bsOf fl))), .one (.sc (.string (bsOf ((fl.take k).filter (fun z => !(z == y)))))), .one (.sc (.bool ((fl.take k).contains y))), .one (.sc (.int .i64 (k : Nat)))])
        (fun _ => [⟨9, 28, .mut, [teC t]⟩, ⟨9, 28, .mut, [teC t2]⟩])
        (fun k => k ≤ fl.length) (fun k => fl.length - k) 0 (Nat.zero_le _) (hat [0, 2] (hI := ⟨rfl, rfl⟩)) ?_
      rintro k hk G hG
      refine wg_run ?_
      by_cases hk1 : k < fl.length
      · have hw1 := wrap_succ hk1 (by omega)
        have d2 : decide ((k : Int) < ((bsOf fl).size : Int)) = true := by rw [hsz]; simp; omega
        have d3 : decide (k + 1 ≤ (bsOf fl).size) = true := by rw [hsz]; simp; omega
        have d4 : decide (k ≤ k + 1) = true := by simp
        have he := bsOf_one fl k hk1
        have hbe := nm_beq fl[k] y
        have htk := List.take_succ_eq_append_getElem hk1
        rw [hnmy] at hbe
        cases e1 : (fl[k] == y)
        · rw [e1] at hbe
          have hlf : ((fl.take k).filter (fun z => !(z == y))).length ≤ 26 := Nat.le_trans (List.length_filter_le _ _) (by rw [List.length_take]; omega)
          have hz9 : addOk (bsOf ((fl.take k).filter (fun z => !(z == y)))) (nm fl[k]) = true := addOk_of (by rw [bsOf_size, nm_size]; omega)
          have hap : bsOf ((fl.take k).filter (fun z => !(z == y))) ++ nm fl[k] = bsOf ((fl.take (k + 1)).filter (fun z => !(z == y))) := by
            rw [htk, List.filter_append, List.filter_cons, e1]
            exact bsOf_append _ [_]
          have hco : (fl.take (k + 1)).contains y = (fl.take k).contains y := by
            have e2 : (y == fl[k]) = false := by simp at e1 ⊢; exact fun h => e1 h.symm
            rw [htk, List.contains_append, List.contains_cons, e2]; simp
          repeat' (first | (first | (simp only [go_sem, d2, hw1, d3, d4, he, hbe, hz9, hap]) | (((first | apply sp1 | apply sp2 | apply sp3 | apply sp4 | apply sp5 | apply sp6 | apply sp7) <;> intro hb) <;> (simp only [go_sem, hb, d2, hw1, d3, d4, he, hbe, hz9, hap])) | ((first | apply wm_done | apply wt_done | apply wg_run | refine fk ?_ ?_) <;> (simp only [go_sem, d2, hw1, d3, d4, he, hbe, hz9, hap]))) | fail)
          exact hG (k + 1) _ _ (by omega) (by omega) (hat [0, 1] (hI := ⟨by rw [hco], rfl⟩))
        · rw [e1] at hbe
          have hfi : (fl.take (k + 1)).filter (fun z => !(z == y)) = (fl.take k).filter (fun z => !(z == y)) := by
            rw [htk, List.filter_append, List.filter_cons, e1]; simp
          have hco : (fl.take (k + 1)).contains y = true := by
            have e2 : (y == fl[k]) = true := by simp at e1 ⊢; exact e1.symm
            rw [htk, List.contains_append, List.contains_cons, e2]; simp
          repeat' (first | (first | (simp only [go_sem, d2, hw1, d3, d4, he, hbe]) | (((first | apply sp1 | apply sp2 | apply sp3 | apply sp4 | apply sp5 | apply sp6 | apply sp7) <;> intro hb) <;> (simp only [go_sem, hb, d2, hw1, d3, d4, he, hbe])) | ((first | apply wm_done | apply wt_done | apply wg_run | refine fk ?_ ?_) <;> (simp only [go_sem, d2, hw1, d3, d4, he, hbe]))) | fail)
          exact hG (k + 1) _ _ (by omega) (by omega) (hat [0, 1] (hI := ⟨by rw [hco, hfi], rfl⟩))
      · have d2 : decide ((k : Int) < ((bsOf fl).size : Int)) = false := by rw [hsz]; simp; omega
        have htk : fl.take k = fl := List.take_of_length_le (by omega)
        rw [htk]
        clear hG
        generalize fl.filter (fun z => !(z == y)) = fl2 at *
        cases hcy : fl.contains y
        · have h7 := h7 hcy
          repeat' (first | (first | (simp only [go_sem, d2, int_bne, beq_self_eq_true]) | (((first | apply sp1 | apply sp2 | apply sp3 | apply sp4 | apply sp5 | apply sp6 | apply sp7) <;> intro hb) <;> (simp only [go_sem, hb, d2, int_bne, beq_self_eq_true])) | ((first | apply wm_done | apply wt_done | apply wg_run | refine fk ?_ ?_) <;> (simp only [go_sem, d2, int_bne, beq_self_eq_true]))) | (first | refine cdq ?_ (hc := h5) | refine cmq ?_ (hc := h5) | refine ctq ?_ (hc := h5)); (simp only [go_sem]) | (first | refine cdq ?_ (hc := h6) | refine cmq ?_ (hc := h6) | refine ctq ?_ (hc := h6)); (simp only [go_sem]) | (first | refine cdq ?_ (hc := h7) | refine cmq ?_ (hc := h7) | refine ctq ?_ (hc := h7)); (simp only [go_sem]) | fail)
          all_goals (refine hR _ (rat [] (hK := ⟨rfl, rfl⟩)))
        · clear h7
          repeat' (first | (first | (simp only [go_sem, d2, int_bne, beq_self_eq_true]) | (((first | apply sp1 | apply sp2 | apply sp3 | apply sp4 | apply sp5 | apply sp6 | apply sp7) <;> intro hb) <;> (simp only [go_sem, hb, d2, int_bne, beq_self_eq_true])) | ((first | apply wm_done | apply wt_done | apply wg_run | refine fk ?_ ?_) <;> (simp only [go_sem, d2, int_bne, beq_self_eq_true]))) | (first | refine cdq ?_ (hc := h5) | refine cmq ?_ (hc := h5) | refine ctq ?_ (hc := h5)); (simp only [go_sem]) | (first | refine cdq ?_ (hc := h6) | refine cmq ?_ (hc := h6) | refine ctq ?_ (hc := h6)); (simp only [go_sem]) | fail)
          all_goals (refine hR _ (rat [] (hK := ⟨rfl, rfl⟩)))
    · generalize v.tm = v1 at *
      generalize tm0 = t0 at *
      repeat' (first | (first | (simp only [go_sem, int_bne, beq_self_eq_true]) | (((first | apply sp1 | apply sp2 | apply sp3 | apply sp4 | apply sp5 | apply sp6 | apply sp7) <;> intro hb) <;> (simp only [go_sem, hb, int_bne, beq_self_eq_true])) | ((first | apply wm_done | apply wt_done | apply wg_run | refine fk ?_ ?_) <;> (simp only [go_sem, int_bne, beq_self_eq_true]))) | (first | refine cdq ?_ (hc := h1) | refine cmq ?_ (hc := h1) | refine ctq ?_ (hc := h1)); (simp only [go_sem]) | (first | refine cdq ?_ (hc := h2) | refine cmq ?_ (hc := h2) | refine ctq ?_ (hc := h2)); (simp only [go_sem]) | (first | refine cdq ?_ (hc := hsm) | refine cmq ?_ (hc := hsm) | refine ctq ?_ (hc := hsm)); (simp only [go_sem]) | ((first | refine mxq6 [] ?_ | refine mxq5 [] ?_ | refine mxq4 [] ?_ | refine mxq3 [] ?_ | refine mxq2 [] ?_ | refine mxq1 [] ?_ | refine mxq0 [] ?_ | fail); (simp only [go_sem, int_bne, beq_self_eq_true])) | fail)
      all_goals (refine hR _ (rat [] (hK := ⟨rfl, rfl⟩)))
end Go.Proofs.Ytfgjiamolknicaa
