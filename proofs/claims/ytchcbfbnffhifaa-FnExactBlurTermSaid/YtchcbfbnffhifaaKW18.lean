/- Texts of the proof, one behind another. -/
import Derived.Test.YtchcbfbnffhifaaKW16
set_option linter.unusedSimpArgs false
set_option linter.unusedVariables false
/- Terms with other types, in the reference. On shadows. -/
namespace Go.Proofs.Grad
/-- a term with the types of a list from a place on -/
def wtA (e : E) (L : List T) (i : Nat) : E := (e.wt (L.drop i)).1
theorem drop_get {L : List T} {i : Nat} (h : i < L.length) : ∃ u, L.drop i = u :: L.drop (i + 1) ∧ u ∈ L ∧ (Sh.tyR (L.map T.ty))[i]? = some (Sh.tyC u.ty) := by
  refine ⟨L[i], List.drop_eq_getElem_cons h, List.getElem_mem h, ?_⟩
  rw [Sh.tyR_get, List.getElem?_map, List.getElem?_eq_getElem h]; rfl
theorem wtA_next {e : E} {L : List T} {i : Nat} (h : i + e.nt ≤ L.length) : (e.wt (L.drop i)).2 = L.drop (i + e.nt) := by
  rw [E.wt_rest e _ (by rw [List.length_drop]; omega), List.drop_drop]
end Go.Proofs.Grad
namespace Go.Proofs.Ytchcbfbnffhifaa
open Go.RowKit Go.Proofs.Sh Go.Proofs.Grad
set_option maxRecDepth 100000
set_option maxHeartbeats 16000000
theorem l1CopyNo : AFn Try.prog 124 [.agg (tyC noTy)] (.agg (tyC noTy)) := l1Copy 1000 (by omega) noTy (by simp [noTy, Ty.size, Ty.sizes])
theorem l1CopyT {t : T} (h : t.depth ≤ 4) : AFn Try.prog 124 [.agg (tyC t.ty)] (.agg (tyC t.ty)) := l1Copy 1000 (by omega) t.ty (T.ty_small h)
def WithC (L : List T) (e : E) (i : Nat) : Prop := AFn Try.prog 132 [.agg (teC e.tm), .one (.sl (tyR (L.map T.ty))), .one (.sc (.int .i64 (i : Nat)))] (.tup [.agg (teC (wtA e L i).tm), .one (.sc (.int .i64 ((i + e.nt : Nat) : Int)))])
theorem wth_var (x : UInt8) (L : List T) (i : Nat) (hL : ∀ t ∈ L, t.depth ≤ 4) (hi : i + (E.var x).nt ≤ L.length) (hb : L.length < 1000000) (hw : (E.var x).wf = true) : WithC L (E.var x) i := by
  have hno := l1CopyNo
  simp only [noTy, go_sem] at hno
  unfold WithC
  rw [show wtA (E.var x) L i = E.var x from rfl, show i + (E.var x).nt = i from rfl]
  simp only [E.tm, nd, noTy]
  generalize tyR (L.map T.ty) = R2
  refine fn_in ?_; refine acl_in Try.func132 rfl isfn_132 (Nat.le_of_ble_eq_true rfl) (fun R hR => ?_); rw [Try.results132] at hR; refine wg_run ?_; (simp only [Try.f132, go_sem])
  repeat' (first | (first | (((first | apply sp1 | apply sp2 | apply sp3 | apply sp4 | apply sp5 | apply sp6 | apply sp7) <;> intro hb) <;> (simp only [go_sem, hb])) | ((first | apply wm_done | apply wt_done | apply wg_run | refine fk ?_ ?_) <;> (simp only [go_sem]))) | (first | refine cdq ?_ (hc := hno) | refine cmq ?_ (hc := hno) | refine ctq ?_ (hc := hno)); (simp only [go_sem]) | (first | (refine wl_next (wg_run ?_); (simp only [go_sem])) | refine wd_rounds 6 ?_) | ((first | refine mxq6 [] ?_ | refine mxq5 [] ?_ | refine mxq4 [] ?_ | refine mxq3 [] ?_ | refine mxq2 [] ?_ | refine mxq1 [] ?_ | refine mxq0 [] ?_ | fail); (simp only [go_sem])) | fail)
  (refine hR _ ?_; refine rat [] (hK := ⟨rfl, rfl⟩))
theorem wth_num (x : Int) (L : List T) (i : Nat) (hL : ∀ t ∈ L, t.depth ≤ 4) (hi : i + (E.num x).nt ≤ L.length) (hb : L.length < 1000000) (hw : (E.num x).wf = true) : WithC L (E.num x) i := by
  have hno := l1CopyNo
  simp only [noTy, go_sem] at hno
  unfold WithC
  rw [show wtA (E.num x) L i = E.num x from rfl, show i + (E.num x).nt = i from rfl]
  simp only [E.tm, nd, noTy]
  generalize tyR (L.map T.ty) = R2
  refine fn_in ?_; refine acl_in Try.func132 rfl isfn_132 (Nat.le_of_ble_eq_true rfl) (fun R hR => ?_); rw [Try.results132] at hR; refine wg_run ?_; (simp only [Try.f132, go_sem])
  repeat' (first | (first | (((first | apply sp1 | apply sp2 | apply sp3 | apply sp4 | apply sp5 | apply sp6 | apply sp7) <;> intro hb) <;> (simp only [go_sem, hb])) | ((first | apply wm_done | apply wt_done | apply wg_run | refine fk ?_ ?_) <;> (simp only [go_sem]))) | (first | refine cdq ?_ (hc := hno) | refine cmq ?_ (hc := hno) | refine ctq ?_ (hc := hno)); (simp only [go_sem]) | (first | (refine wl_next (wg_run ?_); (simp only [go_sem])) | refine wd_rounds 6 ?_) | ((first | refine mxq6 [] ?_ | refine mxq5 [] ?_ | refine mxq4 [] ?_ | refine mxq3 [] ?_ | refine mxq2 [] ?_ | refine mxq1 [] ?_ | refine mxq0 [] ?_ | fail); (simp only [go_sem])) | fail)
  (refine hR _ ?_; refine rat [] (hK := ⟨rfl, rfl⟩))
theorem wth_tru  (L : List T) (i : Nat) (hL : ∀ t ∈ L, t.depth ≤ 4) (hi : i + (E.tru ).nt ≤ L.length) (hb : L.length < 1000000) (hw : (E.tru ).wf = true) : WithC L (E.tru ) i := by
  have hno := l1CopyNo
  simp only [noTy, go_sem] at hno
  unfold WithC
  rw [show wtA (E.tru ) L i = E.tru  from rfl, show i + (E.tru ).nt = i from rfl]
  simp only [E.tm, nd, noTy]
  generalize tyR (L.map T.ty) = R2
  refine fn_in ?_; refine acl_in Try.func132 rfl isfn_132 (Nat.le_of_ble_eq_true rfl) (fun R hR => ?_); rw [Try.results132] at hR; refine wg_run ?_; (simp only [Try.f132, go_sem])
  repeat' (first | (first | (((first | apply sp1 | apply sp2 | apply sp3 | apply sp4 | apply sp5 | apply sp6 | apply sp7) <;> intro hb) <;> (simp only [go_sem, hb])) | ((first | apply wm_done | apply wt_done | apply wg_run | refine fk ?_ ?_) <;> (simp only [go_sem]))) | (first | refine cdq ?_ (hc := hno) | refine cmq ?_ (hc := hno) | refine ctq ?_ (hc := hno)); (simp only [go_sem]) | (first | (refine wl_next (wg_run ?_); (simp only [go_sem])) | refine wd_rounds 6 ?_) | ((first | refine mxq6 [] ?_ | refine mxq5 [] ?_ | refine mxq4 [] ?_ | refine mxq3 [] ?_ | refine mxq2 [] ?_ | refine mxq1 [] ?_ | refine mxq0 [] ?_ | fail); (simp only [go_sem])) | fail)
  (refine hR _ ?_; refine rat [] (hK := ⟨rfl, rfl⟩))
theorem wth_fls  (L : List T) (i : Nat) (hL : ∀ t ∈ L, t.depth ≤ 4) (hi : i + (E.fls ).nt ≤ L.length) (hb : L.length < 1000000) (hw : (E.fls ).wf = true) : WithC L (E.fls ) i := by
  have hno := l1CopyNo
  simp only [noTy, go_sem] at hno
  unfold WithC
  rw [show wtA (E.fls ) L i = E.fls  from rfl, show i + (E.fls ).nt = i from rfl]
  simp only [E.tm, nd, noTy]
  generalize tyR (L.map T.ty) = R2
  refine fn_in ?_; refine acl_in Try.func132 rfl isfn_132 (Nat.le_of_ble_eq_true rfl) (fun R hR => ?_); rw [Try.results132] at hR; refine wg_run ?_; (simp only [Try.f132, go_sem])
  repeat' (first | (first | (((first | apply sp1 | apply sp2 | apply sp3 | apply sp4 | apply sp5 | apply sp6 | apply sp7) <;> intro hb) <;> (simp only [go_sem, hb])) | ((first | apply wm_done | apply wt_done | apply wg_run | refine fk ?_ ?_) <;> (simp only [go_sem]))) | (first | refine cdq ?_ (hc := hno) | refine cmq ?_ (hc := hno) | refine ctq ?_ (hc := hno)); (simp only [go_sem]) | (first | (refine wl_next (wg_run ?_); (simp only [go_sem])) | refine wd_rounds 6 ?_) | ((first | refine mxq6 [] ?_ | refine mxq5 [] ?_ | refine mxq4 [] ?_ | refine mxq3 [] ?_ | refine mxq2 [] ?_ | refine mxq1 [] ?_ | refine mxq0 [] ?_ | fail); (simp only [go_sem])) | fail)
  (refine hR _ ?_; refine rat [] (hK := ⟨rfl, rfl⟩))
theorem wth_lam (x : UInt8) (t : T) (a : E) (L : List T) (i : Nat) (hL : ∀ t ∈ L, t.depth ≤ 4) (iha : ∀ i, i + a.nt ≤ L.length → a.wf = true → WithC L a i) (hi : i + (E.lam x t a).nt ≤ L.length) (hb : L.length < 1000000) (hw : (E.lam x t a).wf = true) : WithC L (E.lam x t a) i := by
  have hno := l1CopyNo
  simp only [noTy, go_sem] at hno
  simp only [E.nt] at hi
  simp only [E.wf, Bool.and_eq_true, decide_eq_true_eq] at hw
  obtain ⟨u, hd, hu, hg⟩ := drop_get (L := L) (i := i) (by omega)
  have hcu := l1CopyT (hL u hu)
  have hct := l1CopyT (hw.2.1)
  have hw1 : IntKind.i64.wrap ((i : Int) + 1) = ((i + 1 : Nat) : Int) := by rw [IntWalk.i64_in _ (by omega)]; omega
  have h1 := iha (i + 1) (by omega) hw.2.2
  unfold WithC at h1
  have e0 : wtA (E.lam x t a) L i = .lam x u (wtA a L (i + 1)) := by
    unfold wtA
    rw [hd]; rfl
  have e1 : i + (E.lam x t a).nt = i + 1 + a.nt := by simp only [E.nt] <;> omega
  unfold WithC
  rw [e0, e1]
  generalize wtA a L (i + 1) = a2 at *
  simp only [E.tm, nd, noTy]
  clear e0 e1 iha
  generalize tyR (L.map T.ty) = R2 at *
  refine fn_in ?_; refine acl_in Try.func132 rfl isfn_132 (Nat.le_of_ble_eq_true rfl) (fun R hR => ?_); rw [Try.results132] at hR; refine wg_run ?_; (simp only [Try.f132, go_sem])
  repeat' (first | (first | (simp only [go_sem, hg, hw1]) | (((first | apply sp1 | apply sp2 | apply sp3 | apply sp4 | apply sp5 | apply sp6 | apply sp7) <;> intro hb) <;> (simp only [go_sem, hb, hg, hw1])) | ((first | apply wm_done | apply wt_done | apply wg_run | refine fk ?_ ?_) <;> (simp only [go_sem, hg, hw1]))) | (first | refine cdq ?_ (hc := hno) | refine cmq ?_ (hc := hno) | refine ctq ?_ (hc := hno)); (simp only [go_sem]) | (first | refine cdq ?_ (hc := hcu) | refine cmq ?_ (hc := hcu) | refine ctq ?_ (hc := hcu)); (simp only [go_sem]) | (first | refine cdq ?_ (hc := hct) | refine cmq ?_ (hc := hct) | refine ctq ?_ (hc := hct)); (simp only [go_sem]) | (first | refine cdq ?_ (hc := h1) | refine cmq ?_ (hc := h1) | refine ctq ?_ (hc := h1)); (simp only [go_sem]) | (first | (refine wl_next (wg_run ?_); (simp only [go_sem])) | refine wd_rounds 6 ?_) | ((first | refine mxq6 [] ?_ | refine mxq5 [] ?_ | refine mxq4 [] ?_ | refine mxq3 [] ?_ | refine mxq2 [] ?_ | refine mxq1 [] ?_ | refine mxq0 [] ?_ | fail); (simp only [go_sem, hg, hw1])) | fail)
  (refine hR _ ?_; refine rat [] (hK := ⟨rfl, rfl⟩))
theorem wth_app (a : E) (b : E) (L : List T) (i : Nat) (hL : ∀ t ∈ L, t.depth ≤ 4) (iha : ∀ i, i + a.nt ≤ L.length → a.wf = true → WithC L a i) (ihb : ∀ i, i + b.nt ≤ L.length → b.wf = true → WithC L b i) (hi : i + (E.app a b).nt ≤ L.length) (hb : L.length < 1000000) (hw : (E.app a b).wf = true) : WithC L (E.app a b) i := by
  have hno := l1CopyNo
  simp only [noTy, go_sem] at hno
  simp only [E.nt] at hi
  simp only [E.wf, Bool.and_eq_true, decide_eq_true_eq] at hw
  have h1 := iha (i) (by omega) hw.1
  unfold WithC at h1
  have h2 := ihb (i + a.nt) (by omega) hw.2
  unfold WithC at h2
  have e0 : wtA (E.app a b) L i = .app  (wtA a L (i)) (wtA b L (i + a.nt)) := by
    unfold wtA
    simp only [E.wt]; rw [wtA_next (by omega)]
  have e1 : i + (E.app a b).nt = i + a.nt + b.nt := by simp only [E.nt] <;> omega
  unfold WithC
  rw [e0, e1]
  generalize wtA a L (i) = a2 at *
  generalize wtA b L (i + a.nt) = b2 at *
  simp only [E.tm, nd, noTy]
  clear e0 e1 iha ihb
  generalize tyR (L.map T.ty) = R2 at *
  refine fn_in ?_; refine acl_in Try.func132 rfl isfn_132 (Nat.le_of_ble_eq_true rfl) (fun R hR => ?_); rw [Try.results132] at hR; refine wg_run ?_; (simp only [Try.f132, go_sem])
  repeat' (first | (first | (((first | apply sp1 | apply sp2 | apply sp3 | apply sp4 | apply sp5 | apply sp6 | apply sp7) <;> intro hb) <;> (simp only [go_sem, hb])) | ((first | apply wm_done | apply wt_done | apply wg_run | refine fk ?_ ?_) <;> (simp only [go_sem]))) | (first | refine cdq ?_ (hc := hno) | refine cmq ?_ (hc := hno) | refine ctq ?_ (hc := hno)); (simp only [go_sem]) | (first | refine cdq ?_ (hc := h1) | refine cmq ?_ (hc := h1) | refine ctq ?_ (hc := h1)); (simp only [go_sem]) | (first | refine cdq ?_ (hc := h2) | refine cmq ?_ (hc := h2) | refine ctq ?_ (hc := h2)); (simp only [go_sem]) | (first | (refine wl_next (wg_run ?_); (simp only [go_sem])) | refine wd_rounds 6 ?_) | ((first | refine mxq6 [] ?_ | refine mxq5 [] ?_ | refine mxq4 [] ?_ | refine mxq3 [] ?_ | refine mxq2 [] ?_ | refine mxq1 [] ?_ | refine mxq0 [] ?_ | fail); (simp only [go_sem])) | fail)
  (refine hR _ ?_; refine rat [] (hK := ⟨rfl, rfl⟩))
theorem wth_add (a : E) (b : E) (L : List T) (i : Nat) (hL : ∀ t ∈ L, t.depth ≤ 4) (iha : ∀ i, i + a.nt ≤ L.length → a.wf = true → WithC L a i) (ihb : ∀ i, i + b.nt ≤ L.length → b.wf = true → WithC L b i) (hi : i + (E.add a b).nt ≤ L.length) (hb : L.length < 1000000) (hw : (E.add a b).wf = true) : WithC L (E.add a b) i := by
  have hno := l1CopyNo
  simp only [noTy, go_sem] at hno
  simp only [E.nt] at hi
  simp only [E.wf, Bool.and_eq_true, decide_eq_true_eq] at hw
  have h1 := iha (i) (by omega) hw.1
  unfold WithC at h1
  have h2 := ihb (i + a.nt) (by omega) hw.2
  unfold WithC at h2
  have e0 : wtA (E.add a b) L i = .add  (wtA a L (i)) (wtA b L (i + a.nt)) := by
    unfold wtA
    simp only [E.wt]; rw [wtA_next (by omega)]
  have e1 : i + (E.add a b).nt = i + a.nt + b.nt := by simp only [E.nt] <;> omega
  unfold WithC
  rw [e0, e1]
  generalize wtA a L (i) = a2 at *
  generalize wtA b L (i + a.nt) = b2 at *
  simp only [E.tm, nd, noTy]
  clear e0 e1 iha ihb
  generalize tyR (L.map T.ty) = R2 at *
  refine fn_in ?_; refine acl_in Try.func132 rfl isfn_132 (Nat.le_of_ble_eq_true rfl) (fun R hR => ?_); rw [Try.results132] at hR; refine wg_run ?_; (simp only [Try.f132, go_sem])
  repeat' (first | (first | (((first | apply sp1 | apply sp2 | apply sp3 | apply sp4 | apply sp5 | apply sp6 | apply sp7) <;> intro hb) <;> (simp only [go_sem, hb])) | ((first | apply wm_done | apply wt_done | apply wg_run | refine fk ?_ ?_) <;> (simp only [go_sem]))) | (first | refine cdq ?_ (hc := hno) | refine cmq ?_ (hc := hno) | refine ctq ?_ (hc := hno)); (simp only [go_sem]) | (first | refine cdq ?_ (hc := h1) | refine cmq ?_ (hc := h1) | refine ctq ?_ (hc := h1)); (simp only [go_sem]) | (first | refine cdq ?_ (hc := h2) | refine cmq ?_ (hc := h2) | refine ctq ?_ (hc := h2)); (simp only [go_sem]) | (first | (refine wl_next (wg_run ?_); (simp only [go_sem])) | refine wd_rounds 6 ?_) | ((first | refine mxq6 [] ?_ | refine mxq5 [] ?_ | refine mxq4 [] ?_ | refine mxq3 [] ?_ | refine mxq2 [] ?_ | refine mxq1 [] ?_ | refine mxq0 [] ?_ | fail); (simp only [go_sem])) | fail)
  (refine hR _ ?_; refine rat [] (hK := ⟨rfl, rfl⟩))
theorem wth_less (a : E) (b : E) (L : List T) (i : Nat) (hL : ∀ t ∈ L, t.depth ≤ 4) (iha : ∀ i, i + a.nt ≤ L.length → a.wf = true → WithC L a i) (ihb : ∀ i, i + b.nt ≤ L.length → b.wf = true → WithC L b i) (hi : i + (E.less a b).nt ≤ L.length) (hb : L.length < 1000000) (hw : (E.less a b).wf = true) : WithC L (E.less a b) i := by
  have hno := l1CopyNo
  simp only [noTy, go_sem] at hno
  simp only [E.nt] at hi
  simp only [E.wf, Bool.and_eq_true, decide_eq_true_eq] at hw
  have h1 := iha (i) (by omega) hw.1
  unfold WithC at h1
  have h2 := ihb (i + a.nt) (by omega) hw.2
  unfold WithC at h2
  have e0 : wtA (E.less a b) L i = .less  (wtA a L (i)) (wtA b L (i + a.nt)) := by
    unfold wtA
    simp only [E.wt]; rw [wtA_next (by omega)]
  have e1 : i + (E.less a b).nt = i + a.nt + b.nt := by simp only [E.nt] <;> omega
  unfold WithC
  rw [e0, e1]
  generalize wtA a L (i) = a2 at *
  generalize wtA b L (i + a.nt) = b2 at *
  simp only [E.tm, nd, noTy]
  clear e0 e1 iha ihb
  generalize tyR (L.map T.ty) = R2 at *
  refine fn_in ?_; refine acl_in Try.func132 rfl isfn_132 (Nat.le_of_ble_eq_true rfl) (fun R hR => ?_); rw [Try.results132] at hR; refine wg_run ?_; (simp only [Try.f132, go_sem])
  repeat' (first | (first | (((first | apply sp1 | apply sp2 | apply sp3 | apply sp4 | apply sp5 | apply sp6 | apply sp7) <;> intro hb) <;> (simp only [go_sem, hb])) | ((first | apply wm_done | apply wt_done | apply wg_run | refine fk ?_ ?_) <;> (simp only [go_sem]))) | (first | refine cdq ?_ (hc := hno) | refine cmq ?_ (hc := hno) | refine ctq ?_ (hc := hno)); (simp only [go_sem]) | (first | refine cdq ?_ (hc := h1) | refine cmq ?_ (hc := h1) | refine ctq ?_ (hc := h1)); (simp only [go_sem]) | (first | refine cdq ?_ (hc := h2) | refine cmq ?_ (hc := h2) | refine ctq ?_ (hc := h2)); (simp only [go_sem]) | (first | (refine wl_next (wg_run ?_); (simp only [go_sem])) | refine wd_rounds 6 ?_) | ((first | refine mxq6 [] ?_ | refine mxq5 [] ?_ | refine mxq4 [] ?_ | refine mxq3 [] ?_ | refine mxq2 [] ?_ | refine mxq1 [] ?_ | refine mxq0 [] ?_ | fail); (simp only [go_sem])) | fail)
  (refine hR _ ?_; refine rat [] (hK := ⟨rfl, rfl⟩))
theorem wth_ite (a : E) (b : E) (c : E) (L : List T) (i : Nat) (hL : ∀ t ∈ L, t.depth ≤ 4) (iha : ∀ i, i + a.nt ≤ L.length → a.wf = true → WithC L a i) (ihb : ∀ i, i + b.nt ≤ L.length → b.wf = true → WithC L b i) (ihc : ∀ i, i + c.nt ≤ L.length → c.wf = true → WithC L c i) (hi : i + (E.ite a b c).nt ≤ L.length) (hb : L.length < 1000000) (hw : (E.ite a b c).wf = true) : WithC L (E.ite a b c) i := by
  have hno := l1CopyNo
  simp only [noTy, go_sem] at hno
  simp only [E.nt] at hi
  simp only [E.wf, Bool.and_eq_true, decide_eq_true_eq] at hw
  have h1 := iha (i) (by omega) hw.1
  unfold WithC at h1
  have h2 := ihb (i + a.nt) (by omega) hw.2.1
  unfold WithC at h2
  have h3 := ihc (i + a.nt + b.nt) (by omega) hw.2.2
  unfold WithC at h3
  have e0 : wtA (E.ite a b c) L i = .ite  (wtA a L (i)) (wtA b L (i + a.nt)) (wtA c L (i + a.nt + b.nt)) := by
    unfold wtA
    simp only [E.wt]; rw [wtA_next (e := a) (by omega), wtA_next (e := b) (by omega)]
  have e1 : i + (E.ite a b c).nt = i + a.nt + b.nt + c.nt := by simp only [E.nt] <;> omega
  unfold WithC
  rw [e0, e1]
  generalize wtA a L (i) = a2 at *
  generalize wtA b L (i + a.nt) = b2 at *
  generalize wtA c L (i + a.nt + b.nt) = c2 at *
  simp only [E.tm, nd, noTy]
  clear e0 e1 iha ihb ihc
  generalize tyR (L.map T.ty) = R2 at *
  refine fn_in ?_; refine acl_in Try.func132 rfl isfn_132 (Nat.le_of_ble_eq_true rfl) (fun R hR => ?_); rw [Try.results132] at hR; refine wg_run ?_; (simp only [Try.f132, go_sem])
  repeat' (first | (first | (((first | apply sp1 | apply sp2 | apply sp3 | apply sp4 | apply sp5 | apply sp6 | apply sp7) <;> intro hb) <;> (simp only [go_sem, hb])) | ((first | apply wm_done | apply wt_done | apply wg_run | refine fk ?_ ?_) <;> (simp only [go_sem]))) | (first | refine cdq ?_ (hc := hno) | refine cmq ?_ (hc := hno) | refine ctq ?_ (hc := hno)); (simp only [go_sem]) | (first | refine cdq ?_ (hc := h1) | refine cmq ?_ (hc := h1) | refine ctq ?_ (hc := h1)); (simp only [go_sem]) | (first | refine cdq ?_ (hc := h2) | refine cmq ?_ (hc := h2) | refine ctq ?_ (hc := h2)); (simp only [go_sem]) | (first | refine cdq ?_ (hc := h3) | refine cmq ?_ (hc := h3) | refine ctq ?_ (hc := h3)); (simp only [go_sem]) | (first | (refine wl_next (wg_run ?_); (simp only [go_sem])) | refine wd_rounds 6 ?_) | ((first | refine mxq6 [] ?_ | refine mxq5 [] ?_ | refine mxq4 [] ?_ | refine mxq3 [] ?_ | refine mxq2 [] ?_ | refine mxq1 [] ?_ | refine mxq0 [] ?_ | fail); (simp only [go_sem])) | fail)
  (refine hR _ ?_; refine rat [] (hK := ⟨rfl, rfl⟩))
theorem wth_pair (a : E) (b : E) (L : List T) (i : Nat) (hL : ∀ t ∈ L, t.depth ≤ 4) (iha : ∀ i, i + a.nt ≤ L.length → a.wf = true → WithC L a i) (ihb : ∀ i, i + b.nt ≤ L.length → b.wf = true → WithC L b i) (hi : i + (E.pair a b).nt ≤ L.length) (hb : L.length < 1000000) (hw : (E.pair a b).wf = true) : WithC L (E.pair a b) i := by
  have hno := l1CopyNo
  simp only [noTy, go_sem] at hno
  simp only [E.nt] at hi
  simp only [E.wf, Bool.and_eq_true, decide_eq_true_eq] at hw
  have h1 := iha (i) (by omega) hw.1
  unfold WithC at h1
  have h2 := ihb (i + a.nt) (by omega) hw.2
  unfold WithC at h2
  have e0 : wtA (E.pair a b) L i = .pair  (wtA a L (i)) (wtA b L (i + a.nt)) := by
    unfold wtA
    simp only [E.wt]; rw [wtA_next (by omega)]
  have e1 : i + (E.pair a b).nt = i + a.nt + b.nt := by simp only [E.nt] <;> omega
  unfold WithC
  rw [e0, e1]
  generalize wtA a L (i) = a2 at *
  generalize wtA b L (i + a.nt) = b2 at *
  simp only [E.tm, nd, noTy]
  clear e0 e1 iha ihb
  generalize tyR (L.map T.ty) = R2 at *
  refine fn_in ?_; refine acl_in Try.func132 rfl isfn_132 (Nat.le_of_ble_eq_true rfl) (fun R hR => ?_); rw [Try.results132] at hR; refine wg_run ?_; (simp only [Try.f132, go_sem])
  repeat' (first | (first | (((first | apply sp1 | apply sp2 | apply sp3 | apply sp4 | apply sp5 | apply sp6 | apply sp7) <;> intro hb) <;> (simp only [go_sem, hb])) | ((first | apply wm_done | apply wt_done | apply wg_run | refine fk ?_ ?_) <;> (simp only [go_sem]))) | (first | refine cdq ?_ (hc := hno) | refine cmq ?_ (hc := hno) | refine ctq ?_ (hc := hno)); (simp only [go_sem]) | (first | refine cdq ?_ (hc := h1) | refine cmq ?_ (hc := h1) | refine ctq ?_ (hc := h1)); (simp only [go_sem]) | (first | refine cdq ?_ (hc := h2) | refine cmq ?_ (hc := h2) | refine ctq ?_ (hc := h2)); (simp only [go_sem]) | (first | (refine wl_next (wg_run ?_); (simp only [go_sem])) | refine wd_rounds 6 ?_) | ((first | refine mxq6 [] ?_ | refine mxq5 [] ?_ | refine mxq4 [] ?_ | refine mxq3 [] ?_ | refine mxq2 [] ?_ | refine mxq1 [] ?_ | refine mxq0 [] ?_ | fail); (simp only [go_sem])) | fail)
  (refine hR _ ?_; refine rat [] (hK := ⟨rfl, rfl⟩))
theorem wth_fst (a : E) (L : List T) (i : Nat) (hL : ∀ t ∈ L, t.depth ≤ 4) (iha : ∀ i, i + a.nt ≤ L.length → a.wf = true → WithC L a i) (hi : i + (E.fst a).nt ≤ L.length) (hb : L.length < 1000000) (hw : (E.fst a).wf = true) : WithC L (E.fst a) i := by
  have hno := l1CopyNo
  simp only [noTy, go_sem] at hno
  simp only [E.nt] at hi
  simp only [E.wf] at hw
  have h1 := iha (i) (by omega) hw
  unfold WithC at h1
  have e0 : wtA (E.fst a) L i = .fst  (wtA a L (i)) := by
    unfold wtA
    rfl
  have e1 : i + (E.fst a).nt = i + a.nt := by simp only [E.nt] <;> omega
  unfold WithC
  rw [e0, e1]
  generalize wtA a L (i) = a2 at *
  simp only [E.tm, nd, noTy]
  clear e0 e1 iha
  generalize tyR (L.map T.ty) = R2 at *
  refine fn_in ?_; refine acl_in Try.func132 rfl isfn_132 (Nat.le_of_ble_eq_true rfl) (fun R hR => ?_); rw [Try.results132] at hR; refine wg_run ?_; (simp only [Try.f132, go_sem])
  repeat' (first | (first | (((first | apply sp1 | apply sp2 | apply sp3 | apply sp4 | apply sp5 | apply sp6 | apply sp7) <;> intro hb) <;> (simp only [go_sem, hb])) | ((first | apply wm_done | apply wt_done | apply wg_run | refine fk ?_ ?_) <;> (simp only [go_sem]))) | (first | refine cdq ?_ (hc := hno) | refine cmq ?_ (hc := hno) | refine ctq ?_ (hc := hno)); (simp only [go_sem]) | (first | refine cdq ?_ (hc := h1) | refine cmq ?_ (hc := h1) | refine ctq ?_ (hc := h1)); (simp only [go_sem]) | (first | (refine wl_next (wg_run ?_); (simp only [go_sem])) | refine wd_rounds 6 ?_) | ((first | refine mxq6 [] ?_ | refine mxq5 [] ?_ | refine mxq4 [] ?_ | refine mxq3 [] ?_ | refine mxq2 [] ?_ | refine mxq1 [] ?_ | refine mxq0 [] ?_ | fail); (simp only [go_sem])) | fail)
  (refine hR _ ?_; refine rat [] (hK := ⟨rfl, rfl⟩))
theorem wth_snd (a : E) (L : List T) (i : Nat) (hL : ∀ t ∈ L, t.depth ≤ 4) (iha : ∀ i, i + a.nt ≤ L.length → a.wf = true → WithC L a i) (hi : i + (E.snd a).nt ≤ L.length) (hb : L.length < 1000000) (hw : (E.snd a).wf = true) : WithC L (E.snd a) i := by
  have hno := l1CopyNo
  simp only [noTy, go_sem] at hno
  simp only [E.nt] at hi
  simp only [E.wf] at hw
  have h1 := iha (i) (by omega) hw
  unfold WithC at h1
  have e0 : wtA (E.snd a) L i = .snd  (wtA a L (i)) := by
    unfold wtA
    rfl
  have e1 : i + (E.snd a).nt = i + a.nt := by simp only [E.nt] <;> omega
  unfold WithC
  rw [e0, e1]
  generalize wtA a L (i) = a2 at *
  simp only [E.tm, nd, noTy]
  clear e0 e1 iha
  generalize tyR (L.map T.ty) = R2 at *
  refine fn_in ?_; refine acl_in Try.func132 rfl isfn_132 (Nat.le_of_ble_eq_true rfl) (fun R hR => ?_); rw [Try.results132] at hR; refine wg_run ?_; (simp only [Try.f132, go_sem])
  repeat' (first | (first | (((first | apply sp1 | apply sp2 | apply sp3 | apply sp4 | apply sp5 | apply sp6 | apply sp7) <;> intro hb) <;> (simp only [go_sem, hb])) | ((first | apply wm_done | apply wt_done | apply wg_run | refine fk ?_ ?_) <;> (simp only [go_sem]))) | (first | refine cdq ?_ (hc := hno) | refine cmq ?_ (hc := hno) | refine ctq ?_ (hc := hno)); (simp only [go_sem]) | (first | refine cdq ?_ (hc := h1) | refine cmq ?_ (hc := h1) | refine ctq ?_ (hc := h1)); (simp only [go_sem]) | (first | (refine wl_next (wg_run ?_); (simp only [go_sem])) | refine wd_rounds 6 ?_) | ((first | refine mxq6 [] ?_ | refine mxq5 [] ?_ | refine mxq4 [] ?_ | refine mxq3 [] ?_ | refine mxq2 [] ?_ | refine mxq1 [] ?_ | refine mxq0 [] ?_ | fail); (simp only [go_sem])) | fail)
  (refine hR _ ?_; refine rat [] (hK := ⟨rfl, rfl⟩))
theorem wth_asc (t : T) (a : E) (L : List T) (i : Nat) (hL : ∀ t ∈ L, t.depth ≤ 4) (iha : ∀ i, i + a.nt ≤ L.length → a.wf = true → WithC L a i) (hi : i + (E.asc t a).nt ≤ L.length) (hb : L.length < 1000000) (hw : (E.asc t a).wf = true) : WithC L (E.asc t a) i := by
  have hno := l1CopyNo
  simp only [noTy, go_sem] at hno
  simp only [E.nt] at hi
  simp only [E.wf, Bool.and_eq_true, decide_eq_true_eq] at hw
  obtain ⟨u, hd, hu, hg⟩ := drop_get (L := L) (i := i) (by omega)
  have hcu := l1CopyT (hL u hu)
  have hct := l1CopyT (hw.1)
  have hw1 : IntKind.i64.wrap ((i : Int) + 1) = ((i + 1 : Nat) : Int) := by rw [IntWalk.i64_in _ (by omega)]; omega
  have h1 := iha (i + 1) (by omega) hw.2
  unfold WithC at h1
  have e0 : wtA (E.asc t a) L i = .asc u (wtA a L (i + 1)) := by
    unfold wtA
    rw [hd]; rfl
  have e1 : i + (E.asc t a).nt = i + 1 + a.nt := by simp only [E.nt] <;> omega
  unfold WithC
  rw [e0, e1]
  generalize wtA a L (i + 1) = a2 at *
  simp only [E.tm, nd, noTy]
  clear e0 e1 iha
  generalize tyR (L.map T.ty) = R2 at *
  refine fn_in ?_; refine acl_in Try.func132 rfl isfn_132 (Nat.le_of_ble_eq_true rfl) (fun R hR => ?_); rw [Try.results132] at hR; refine wg_run ?_; (simp only [Try.f132, go_sem])
  repeat' (first | (first | (simp only [go_sem, hg, hw1]) | (((first | apply sp1 | apply sp2 | apply sp3 | apply sp4 | apply sp5 | apply sp6 | apply sp7) <;> intro hb) <;> (simp only [go_sem, hb, hg, hw1])) | ((first | apply wm_done | apply wt_done | apply wg_run | refine fk ?_ ?_) <;> (simp only [go_sem, hg, hw1]))) | (first | refine cdq ?_ (hc := hno) | refine cmq ?_ (hc := hno) | refine ctq ?_ (hc := hno)); (simp only [go_sem]) | (first | refine cdq ?_ (hc := hcu) | refine cmq ?_ (hc := hcu) | refine ctq ?_ (hc := hcu)); (simp only [go_sem]) | (first | refine cdq ?_ (hc := hct) | refine cmq ?_ (hc := hct) | refine ctq ?_ (hc := hct)); (simp only [go_sem]) | (first | refine cdq ?_ (hc := h1) | refine cmq ?_ (hc := h1) | refine ctq ?_ (hc := h1)); (simp only [go_sem]) | (first | (refine wl_next (wg_run ?_); (simp only [go_sem])) | refine wd_rounds 6 ?_) | ((first | refine mxq6 [] ?_ | refine mxq5 [] ?_ | refine mxq4 [] ?_ | refine mxq3 [] ?_ | refine mxq2 [] ?_ | refine mxq1 [] ?_ | refine mxq0 [] ?_ | fail); (simp only [go_sem, hg, hw1])) | fail)
  (refine hR _ ?_; refine rat [] (hK := ⟨rfl, rfl⟩))
theorem l2With (L : List T) (hL : ∀ t ∈ L, t.depth ≤ 4) (hb : L.length < 1000000) (e : E) : e.noC = true → ∀ i, i + e.nt ≤ L.length → e.wf = true → WithC L e i := by
  induction e with
  | var x => intro hn i hi hw; exact wth_var x L i hL hi hb hw
  | num x => intro hn i hi hw; exact wth_num x L i hL hi hb hw
  | tru => intro hn i hi hw; exact wth_tru L i hL hi hb hw
  | fls => intro hn i hi hw; exact wth_fls L i hL hi hb hw
  | lam x t a iha => intro hn i hi hw; exact wth_lam x t a L i hL (iha hn) hi hb hw
  | asc t a iha => intro hn i hi hw; exact wth_asc t a L i hL (iha hn) hi hb hw
  | fst a iha => intro hn i hi hw; exact wth_fst a L i hL (iha hn) hi hb hw
  | snd a iha => intro hn i hi hw; exact wth_snd a L i hL (iha hn) hi hb hw
  | app a b iha ihb => intro hn i hi hw; simp only [E.noC, Bool.and_eq_true] at hn; exact wth_app a b L i hL (iha hn.1) (ihb hn.2) hi hb hw
  | add a b iha ihb => intro hn i hi hw; simp only [E.noC, Bool.and_eq_true] at hn; exact wth_add a b L i hL (iha hn.1) (ihb hn.2) hi hb hw
  | less a b iha ihb => intro hn i hi hw; simp only [E.noC, Bool.and_eq_true] at hn; exact wth_less a b L i hL (iha hn.1) (ihb hn.2) hi hb hw
  | pair a b iha ihb => intro hn i hi hw; simp only [E.noC, Bool.and_eq_true] at hn; exact wth_pair a b L i hL (iha hn.1) (ihb hn.2) hi hb hw
  | ite a b c iha ihb ihc => intro hn i hi hw; simp only [E.noC, Bool.and_eq_true] at hn; exact wth_ite a b c L i hL (iha hn.1) (ihb hn.2.1) (ihc hn.2.2) hi hb hw
  | cast s t k a ih => intro hn; simp [E.noC] at hn
theorem sTermTypesO (e : E) (h : e.okT = true) : ACl Try.prog 46 [.agg (teC e.tm)] [] (fun r H' => r = .one (.row 2 0 e.nt) ∧ H' = [⟨2, 32, .mut, tyR (e.tl.map T.ty)⟩]) := by
  have h' := h
  simp only [E.okT, Bool.and_eq_true, decide_eq_true_eq] at h'
  have hz := E.size_okT h
  have hv := sTermV e.tm (by omega)
  rw [E.termV_tm, h] at hv
  have hnl := e.tm.nodes_le
  have hc := l2Types _ (Nat.le_refl _) e.tm (by omega) [] (by simp) (by simp; omega)
  simp only [List.length_nil, List.nil_append, tyR] at hc
  rw [E.types_tm e h'.2.1, List.length_map, E.tl_length] at hc
  generalize e.nt = n at *
  generalize e.tl = L at *
  generalize e.tm = t at *
  refine acl_in Try.func46 rfl isfn_46 (Nat.le_of_ble_eq_true rfl) (fun R hR => ?_); rw [Try.results46] at hR; refine wg_run ?_; (simp only [Try.f46, go_sem])
  repeat' (first | (first | (((first | apply sp1 | apply sp2 | apply sp3 | apply sp4 | apply sp5 | apply sp6 | apply sp7) <;> intro hb) <;> (simp only [go_sem, hb])) | ((first | apply wm_done | apply wt_done | apply wg_run | refine fk ?_ ?_) <;> (simp only [go_sem]))) | (first | refine cdq ?_ (hc := hv) | refine cmq ?_ (hc := hv) | refine ctq ?_ (hc := hv)); (simp only [go_sem]) | ((first | refine kdq [1] ?_ (hc := hc) | refine kmq [1] ?_ (hc := hc) | refine ktq [1] ?_ (hc := hc)); rintro _ _ (⟨rfl, rfl⟩ | ⟨rfl, rfl⟩) <;> (simp only [go_sem])))
  · exact hR _ (rwn [1] (hK := ⟨rfl, rfl⟩))
  · exact hR _ (rwn [2] (hK := ⟨rfl, rfl⟩))
theorem sTermTypesBad (t : Tm) (h : t.termV = false) (hz : t.size < 1000000000) : AFn Try.prog 46 [.agg (teC t)] (.one (.sl [])) := by
  have := sTermTypes t (by omega)
  unfold Tm.typesV at this
  rw [h] at this
  exact this
theorem sWithTypes (e : E) (h : e.okT = true) (L : List T) (hL : ∀ t ∈ L, t.depth ≤ 4) (hlen : L.length = e.nt) : AFn Try.prog 89 [.agg (teC e.tm), .one (.sl (tyR (L.map T.ty)))] (.tup [.agg (teC (e.wt L).1.tm), .one (.sc (.bool true))]) := by
  have h' := h
  simp only [E.okT, Bool.and_eq_true, decide_eq_true_eq] at h'
  have hz := E.size_okT h
  have hn30 := nt30 h
  have hv := sTermV e.tm (by omega)
  rw [E.termV_tm, h] at hv
  have h1 := sTermTypes e.tm (by omega)
  rw [typesV_E h] at h1
  have hnl := e.tl_length
  have hw := l2With L hL (by omega) e h'.2.1 0 (by omega) h'.1
  unfold WithC wtA at hw
  rw [List.drop_zero] at hw
  simp only [Int.natCast_zero] at hw
  have hz0 : L.length = e.tl.length := by omega
  generalize (0 + e.nt) = n2 at hw
  generalize e.tl = M at *
  generalize (e.wt L).1.tm = t2 at *
  generalize e.tm = t at *
  refine fn_in ?_; refine acl_in Try.func89 rfl isfn_89 (Nat.le_of_ble_eq_true rfl) (fun R hR => ?_); rw [Try.results89] at hR; refine wg_run ?_; (simp only [Try.f89, go_sem])
  repeat' (first | (first | (simp only [go_sem, int_bne, beq_self_eq_true, hz0, List.length_map]) | (((first | apply sp1 | apply sp2 | apply sp3 | apply sp4 | apply sp5 | apply sp6 | apply sp7) <;> intro hb) <;> (simp only [go_sem, hb, int_bne, beq_self_eq_true, hz0, List.length_map])) | ((first | apply wm_done | apply wt_done | apply wg_run | refine fk ?_ ?_) <;> (simp only [go_sem, int_bne, beq_self_eq_true, hz0, List.length_map]))) | (first | refine cdq ?_ (hc := hv) | refine cmq ?_ (hc := hv) | refine ctq ?_ (hc := hv)); (simp only [go_sem]) | (first | refine cdq ?_ (hc := h1) | refine cmq ?_ (hc := h1) | refine ctq ?_ (hc := h1)); (simp only [go_sem]) | ((first | refine mxq6 [] ?_ | refine mxq5 [] ?_ | refine mxq4 [] ?_ | refine mxq3 [] ?_ | refine mxq2 [] ?_ | refine mxq1 [] ?_ | refine mxq0 [] ?_ | fail); (simp only [go_sem, int_bne, beq_self_eq_true, hz0, List.length_map])) | fail)
  refine wd_for [1, 2, 4, 6] (fun k => [.one (.sl (tyR (L.map T.ty))), .one (.ptr 9 0 0 0), .one (.ptr 9 1 0 0), .one (.sc (.int .i64 (k : Nat)))])
    (fun k => [⟨9, 35, .mut, [teC t]⟩, ⟨9, 35, .mut, [[.sc (.int .i64 0), .sc (.string { data := { toList := [] } }), .sc (.int .i64 0), .sc (.int .i64 0), .sc (.slice none 0 0), .sc (.int .i64 0), .sc (.slice none 0 0), .sc (.int .i64 0), .sc (.slice none 0 0)]]⟩])
    (fun k => k ≤ L.length) (fun k => L.length - k) 0 (Nat.zero_le _) (hat [0, 1] (hI := ⟨rfl, rfl⟩)) ?_
  rintro k hk G hG
  refine wg_run ?_
  by_cases hk1 : k < L.length
  · have d1 : decide ((k : Int) < (L.length : Nat)) = true := by simp; omega
    have hw1 := wrap_succ hk1 (by omega)
    obtain ⟨u, hd, hu, hg⟩ := drop_get hk1
    have hvu := sValid u.ty
    rw [show u.ty.valid = true from (Ty.valid_iff _).2 ⟨u, rfl, hL u hu⟩] at hvu
    repeat' (first | (first | (simp only [go_sem, hw1, d1, hg, List.length_map]) | (((first | apply sp1 | apply sp2 | apply sp3 | apply sp4 | apply sp5 | apply sp6 | apply sp7) <;> intro hb) <;> (simp only [go_sem, hb, hw1, d1, hg, List.length_map])) | ((first | apply wm_done | apply wt_done | apply wg_run | refine fk ?_ ?_) <;> (simp only [go_sem, hw1, d1, hg, List.length_map]))) | (first | refine cdq ?_ (hc := hvu) | refine cmq ?_ (hc := hvu) | refine ctq ?_ (hc := hvu)); (simp only [go_sem]) | ((first | refine mxq6 [] ?_ | refine mxq5 [] ?_ | refine mxq4 [] ?_ | refine mxq3 [] ?_ | refine mxq2 [] ?_ | refine mxq1 [] ?_ | refine mxq0 [] ?_ | fail); (simp only [go_sem, hw1, d1, hg, List.length_map])) | fail)
    exact hG (k + 1) _ _ (by omega) (by omega) (hat [0, 1] (hI := ⟨rfl, rfl⟩))
  · have d1 : decide ((k : Int) < (L.length : Nat)) = false := by simp; omega
    clear hG
    repeat' (first | (first | (simp only [go_sem, d1, List.length_map]) | (((first | apply sp1 | apply sp2 | apply sp3 | apply sp4 | apply sp5 | apply sp6 | apply sp7) <;> intro hb) <;> (simp only [go_sem, hb, d1, List.length_map])) | ((first | apply wm_done | apply wt_done | apply wg_run | refine fk ?_ ?_) <;> (simp only [go_sem, d1, List.length_map]))) | (first | refine cdq ?_ (hc := hw) | refine cmq ?_ (hc := hw) | refine ctq ?_ (hc := hw)); (simp only [go_sem]) | ((first | refine mxq6 [] ?_ | refine mxq5 [] ?_ | refine mxq4 [] ?_ | refine mxq3 [] ?_ | refine mxq2 [] ?_ | refine mxq1 [] ?_ | refine mxq0 [] ?_ | fail); (simp only [go_sem, d1, List.length_map])) | fail)
    (refine hR _ (rat [] (hK := ⟨rfl, rfl⟩)))
theorem sWithBad (t : Tm) (h : t.termV = false) (hz : t.size < 1000000000) : AFn Try.prog 89 [.agg (teC t), .one (.sl [])] (.tup [.agg (teC tm0), .one (.sc (.bool false))]) := by
  have hv := sTermV t (by omega)
  rw [h] at hv
  have h1 := sTermTypesBad t h hz
  simp only [tm0, noTy]
  refine fn_in ?_; refine acl_in Try.func89 rfl isfn_89 (Nat.le_of_ble_eq_true rfl) (fun R hR => ?_); rw [Try.results89] at hR; refine wg_run ?_; (simp only [Try.f89, go_sem])
  repeat' (first | (first | (simp only [go_sem, int_bne, beq_self_eq_true]) | (((first | apply sp1 | apply sp2 | apply sp3 | apply sp4 | apply sp5 | apply sp6 | apply sp7) <;> intro hb) <;> (simp only [go_sem, hb, int_bne, beq_self_eq_true])) | ((first | apply wm_done | apply wt_done | apply wg_run | refine fk ?_ ?_) <;> (simp only [go_sem, int_bne, beq_self_eq_true]))) | (first | refine cdq ?_ (hc := hv) | refine cmq ?_ (hc := hv) | refine ctq ?_ (hc := hv)); (simp only [go_sem]) | (first | refine cdq ?_ (hc := h1) | refine cmq ?_ (hc := h1) | refine ctq ?_ (hc := h1)); (simp only [go_sem]) | ((first | refine mxq6 [] ?_ | refine mxq5 [] ?_ | refine mxq4 [] ?_ | refine mxq3 [] ?_ | refine mxq2 [] ?_ | refine mxq1 [] ?_ | refine mxq0 [] ?_ | fail); (simp only [go_sem, int_bne, beq_self_eq_true])) | fail)
  (refine hR _ (rat [] (hK := ⟨rfl, rfl⟩)))
theorem sBlurTerm (e : E) (h : e.okT = true) (m : Nat) (hm : m < 2 ^ e.nt) : AFn Try.prog 40 [.agg (teC e.tm), .one (.sc (.int .i64 (m : Nat)))] (.tup [.agg (teC (e.blur m).tm), .one (.sc (.bool true))]) := by
  have h' := h
  simp only [E.okT, Bool.and_eq_true, decide_eq_true_eq] at h'
  have hn30 := nt30 h
  have hp30 : 2 ^ e.nt ≤ 2 ^ 30 := Nat.pow_le_pow_right (by omega) hn30
  have hc := sTermTypesO e h
  have hnl := e.tl_length
  have hwt := sWithTypes e h (blurL m e.tl) (blurL_depth _ (E.tl_depth e h'.1 h'.2.1)) (by rw [blurL_length, hnl])
  rw [show (e.wt (blurL m e.tl)).1 = e.blur m from rfl] at hwt
  have hb1 := l1Any
  have hs := shl_at e.nt (by omega)
  have d0 : decide ((m : Int) < 0) = false := decide_eq_false (by omega)
  have d2 : decide ((m : Int) ≥ ((2 ^ e.nt : Nat) : Int)) = false := decide_eq_false (by generalize 2 ^ e.nt = x at *; omega)
  have hmb : m < 2 ^ 62 := by omega
  generalize 2 ^ e.nt = x at *
  generalize e.tl = L at *
  generalize e.tm = t at *
  generalize (e.blur m).tm = t2 at *
  generalize e.nt = n at *
  subst hnl
  refine fn_in ?_; refine acl_in Try.func40 rfl isfn_40 (Nat.le_of_ble_eq_true rfl) (fun R hR => ?_); rw [Try.results40] at hR; refine wg_run ?_; (simp only [Try.f40, go_sem])
  repeat' (first | (first | (simp only [go_sem, hs, d0, d2]) | (((first | apply sp1 | apply sp2 | apply sp3 | apply sp4 | apply sp5 | apply sp6 | apply sp7) <;> intro hb) <;> (simp only [go_sem, hb, hs, d0, d2])) | ((first | apply wm_done | apply wt_done | apply wg_run | refine fk ?_ ?_) <;> (simp only [go_sem, hs, d0, d2]))) | ((first | refine kdq [] ?_ (hc := hc) | refine kmq [] ?_ (hc := hc) | refine ktq [] ?_ (hc := hc)); rintro _ _ ⟨rfl, rfl⟩ <;> (simp only [go_sem])) | ((first | refine mxq6 [] ?_ | refine mxq5 [] ?_ | refine mxq4 [] ?_ | refine mxq3 [] ?_ | refine mxq2 [] ?_ | refine mxq1 [] ?_ | refine mxq0 [] ?_ | fail); (simp only [go_sem, hs, d0, d2])) | fail)
  refine wd_for [1, 2, 4, 6, 7] (fun k => [.one (.sc (.int .i64 (m : Nat))), .one (.ptr 9 0 0 0), .one (.ptr 9 1 0 0), .one (.row 2 2 L.length), .one (.sc (.int .i64 (k : Nat)))])
    (fun k => [⟨9, 35, .mut, [teC t]⟩, ⟨9, 35, .mut, [[.sc (.int .i64 0), .sc (.string { data := { toList := [] } }), .sc (.int .i64 0), .sc (.int .i64 0), .sc (.slice none 0 0), .sc (.int .i64 0), .sc (.slice none 0 0), .sc (.int .i64 0), .sc (.slice none 0 0)]]⟩, ⟨2, 32, .mut, tyR ((blurK m L k).map T.ty)⟩])
    (fun k => k ≤ L.length) (fun k => L.length - k) 0 (Nat.zero_le _) (hat [0, 1, 2] (hI := ⟨rfl, by rw [blurK_zero]⟩)) ?_
  rintro k hk G hG
  refine wg_run ?_
  by_cases hk1 : k < L.length
  · have d1 : decide ((k : Int) < (L.length : Nat)) = true := by simp; omega
    have hw1 := wrap_succ hk1 (by omega)
    have hin : decide (k < L.length) = true := by simpa using hk1
    obtain ⟨c1, c2, hg⟩ : ∃ c1 c2, (tyR ((blurK m L k).map T.ty))[k]? = some [c1, c2] := by
      rw [tyR_get, List.getElem?_map, blurK_get m L k k hk1]
      exact ⟨_, _, congrArg some (tyC_eq _)⟩
    repeat' (first | (simp only [go_sem, hw1, d1, hin]) | ((first | refine mxq6 [] ?_ | refine mxq5 [] ?_ | refine mxq4 [] ?_ | refine mxq3 [] ?_ | refine mxq2 [] ?_ | refine mxq1 [] ?_ | refine mxq0 [] ?_ | fail); (simp only [go_sem, hw1, d1, hin])) | ((first | apply wm_done | apply wt_done | apply wg_run) <;> (simp only [go_sem, hw1, d1, hin])) | fail)
    ((first | apply sp1 | apply sp2 | apply sp3 | apply sp4 | apply sp5 | apply sp6 | apply sp7) <;> intro hb)
    · have htb : m.testBit k = true := by rw [← bit_at m k hmb (by omega)]; exact hb
      have hset := tyRset ((blurK m L k).map T.ty) k T.any.ty
      rw [← List.map_set, blurK_set m L hk1 htb] at hset
      clear hb
      repeat' (first | (first | (simp only [go_sem, hw1, d1, hin, hg, hset]) | (((first | apply sp1 | apply sp2 | apply sp3 | apply sp4 | apply sp5 | apply sp6 | apply sp7) <;> intro hb) <;> (simp only [go_sem, hb, hw1, d1, hin, hg, hset])) | ((first | apply wm_done | apply wt_done | apply wg_run | refine fk ?_ ?_) <;> (simp only [go_sem, hw1, d1, hin, hg, hset]))) | (first | refine cdq ?_ (hc := hb1) | refine cmq ?_ (hc := hb1) | refine ctq ?_ (hc := hb1)); (simp only [go_sem]) | ((first | refine mxq6 [] ?_ | refine mxq5 [] ?_ | refine mxq4 [] ?_ | refine mxq3 [] ?_ | refine mxq2 [] ?_ | refine mxq1 [] ?_ | refine mxq0 [] ?_ | fail); (simp only [go_sem, hw1, d1, hin, hg, hset])) | fail)
      exact hG (k + 1) _ _ (by omega) (by omega) (hat [0, 1, 2] (hI := ⟨rfl, rfl⟩))
    · have htb : m.testBit k = false := by rw [← bit_at m k hmb (by omega)]; exact hb
      clear hb
      repeat' (first | (first | (simp only [go_sem, hw1, d1, hin]) | (((first | apply sp1 | apply sp2 | apply sp3 | apply sp4 | apply sp5 | apply sp6 | apply sp7) <;> intro hb) <;> (simp only [go_sem, hb, hw1, d1, hin])) | ((first | apply wm_done | apply wt_done | apply wg_run | refine fk ?_ ?_) <;> (simp only [go_sem, hw1, d1, hin]))) | ((first | refine mxq6 [] ?_ | refine mxq5 [] ?_ | refine mxq4 [] ?_ | refine mxq3 [] ?_ | refine mxq2 [] ?_ | refine mxq1 [] ?_ | refine mxq0 [] ?_ | fail); (simp only [go_sem, hw1, d1, hin])) | fail)
      exact hG (k + 1) _ _ (by omega) (by omega) (hat [0, 1, 2] (hI := ⟨rfl, by rw [blurK_keep m L hk1 htb]⟩))
  · have d1 : decide ((k : Int) < (L.length : Nat)) = false := by simp; omega
    have hb0 : blurK m L k = blurL m L := blurK_all m L (by omega)
    have hlb : (blurL m L).length = L.length := blurL_length m L
    have htk : (tyR ((blurL m L).map T.ty)).take L.length = tyR ((blurL m L).map T.ty) := List.take_of_length_le (by rw [tyR_length, List.length_map, hlb]; exact Nat.le_refl _)
    rw [hb0]
    clear hG
    repeat' (first | (first | (simp only [go_sem, d1, hlb, htk, List.length_map]) | (((first | apply sp1 | apply sp2 | apply sp3 | apply sp4 | apply sp5 | apply sp6 | apply sp7) <;> intro hb) <;> (simp only [go_sem, hb, d1, hlb, htk, List.length_map])) | ((first | apply wm_done | apply wt_done | apply wg_run | refine fk ?_ ?_) <;> (simp only [go_sem, d1, hlb, htk, List.length_map]))) | (first | refine cd (hp := (by (simp only [go_sem, hlb, htk, List.length_map]); first | done | rfl)) (hc := hwt) (hK := ?_) | refine cm (hp := (by (simp only [go_sem, hlb, htk, List.length_map]); first | done | rfl)) (hc := hwt) (hK := ?_) | refine ct (hp := (by (simp only [go_sem, hlb, htk, List.length_map]); first | done | rfl)) (hc := hwt) (hK := ?_)); (simp only [go_sem, hlb, htk, List.length_map]) | ((first | refine mxq6 [] ?_ | refine mxq5 [] ?_ | refine mxq4 [] ?_ | refine mxq3 [] ?_ | refine mxq2 [] ?_ | refine mxq1 [] ?_ | refine mxq0 [] ?_ | fail); (simp only [go_sem, d1, hlb, htk, List.length_map])) | fail)
    (refine hR _ (rat [] (hK := ⟨rfl, rfl⟩)))
theorem sBlurNot (e : E) (h : e.okT = true) (m : Int) (hm : m < 0 ∨ ((2 ^ e.nt : Nat) : Int) ≤ m) : AFn Try.prog 40 [.agg (teC e.tm), .one (.sc (.int .i64 m))] (.tup [.agg (teC tm0), .one (.sc (.bool false))]) := by
  have hn30 := nt30 h
  have hc := sTermTypesO e h
  have hs := shl_at e.nt (by omega)
  generalize 2 ^ e.nt = x at *
  generalize e.tl = L at *
  generalize e.tm = t at *
  generalize e.nt = n at *
  simp only [tm0, noTy]
  by_cases h0 : m < 0
  · have d0 : decide (m < 0) = true := decide_eq_true h0
    refine fn_in ?_; refine acl_in Try.func40 rfl isfn_40 (Nat.le_of_ble_eq_true rfl) (fun R hR => ?_); rw [Try.results40] at hR; refine wg_run ?_; (simp only [Try.f40, go_sem])
    repeat' (first | (first | (simp only [go_sem, hs, d0]) | (((first | apply sp1 | apply sp2 | apply sp3 | apply sp4 | apply sp5 | apply sp6 | apply sp7) <;> intro hb) <;> (simp only [go_sem, hb, hs, d0])) | ((first | apply wm_done | apply wt_done | apply wg_run | refine fk ?_ ?_) <;> (simp only [go_sem, hs, d0]))) | ((first | refine kdq [] ?_ (hc := hc) | refine kmq [] ?_ (hc := hc) | refine ktq [] ?_ (hc := hc)); rintro _ _ ⟨rfl, rfl⟩ <;> (simp only [go_sem])) | ((first | refine mxq6 [] ?_ | refine mxq5 [] ?_ | refine mxq4 [] ?_ | refine mxq3 [] ?_ | refine mxq2 [] ?_ | refine mxq1 [] ?_ | refine mxq0 [] ?_ | fail); (simp only [go_sem, hs, d0])) | fail)
    (refine hR _ (rat [] (hK := ⟨rfl, rfl⟩)))
  · have d0 : decide (m < 0) = false := decide_eq_false h0
    have d2 : decide (m ≥ (x : Int)) = true := decide_eq_true (by omega)
    refine fn_in ?_; refine acl_in Try.func40 rfl isfn_40 (Nat.le_of_ble_eq_true rfl) (fun R hR => ?_); rw [Try.results40] at hR; refine wg_run ?_; (simp only [Try.f40, go_sem])
    repeat' (first | (first | (simp only [go_sem, hs, d0, d2]) | (((first | apply sp1 | apply sp2 | apply sp3 | apply sp4 | apply sp5 | apply sp6 | apply sp7) <;> intro hb) <;> (simp only [go_sem, hb, hs, d0, d2])) | ((first | apply wm_done | apply wt_done | apply wg_run | refine fk ?_ ?_) <;> (simp only [go_sem, hs, d0, d2]))) | ((first | refine kdq [] ?_ (hc := hc) | refine kmq [] ?_ (hc := hc) | refine ktq [] ?_ (hc := hc)); rintro _ _ ⟨rfl, rfl⟩ <;> (simp only [go_sem])) | ((first | refine mxq6 [] ?_ | refine mxq5 [] ?_ | refine mxq4 [] ?_ | refine mxq3 [] ?_ | refine mxq2 [] ?_ | refine mxq1 [] ?_ | refine mxq0 [] ?_ | fail); (simp only [go_sem, hs, d0, d2])) | fail)
    (refine hR _ (rat [] (hK := ⟨rfl, rfl⟩)))
theorem sBlurBad (t : Tm) (h : t.termV = false) (hz : t.size < 1000000000) (m : Int) : AFn Try.prog 40 [.agg (teC t), .one (.sc (.int .i64 m))] (.tup [.agg (teC tm0), .one (.sc (.bool false))]) := by
  have h1 := sTermTypesBad t h hz
  have h2 := sWithBad t h hz
  have hs := shl_at 0 (by omega)
  simp only [Int.natCast_zero, Nat.zero_min, Int.pow_zero] at hs
  simp only [tm0, noTy] at h2 ⊢
  refine fn_in ?_; refine acl_in Try.func40 rfl isfn_40 (Nat.le_of_ble_eq_true rfl) (fun R hR => ?_); rw [Try.results40] at hR; refine wg_run ?_; (simp only [Try.f40, go_sem])
  repeat' (first | (first | (simp only [go_sem, hs]) | (((first | apply sp1 | apply sp2 | apply sp3 | apply sp4 | apply sp5 | apply sp6 | apply sp7) <;> intro hb) <;> (simp only [go_sem, hb, hs])) | ((first | apply wm_done | apply wt_done | apply wg_run | refine fk ?_ ?_) <;> (simp only [go_sem, hs]))) | (first | refine cdq ?_ (hc := h1) | refine cmq ?_ (hc := h1) | refine ctq ?_ (hc := h1)); (simp only [go_sem]) | (first | refine cdq ?_ (hc := h2) | refine cmq ?_ (hc := h2) | refine ctq ?_ (hc := h2)); (simp only [go_sem]) | (first | (refine wl_next (wg_run ?_); (simp only [go_sem])) | refine wd_rounds 6 ?_) | ((first | refine mxq6 [] ?_ | refine mxq5 [] ?_ | refine mxq4 [] ?_ | refine mxq3 [] ?_ | refine mxq2 [] ?_ | refine mxq1 [] ?_ | refine mxq0 [] ?_ | fail); (simp only [go_sem, hs])) | fail)
  all_goals (refine hR _ (rat [] (hK := ⟨rfl, rfl⟩)))
end Go.Proofs.Ytchcbfbnffhifaa
