/- Texts of the proof, one behind another. -/
import Derived.Test.YtfgjiamolknicaaKW17
import Derived.Test.YtfgjiamolknicaaKW18
import Derived.Test.YtfgjiamolknicaaKW19
import Derived.Test.YtfgjiamolknicaaKW20
set_option linter.unusedSimpArgs false
set_option linter.unusedVariables false
/- Substitution into valid terms, in the program and in the reference. On shadows. -/
namespace Go.Proofs.Grad
theorem bsOf_nil_beq (l : List UInt8) : ((bsOf l).toList == ByteArray.toList { data := { toList := [] } }) = (l.length == 0) := by rw [Sh.bytes_nil, bsOf_size]
/-- no name stands free -/
def E.closed (e : E) : Bool := (names (fun x => e.fr x)).length == 0
/-- when a substitution is taken up -/
noncomputable def subOk (x : Tm) (s : ByteArray) (v : E) : Bool := x.termV && (v.okT && (nmOk s && v.closed))
end Go.Proofs.Grad
namespace Go.Proofs.Ytfgjiamolknicaa
open Go.RowKit Go.Proofs.Sh Go.Proofs.Grad
set_option maxRecDepth 100000
set_option maxHeartbeats 8000000
theorem okT_depth {e : E} (h : e.okT = true) : e.wf = true ∧ e.depth < 1000 := by
  simp only [E.okT, Bool.and_eq_true, decide_eq_true_eq] at h; exact ⟨h.1, by omega⟩
theorem iSubBad (x : Tm) (s : ByteArray) (v : E) (h : subOk x s v = false) : AFn Try.prog 20 [.agg (teC x), .one (.sc (.string s)), .agg (teC v.tm)] (.tup [.agg (teC tm0), .one (.sc (.bool false))]) := by
  have h1 := iTermV x
  have h2 := iTermV v.tm
  have h3 := iIsName s
  rw [E.termV_tm] at h2
  simp only [tm0, noTy]
  unfold subOk at h
  cases e1 : x.termV
  · rw [e1] at h1
    generalize v.tm = v1 at *
    refine fn_in ?_; refine acl_in Try.func20 rfl isfn_20 (Nat.le_of_ble_eq_true rfl) (fun R hR => ?_); rw [Try.results20] at hR; refine wg_run ?_; (simp only [Try.f20, go_sem])
    repeat' (first | (first | (((first | apply sp1 | apply sp2 | apply sp3 | apply sp4 | apply sp5 | apply sp6 | apply sp7) <;> intro hb) <;> (simp only [go_sem, hb])) | ((first | apply wm_done | apply wt_done | apply wg_run | refine fk ?_ ?_) <;> (simp only [go_sem]))) | (first | refine cdq ?_ (hc := h1) | refine cmq ?_ (hc := h1) | refine ctq ?_ (hc := h1)); (simp only [go_sem]) | fail)
    (refine hR _ (rat [] (hK := ⟨rfl, rfl⟩)))
  · rw [e1] at h1
    cases e2 : v.okT
    · rw [e2] at h2
      generalize v.tm = v1 at *
      refine fn_in ?_; refine acl_in Try.func20 rfl isfn_20 (Nat.le_of_ble_eq_true rfl) (fun R hR => ?_); rw [Try.results20] at hR; refine wg_run ?_; (simp only [Try.f20, go_sem])
      repeat' (first | (first | (((first | apply sp1 | apply sp2 | apply sp3 | apply sp4 | apply sp5 | apply sp6 | apply sp7) <;> intro hb) <;> (simp only [go_sem, hb])) | ((first | apply wm_done | apply wt_done | apply wg_run | refine fk ?_ ?_) <;> (simp only [go_sem]))) | (first | refine cdq ?_ (hc := h1) | refine cmq ?_ (hc := h1) | refine ctq ?_ (hc := h1)); (simp only [go_sem]) | (first | refine cdq ?_ (hc := h2) | refine cmq ?_ (hc := h2) | refine ctq ?_ (hc := h2)); (simp only [go_sem]) | fail)
      (refine hR _ (rat [] (hK := ⟨rfl, rfl⟩)))
    · rw [e2] at h2
      cases e3 : nmOk s
      · rw [e3] at h3
        generalize v.tm = v1 at *
        refine fn_in ?_; refine acl_in Try.func20 rfl isfn_20 (Nat.le_of_ble_eq_true rfl) (fun R hR => ?_); rw [Try.results20] at hR; refine wg_run ?_; (simp only [Try.f20, go_sem])
        repeat' (first | (first | (((first | apply sp1 | apply sp2 | apply sp3 | apply sp4 | apply sp5 | apply sp6 | apply sp7) <;> intro hb) <;> (simp only [go_sem, hb])) | ((first | apply wm_done | apply wt_done | apply wg_run | refine fk ?_ ?_) <;> (simp only [go_sem]))) | (first | refine cdq ?_ (hc := h1) | refine cmq ?_ (hc := h1) | refine ctq ?_ (hc := h1)); (simp only [go_sem]) | (first | refine cdq ?_ (hc := h2) | refine cmq ?_ (hc := h2) | refine ctq ?_ (hc := h2)); (simp only [go_sem]) | (first | refine cdq ?_ (hc := h3) | refine cmq ?_ (hc := h3) | refine ctq ?_ (hc := h3)); (simp only [go_sem]) | fail)
        (refine hR _ (rat [] (hK := ⟨rfl, rfl⟩)))
      · rw [e3] at h3
        rw [e1, e2, e3, Bool.true_and, Bool.true_and, Bool.true_and] at h
        have h4 := iFreeNames0 v (okT_depth e2).1 (okT_depth e2).2
        unfold E.closed at h
        have hb := bsOf_nil_beq (names (fun x => v.fr x))
        rw [h] at hb
        generalize names (fun x => v.fr x) = m at *
        generalize v.tm = v1 at *
        refine fn_in ?_; refine acl_in Try.func20 rfl isfn_20 (Nat.le_of_ble_eq_true rfl) (fun R hR => ?_); rw [Try.results20] at hR; refine wg_run ?_; (simp only [Try.f20, go_sem])
        repeat' (first | (first | (simp only [go_sem, hb]) | (((first | apply sp1 | apply sp2 | apply sp3 | apply sp4 | apply sp5 | apply sp6 | apply sp7) <;> intro hb) <;> (simp only [go_sem, hb, hb])) | ((first | apply wm_done | apply wt_done | apply wg_run | refine fk ?_ ?_) <;> (simp only [go_sem, hb]))) | (first | refine cdq ?_ (hc := h1) | refine cmq ?_ (hc := h1) | refine ctq ?_ (hc := h1)); (simp only [go_sem]) | (first | refine cdq ?_ (hc := h2) | refine cmq ?_ (hc := h2) | refine ctq ?_ (hc := h2)); (simp only [go_sem]) | (first | refine cdq ?_ (hc := h3) | refine cmq ?_ (hc := h3) | refine ctq ?_ (hc := h3)); (simp only [go_sem]) | (first | refine cdq ?_ (hc := h4) | refine cmq ?_ (hc := h4) | refine ctq ?_ (hc := h4)); (simp only [go_sem]) | fail)
        (refine hR _ (rat [] (hK := ⟨rfl, rfl⟩)))
theorem iSubE (e : E) (y : UInt8) (v : E) (h : subOk e.tm (nm y) v = true) : AFn Try.prog 20 [.agg (teC e.tm), .one (.sc (.string (nm y))), .agg (teC v.tm)] (match (e.subst y v).okT with | true => .tup [.agg (teC (e.subst y v).tm), .one (.sc (.bool true))] | false => .tup [.agg (teC tm0), .one (.sc (.bool false))]) := by
  simp only [subOk, Bool.and_eq_true] at h
  obtain ⟨e1, e2, e3, e4⟩ := h
  have h1 := iTermV e.tm
  have h2 := iTermV v.tm
  have h3 := iIsName (nm y)
  have h4 := iFreeNames0 v (okT_depth e2).1 (okT_depth e2).2
  have hb := bsOf_nil_beq (names (fun x => v.fr x))
  unfold E.closed at e4
  rw [e4] at hb
  rw [e1] at h1
  rw [E.termV_tm, e2] at h2
  rw [e3] at h3
  have h5 := iSubst y v e
  have h6 := iTermV (e.subst y v).tm
  rw [E.termV_tm] at h6
  rw [E.termV_tm] at e1
  have h7 := iOwn (e.subst y v) (E.subst_wf (okT_depth e2).1 e (okT_depth e1).1)
  cases e6 : (e.subst y v).okT
  all_goals
    rw [e6] at h6
    simp only [tm0, noTy]
    generalize (e.subst y v).tm = u at *
    generalize names (fun x => v.fr x) = m at *
    generalize v.tm = v1 at *
    generalize e.tm = t at *
    generalize nm y = s at *
    refine fn_in ?_; refine acl_in Try.func20 rfl isfn_20 (Nat.le_of_ble_eq_true rfl) (fun R hR => ?_); rw [Try.results20] at hR; refine wg_run ?_; (simp only [Try.f20, go_sem])
    repeat' (first | (first | (simp only [go_sem, hb]) | (((first | apply sp1 | apply sp2 | apply sp3 | apply sp4 | apply sp5 | apply sp6 | apply sp7) <;> intro hb) <;> (simp only [go_sem, hb, hb])) | ((first | apply wm_done | apply wt_done | apply wg_run | refine fk ?_ ?_) <;> (simp only [go_sem, hb]))) | (first | refine cdq ?_ (hc := h1) | refine cmq ?_ (hc := h1) | refine ctq ?_ (hc := h1)); (simp only [go_sem]) | (first | refine cdq ?_ (hc := h2) | refine cmq ?_ (hc := h2) | refine ctq ?_ (hc := h2)); (simp only [go_sem]) | (first | refine cdq ?_ (hc := h3) | refine cmq ?_ (hc := h3) | refine ctq ?_ (hc := h3)); (simp only [go_sem]) | (first | refine cdq ?_ (hc := h4) | refine cmq ?_ (hc := h4) | refine ctq ?_ (hc := h4)); (simp only [go_sem]) | (first | refine cdq ?_ (hc := h5) | refine cmq ?_ (hc := h5) | refine ctq ?_ (hc := h5)); (simp only [go_sem]) | (first | refine cdq ?_ (hc := h6) | refine cmq ?_ (hc := h6) | refine ctq ?_ (hc := h6)); (simp only [go_sem]) | (first | refine cdq ?_ (hc := h7) | refine cmq ?_ (hc := h7) | refine ctq ?_ (hc := h7)); (simp only [go_sem]) | fail)
    (refine hR _ (rat [] (hK := ⟨rfl, rfl⟩)))
theorem sSubBad (x : Tm) (hx : x.size < 1000000000) (s : ByteArray) (v : E) (hv : v.tm.size < 1000000000) (h : subOk x s v = false) : AFn Try.prog 22 [.agg (teC x), .one (.sc (.string s)), .agg (teC v.tm)] (.tup [.agg (teC tm0), .one (.sc (.bool false))]) := by
  have h1 := sTermV x (by omega)
  have h2 := sTermV v.tm (by omega)
  have h3 := sName s
  rw [E.termV_tm] at h2
  simp only [tm0, noTy]
  unfold subOk at h
  cases e1 : x.termV
  · rw [e1] at h1
    generalize v.tm = v1 at *
    refine fn_in ?_; refine acl_in Try.func22 rfl isfn_22 (Nat.le_of_ble_eq_true rfl) (fun R hR => ?_); rw [Try.results22] at hR; refine wg_run ?_; (simp only [Try.f22, go_sem])
    repeat' (first | (first | (((first | apply sp1 | apply sp2 | apply sp3 | apply sp4 | apply sp5 | apply sp6 | apply sp7) <;> intro hb) <;> (simp only [go_sem, hb])) | ((first | apply wm_done | apply wt_done | apply wg_run | refine fk ?_ ?_) <;> (simp only [go_sem]))) | (first | refine cdq ?_ (hc := h1) | refine cmq ?_ (hc := h1) | refine ctq ?_ (hc := h1)); (simp only [go_sem]) | fail)
    (refine hR _ (rat [] (hK := ⟨rfl, rfl⟩)))
  · rw [e1] at h1
    cases e2 : v.okT
    · rw [e2] at h2
      generalize v.tm = v1 at *
      refine fn_in ?_; refine acl_in Try.func22 rfl isfn_22 (Nat.le_of_ble_eq_true rfl) (fun R hR => ?_); rw [Try.results22] at hR; refine wg_run ?_; (simp only [Try.f22, go_sem])
      repeat' (first | (first | (((first | apply sp1 | apply sp2 | apply sp3 | apply sp4 | apply sp5 | apply sp6 | apply sp7) <;> intro hb) <;> (simp only [go_sem, hb])) | ((first | apply wm_done | apply wt_done | apply wg_run | refine fk ?_ ?_) <;> (simp only [go_sem]))) | (first | refine cdq ?_ (hc := h1) | refine cmq ?_ (hc := h1) | refine ctq ?_ (hc := h1)); (simp only [go_sem]) | (first | refine cdq ?_ (hc := h2) | refine cmq ?_ (hc := h2) | refine ctq ?_ (hc := h2)); (simp only [go_sem]) | fail)
      (refine hR _ (rat [] (hK := ⟨rfl, rfl⟩)))
    · rw [e2] at h2
      cases e3 : nmOk s
      · rw [e3] at h3
        generalize v.tm = v1 at *
        refine fn_in ?_; refine acl_in Try.func22 rfl isfn_22 (Nat.le_of_ble_eq_true rfl) (fun R hR => ?_); rw [Try.results22] at hR; refine wg_run ?_; (simp only [Try.f22, go_sem])
        repeat' (first | (first | (((first | apply sp1 | apply sp2 | apply sp3 | apply sp4 | apply sp5 | apply sp6 | apply sp7) <;> intro hb) <;> (simp only [go_sem, hb])) | ((first | apply wm_done | apply wt_done | apply wg_run | refine fk ?_ ?_) <;> (simp only [go_sem]))) | (first | refine cdq ?_ (hc := h1) | refine cmq ?_ (hc := h1) | refine ctq ?_ (hc := h1)); (simp only [go_sem]) | (first | refine cdq ?_ (hc := h2) | refine cmq ?_ (hc := h2) | refine ctq ?_ (hc := h2)); (simp only [go_sem]) | (first | refine cdq ?_ (hc := h3) | refine cmq ?_ (hc := h3) | refine ctq ?_ (hc := h3)); (simp only [go_sem]) | fail)
        (refine hR _ (rat [] (hK := ⟨rfl, rfl⟩)))
      · rw [e3] at h3
        rw [e1, e2, e3, Bool.true_and, Bool.true_and, Bool.true_and] at h
        have h4 := sFree v (okT_depth e2).1 (fun _ => false) (fun _ => false)
        rw [show (fun x => false || (v.fr x && !false)) = (fun x => v.fr x) from by funext x; simp, show bsOf (names (fun _ => false)) = ⟨#[]⟩ from rfl] at h4
        unfold E.closed at h
        have hb := bsOf_nil_beq (names (fun x => v.fr x))
        rw [h] at hb
        generalize names (fun x => v.fr x) = m at *
        generalize v.tm = v1 at *
        refine fn_in ?_; refine acl_in Try.func22 rfl isfn_22 (Nat.le_of_ble_eq_true rfl) (fun R hR => ?_); rw [Try.results22] at hR; refine wg_run ?_; (simp only [Try.f22, go_sem])
        repeat' (first | (first | (simp only [go_sem, hb]) | (((first | apply sp1 | apply sp2 | apply sp3 | apply sp4 | apply sp5 | apply sp6 | apply sp7) <;> intro hb) <;> (simp only [go_sem, hb, hb])) | ((first | apply wm_done | apply wt_done | apply wg_run | refine fk ?_ ?_) <;> (simp only [go_sem, hb]))) | (first | refine cdq ?_ (hc := h1) | refine cmq ?_ (hc := h1) | refine ctq ?_ (hc := h1)); (simp only [go_sem]) | (first | refine cdq ?_ (hc := h2) | refine cmq ?_ (hc := h2) | refine ctq ?_ (hc := h2)); (simp only [go_sem]) | (first | refine cdq ?_ (hc := h3) | refine cmq ?_ (hc := h3) | refine ctq ?_ (hc := h3)); (simp only [go_sem]) | (first | refine cdq ?_ (hc := h4) | refine cmq ?_ (hc := h4) | refine ctq ?_ (hc := h4)); (simp only [go_sem]) | fail)
        (refine hR _ (rat [] (hK := ⟨rfl, rfl⟩)))
theorem sSubE (e : E) (y : UInt8) (v : E) (h : subOk e.tm (nm y) v = true) : AFn Try.prog 22 [.agg (teC e.tm), .one (.sc (.string (nm y))), .agg (teC v.tm)] (match (e.subst y v).okT with | true => .tup [.agg (teC (e.subst y v).tm), .one (.sc (.bool true))] | false => .tup [.agg (teC tm0), .one (.sc (.bool false))]) := by
  simp only [subOk, Bool.and_eq_true] at h
  obtain ⟨e1, e2, e3, e4⟩ := h
  rw [E.termV_tm] at e1
  have hz1 := E.size_okT e1
  have hz2 := E.size_okT e2
  have hw := E.subst_wf (x := y) (okT_depth e2).1 e (okT_depth e1).1
  have hz3 := (e.subst y v).size_w hw
  have hsn : (e.subst y v).nodes ≤ e.nodes * v.nodes := by
    have hp := v.nodes_pos
    clear hz1 hz2 hw hz3 e1 e2 e3 e4
    have k2 : ∀ a b : Nat, a ≤ a * v.nodes := fun a _ => Nat.le_mul_of_pos_right a hp
    induction e with
    | var x => simp only [E.subst]; split <;> simp only [E.nodes] <;> omega
    | lam x t a ih => simp only [E.subst]; split <;> simp only [E.nodes, Nat.add_mul, Nat.one_mul] <;> (have := k2 a.nodes 0) <;> omega
    | _ => simp only [E.subst, E.nodes, Nat.add_mul, Nat.one_mul] <;> omega
  have hbig : (e.subst y v).tm.size < 1000000 := by
    have a1 : e.nodes ≤ 30 := by simp only [E.okT, Bool.and_eq_true, decide_eq_true_eq] at e1; exact e1.2.2.2
    have a2 : v.nodes ≤ 30 := by simp only [E.okT, Bool.and_eq_true, decide_eq_true_eq] at e2; exact e2.2.2.2
    have : e.nodes * v.nodes ≤ 30 * 30 := Nat.mul_le_mul a1 a2
    omega
  have h1 := sTermV e.tm (by omega)
  have h2 := sTermV v.tm (by omega)
  have h3 := sName (nm y)
  have h4 := sFree v (okT_depth e2).1 (fun _ => false) (fun _ => false)
  rw [show (fun x => false || (v.fr x && !false)) = (fun x => v.fr x) from by funext x; simp, show bsOf (names (fun _ => false)) = ⟨#[]⟩ from rfl] at h4
  have hb := bsOf_nil_beq (names (fun x => v.fr x))
  unfold E.closed at e4
  rw [e4] at hb
  have h5 := sSubst y v (by omega) e (okT_depth e1).1 (by omega)
  have h6 := sTermV (e.subst y v).tm (by omega)
  rw [E.termV_tm, e1] at h1
  rw [E.termV_tm, e2] at h2
  rw [e3] at h3
  rw [E.termV_tm] at h6
  cases e6 : (e.subst y v).okT
  all_goals
    rw [e6] at h6
    simp only [tm0, noTy]
    clear hz1 hz2 hw hz3 hsn hbig e1 e2 e3 e4 e6
    generalize (e.subst y v).tm = u at *
    generalize names (fun x => v.fr x) = m at *
    generalize v.tm = v1 at *
    generalize e.tm = t at *
    generalize nm y = s at *
    refine fn_in ?_; refine acl_in Try.func22 rfl isfn_22 (Nat.le_of_ble_eq_true rfl) (fun R hR => ?_); rw [Try.results22] at hR; refine wg_run ?_; (simp only [Try.f22, go_sem])
    repeat' (first | (first | (simp only [go_sem, hb]) | (((first | apply sp1 | apply sp2 | apply sp3 | apply sp4 | apply sp5 | apply sp6 | apply sp7) <;> intro hb) <;> (simp only [go_sem, hb, hb])) | ((first | apply wm_done | apply wt_done | apply wg_run | refine fk ?_ ?_) <;> (simp only [go_sem, hb]))) | (first | refine cdq ?_ (hc := h1) | refine cmq ?_ (hc := h1) | refine ctq ?_ (hc := h1)); (simp only [go_sem]) | (first | refine cdq ?_ (hc := h2) | refine cmq ?_ (hc := h2) | refine ctq ?_ (hc := h2)); (simp only [go_sem]) | (first | refine cdq ?_ (hc := h3) | refine cmq ?_ (hc := h3) | refine ctq ?_ (hc := h3)); (simp only [go_sem]) | (first | refine cdq ?_ (hc := h4) | refine cmq ?_ (hc := h4) | refine ctq ?_ (hc := h4)); (simp only [go_sem]) | (first | refine cdq ?_ (hc := h5) | refine cmq ?_ (hc := h5) | refine ctq ?_ (hc := h5)); (simp only [go_sem]) | (first | refine cdq ?_ (hc := h6) | refine cmq ?_ (hc := h6) | refine ctq ?_ (hc := h6)); (simp only [go_sem]) | fail)
    (refine hR _ (rat [] (hK := ⟨rfl, rfl⟩)))
end Go.Proofs.Ytfgjiamolknicaa
/- Blurred and erased terms, in the program. On shadows. -/
namespace Go.Proofs.Grad
/-- a list of types, of which the first k are blurred -/
def blurK (m : Nat) (l : List T) (k : Nat) : List T := (blurL m l).take k ++ l.drop k
theorem blurK_length (m : Nat) (l : List T) (k : Nat) : (blurK m l k).length = l.length := by
  simp only [blurK, List.length_append, List.length_take, List.length_drop, blurL_length]; omega
theorem blurK_zero (m : Nat) (l : List T) : blurK m l 0 = l := by simp [blurK]
theorem blurK_all (m : Nat) (l : List T) {k : Nat} (h : l.length ≤ k) : blurK m l k = blurL m l := by
  rw [blurK, List.take_of_length_le (by rw [blurL_length]; exact h), List.drop_of_length_le h, List.append_nil]
theorem blurK_get (m : Nat) (l : List T) (k i : Nat) (h : i < l.length) : (blurK m l k)[i]? = some (match decide (i < k) with | true => (match m.testBit i with | true => .any | false => l[i]) | false => l[i]) := by
  unfold blurK
  by_cases hi : i < k
  · rw [List.getElem?_append_left (by simp [blurL_length]; omega), List.getElem?_take_of_lt hi, decide_eq_true hi]
    rw [List.getElem?_eq_getElem (by rw [blurL_length]; exact h)]
    simp only [blurL, List.getElem_mapIdx]; rfl
  · rw [List.getElem?_append_right (by simp [blurL_length]; omega), decide_eq_false hi]
    simp only [List.length_take, blurL_length, List.getElem?_drop]
    rw [List.getElem?_eq_getElem (by omega)]
    congr 2; omega
theorem blurK_set (m : Nat) (l : List T) {k : Nat} (h : k < l.length) (hb : m.testBit k = true) : (blurK m l k).set k .any = blurK m l (k + 1) := by
  refine List.ext_getElem? fun i => ?_
  by_cases hi : i < l.length
  · rw [blurK_get m l (k + 1) i hi]
    by_cases e : k = i
    · subst e
      rw [List.getElem?_set_self (by rw [blurK_length]; exact h), decide_eq_true (by omega)]
      simp [hb]
    · rw [List.getElem?_set_ne e, blurK_get m l k i hi]
      rw [show decide (i < k) = decide (i < k + 1) from by rw [decide_eq_decide]; omega]
  · rw [List.getElem?_eq_none (by rw [List.length_set, blurK_length]; omega), List.getElem?_eq_none (by rw [blurK_length]; omega)]
theorem tyRset (l : List Ty) (i : Nat) (t : Ty) : (Sh.tyR l).set i (Sh.tyC t) = Sh.tyR (l.set i t) := by
  induction l generalizing i with
  | nil => rfl
  | cons a l ih => cases i <;> simp [Sh.tyR, ih]
end Go.Proofs.Grad
namespace Go.Proofs.Ytfgjiamolknicaa
open Go.RowKit Go.Proofs.Sh Go.Proofs.Grad
set_option maxRecDepth 100000
set_option maxHeartbeats 8000000
/-- a list of types, one's own -/
def TyOwn (l : List Ty) (r : AV) (H' : List Blk) : Prop := (l = [] ∧ r = .one (.sc (.slice none 0 0)) ∧ H' = []) ∨ (r = .one (.row 2 0 l.length) ∧ H' = [⟨2, 25, .mut, tyR l⟩] ∧ 0 < l.length)
theorem iTypesO (n : Nat) (hn : n ≤ 2199023255552) (t : Tm) (h : t.size < n) : ACl Try.prog 96 [.agg (teC t)] [] (TyOwn t.types) := by
    have hl := telen_lt t
    have hnl := t.nodes_le
    have hne := t.nodes_eq
    have ho := iOwnTy _ (by omega) t.type (by cases t; simp only [Tm.size, Tm.type] at *; omega : t.type.size < n)
    have hh := iHasType t
    have e0 : ownTys t.kind t.type = (match hasTy t.kind with | true => [t.type] | false => []) := rfl
    cases hty : hasTy t.kind
    all_goals
      rw [hty] at hh e0
      simp only [] at e0
      refine acl_in Try.func96 rfl isfn_96 (Nat.le_of_ble_eq_true rfl) (fun R hR => ?_); rw [Try.results96] at hR; refine wg_run ?_; (simp only [Try.f96, go_sem])
      repeat' (first | (first | (((first | apply sp1 | apply sp2 | apply sp3 | apply sp4 | apply sp5 | apply sp6 | apply sp7) <;> intro hb) <;> (simp only [go_sem, hb])) | ((first | apply wm_done | apply wt_done | apply wg_run | refine fk ?_ ?_) <;> (simp only [go_sem]))) | (first | refine cdq ?_ (hc := hh) | refine cmq ?_ (hc := hh) | refine ctq ?_ (hc := hh)); (simp only [go_sem]) | (first | refine cdq ?_ (hc := ho) | refine cmq ?_ (hc := ho) | refine ctq ?_ (hc := ho)); (simp only [go_sem]))
      first
        | refine wd_for [3, 15, 16, 17] (fun (x : Nat × List Ty) => [.one (match x.2 with | [] => .sc (.slice none 0 0) | a :: l => .row 2 0 (l.length + 1)), .one (.sl (teR t.kids)), .one (.sc (.int .i64 t.kids.length)), .one (.sc (.int .i64 (x.1 : Nat)))])
            (fun x => match x.2 with | [] => [] | a :: l => [⟨2, 25, .mut, tyR (a :: l)⟩])
            (fun x => x.1 ≤ t.kids.length ∧ x.2 = ownTys t.kind t.type ++ Tm.typess (t.kids.take x.1)) (fun x => t.kids.length - x.1) (0, []) ⟨Nat.zero_le _, by rw [e0]; rfl⟩ (hat [] (hI := ⟨rfl, rfl⟩)) ?_
        | refine wd_for [3, 15, 16, 17] (fun (x : Nat × List Ty) => [.one (match x.2 with | [] => .sc (.slice none 0 0) | a :: l => .row 2 0 (l.length + 1)), .one (.sl (teR t.kids)), .one (.sc (.int .i64 t.kids.length)), .one (.sc (.int .i64 (x.1 : Nat)))])
            (fun x => match x.2 with | [] => [] | a :: l => [⟨2, 25, .mut, tyR (a :: l)⟩])
            (fun x => x.1 ≤ t.kids.length ∧ x.2 = ownTys t.kind t.type ++ Tm.typess (t.kids.take x.1)) (fun x => t.kids.length - x.1) (0, [t.type]) ⟨Nat.zero_le _, by rw [e0]; rfl⟩ (hat [2] (hI := ⟨rfl, rfl⟩)) ?_
      rintro ⟨k, acc⟩ ⟨hk, hacc⟩ G hG
      simp only [] at hk hacc hG
      have hal : acc.length ≤ 1 + Tm.nodess t.kids := by
        have := ownTys_len t.kind t.type; have := Tm.typess_take_len t.kids k
        rw [hacc, List.length_append]; omega
      rcases acc with _ | ⟨a, acc⟩
      all_goals
        refine wg_run ?_
        (simp only [go_sem])
        ((first | apply sp1 | apply sp2 | apply sp3 | apply sp4 | apply sp5 | apply sp6 | apply sp7) <;> intro hb) <;> (simp only [go_sem, hb])
        · have hk1 : k < t.kids.length := by have := of_decide_eq_true hb; omega
          have hw1 := wrap_succ hk1 (by omega)
          have hc := iTypes _ hn (teKid t.kids k) (by have := teKid_lt hk1; omega)
          have hkl := Tm.types_len (teKid t.kids k)
          have hkn := Tm.nodess_le_take t.kids (k + 1)
          rw [Tm.nodess_take hk1] at hkn
          have hnx : ownTys t.kind t.type ++ Tm.typess (t.kids.take (k + 1)) = ownTys t.kind t.type ++ Tm.typess (t.kids.take k) ++ (teKid t.kids k).types := by rw [Tm.typess_take hk1, List.append_assoc]
          rw [← hacc] at hnx
          cases hkt : (teKid t.kids k).types with
          | nil =>
            rw [hkt] at hc hnx
            repeat' (first | (first | (simp only [go_sem, hw1, hb]) | (((first | apply sp1 | apply sp2 | apply sp3 | apply sp4 | apply sp5 | apply sp6 | apply sp7) <;> intro hb) <;> (simp only [go_sem, hb, hw1, hb])) | ((first | apply wm_done | apply wt_done | apply wg_run | refine fk ?_ ?_) <;> (simp only [go_sem, hw1, hb]))) | (first | refine cdq ?_ (hc := hc) | refine cmq ?_ (hc := hc) | refine ctq ?_ (hc := hc)); (simp only [go_sem]))
            rw [List.append_nil] at hnx
            first
              | exact hG (k + 1, []) _ _ ⟨by omega, hnx.symm⟩ (by simp only []; omega) (hat [] (hI := ⟨rfl, rfl⟩))
              | exact hG (k + 1, a :: acc) _ _ ⟨by omega, hnx.symm⟩ (by simp only []; omega) (hat [0] (hI := ⟨rfl, rfl⟩))
          | cons b m =>
            rw [hkt] at hc hnx hkl
            simp only [List.length_cons] at hkl hal
            have hcap1 : (m.length + 1) * 32 ≤ 140737488355328 := by omega
            first
              | (have hcap2 : (acc.length + 1 + (m.length + 1)) * 32 ≤ 140737488355328 := by omega
                 repeat' (first | (first | (simp only [go_sem, hw1, hb, hcap1, hcap2]) | (((first | apply sp1 | apply sp2 | apply sp3 | apply sp4 | apply sp5 | apply sp6 | apply sp7) <;> intro hb) <;> (simp only [go_sem, hb, hw1, hb, hcap1, hcap2])) | ((first | apply wm_done | apply wt_done | apply wg_run | refine fk ?_ ?_) <;> (simp only [go_sem, hw1, hb, hcap1, hcap2]))) | (first | refine cdq ?_ (hc := hc) | refine cmq ?_ (hc := hc) | refine ctq ?_ (hc := hc)); (simp only [go_sem]))
                 refine hG (k + 1, a :: acc ++ b :: m) _ _ ⟨by omega, hnx.symm⟩ (by simp only []; omega) (hat [2] (hI := ⟨?_, ?_⟩))
                 · simp only [List.cons_append, List.length_append, List.length_cons]
                   rw [show acc.length + 1 + (m.length + 1) = acc.length + (m.length + 1) + 1 by omega]
                 · simp only [List.cons_append, tyR, tyR_append])
              | (repeat' (first | (first | (simp only [go_sem, hw1, hb, hcap1]) | (((first | apply sp1 | apply sp2 | apply sp3 | apply sp4 | apply sp5 | apply sp6 | apply sp7) <;> intro hb) <;> (simp only [go_sem, hb, hw1, hb, hcap1])) | ((first | apply wm_done | apply wt_done | apply wg_run | refine fk ?_ ?_) <;> (simp only [go_sem, hw1, hb, hcap1]))) | (first | refine cdq ?_ (hc := hc) | refine cmq ?_ (hc := hc) | refine ctq ?_ (hc := hc)); (simp only [go_sem]))
                 refine hG (k + 1, b :: m) _ _ ⟨by omega, hnx.symm⟩ (by simp only []; omega) (hat [1] (hI := ⟨rfl, rfl⟩)))
        · have hk1 : t.kids.take k = t.kids := List.take_of_length_le (by have := of_decide_eq_false hb; omega)
          rw [hk1, ← Tm.types_eq] at hacc
          first
            | exact hR _ (rwn [] (hK := (.inl ⟨hacc.symm, rfl, rfl⟩)))
            | exact hR _ (rwn [0] (hK := (.inr ⟨by rw [← hacc]; rfl, by rw [← hacc]; rfl, by rw [← hacc]; simp⟩)))
theorem nt30 {e : E} (h : e.okT = true) : e.nt ≤ 30 := by
  simp only [E.okT, Bool.and_eq_true, decide_eq_true_eq] at h
  have := Tm.types_len e.tm
  rw [E.types_tm e h.2.1, List.length_map, E.tl_length, E.tm_nodes] at this; omega
end Go.Proofs.Ytfgjiamolknicaa
