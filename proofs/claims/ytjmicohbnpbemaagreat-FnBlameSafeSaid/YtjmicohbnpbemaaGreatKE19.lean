/- Texts of the proof, one behind another. -/
import Derived.Test.YtjmicohbnpbemaaGreatKE12
import Derived.Test.YtjmicohbnpbemaaGreatKE16
import Derived.Test.YtjmicohbnpbemaaGreatKE17
set_option linter.unusedSimpArgs false
set_option linter.unusedVariables false
/- The type of a closed term, in the reference. On shadows. -/
namespace Go.Proofs.YtjmicohbnpbemaaGreat
open Go.RowKit Go.Proofs.Sh Go.Proofs.Grad
set_option maxRecDepth 100000
set_option maxHeartbeats 8000000
theorem E.nodes_tm (e : E) : e.nodes ≤ e.tm.size := by rw [← E.tm_nodes]; exact Tm.nodes_le _
theorem sCtxNil : AFn Tryz.prog 183 [.one (.sl [])] (.one (.sc (.bool true))) := by
  refine fn_in ?_; refine acl_in Tryz.func183 rfl isfn_183 (Nat.le_of_ble_eq_true rfl) (fun R hR => ?_); rw [Tryz.results183] at hR; refine wg_run ?_; (simp only [Tryz.f183, go_sem])
  repeat' (first | (first | (((first | apply sp1 | apply sp2 | apply sp3 | apply sp4 | apply sp5 | apply sp6 | apply sp7) <;> intro hb) <;> (simp only [go_sem, hb])) | ((first | apply wm_done | apply wt_done | apply wg_run | refine fk ?_ ?_) <;> (simp only [go_sem]))) | (first | (refine wl_next (wg_run ?_); (simp only [go_sem])) | refine wd_rounds 6 ?_) | fail)
  (refine hR _ ?_; refine rat [] (hK := ⟨rfl, rfl⟩))
theorem l3SureT (t : Ty) : AFn Tryz.prog 184 [.agg (tyC t), .one (.sc (.bool true))] (.tup [.agg (tyC t), .one (.sc (.bool true))]) := by
  refine fn_in ?_; refine acl_in Tryz.func184 rfl isfn_184 (Nat.le_of_ble_eq_true rfl) (fun R hR => ?_); rw [Tryz.results184] at hR; refine wg_run ?_; (simp only [Tryz.f184, go_sem])
  repeat' (first | (first | (((first | apply sp1 | apply sp2 | apply sp3 | apply sp4 | apply sp5 | apply sp6 | apply sp7) <;> intro hb) <;> (simp only [go_sem, hb])) | ((first | apply wm_done | apply wt_done | apply wg_run | refine fk ?_ ?_) <;> (simp only [go_sem]))) | fail)
  (refine hR _ ?_; refine rat [] (hK := ⟨rfl, rfl⟩))
theorem l3SureF (t : Ty) : AFn Tryz.prog 184 [.agg (tyC t), .one (.sc (.bool false))] (.tup [.agg (tyC noTy), .one (.sc (.bool false))]) := by
  refine fn_in ?_; refine acl_in Tryz.func184 rfl isfn_184 (Nat.le_of_ble_eq_true rfl) (fun R hR => ?_); rw [Tryz.results184] at hR; refine wg_run ?_; (simp only [Tryz.f184, go_sem])
  repeat' (first | (first | (((first | apply sp1 | apply sp2 | apply sp3 | apply sp4 | apply sp5 | apply sp6 | apply sp7) <;> intro hb) <;> (simp only [go_sem, hb])) | ((first | apply wm_done | apply wt_done | apply wg_run | refine fk ?_ ?_) <;> (simp only [go_sem]))) | fail)
  (refine hR _ ?_; refine rat [] (hK := ⟨rfl, rfl⟩))
/-- the type of a closed term and true; or the zero value and false -/
def TyN (e : E) (r : AV) (H' : List Blk) : Prop := (∃ t, e.rty [] = some t ∧ r = .tup [.agg (tyC t.ty), .one (.sc (.bool true))] ∧ H' = []) ∨ (r = .tup [.agg (tyC noTy), .one (.sc (.bool false))] ∧ H' = [])
theorem sTypeIn (e : E) (hw : e.wf = true) (hn : e.noC = true) (hz : e.tm.size < 40000) : ACl Tryz.prog 163 [.one (.sl []), .agg (teC e.tm)] [] (TyN e) := by
  have hv := sTermV e.tm (by omega)
  have hnd := E.nodes_tm e
  have h1 := l3Type e [] hw hn ctxOk_nil (by simp; omega)
  have hT := l3SureT
  have hF := l3SureF
  have hc := sCtxNil
  cases ev : e.tm.termV
  all_goals
    rw [ev] at hv
    refine acl_in Tryz.func163 rfl isfn_163 (Nat.le_of_ble_eq_true rfl) (fun R hR => ?_); rw [Tryz.results163] at hR; refine wg_run ?_; (simp only [Tryz.f163, go_sem])
    repeat' (first | (first | (((first | apply sp1 | apply sp2 | apply sp3 | apply sp4 | apply sp5 | apply sp6 | apply sp7) <;> intro hb) <;> (simp only [go_sem, hb])) | ((first | apply wm_done | apply wt_done | apply wg_run | refine fk ?_ ?_) <;> (simp only [go_sem]))) | ((first | refine mxq6 [] ?_ | refine mxq5 [] ?_ | refine mxq4 [] ?_ | refine mxq3 [] ?_ | refine mxq2 [] ?_ | refine mxq1 [] ?_ | refine mxq0 [] ?_ | fail); (simp only [go_sem])) | (first | refine cdq ?_ (hc := hc) | refine cmq ?_ (hc := hc) | refine ctq ?_ (hc := hc)); (simp only [go_sem]) | (first | refine cdq ?_ (hc := hv) | refine cmq ?_ (hc := hv) | refine ctq ?_ (hc := hv)); (simp only [go_sem]) | fail)
  · exact hR _ (rat [] (hK := (.inr ⟨rfl, rfl⟩)))
  · ((first | refine kdq [] ?_ (hc := h1) | refine kmq [] ?_ (hc := h1) | refine ktq [] ?_ (hc := h1)); rintro _ _ (⟨s, es, rfl, rfl⟩ | ⟨es, y, hy, rfl, rfl⟩) <;> (simp only [go_sem]))
    · repeat' (first | (first | (((first | apply sp1 | apply sp2 | apply sp3 | apply sp4 | apply sp5 | apply sp6 | apply sp7) <;> intro hb) <;> (simp only [go_sem, hb])) | ((first | apply wm_done | apply wt_done | apply wg_run | refine fk ?_ ?_) <;> (simp only [go_sem]))) | (first | refine cdq ?_ (hc := hT _) | refine cmq ?_ (hc := hT _) | refine ctq ?_ (hc := hT _)); (simp only [go_sem]) | fail)
      exact hR _ (rat [] (hK := (.inl ⟨s, es, rfl, rfl⟩)))
    · repeat' (first | (first | (((first | apply sp1 | apply sp2 | apply sp3 | apply sp4 | apply sp5 | apply sp6 | apply sp7) <;> intro hb) <;> (simp only [go_sem, hb])) | ((first | apply wm_done | apply wt_done | apply wg_run | refine fk ?_ ?_) <;> (simp only [go_sem]))) | (first | refine cdq ?_ (hc := hF _) | refine cmq ?_ (hc := hF _) | refine ctq ?_ (hc := hF _)); (simp only [go_sem]) | fail)
      exact hR _ (rat [] (hK := (.inr ⟨rfl, rfl⟩)))
theorem sTypeOf (e : E) (hw : e.wf = true) (hn : e.noC = true) (hz : e.tm.size < 40000) : ACl Tryz.prog 130 [.agg (teC e.tm)] [] (TyN e) := by
  have h1 := sTypeIn e hw hn hz
  refine acl_in Tryz.func130 rfl isfn_130 (Nat.le_of_ble_eq_true rfl) (fun R hR => ?_); rw [Tryz.results130] at hR; refine wg_run ?_; (simp only [Tryz.f130, go_sem])
  repeat' (first | (first | (((first | apply sp1 | apply sp2 | apply sp3 | apply sp4 | apply sp5 | apply sp6 | apply sp7) <;> intro hb) <;> (simp only [go_sem, hb])) | ((first | apply wm_done | apply wt_done | apply wg_run | refine fk ?_ ?_) <;> (simp only [go_sem]))) | fail)
  ((first | refine kdq [] ?_ (hc := h1) | refine kmq [] ?_ (hc := h1) | refine ktq [] ?_ (hc := h1)); rintro _ _ (⟨s, es, rfl, rfl⟩ | ⟨rfl, rfl⟩) <;> (simp only [go_sem]))
  · repeat' (first | (first | (((first | apply sp1 | apply sp2 | apply sp3 | apply sp4 | apply sp5 | apply sp6 | apply sp7) <;> intro hb) <;> (simp only [go_sem, hb])) | ((first | apply wm_done | apply wt_done | apply wg_run | refine fk ?_ ?_) <;> (simp only [go_sem]))) | fail)
    exact hR _ (rat [] (hK := (.inl ⟨s, es, rfl, rfl⟩)))
  · repeat' (first | (first | (((first | apply sp1 | apply sp2 | apply sp3 | apply sp4 | apply sp5 | apply sp6 | apply sp7) <;> intro hb) <;> (simp only [go_sem, hb])) | ((first | apply wm_done | apply wt_done | apply wg_run | refine fk ?_ ?_) <;> (simp only [go_sem]))) | fail)
    exact hR _ (rat [] (hK := (.inr ⟨rfl, rfl⟩)))
end Go.Proofs.YtjmicohbnpbemaaGreat
/- Terms: values, on shadows. -/
namespace Go.Proofs.Grad
def grTy (k : Int) : Ty := match k == 4 || k == 5 with | true => .mk k [.mk 1 [], .mk 1 []] | false => .mk k []
def Ty.isGr (t : Ty) : Bool := !(t.kind == 1) && t.same (grTy t.kind)
def proxyB (k : Int) (t f : Ty) : Bool := k == 14 && (f.kind == t.kind && (t.kind == 4 || t.kind == 5))
def injB (k : Int) (t f : Ty) : Bool := k == 14 && (t.kind == 1 && f.isGr)
def plainB (k : Int) : Bool := k == 2 || (k == 3 || (k == 4 || k == 5))
mutual
def Tm.isVal : Tm → Bool | .mk k _ _ t f _ ks => match k == 10 || (proxyB k t f || injB k t f) with | true => Tm.isVals ks | false => plainB k
def Tm.isVals : List Tm → Bool | [] => true | t :: l => t.isVal && Tm.isVals l
end
theorem Tm.isVals_all (l : List Tm) : Tm.isVals l = l.all Tm.isVal := by
  induction l with
  | nil => rfl
  | cons t l ih => simp [Tm.isVals, ih]
theorem Tm.isVal_eq (t : Tm) : t.isVal = (match t.kind == 10 || (proxyB t.kind t.type t.frm || injB t.kind t.type t.frm) with | true => Tm.isVals t.kids | false => plainB t.kind) := by cases t; rfl
theorem T.ground_ty (x : T) : x.ground.ty = grTy x.ty.kind := by cases x <;> rfl
end Go.Proofs.Grad
namespace Go.Proofs.YtjmicohbnpbemaaGreat
open Go.RowKit Go.Proofs.Sh Go.Proofs.Grad
set_option maxRecDepth 100000
set_option maxHeartbeats 8000000
theorem iGroundR (k : Int) : AFn Tryz.prog 110 [.one (.sc (.int .i64 k))] (.agg (tyC (grTy k))) := by
  have hb := both k (.mk 1 []) (.mk 1 [])
  have h1 := base 1
  have h0 := base k
  unfold grTy
  cases h4 : (k == 4)
  · cases h5 : (k == 5)
    all_goals
      refine fn_in ?_; refine acl_in Tryz.func110 rfl isfn_110 (Nat.le_of_ble_eq_true rfl) (fun R hR => ?_); rw [Tryz.results110] at hR; refine wg_run ?_; (simp only [Tryz.f110, go_sem, h4, h5])
      repeat' (first | (first | (simp only [go_sem, h4, h5]) | (((first | apply sp1 | apply sp2 | apply sp3 | apply sp4 | apply sp5 | apply sp6 | apply sp7) <;> intro hb) <;> (simp only [go_sem, hb, h4, h5])) | ((first | apply wm_done | apply wt_done | apply wg_run | refine fk ?_ ?_) <;> (simp only [go_sem, h4, h5]))) | ((first | refine mxq6 [] ?_ | refine mxq5 [] ?_ | refine mxq4 [] ?_ | refine mxq3 [] ?_ | refine mxq2 [] ?_ | refine mxq1 [] ?_ | refine mxq0 [] ?_ | fail); (simp only [go_sem, h4, h5])) | (first | refine cdq ?_ (hc := h1) | refine cmq ?_ (hc := h1) | refine ctq ?_ (hc := h1)); (simp only [go_sem]) | (first | refine cdq ?_ (hc := h0) | refine cmq ?_ (hc := h0) | refine ctq ?_ (hc := h0)); (simp only [go_sem]) | (first | refine cdq ?_ (hc := hb) | refine cmq ?_ (hc := hb) | refine ctq ?_ (hc := hb)); (simp only [go_sem]))
      (refine hR _ (rat [] (hK := ⟨?_, rfl⟩)))
      rfl
  · refine fn_in ?_; refine acl_in Tryz.func110 rfl isfn_110 (Nat.le_of_ble_eq_true rfl) (fun R hR => ?_); rw [Tryz.results110] at hR; refine wg_run ?_; (simp only [Tryz.f110, go_sem, h4])
    repeat' (first | (first | (simp only [go_sem, h4]) | (((first | apply sp1 | apply sp2 | apply sp3 | apply sp4 | apply sp5 | apply sp6 | apply sp7) <;> intro hb) <;> (simp only [go_sem, hb, h4])) | ((first | apply wm_done | apply wt_done | apply wg_run | refine fk ?_ ?_) <;> (simp only [go_sem, h4]))) | ((first | refine mxq6 [] ?_ | refine mxq5 [] ?_ | refine mxq4 [] ?_ | refine mxq3 [] ?_ | refine mxq2 [] ?_ | refine mxq1 [] ?_ | refine mxq0 [] ?_ | fail); (simp only [go_sem, h4])) | (first | refine cdq ?_ (hc := h1) | refine cmq ?_ (hc := h1) | refine ctq ?_ (hc := h1)); (simp only [go_sem]) | (first | refine cdq ?_ (hc := h0) | refine cmq ?_ (hc := h0) | refine ctq ?_ (hc := h0)); (simp only [go_sem]) | (first | refine cdq ?_ (hc := hb) | refine cmq ?_ (hc := hb) | refine ctq ?_ (hc := hb)); (simp only [go_sem]))
    (refine hR _ (rat [] (hK := ⟨?_, rfl⟩)))
    rfl
theorem iIsGround (t : Ty) (h : t.size < 4611686018427387904) : AFn Tryz.prog 138 [.agg (tyC t)] (.one (.sc (.bool t.isGr))) := by
  have hg := iGroundR t.kind
  have hs := iSame _ (Nat.le_refl _) t (grTy t.kind) h
  unfold Ty.isGr
  refine fn_in ?_; refine acl_in Tryz.func138 rfl isfn_138 (Nat.le_of_ble_eq_true rfl) (fun R hR => ?_); rw [Tryz.results138] at hR; refine wg_run ?_; (simp only [Tryz.f138, go_sem])
  repeat' (first | (first | (simp only [go_sem, int_bne]) | (((first | apply sp1 | apply sp2 | apply sp3 | apply sp4 | apply sp5 | apply sp6 | apply sp7) <;> intro hb) <;> (simp only [go_sem, hb, int_bne])) | ((first | apply wm_done | apply wt_done | apply wg_run | refine fk ?_ ?_) <;> (simp only [go_sem, int_bne]))) | ((first | refine mxq6 [] ?_ | refine mxq5 [] ?_ | refine mxq4 [] ?_ | refine mxq3 [] ?_ | refine mxq2 [] ?_ | refine mxq1 [] ?_ | refine mxq0 [] ?_ | fail); (simp only [go_sem, int_bne])) | (first | refine cdq ?_ (hc := hg) | refine cmq ?_ (hc := hg) | refine ctq ?_ (hc := hg)); (simp only [go_sem]) | (first | refine cdq ?_ (hc := hs) | refine cmq ?_ (hc := hs) | refine ctq ?_ (hc := hs)); (simp only [go_sem]))
  all_goals (refine hR _ (rat [] (hK := ⟨?_, rfl⟩)))
  all_goals simp_all
theorem sSame (n : Nat) (hn : n ≤ 4611686018427387904) : ∀ a b : Ty, a.size < n → AFn Tryz.prog 136 [.agg (tyC a), .agg (tyC b)] (.one (.sc (.bool (a.same b)))) := by
  induction n with
  | zero => intro a b h; omega
  | succ n ih =>
    intro a b h
    have hl : a.kids.length < 4611686018427387904 := by have := Ty.length_le_sizes a.kids; cases a; simp only [Ty.size, Ty.kids] at *; omega
    have e : a.same b = (a.kind == b.kind && all2 Ty.same a.kids b.kids) := by cases a; cases b; simp only [Ty.same, Ty.kind, Ty.kids, Ty.sames_all2]
    rw [e]
    cases hk : (a.kind == b.kind)
    · refine fn_in ?_; refine acl_in Tryz.func136 rfl isfn_136 (Nat.le_of_ble_eq_true rfl) (fun R hR => ?_); rw [Tryz.results136] at hR; refine wg_run ?_; (simp only [Tryz.f136, go_sem, hk, int_bne])
      repeat' (first | (simp only [go_sem, hk, int_bne]) | (((first | apply sp1 | apply sp2 | apply sp3 | apply sp4 | apply sp5 | apply sp6 | apply sp7) <;> intro hb) <;> (simp only [go_sem, hb, hk, int_bne])) | ((first | apply wm_done | apply wt_done | apply wg_run | refine fk ?_ ?_) <;> (simp only [go_sem, hk, int_bne])))
      (refine hR _ (rat [] (hK := ⟨rfl, rfl⟩)))
    · by_cases hlm : a.kids.length = b.kids.length
      · have hb0 : ((a.kids.length : Int) == (b.kids.length : Int)) = true := by simp; omega
        refine fn_in ?_; refine acl_in Tryz.func136 rfl isfn_136 (Nat.le_of_ble_eq_true rfl) (fun R hR => ?_); rw [Tryz.results136] at hR; refine wg_run ?_; (simp only [Tryz.f136, go_sem, hk, int_bne, hb0])
        repeat' (first | (simp only [go_sem, hk, int_bne, hb0]) | (((first | apply sp1 | apply sp2 | apply sp3 | apply sp4 | apply sp5 | apply sp6 | apply sp7) <;> intro hb) <;> (simp only [go_sem, hb, hk, int_bne, hb0])) | ((first | apply wm_done | apply wt_done | apply wg_run | refine fk ?_ ?_) <;> (simp only [go_sem, hk, int_bne, hb0])))
        refine wd_for [2, 3, 5] (fun k => [.one (.ptr 2 0 0 0), .one (.ptr 2 1 0 0), .one (.sc (.int .i64 (k : Nat)))]) (fun _ => [⟨2, 25, .mut, [tyC a]⟩, ⟨2, 25, .mut, [tyC b]⟩])
          (fun k => k ≤ a.kids.length ∧ all2 Ty.same (a.kids.drop k) (b.kids.drop k) = all2 Ty.same a.kids b.kids) (fun k => a.kids.length - k) 0 ⟨Nat.zero_le _, rfl⟩ (hat [0, 1] (hI := ⟨rfl, rfl⟩)) ?_
        rintro k ⟨hk0, hs⟩ G hG
        refine wg_run ?_
        (simp only [go_sem])
        ((first | apply sp1 | apply sp2 | apply sp3 | apply sp4 | apply sp5 | apply sp6 | apply sp7) <;> intro hb) <;> (simp only [go_sem, hb])
        · have hk1 : k < a.kids.length := by have := of_decide_eq_true hb; omega
          have hk2 : decide ((k : Int) < (b.kids.length : Int)) = true := by simp; omega
          have hw1 := wrap_succ hk1 (by omega)
          rw [drop_kid hk1, drop_kid (by omega : k < b.kids.length), all2] at hs
          have hc := ih (by omega) (kid a.kids k) (kid b.kids k) (by have := kid_lt hk1; omega)
          repeat' (first | (first | (simp only [go_sem, hb, hk2, hw1]) | (((first | apply sp1 | apply sp2 | apply sp3 | apply sp4 | apply sp5 | apply sp6 | apply sp7) <;> intro hb) <;> (simp only [go_sem, hb, hb, hk2, hw1])) | ((first | apply wm_done | apply wt_done | apply wg_run | refine fk ?_ ?_) <;> (simp only [go_sem, hb, hk2, hw1]))) | ((first | refine mxq6 [] ?_ | refine mxq5 [] ?_ | refine mxq4 [] ?_ | refine mxq3 [] ?_ | refine mxq2 [] ?_ | refine mxq1 [] ?_ | refine mxq0 [] ?_ | fail); (simp only [go_sem, hb, hk2])) | (first | refine cdq ?_ (hc := hc) | refine cmq ?_ (hc := hc) | refine ctq ?_ (hc := hc)); (simp only [go_sem]))
          · exact hG (k + 1) _ _ ⟨by omega, by simpa [hb] using hs⟩ (by omega) (hat [0, 1] (hI := ⟨rfl, rfl⟩))
          · (refine hR _ (rat [] (hK := ⟨?_, rfl⟩)))
            simpa [hb] using hs
        · have hk1 : ¬ k < a.kids.length := by have := of_decide_eq_false hb; omega
          rw [List.drop_eq_nil_of_le (by omega), List.drop_eq_nil_of_le (by omega), all2] at hs
          (refine hR _ (rat [] (hK := ⟨?_, rfl⟩)))
          rw [← hs]; rfl
      · have hb0 : ((a.kids.length : Int) == (b.kids.length : Int)) = false := by simp; omega
        refine fn_in ?_; refine acl_in Tryz.func136 rfl isfn_136 (Nat.le_of_ble_eq_true rfl) (fun R hR => ?_); rw [Tryz.results136] at hR; refine wg_run ?_; (simp only [Tryz.f136, go_sem, hk, int_bne, hb0])
        repeat' (first | (simp only [go_sem, hk, int_bne, hb0]) | (((first | apply sp1 | apply sp2 | apply sp3 | apply sp4 | apply sp5 | apply sp6 | apply sp7) <;> intro hb) <;> (simp only [go_sem, hb, hk, int_bne, hb0])) | ((first | apply wm_done | apply wt_done | apply wg_run | refine fk ?_ ?_) <;> (simp only [go_sem, hk, int_bne, hb0])))
        (refine hR _ (rat [] (hK := ⟨?_, rfl⟩)))
        rw [all2_len hlm]; rfl
theorem iProxy (t : Tm) : AFn Tryz.prog 90 [.agg (teC t)] (.one (.sc (.bool (proxyB t.kind t.type t.frm)))) := by
  unfold proxyB
  refine fn_in ?_; refine acl_in Tryz.func90 rfl isfn_90 (Nat.le_of_ble_eq_true rfl) (fun R hR => ?_); rw [Tryz.results90] at hR; refine wg_run ?_; (simp only [Tryz.f90, go_sem])
  repeat' (first | (((first | apply sp1 | apply sp2 | apply sp3 | apply sp4 | apply sp5 | apply sp6 | apply sp7) <;> intro hb) <;> (simp only [go_sem, hb])) | ((first | apply wm_done | apply wt_done | apply wg_run | refine fk ?_ ?_) <;> (simp only [go_sem])))
  all_goals (refine hR _ (rat [] (hK := ⟨?_, rfl⟩)))
  all_goals simp_all
theorem iInj (t : Tm) (h : t.size < 4611686018427387904) : AFn Tryz.prog 91 [.agg (teC t)] (.one (.sc (.bool (injB t.kind t.type t.frm)))) := by
  have hg := iIsGround t.frm (by cases t; simp only [Tm.size, Tm.frm] at *; omega)
  unfold injB
  refine fn_in ?_; refine acl_in Tryz.func91 rfl isfn_91 (Nat.le_of_ble_eq_true rfl) (fun R hR => ?_); rw [Tryz.results91] at hR; refine wg_run ?_; (simp only [Tryz.f91, go_sem])
  repeat' (first | (first | (((first | apply sp1 | apply sp2 | apply sp3 | apply sp4 | apply sp5 | apply sp6 | apply sp7) <;> intro hb) <;> (simp only [go_sem, hb])) | ((first | apply wm_done | apply wt_done | apply wg_run | refine fk ?_ ?_) <;> (simp only [go_sem]))) | (first | refine cdq ?_ (hc := hg) | refine cmq ?_ (hc := hg) | refine ctq ?_ (hc := hg)); (simp only [go_sem]))
  all_goals (refine hR _ (rat [] (hK := ⟨?_, rfl⟩)))
  all_goals simp_all
theorem iPlain (t : Tm) : AFn Tryz.prog 93 [.agg (teC t)] (.one (.sc (.bool (plainB t.kind)))) := by
  unfold plainB
  refine fn_in ?_; refine acl_in Tryz.func93 rfl isfn_93 (Nat.le_of_ble_eq_true rfl) (fun R hR => ?_); rw [Tryz.results93] at hR; refine wg_run ?_; (simp only [Tryz.f93, go_sem])
  repeat' (first | (((first | apply sp1 | apply sp2 | apply sp3 | apply sp4 | apply sp5 | apply sp6 | apply sp7) <;> intro hb) <;> (simp only [go_sem, hb])) | ((first | apply wm_done | apply wt_done | apply wg_run | refine fk ?_ ?_) <;> (simp only [go_sem])))
  all_goals (refine hR _ (rat [] (hK := ⟨?_, rfl⟩)))
  all_goals (clear hR; simp_all)
  all_goals (try grind)
theorem iIsVal (n : Nat) (hn : n ≤ 4611686018427387904) : ∀ t : Tm, t.size < n → AFn Tryz.prog 52 [.agg (teC t)] (.one (.sc (.bool t.isVal))) := by
  induction n with
  | zero => intro t h; omega
  | succ n ih =>
    intro t h
    have h1 := iProxy t
    have h2 := iInj t (by omega)
    have h3 := iPlain t
    have hl := telen_lt t
    have hc : ACl Tryz.prog 68 [.one (.sl (teR t.kids)), .one (.fn 92 [])] [] (fun r H' => r = .one (.sc (.bool (t.kids.any (fun x => !x.isVal)))) ∧ H' = []) := by
      refine teContainsFunc0 _ (fun x => !x.isVal) _ (by omega) ?_
      intro k hk
      have := ih (by omega) (teKid t.kids k) (by have := teKid_lt hk; omega)
      refine acl_in Tryz.func92 rfl isfn_92 (Nat.le_of_ble_eq_true rfl) (fun R hR => ?_); rw [Tryz.results92] at hR; refine wg_run ?_; (simp only [Tryz.f92, go_sem])
      repeat' (first | (first | (((first | apply sp1 | apply sp2 | apply sp3 | apply sp4 | apply sp5 | apply sp6 | apply sp7) <;> intro hb) <;> (simp only [go_sem, hb])) | ((first | apply wm_done | apply wt_done | apply wg_run | refine fk ?_ ?_) <;> (simp only [go_sem]))) | (first | refine cdq ?_ (hc := this) | refine cmq ?_ (hc := this) | refine ctq ?_ (hc := this)); (simp only [go_sem]))
      (refine hR _ (rat [] (hK := ⟨?_, ?_⟩)))
      · rfl
      · rfl
    rw [Tm.isVal_eq]
    clear ih
    refine fn_in ?_; refine acl_in Tryz.func52 rfl isfn_52 (Nat.le_of_ble_eq_true rfl) (fun R hR => ?_); rw [Tryz.results52] at hR; refine wg_run ?_; (simp only [Tryz.f52, go_sem])
    repeat' (first | (first | (((first | apply sp1 | apply sp2 | apply sp3 | apply sp4 | apply sp5 | apply sp6 | apply sp7) <;> intro hb) <;> (simp only [go_sem, hb])) | ((first | apply wm_done | apply wt_done | apply wg_run | refine fk ?_ ?_) <;> (simp only [go_sem]))) | (first | refine cdq ?_ (hc := h1) | refine cmq ?_ (hc := h1) | refine ctq ?_ (hc := h1)); (simp only [go_sem]) | (first | refine cdq ?_ (hc := h2) | refine cmq ?_ (hc := h2) | refine ctq ?_ (hc := h2)); (simp only [go_sem]) | (first | refine cdq ?_ (hc := h3) | refine cmq ?_ (hc := h3) | refine ctq ?_ (hc := h3)); (simp only [go_sem]) | (first | refine kdq [] ?_ (hc := hc) | refine kmq [] ?_ (hc := hc) | refine ktq [] ?_ (hc := hc)); rintro _ _ ⟨rfl, rfl⟩; (simp only [go_sem]))
    all_goals (refine hR _ (rat [] (hK := ⟨?_, rfl⟩)))
    all_goals clear hR h1 h2 h3 hc
    all_goals simp_all [Tm.isVals_all, List.all_eq_not_any_not]
    all_goals (try grind)

end Go.Proofs.YtjmicohbnpbemaaGreat
/- Casts put in: one cast; the types wanted of operands. In the reference, on shadows. -/
namespace Go.Proofs.Grad
/-- a term cast from a type to another one, if they differ, and the next label -/
def casT (x : Tm) (s t : T) (n : Int) : Tm × Int := match s.eqb t with | true => (x, n) | false => (.mk 14 ByteArray.empty 0 t.ty s.ty n [x], n + 1)
theorem casT_size (x : Tm) {s t : T} (hs : s.depth ≤ 4) (ht : t.depth ≤ 4) (n : Int) : (casT x s t n).1.size ≤ x.size + 31 ∧ n ≤ (casT x s t n).2 ∧ (casT x s t n).2 ≤ n + 1 := by
  have h1 := T.ty_size16 hs
  have h2 := T.ty_size16 ht
  unfold casT
  split
  · exact ⟨by simp only []; omega, by simp only []; omega, by simp only []; omega⟩
  · exact ⟨by simp only [Tm.size, Tm.sizes]; omega, by simp only []; omega, by simp only []; omega⟩
end Go.Proofs.Grad
namespace Go.Proofs.YtjmicohbnpbemaaGreat
open Go.RowKit Go.Proofs.Sh Go.Proofs.Grad
set_option maxRecDepth 100000
set_option maxHeartbeats 8000000
theorem sSameT {a b : T} (ha : a.depth ≤ 4) : AFn Tryz.prog 136 [.agg (tyC a.ty), .agg (tyC b.ty)] (.one (.sc (.bool (a.eqb b)))) := sSame 1000000 (by omega) a.ty b.ty (by have := T.ty_size16 ha; omega)
theorem l4Cast (x : Tm) (s t : T) (hs : s.depth ≤ 4) (ht : t.depth ≤ 4) (n : Int) (h1 : -1000000000000 ≤ n) (h2 : n ≤ 1000000000000) : AFn Tryz.prog 87 [.agg (teC x), .agg (tyC s.ty), .agg (tyC t.ty), .one (.sc (.int .i64 n))] (.tup [.agg (teC (casT x s t n).1), .one (.sc (.int .i64 (casT x s t n).2))]) := by
  have he := sSameT (b := t) hs
  have hc1 := sCopyT hs
  have hc2 := sCopyT ht
  have hw : IntKind.i64.wrap (n + 1) = n + 1 := IntWalk.i64_in _ (by omega)
  unfold casT
  cases e : s.eqb t
  all_goals
    rw [e] at he
    refine fn_in ?_; refine acl_in Tryz.func87 rfl isfn_87 (Nat.le_of_ble_eq_true rfl) (fun R hR => ?_); rw [Tryz.results87] at hR; refine wg_run ?_; (simp only [Tryz.f87, go_sem, hw])
    repeat' (first | (first | (simp only [go_sem, hw]) | (((first | apply sp1 | apply sp2 | apply sp3 | apply sp4 | apply sp5 | apply sp6 | apply sp7) <;> intro hb) <;> (simp only [go_sem, hb, hw])) | ((first | apply wm_done | apply wt_done | apply wg_run | refine fk ?_ ?_) <;> (simp only [go_sem, hw]))) | (first | refine cdq ?_ (hc := he) | refine cmq ?_ (hc := he) | refine ctq ?_ (hc := he)); (simp only [go_sem]) | ((first | refine mxq6 [] ?_ | refine mxq5 [] ?_ | refine mxq4 [] ?_ | refine mxq3 [] ?_ | refine mxq2 [] ?_ | refine mxq1 [] ?_ | refine mxq0 [] ?_ | fail); (simp only [go_sem, hw])) | (first | refine cdq ?_ (hc := hc1) | refine cmq ?_ (hc := hc1) | refine ctq ?_ (hc := hc1)); (simp only [go_sem]) | (first | refine cdq ?_ (hc := hc2) | refine cmq ?_ (hc := hc2) | refine ctq ?_ (hc := hc2)); (simp only [go_sem]) | (first | (refine tr (.op 0 false (.op 2 false (.op 4 false (.op 5 false (.op 8 false (.op 9 false (.fork 1 false (.fork 3 false (.op 6 false (.op 7 false (.op 10 true (.op 11 false .nil)))) (.op 6 false (.op 3 false (.op 7 false (.op 10 true (.op 11 false .nil)))))) (.op 6 false (.op 1 false (.op 3 false (.op 7 false (.op 10 true (.op 11 false .nil))))))))))))) [] follows ?_; (simp only [go_sem, hw])) | fail) | fail)
    all_goals (refine hR _ ?_; refine rat [] (hK := ⟨rfl, rfl⟩))
theorem want6 (t : Tm) (h : t.kind = 6) (s u v : T) (p q : T) (hm : s.mfn = some (p, q)) (hs : s.depth ≤ 4) : AFn Tryz.prog 166 [.agg (teC t), .one (.sl [tyC s.ty, tyC u.ty]), .agg (tyC v.ty)] (.one (.sl [tyC (T.fn p q).ty, tyC p.ty])) := by
  have h1 := l3MatchF s hs
  rw [hm] at h1
  simp only [tyO2] at h1
  have hd := T.mfn_depth hm hs
  have h2 := l3TwoF p q hd.1 hd.2
  refine fn_in ?_; refine acl_in Tryz.func166 rfl isfn_166 (Nat.le_of_ble_eq_true rfl) (fun R hR => ?_); rw [Tryz.results166] at hR; refine wg_run ?_; (simp only [Tryz.f166, go_sem, h])
  repeat' (first | (first | (simp only [go_sem, h]) | (((first | apply sp1 | apply sp2 | apply sp3 | apply sp4 | apply sp5 | apply sp6 | apply sp7) <;> intro hb) <;> (simp only [go_sem, hb, h])) | ((first | apply wm_done | apply wt_done | apply wg_run | refine fk ?_ ?_) <;> (simp only [go_sem, h]))) | ((first | refine mxq6 [] ?_ | refine mxq5 [] ?_ | refine mxq4 [] ?_ | refine mxq3 [] ?_ | refine mxq2 [] ?_ | refine mxq1 [] ?_ | refine mxq0 [] ?_ | fail); (simp only [go_sem])) | (first | refine cdq ?_ (hc := h1) | refine cmq ?_ (hc := h1) | refine ctq ?_ (hc := h1)); (simp only [go_sem]) | (first | refine cdq ?_ (hc := h2) | refine cmq ?_ (hc := h2) | refine ctq ?_ (hc := h2)); (simp only [go_sem]) | fail)
  all_goals (refine hR _ ?_; refine rat [] (hK := ⟨rfl, rfl⟩))
theorem want7 (t : Tm) (h : t.kind = 7) (s u v : T)  : AFn Tryz.prog 166 [.agg (teC t), .one (.sl [tyC s.ty, tyC u.ty]), .agg (tyC v.ty)] (.one (.sl [tyC T.int.ty, tyC T.int.ty])) := by
  have hi := sIntT
  refine fn_in ?_; refine acl_in Tryz.func166 rfl isfn_166 (Nat.le_of_ble_eq_true rfl) (fun R hR => ?_); rw [Tryz.results166] at hR; refine wg_run ?_; (simp only [Tryz.f166, go_sem, h])
  repeat' (first | (first | (simp only [go_sem, h]) | (((first | apply sp1 | apply sp2 | apply sp3 | apply sp4 | apply sp5 | apply sp6 | apply sp7) <;> intro hb) <;> (simp only [go_sem, hb, h])) | ((first | apply wm_done | apply wt_done | apply wg_run | refine fk ?_ ?_) <;> (simp only [go_sem, h]))) | ((first | refine mxq6 [] ?_ | refine mxq5 [] ?_ | refine mxq4 [] ?_ | refine mxq3 [] ?_ | refine mxq2 [] ?_ | refine mxq1 [] ?_ | refine mxq0 [] ?_ | fail); (simp only [go_sem])) | (first | refine cdq ?_ (hc := hi) | refine cmq ?_ (hc := hi) | refine ctq ?_ (hc := hi)); (simp only [go_sem]) | fail)
  all_goals (refine hR _ ?_; refine rat [] (hK := ⟨rfl, rfl⟩))
theorem want8 (t : Tm) (h : t.kind = 8) (s u v : T)  : AFn Tryz.prog 166 [.agg (teC t), .one (.sl [tyC s.ty, tyC u.ty]), .agg (tyC v.ty)] (.one (.sl [tyC T.int.ty, tyC T.int.ty])) := by
  have hi := sIntT
  refine fn_in ?_; refine acl_in Tryz.func166 rfl isfn_166 (Nat.le_of_ble_eq_true rfl) (fun R hR => ?_); rw [Tryz.results166] at hR; refine wg_run ?_; (simp only [Tryz.f166, go_sem, h])
  repeat' (first | (first | (simp only [go_sem, h]) | (((first | apply sp1 | apply sp2 | apply sp3 | apply sp4 | apply sp5 | apply sp6 | apply sp7) <;> intro hb) <;> (simp only [go_sem, hb, h])) | ((first | apply wm_done | apply wt_done | apply wg_run | refine fk ?_ ?_) <;> (simp only [go_sem, h]))) | ((first | refine mxq6 [] ?_ | refine mxq5 [] ?_ | refine mxq4 [] ?_ | refine mxq3 [] ?_ | refine mxq2 [] ?_ | refine mxq1 [] ?_ | refine mxq0 [] ?_ | fail); (simp only [go_sem])) | (first | refine cdq ?_ (hc := hi) | refine cmq ?_ (hc := hi) | refine ctq ?_ (hc := hi)); (simp only [go_sem]) | fail)
  all_goals (refine hR _ ?_; refine rat [] (hK := ⟨rfl, rfl⟩))
theorem want9 (t : Tm) (h : t.kind = 9) (s u w v : T)  : AFn Tryz.prog 166 [.agg (teC t), .one (.sl [tyC s.ty, tyC u.ty, tyC w.ty]), .agg (tyC v.ty)] (.one (.sl [tyC T.bool.ty, tyC v.ty, tyC v.ty])) := by
  have hi := sBoolT
  refine fn_in ?_; refine acl_in Tryz.func166 rfl isfn_166 (Nat.le_of_ble_eq_true rfl) (fun R hR => ?_); rw [Tryz.results166] at hR; refine wg_run ?_; (simp only [Tryz.f166, go_sem, h])
  repeat' (first | (first | (simp only [go_sem, h]) | (((first | apply sp1 | apply sp2 | apply sp3 | apply sp4 | apply sp5 | apply sp6 | apply sp7) <;> intro hb) <;> (simp only [go_sem, hb, h])) | ((first | apply wm_done | apply wt_done | apply wg_run | refine fk ?_ ?_) <;> (simp only [go_sem, h]))) | ((first | refine mxq6 [] ?_ | refine mxq5 [] ?_ | refine mxq4 [] ?_ | refine mxq3 [] ?_ | refine mxq2 [] ?_ | refine mxq1 [] ?_ | refine mxq0 [] ?_ | fail); (simp only [go_sem])) | (first | refine cdq ?_ (hc := hi) | refine cmq ?_ (hc := hi) | refine ctq ?_ (hc := hi)); (simp only [go_sem]) | fail)
  all_goals (refine hR _ ?_; refine rat [] (hK := ⟨rfl, rfl⟩))
theorem want10 (t : Tm) (h : t.kind = 10) (s u v : T)  : AFn Tryz.prog 166 [.agg (teC t), .one (.sl [tyC s.ty, tyC u.ty]), .agg (tyC v.ty)] (.one (.sl [tyC s.ty, tyC u.ty])) := by
  refine fn_in ?_; refine acl_in Tryz.func166 rfl isfn_166 (Nat.le_of_ble_eq_true rfl) (fun R hR => ?_); rw [Tryz.results166] at hR; refine wg_run ?_; (simp only [Tryz.f166, go_sem, h])
  repeat' (first | (first | (simp only [go_sem, h]) | (((first | apply sp1 | apply sp2 | apply sp3 | apply sp4 | apply sp5 | apply sp6 | apply sp7) <;> intro hb) <;> (simp only [go_sem, hb, h])) | ((first | apply wm_done | apply wt_done | apply wg_run | refine fk ?_ ?_) <;> (simp only [go_sem, h]))) | fail)
  all_goals (refine hR _ ?_; refine rat [] (hK := ⟨rfl, rfl⟩))
theorem want5 (t : Tm) (h : t.kind = 5) (s v : T)  : AFn Tryz.prog 166 [.agg (teC t), .one (.sl [tyC s.ty]), .agg (tyC v.ty)] (.one (.sl [tyC s.ty])) := by
  refine fn_in ?_; refine acl_in Tryz.func166 rfl isfn_166 (Nat.le_of_ble_eq_true rfl) (fun R hR => ?_); rw [Tryz.results166] at hR; refine wg_run ?_; (simp only [Tryz.f166, go_sem, h])
  repeat' (first | (first | (simp only [go_sem, h]) | (((first | apply sp1 | apply sp2 | apply sp3 | apply sp4 | apply sp5 | apply sp6 | apply sp7) <;> intro hb) <;> (simp only [go_sem, hb, h])) | ((first | apply wm_done | apply wt_done | apply wg_run | refine fk ?_ ?_) <;> (simp only [go_sem, h]))) | fail)
  all_goals (refine hR _ ?_; refine rat [] (hK := ⟨rfl, rfl⟩))
theorem want11 (t : Tm) (h : t.kind = 11) (s v : T) (p q : T) (hm : s.mpr = some (p, q)) (hs : s.depth ≤ 4) : AFn Tryz.prog 166 [.agg (teC t), .one (.sl [tyC s.ty]), .agg (tyC v.ty)] (.one (.sl [tyC (T.pr p q).ty])) := by
  have h1 := l3MatchP s hs
  rw [hm] at h1
  simp only [tyO2] at h1
  have hd := T.mpr_depth hm hs
  have h2 := l3TwoP p q hd.1 hd.2
  refine fn_in ?_; refine acl_in Tryz.func166 rfl isfn_166 (Nat.le_of_ble_eq_true rfl) (fun R hR => ?_); rw [Tryz.results166] at hR; refine wg_run ?_; (simp only [Tryz.f166, go_sem, h])
  repeat' (first | (first | (simp only [go_sem, h]) | (((first | apply sp1 | apply sp2 | apply sp3 | apply sp4 | apply sp5 | apply sp6 | apply sp7) <;> intro hb) <;> (simp only [go_sem, hb, h])) | ((first | apply wm_done | apply wt_done | apply wg_run | refine fk ?_ ?_) <;> (simp only [go_sem, h]))) | ((first | refine mxq6 [] ?_ | refine mxq5 [] ?_ | refine mxq4 [] ?_ | refine mxq3 [] ?_ | refine mxq2 [] ?_ | refine mxq1 [] ?_ | refine mxq0 [] ?_ | fail); (simp only [go_sem])) | (first | refine cdq ?_ (hc := h1) | refine cmq ?_ (hc := h1) | refine ctq ?_ (hc := h1)); (simp only [go_sem]) | (first | refine cdq ?_ (hc := h2) | refine cmq ?_ (hc := h2) | refine ctq ?_ (hc := h2)); (simp only [go_sem]) | fail)
  all_goals (refine hR _ ?_; refine rat [] (hK := ⟨rfl, rfl⟩))
theorem want12 (t : Tm) (h : t.kind = 12) (s v : T) (p q : T) (hm : s.mpr = some (p, q)) (hs : s.depth ≤ 4) : AFn Tryz.prog 166 [.agg (teC t), .one (.sl [tyC s.ty]), .agg (tyC v.ty)] (.one (.sl [tyC (T.pr p q).ty])) := by
  have h1 := l3MatchP s hs
  rw [hm] at h1
  simp only [tyO2] at h1
  have hd := T.mpr_depth hm hs
  have h2 := l3TwoP p q hd.1 hd.2
  refine fn_in ?_; refine acl_in Tryz.func166 rfl isfn_166 (Nat.le_of_ble_eq_true rfl) (fun R hR => ?_); rw [Tryz.results166] at hR; refine wg_run ?_; (simp only [Tryz.f166, go_sem, h])
  repeat' (first | (first | (simp only [go_sem, h]) | (((first | apply sp1 | apply sp2 | apply sp3 | apply sp4 | apply sp5 | apply sp6 | apply sp7) <;> intro hb) <;> (simp only [go_sem, hb, h])) | ((first | apply wm_done | apply wt_done | apply wg_run | refine fk ?_ ?_) <;> (simp only [go_sem, h]))) | ((first | refine mxq6 [] ?_ | refine mxq5 [] ?_ | refine mxq4 [] ?_ | refine mxq3 [] ?_ | refine mxq2 [] ?_ | refine mxq1 [] ?_ | refine mxq0 [] ?_ | fail); (simp only [go_sem])) | (first | refine cdq ?_ (hc := h1) | refine cmq ?_ (hc := h1) | refine ctq ?_ (hc := h1)); (simp only [go_sem]) | (first | refine cdq ?_ (hc := h2) | refine cmq ?_ (hc := h2) | refine ctq ?_ (hc := h2)); (simp only [go_sem]) | fail)
  all_goals (refine hR _ ?_; refine rat [] (hK := ⟨rfl, rfl⟩))
theorem want13 (t : Tm) (h : t.kind = 13) (s v : T)  : AFn Tryz.prog 166 [.agg (teC t), .one (.sl [tyC s.ty]), .agg (tyC v.ty)] (.one (.sl [tyC v.ty])) := by
  refine fn_in ?_; refine acl_in Tryz.func166 rfl isfn_166 (Nat.le_of_ble_eq_true rfl) (fun R hR => ?_); rw [Tryz.results166] at hR; refine wg_run ?_; (simp only [Tryz.f166, go_sem, h])
  repeat' (first | (first | (simp only [go_sem, h]) | (((first | apply sp1 | apply sp2 | apply sp3 | apply sp4 | apply sp5 | apply sp6 | apply sp7) <;> intro hb) <;> (simp only [go_sem, hb, h])) | ((first | apply wm_done | apply wt_done | apply wg_run | refine fk ?_ ?_) <;> (simp only [go_sem, h]))) | fail)
  all_goals (refine hR _ ?_; refine rat [] (hK := ⟨rfl, rfl⟩))
theorem want0 (t : Tm) (h : t.kind = 1 ∨ t.kind = 2 ∨ t.kind = 3 ∨ t.kind = 4) (v : T) : AFn Tryz.prog 166 [.agg (teC t), .one (.sl []), .agg (tyC v.ty)] (.one (.sl [])) := by
  rcases h with h | h | h | h
  all_goals
    refine fn_in ?_; refine acl_in Tryz.func166 rfl isfn_166 (Nat.le_of_ble_eq_true rfl) (fun R hR => ?_); rw [Tryz.results166] at hR; refine wg_run ?_; (simp only [Tryz.f166, go_sem, h])
    repeat' (first | (first | (simp only [go_sem, h]) | (((first | apply sp1 | apply sp2 | apply sp3 | apply sp4 | apply sp5 | apply sp6 | apply sp7) <;> intro hb) <;> (simp only [go_sem, hb, h])) | ((first | apply wm_done | apply wt_done | apply wg_run | refine fk ?_ ?_) <;> (simp only [go_sem, h]))) | fail)
    all_goals (refine hR _ ?_; refine rat [] (hK := ⟨rfl, rfl⟩))
end Go.Proofs.YtjmicohbnpbemaaGreat
