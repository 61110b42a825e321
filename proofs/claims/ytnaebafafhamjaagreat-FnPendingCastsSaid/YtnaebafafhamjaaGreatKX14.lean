/- Texts of the proof, one behind another. -/
import Derived.Test.YtnaebafafhamjaaGreatKX10
import Derived.Test.YtnaebafafhamjaaGreatKX11
import Derived.Test.YtnaebafafhamjaaGreatKX12
import Derived.Test.YtnaebafafhamjaaGreatKX13
set_option linter.unusedSimpArgs false
set_option linter.unusedVariables false
/- Terms: values, on shadows. -/
namespace Go.Proofs.Grad
def grTy (k : Int) : Ty := match k == 4 || k == 5 with | true => .mk k [.mk 1 [], .mk 1 []] | false => .mk k []
def Ty.isGr (t : Ty) : Bool := !(t.kind == 1) && t.same (grTy t.kind)
def proxyB (k : Int) (t f : Ty) : Bool := k == 14 && (f.kind == t.kind && (t.kind == 4 || t.kind == 5))
def injB (k : Int) (t f : Ty) : Bool := k == 14 && (t.kind == 1 && f.isGr)
def plainB (k : Int) : Bool := k == 2 || (k == 3 || (k == 4 || k == 5))
mutual
def Tm.isVal : Tm → Bool | .mk k _ _ t f _ ks => match k == 10 || (proxyB k t f || injB k t f) with | true => Tm.isVals ks | false => plainB k
def Tm.isVals : List Tm → Bool | [] => true | t :: l => t.isVal && Tm.isVals l
end
theorem Tm.isVals_all (l : List Tm) : Tm.isVals l = l.all Tm.isVal := by
  induction l with
  | nil => rfl
  | cons t l ih => simp [Tm.isVals, ih]
theorem Tm.isVal_eq (t : Tm) : t.isVal = (match t.kind == 10 || (proxyB t.kind t.type t.frm || injB t.kind t.type t.frm) with | true => Tm.isVals t.kids | false => plainB t.kind) := by cases t; rfl
theorem T.ground_ty (x : T) : x.ground.ty = grTy x.ty.kind := by cases x <;> rfl
end Go.Proofs.Grad
namespace Go.Proofs.YtnaebafafhamjaaGreat
open Go.RowKit Go.Proofs.Sh Go.Proofs.Grad
set_option maxRecDepth 100000
set_option maxHeartbeats 8000000
theorem iGroundR (k : Int) : AFn Tryz.prog 95 [.one (.sc (.int .i64 k))] (.agg (tyC (grTy k))) := by
  have hb := both k (.mk 1 []) (.mk 1 [])
  have h1 := base 1
  have h0 := base k
  unfold grTy
  cases h4 : (k == 4)
  · cases h5 : (k == 5)
    all_goals
      refine fn_in ?_; refine acl_in Tryz.func95 rfl isfn_95 (Nat.le_of_ble_eq_true rfl) (fun R hR => ?_); rw [Tryz.results95] at hR; refine wg_run ?_; (simp only [Tryz.f95, go_sem, h4, h5])
      repeat' (first | (first | (simp only [go_sem, h4, h5]) | (((first | apply sp1 | apply sp2 | apply sp3 | apply sp4 | apply sp5 | apply sp6 | apply sp7) <;> intro hb) <;> (simp only [go_sem, hb, h4, h5])) | ((first | apply wm_done | apply wt_done | apply wg_run | refine fk ?_ ?_) <;> (simp only [go_sem, h4, h5]))) | ((first | refine mxq6 [] ?_ | refine mxq5 [] ?_ | refine mxq4 [] ?_ | refine mxq3 [] ?_ | refine mxq2 [] ?_ | refine mxq1 [] ?_ | refine mxq0 [] ?_ | fail); (simp only [go_sem, h4, h5])) | (first | refine cdq ?_ (hc := h1) | refine cmq ?_ (hc := h1) | refine ctq ?_ (hc := h1)); (simp only [go_sem]) | (first | refine cdq ?_ (hc := h0) | refine cmq ?_ (hc := h0) | refine ctq ?_ (hc := h0)); (simp only [go_sem]) | (first | refine cdq ?_ (hc := hb) | refine cmq ?_ (hc := hb) | refine ctq ?_ (hc := hb)); (simp only [go_sem]))
      (refine hR _ (rat [] (hK := ⟨?_, rfl⟩)))
      rfl
  · refine fn_in ?_; refine acl_in Tryz.func95 rfl isfn_95 (Nat.le_of_ble_eq_true rfl) (fun R hR => ?_); rw [Tryz.results95] at hR; refine wg_run ?_; (simp only [Tryz.f95, go_sem, h4])
    repeat' (first | (first | (simp only [go_sem, h4]) | (((first | apply sp1 | apply sp2 | apply sp3 | apply sp4 | apply sp5 | apply sp6 | apply sp7) <;> intro hb) <;> (simp only [go_sem, hb, h4])) | ((first | apply wm_done | apply wt_done | apply wg_run | refine fk ?_ ?_) <;> (simp only [go_sem, h4]))) | ((first | refine mxq6 [] ?_ | refine mxq5 [] ?_ | refine mxq4 [] ?_ | refine mxq3 [] ?_ | refine mxq2 [] ?_ | refine mxq1 [] ?_ | refine mxq0 [] ?_ | fail); (simp only [go_sem, h4])) | (first | refine cdq ?_ (hc := h1) | refine cmq ?_ (hc := h1) | refine ctq ?_ (hc := h1)); (simp only [go_sem]) | (first | refine cdq ?_ (hc := h0) | refine cmq ?_ (hc := h0) | refine ctq ?_ (hc := h0)); (simp only [go_sem]) | (first | refine cdq ?_ (hc := hb) | refine cmq ?_ (hc := hb) | refine ctq ?_ (hc := hb)); (simp only [go_sem]))
    (refine hR _ (rat [] (hK := ⟨?_, rfl⟩)))
    rfl
theorem iIsGround (t : Ty) (h : t.size < 4611686018427387904) : AFn Tryz.prog 196 [.agg (tyC t)] (.one (.sc (.bool t.isGr))) := by
  have hg := iGroundR t.kind
  have hs := iSame _ (Nat.le_refl _) t (grTy t.kind) h
  unfold Ty.isGr
  refine fn_in ?_; refine acl_in Tryz.func196 rfl isfn_196 (Nat.le_of_ble_eq_true rfl) (fun R hR => ?_); rw [Tryz.results196] at hR; refine wg_run ?_; (simp only [Tryz.f196, go_sem])
  repeat' (first | (first | (simp only [go_sem, int_bne]) | (((first | apply sp1 | apply sp2 | apply sp3 | apply sp4 | apply sp5 | apply sp6 | apply sp7) <;> intro hb) <;> (simp only [go_sem, hb, int_bne])) | ((first | apply wm_done | apply wt_done | apply wg_run | refine fk ?_ ?_) <;> (simp only [go_sem, int_bne]))) | ((first | refine mxq6 [] ?_ | refine mxq5 [] ?_ | refine mxq4 [] ?_ | refine mxq3 [] ?_ | refine mxq2 [] ?_ | refine mxq1 [] ?_ | refine mxq0 [] ?_ | fail); (simp only [go_sem, int_bne])) | (first | refine cdq ?_ (hc := hg) | refine cmq ?_ (hc := hg) | refine ctq ?_ (hc := hg)); (simp only [go_sem]) | (first | refine cdq ?_ (hc := hs) | refine cmq ?_ (hc := hs) | refine ctq ?_ (hc := hs)); (simp only [go_sem]))
  all_goals (refine hR _ (rat [] (hK := ⟨?_, rfl⟩)))
  all_goals simp_all
theorem sSame (n : Nat) (hn : n ≤ 4611686018427387904) : ∀ a b : Ty, a.size < n → AFn Tryz.prog 155 [.agg (tyC a), .agg (tyC b)] (.one (.sc (.bool (a.same b)))) := by
  induction n with
  | zero => intro a b h; omega
  | succ n ih =>
    intro a b h
    have hl : a.kids.length < 4611686018427387904 := by have := Ty.length_le_sizes a.kids; cases a; simp only [Ty.size, Ty.kids] at *; omega
    have e : a.same b = (a.kind == b.kind && all2 Ty.same a.kids b.kids) := by cases a; cases b; simp only [Ty.same, Ty.kind, Ty.kids, Ty.sames_all2]
    rw [e]
    cases hk : (a.kind == b.kind)
    · refine fn_in ?_; refine acl_in Tryz.func155 rfl isfn_155 (Nat.le_of_ble_eq_true rfl) (fun R hR => ?_); rw [Tryz.results155] at hR; refine wg_run ?_; (simp only [Tryz.f155, go_sem, hk, int_bne])
      repeat' (first | (simp only [go_sem, hk, int_bne]) | (((first | apply sp1 | apply sp2 | apply sp3 | apply sp4 | apply sp5 | apply sp6 | apply sp7) <;> intro hb) <;> (simp only [go_sem, hb, hk, int_bne])) | ((first | apply wm_done | apply wt_done | apply wg_run | refine fk ?_ ?_) <;> (simp only [go_sem, hk, int_bne])))
      (refine hR _ (rat [] (hK := ⟨rfl, rfl⟩)))
    · by_cases hlm : a.kids.length = b.kids.length
      · have hb0 : ((a.kids.length : Int) == (b.kids.length : Int)) = true := by simp; omega
        refine fn_in ?_; refine acl_in Tryz.func155 rfl isfn_155 (Nat.le_of_ble_eq_true rfl) (fun R hR => ?_); rw [Tryz.results155] at hR; refine wg_run ?_; (simp only [Tryz.f155, go_sem, hk, int_bne, hb0])
        repeat' (first | (simp only [go_sem, hk, int_bne, hb0]) | (((first | apply sp1 | apply sp2 | apply sp3 | apply sp4 | apply sp5 | apply sp6 | apply sp7) <;> intro hb) <;> (simp only [go_sem, hb, hk, int_bne, hb0])) | ((first | apply wm_done | apply wt_done | apply wg_run | refine fk ?_ ?_) <;> (simp only [go_sem, hk, int_bne, hb0])))
        refine wd_for [2, 3, 5] (fun k => [.one (.ptr 2 0 0 0), .one (.ptr 2 1 0 0), .one (.sc (.int .i64 (k : Nat)))]) (fun _ => [⟨2, 25, .mut, [tyC a]⟩, ⟨2, 25, .mut, [tyC b]⟩])
          (fun k => k ≤ a.kids.length ∧ all2 Ty.same (a.kids.drop k) (b.kids.drop k) = all2 Ty.same a.kids b.kids) (fun k => a.kids.length - k) 0 ⟨Nat.zero_le _, rfl⟩ (hat [0, 1] (hI := ⟨rfl, rfl⟩)) ?_
        rintro k ⟨hk0, hs⟩ G hG
        refine wg_run ?_
        (simp only [go_sem])
        ((first | apply sp1 | apply sp2 | apply sp3 | apply sp4 | apply sp5 | apply sp6 | apply sp7) <;> intro hb) <;> (simp only [go_sem, hb])
        · have hk1 : k < a.kids.length := by have := of_decide_eq_true hb; omega
          have hk2 : decide ((k : Int) < (b.kids.length : Int)) = true := by simp; omega
          have hw1 := wrap_succ hk1 (by omega)
          rw [drop_kid hk1, drop_kid (by omega : k < b.kids.length), all2] at hs
          have hc := ih (by omega) (kid a.kids k) (kid b.kids k) (by have := kid_lt hk1; omega)
          repeat' (first | (first | (simp only [go_sem, hb, hk2, hw1]) | (((first | apply sp1 | apply sp2 | apply sp3 | apply sp4 | apply sp5 | apply sp6 | apply sp7) <;> intro hb) <;> (simp only [go_sem, hb, hb, hk2, hw1])) | ((first | apply wm_done | apply wt_done | apply wg_run | refine fk ?_ ?_) <;> (simp only [go_sem, hb, hk2, hw1]))) | ((first | refine mxq6 [] ?_ | refine mxq5 [] ?_ | refine mxq4 [] ?_ | refine mxq3 [] ?_ | refine mxq2 [] ?_ | refine mxq1 [] ?_ | refine mxq0 [] ?_ | fail); (simp only [go_sem, hb, hk2])) | (first | refine cdq ?_ (hc := hc) | refine cmq ?_ (hc := hc) | refine ctq ?_ (hc := hc)); (simp only [go_sem]))
          · exact hG (k + 1) _ _ ⟨by omega, by simpa [hb] using hs⟩ (by omega) (hat [0, 1] (hI := ⟨rfl, rfl⟩))
          · (refine hR _ (rat [] (hK := ⟨?_, rfl⟩)))
            simpa [hb] using hs
        · have hk1 : ¬ k < a.kids.length := by have := of_decide_eq_false hb; omega
          rw [List.drop_eq_nil_of_le (by omega), List.drop_eq_nil_of_le (by omega), all2] at hs
          (refine hR _ (rat [] (hK := ⟨?_, rfl⟩)))
          rw [← hs]; rfl
      · have hb0 : ((a.kids.length : Int) == (b.kids.length : Int)) = false := by simp; omega
        refine fn_in ?_; refine acl_in Tryz.func155 rfl isfn_155 (Nat.le_of_ble_eq_true rfl) (fun R hR => ?_); rw [Tryz.results155] at hR; refine wg_run ?_; (simp only [Tryz.f155, go_sem, hk, int_bne, hb0])
        repeat' (first | (simp only [go_sem, hk, int_bne, hb0]) | (((first | apply sp1 | apply sp2 | apply sp3 | apply sp4 | apply sp5 | apply sp6 | apply sp7) <;> intro hb) <;> (simp only [go_sem, hb, hk, int_bne, hb0])) | ((first | apply wm_done | apply wt_done | apply wg_run | refine fk ?_ ?_) <;> (simp only [go_sem, hk, int_bne, hb0])))
        (refine hR _ (rat [] (hK := ⟨?_, rfl⟩)))
        rw [all2_len hlm]; rfl
theorem sGround (x : T) (h : x.size < 1000000) : AFn Tryz.prog 170 [.agg (tyC x.ty)] (.one (.sc (.bool x.ty.isGr))) := by
  have hg := l1Ground x
  have hs := sSame 1000000 (by omega) x.ty x.ground.ty (by rw [T.ty_size]; exact h)
  rw [T.ground_ty] at hg hs
  unfold Ty.isGr
  refine fn_in ?_; refine acl_in Tryz.func170 rfl isfn_170 (Nat.le_of_ble_eq_true rfl) (fun R hR => ?_); rw [Tryz.results170] at hR; refine wg_run ?_; (simp only [Tryz.f170, go_sem])
  repeat' (first | (first | (simp only [go_sem, int_bne]) | (((first | apply sp1 | apply sp2 | apply sp3 | apply sp4 | apply sp5 | apply sp6 | apply sp7) <;> intro hb) <;> (simp only [go_sem, hb, int_bne])) | ((first | apply wm_done | apply wt_done | apply wg_run | refine fk ?_ ?_) <;> (simp only [go_sem, int_bne]))) | ((first | refine mxq6 [] ?_ | refine mxq5 [] ?_ | refine mxq4 [] ?_ | refine mxq3 [] ?_ | refine mxq2 [] ?_ | refine mxq1 [] ?_ | refine mxq0 [] ?_ | fail); (simp only [go_sem, int_bne])) | (first | refine cdq ?_ (hc := hg) | refine cmq ?_ (hc := hg) | refine ctq ?_ (hc := hg)); (simp only [go_sem]) | (first | refine cdq ?_ (hc := hs) | refine cmq ?_ (hc := hs) | refine ctq ?_ (hc := hs)); (simp only [go_sem]))
  all_goals (refine hR _ (rat [] (hK := ⟨?_, rfl⟩)))
  all_goals simp_all
theorem iProxy (t : Tm) : AFn Tryz.prog 156 [.agg (teC t)] (.one (.sc (.bool (proxyB t.kind t.type t.frm)))) := by
  unfold proxyB
  refine fn_in ?_; refine acl_in Tryz.func156 rfl isfn_156 (Nat.le_of_ble_eq_true rfl) (fun R hR => ?_); rw [Tryz.results156] at hR; refine wg_run ?_; (simp only [Tryz.f156, go_sem])
  repeat' (first | (((first | apply sp1 | apply sp2 | apply sp3 | apply sp4 | apply sp5 | apply sp6 | apply sp7) <;> intro hb) <;> (simp only [go_sem, hb])) | ((first | apply wm_done | apply wt_done | apply wg_run | refine fk ?_ ?_) <;> (simp only [go_sem])))
  all_goals (refine hR _ (rat [] (hK := ⟨?_, rfl⟩)))
  all_goals simp_all
theorem iInj (t : Tm) (h : t.size < 4611686018427387904) : AFn Tryz.prog 157 [.agg (teC t)] (.one (.sc (.bool (injB t.kind t.type t.frm)))) := by
  have hg := iIsGround t.frm (by cases t; simp only [Tm.size, Tm.frm] at *; omega)
  unfold injB
  refine fn_in ?_; refine acl_in Tryz.func157 rfl isfn_157 (Nat.le_of_ble_eq_true rfl) (fun R hR => ?_); rw [Tryz.results157] at hR; refine wg_run ?_; (simp only [Tryz.f157, go_sem])
  repeat' (first | (first | (((first | apply sp1 | apply sp2 | apply sp3 | apply sp4 | apply sp5 | apply sp6 | apply sp7) <;> intro hb) <;> (simp only [go_sem, hb])) | ((first | apply wm_done | apply wt_done | apply wg_run | refine fk ?_ ?_) <;> (simp only [go_sem]))) | (first | refine cdq ?_ (hc := hg) | refine cmq ?_ (hc := hg) | refine ctq ?_ (hc := hg)); (simp only [go_sem]))
  all_goals (refine hR _ (rat [] (hK := ⟨?_, rfl⟩)))
  all_goals simp_all
theorem iPlain (t : Tm) : AFn Tryz.prog 160 [.agg (teC t)] (.one (.sc (.bool (plainB t.kind)))) := by
  unfold plainB
  refine fn_in ?_; refine acl_in Tryz.func160 rfl isfn_160 (Nat.le_of_ble_eq_true rfl) (fun R hR => ?_); rw [Tryz.results160] at hR; refine wg_run ?_; (simp only [Tryz.f160, go_sem])
  repeat' (first | (((first | apply sp1 | apply sp2 | apply sp3 | apply sp4 | apply sp5 | apply sp6 | apply sp7) <;> intro hb) <;> (simp only [go_sem, hb])) | ((first | apply wm_done | apply wt_done | apply wg_run | refine fk ?_ ?_) <;> (simp only [go_sem])))
  all_goals (refine hR _ (rat [] (hK := ⟨?_, rfl⟩)))
  all_goals (clear hR; simp_all)
  all_goals (try grind)
theorem iIsVal (n : Nat) (hn : n ≤ 4611686018427387904) : ∀ t : Tm, t.size < n → AFn Tryz.prog 111 [.agg (teC t)] (.one (.sc (.bool t.isVal))) := by
  induction n with
  | zero => intro t h; omega
  | succ n ih =>
    intro t h
    have h1 := iProxy t
    have h2 := iInj t (by omega)
    have h3 := iPlain t
    have hl := telen_lt t
    have hc : ACl Tryz.prog 158 [.one (.sl (teR t.kids)), .one (.fn 159 [])] [] (fun r H' => r = .one (.sc (.bool (t.kids.any (fun x => !x.isVal)))) ∧ H' = []) := by
      refine teContainsFunc0 _ (fun x => !x.isVal) _ (by omega) ?_
      intro k hk
      have := ih (by omega) (teKid t.kids k) (by have := teKid_lt hk; omega)
      refine acl_in Tryz.func159 rfl isfn_159 (Nat.le_of_ble_eq_true rfl) (fun R hR => ?_); rw [Tryz.results159] at hR; refine wg_run ?_; (simp only [Tryz.f159, go_sem])
      repeat' (first | (first | (((first | apply sp1 | apply sp2 | apply sp3 | apply sp4 | apply sp5 | apply sp6 | apply sp7) <;> intro hb) <;> (simp only [go_sem, hb])) | ((first | apply wm_done | apply wt_done | apply wg_run | refine fk ?_ ?_) <;> (simp only [go_sem]))) | (first | refine cdq ?_ (hc := this) | refine cmq ?_ (hc := this) | refine ctq ?_ (hc := this)); (simp only [go_sem]))
      (refine hR _ (rat [] (hK := ⟨?_, ?_⟩)))
      · rfl
      · rfl
    rw [Tm.isVal_eq]
    clear ih
    refine fn_in ?_; refine acl_in Tryz.func111 rfl isfn_111 (Nat.le_of_ble_eq_true rfl) (fun R hR => ?_); rw [Tryz.results111] at hR; refine wg_run ?_; (simp only [Tryz.f111, go_sem])
    repeat' (first | (first | (((first | apply sp1 | apply sp2 | apply sp3 | apply sp4 | apply sp5 | apply sp6 | apply sp7) <;> intro hb) <;> (simp only [go_sem, hb])) | ((first | apply wm_done | apply wt_done | apply wg_run | refine fk ?_ ?_) <;> (simp only [go_sem]))) | (first | refine cdq ?_ (hc := h1) | refine cmq ?_ (hc := h1) | refine ctq ?_ (hc := h1)); (simp only [go_sem]) | (first | refine cdq ?_ (hc := h2) | refine cmq ?_ (hc := h2) | refine ctq ?_ (hc := h2)); (simp only [go_sem]) | (first | refine cdq ?_ (hc := h3) | refine cmq ?_ (hc := h3) | refine ctq ?_ (hc := h3)); (simp only [go_sem]) | (first | refine kdq [] ?_ (hc := hc) | refine kmq [] ?_ (hc := hc) | refine ktq [] ?_ (hc := hc)); rintro _ _ ⟨rfl, rfl⟩; (simp only [go_sem]))
    all_goals (refine hR _ (rat [] (hK := ⟨?_, rfl⟩)))
    all_goals clear hR h1 h2 h3 hc
    all_goals simp_all [Tm.isVals_all, List.all_eq_not_any_not]
    all_goals (try grind)

theorem sProxy (t : Tm) : AFn Tryz.prog 117 [.agg (teC t)] (.one (.sc (.bool (proxyB t.kind t.type t.frm)))) := by
  unfold proxyB
  refine fn_in ?_; refine acl_in Tryz.func117 rfl isfn_117 (Nat.le_of_ble_eq_true rfl) (fun R hR => ?_); rw [Tryz.results117] at hR; refine wg_run ?_; (simp only [Tryz.f117, go_sem])
  repeat' (first | (((first | apply sp1 | apply sp2 | apply sp3 | apply sp4 | apply sp5 | apply sp6 | apply sp7) <;> intro hb) <;> (simp only [go_sem, hb])) | ((first | apply wm_done | apply wt_done | apply wg_run | refine fk ?_ ?_) <;> (simp only [go_sem])))
  all_goals (refine hR _ (rat [] (hK := ⟨?_, rfl⟩)))
  all_goals simp_all
theorem sInj (t : Tm) (x : T) (hx : x.ty = t.frm) (h : x.size < 1000000) : AFn Tryz.prog 118 [.agg (teC t)] (.one (.sc (.bool (injB t.kind t.type t.frm)))) := by
  have hg := sGround x h
  rw [hx] at hg
  unfold injB
  refine fn_in ?_; refine acl_in Tryz.func118 rfl isfn_118 (Nat.le_of_ble_eq_true rfl) (fun R hR => ?_); rw [Tryz.results118] at hR; refine wg_run ?_; (simp only [Tryz.f118, go_sem])
  repeat' (first | (first | (((first | apply sp1 | apply sp2 | apply sp3 | apply sp4 | apply sp5 | apply sp6 | apply sp7) <;> intro hb) <;> (simp only [go_sem, hb])) | ((first | apply wm_done | apply wt_done | apply wg_run | refine fk ?_ ?_) <;> (simp only [go_sem]))) | (first | refine cdq ?_ (hc := hg) | refine cmq ?_ (hc := hg) | refine ctq ?_ (hc := hg)); (simp only [go_sem]))
  all_goals (refine hR _ (rat [] (hK := ⟨?_, rfl⟩)))
  all_goals simp_all
theorem sInj0 (t : Tm) (h : (t.kind == 14) = false) : AFn Tryz.prog 118 [.agg (teC t)] (.one (.sc (.bool false))) := by
  refine fn_in ?_; refine acl_in Tryz.func118 rfl isfn_118 (Nat.le_of_ble_eq_true rfl) (fun R hR => ?_); rw [Tryz.results118] at hR; refine wg_run ?_; (simp only [Tryz.f118, go_sem, h])
  repeat' (first | (simp only [go_sem, h]) | (((first | apply sp1 | apply sp2 | apply sp3 | apply sp4 | apply sp5 | apply sp6 | apply sp7) <;> intro hb) <;> (simp only [go_sem, hb, h])) | ((first | apply wm_done | apply wt_done | apply wg_run | refine fk ?_ ?_) <;> (simp only [go_sem, h])))
  (refine hR _ (rat [] (hK := ⟨rfl, rfl⟩)))
theorem sProxy0 (t : Tm) (h : (t.kind == 14) = false) : AFn Tryz.prog 117 [.agg (teC t)] (.one (.sc (.bool false))) := by
  refine fn_in ?_; refine acl_in Tryz.func117 rfl isfn_117 (Nat.le_of_ble_eq_true rfl) (fun R hR => ?_); rw [Tryz.results117] at hR; refine wg_run ?_; (simp only [Tryz.f117, go_sem, h])
  repeat' (first | (simp only [go_sem, h]) | (((first | apply sp1 | apply sp2 | apply sp3 | apply sp4 | apply sp5 | apply sp6 | apply sp7) <;> intro hb) <;> (simp only [go_sem, hb, h])) | ((first | apply wm_done | apply wt_done | apply wg_run | refine fk ?_ ?_) <;> (simp only [go_sem, h])))
  (refine hR _ (rat [] (hK := ⟨rfl, rfl⟩)))
theorem sIsVal (e : E) (h : e.wf = true) : AFn Tryz.prog 76 [.agg (teC e.tm)] (.one (.sc (.bool e.tm.isVal))) := by
  induction e with
  | pair a b iha ihb =>
    simp only [E.wf, Bool.and_eq_true] at h
    have iha := iha h.1
    have ihb := ihb h.2
    have e1 : (E.pair a b).tm.isVal = (a.tm.isVal && b.tm.isVal) := by
      simp only [E.tm, nd, Tm.isVal, Tm.isVals, Bool.and_true]; rfl
    rw [e1]
    simp only [E.tm, nd]
    refine fn_in ?_; refine acl_in Tryz.func76 rfl isfn_76 (Nat.le_of_ble_eq_true rfl) (fun R hR => ?_); rw [Tryz.results76] at hR; refine wg_run ?_; (simp only [Tryz.f76, go_sem])
    repeat' (first | (first | (((first | apply sp1 | apply sp2 | apply sp3 | apply sp4 | apply sp5 | apply sp6 | apply sp7) <;> intro hb) <;> (simp only [go_sem, hb])) | ((first | apply wm_done | apply wt_done | apply wg_run | refine fk ?_ ?_) <;> (simp only [go_sem]))) | (first | refine cdq ?_ (hc := iha) | refine cmq ?_ (hc := iha) | refine ctq ?_ (hc := iha)); (simp only [go_sem]) | (first | refine cdq ?_ (hc := ihb) | refine cmq ?_ (hc := ihb) | refine ctq ?_ (hc := ihb)); (simp only [go_sem]))
    all_goals (refine hR _ (rat [] (hK := ⟨?_, rfl⟩)))
    all_goals simp_all
  | cast s t l a ih =>
    simp only [E.wf, Bool.and_eq_true, decide_eq_true_eq] at h
    have ih := ih h.2.2.2
    have hs : s.size < 1000000 := by have := Ty.valid_16 (t := s.ty) (by rw [T.valid_ty]; simpa using h.1.1); rw [T.ty_size] at this; omega
    have h1 := sProxy (E.cast s t l a).tm
    have h2 := sInj (E.cast s t l a).tm s rfl hs
    have e1 : (E.cast s t l a).tm.isVal = ((proxyB 14 t.ty s.ty || injB 14 t.ty s.ty) && a.tm.isVal) := by
      simp only [E.tm, Tm.isVal, Tm.isVals, Bool.and_true]
      have : ((14 : Int) == 10) = false := rfl
      rw [this, Bool.false_or]
      have hp : plainB 14 = false := rfl
      rw [hp]
      cases (proxyB 14 t.ty s.ty || injB 14 t.ty s.ty) <;> rfl
    rw [e1]
    simp only [E.tm, Tm.kind, Tm.type, Tm.frm] at h1 h2 ⊢
    refine fn_in ?_; refine acl_in Tryz.func76 rfl isfn_76 (Nat.le_of_ble_eq_true rfl) (fun R hR => ?_); rw [Tryz.results76] at hR; refine wg_run ?_; (simp only [Tryz.f76, go_sem])
    repeat' (first | (first | (((first | apply sp1 | apply sp2 | apply sp3 | apply sp4 | apply sp5 | apply sp6 | apply sp7) <;> intro hb) <;> (simp only [go_sem, hb])) | ((first | apply wm_done | apply wt_done | apply wg_run | refine fk ?_ ?_) <;> (simp only [go_sem]))) | (first | refine cdq ?_ (hc := h1) | refine cmq ?_ (hc := h1) | refine ctq ?_ (hc := h1)); (simp only [go_sem]) | (first | refine cdq ?_ (hc := h2) | refine cmq ?_ (hc := h2) | refine ctq ?_ (hc := h2)); (simp only [go_sem]) | (first | refine cdq ?_ (hc := ih) | refine cmq ?_ (hc := ih) | refine ctq ?_ (hc := ih)); (simp only [go_sem]))
    all_goals (refine hR _ (rat [] (hK := ⟨?_, rfl⟩)))
    all_goals clear hR h1 h2 ih
    all_goals simp_all
  | _ =>
    simp only [E.tm, nd]
    refine fn_in ?_; refine acl_in Tryz.func76 rfl isfn_76 (Nat.le_of_ble_eq_true rfl) (fun R hR => ?_); rw [Tryz.results76] at hR; refine wg_run ?_; (simp only [Tryz.f76, go_sem])
    repeat' (first | (first | (((first | apply sp1 | apply sp2 | apply sp3 | apply sp4 | apply sp5 | apply sp6 | apply sp7) <;> intro hb) <;> (simp only [go_sem, hb])) | ((first | apply wm_done | apply wt_done | apply wg_run | refine fk ?_ ?_) <;> (simp only [go_sem]))) | (first | refine cdq ?_ (hc := sProxy0 _ rfl) | refine cmq ?_ (hc := sProxy0 _ rfl) | refine ctq ?_ (hc := sProxy0 _ rfl)); (simp only [go_sem]) | (first | refine cdq ?_ (hc := sInj0 _ rfl) | refine cmq ?_ (hc := sInj0 _ rfl) | refine ctq ?_ (hc := sInj0 _ rfl)); (simp only [go_sem]))
    all_goals (refine hR _ (rat [] (hK := ⟨?_, rfl⟩)))
    all_goals rfl
end Go.Proofs.YtnaebafafhamjaaGreat
/- Types: the relations of subtyping, on shadows (the program, SubPositive, SubNegative). -/
namespace Go.Proofs.YtnaebafafhamjaaGreat
open Go.RowKit Go.Proofs.Sh Go.Proofs.Grad
set_option maxRecDepth 100000
set_option maxHeartbeats 4000000
end Go.Proofs.YtnaebafafhamjaaGreat
/- Terms: safety for a label, on shadows. -/
namespace Go.Proofs.Grad
theorem E.castsL_ok (e : E) (h : e.wf = true) : ∀ c ∈ e.tm.castsL, ∃ s t l a, c = (E.cast s t l a).tm ∧ s.depth ≤ 4 ∧ t.depth ≤ 4 ∧ s.cons t = true ∧ lab l = true := by
  induction e with
  | var _ | num _ | tru | fls => intro c hc; simp [E.tm, nd, Tm.castsL, Tm.castsLs, ownCast, Tm.kind] at hc
  | lam _ _ a ih =>
    simp only [E.wf, Bool.and_eq_true] at h
    intro c hc; simp [E.tm, nd, Tm.castsL, Tm.castsLs, ownCast, Tm.kind] at hc
    exact ih h.2.2 c hc
  | fst a ih | snd a ih =>
    simp only [E.wf, Bool.and_eq_true] at h
    intro c hc; simp [E.tm, nd, Tm.castsL, Tm.castsLs, ownCast, Tm.kind] at hc
    exact ih h c hc
  | app a b iha ihb | add a b iha ihb | less a b iha ihb | pair a b iha ihb =>
    simp only [E.wf, Bool.and_eq_true] at h
    intro c hc; simp [E.tm, nd, Tm.castsL, Tm.castsLs, ownCast, Tm.kind] at hc
    rcases hc with hc | hc
    · exact iha h.1 c hc
    · exact ihb h.2 c hc
  | ite a b c iha ihb ihc =>
    simp only [E.wf, Bool.and_eq_true] at h
    intro x hc; simp [E.tm, nd, Tm.castsL, Tm.castsLs, ownCast, Tm.kind] at hc
    rcases hc with hc | hc | hc
    · exact iha h.1 x hc
    · exact ihb h.2.1 x hc
    · exact ihc h.2.2 x hc
  | cast s t l a ih =>
    simp only [E.wf, Bool.and_eq_true, decide_eq_true_eq] at h
    intro c hc; simp [E.tm, Tm.castsL, Tm.castsLs, ownCast, Tm.kind] at hc
    rcases hc with rfl | hc
    · exact ⟨s, t, l, a, rfl, h.1.1, h.1.2, h.2.1, h.2.2.1⟩
    · exact ih h.2.2.2 c hc
  | _ =>
    rename_i ty a ih
    simp only [E.wf, Bool.and_eq_true] at h
    intro c hc; simp [E.tm, nd, Tm.castsL, Tm.castsLs, ownCast, Tm.kind] at hc
    exact ih h.2 c hc
end Go.Proofs.Grad
namespace Go.Proofs.YtnaebafafhamjaaGreat
open Go.RowKit Go.Proofs.Sh Go.Proofs.Grad
set_option maxRecDepth 100000
set_option maxHeartbeats 8000000
end Go.Proofs.YtnaebafafhamjaaGreat
/- The labels of terms' casts, in the program and in the reference. On shadows. -/
namespace Go.Proofs.Grad
/-- the labels of a term's casts -/
def Tm.labs (t : Tm) : List Int := t.castsL.map Tm.label
def labsOf (l : List Tm) : List Int := l.map Tm.label
theorem E.labs_tm (e : E) : e.tm.labs = e.labs := by
  unfold Tm.labs
  induction e <;> simp_all [E.tm, nd, Tm.castsL, Tm.castsLs, ownCast, Tm.kind, Tm.label, E.labs]
theorem E.labs_nodes (e : E) (h : e.okC = true) : e.labs.length ≤ 200 := by
  rw [← E.labs_tm]
  have := e.tm.castsL_len
  simp only [E.okC, Bool.and_eq_true, decide_eq_true_eq] at h
  rw [E.tm_nodes] at this
  simp only [Tm.labs, List.length_map]; omega
theorem Sh.num_labs {l : List Tm} {k : Nat} (h : k < l.length) : Sh.num (labsOf l) k = (Sh.teKid l k).label := by
  rw [Sh.num_eq (by simpa [labsOf] using h), Sh.teKid_eq h]; simp [labsOf]
noncomputable def Tm.labsV (t : Tm) : List Int := match t.castV with | true => setL t.labs | false => []
theorem E.wf_ok {e : E} (h : e.okC = true) : e.wf = true := by simp only [E.okC, Bool.and_eq_true] at h; exact h.1
end Go.Proofs.Grad
namespace Go.Proofs.YtnaebafafhamjaaGreat
open Go.RowKit Go.Proofs.Sh Go.Proofs.Grad
set_option maxRecDepth 100000
set_option maxHeartbeats 8000000
end Go.Proofs.YtnaebafafhamjaaGreat
/- Casts that are nested directly. No program, no world. -/
namespace Go.Proofs.Grad
/-- the greatest number of casts nested directly; so many above -/
def E.pend : E → Nat → Nat
  | .var _, _ | .num _, _ | .tru, _ | .fls, _ => 0
  | .lam _ _ a, _ | .fst a, _ | .snd a, _ | .asc _ a, _ => a.pend 0
  | .app a b, _ | .add a b, _ | .less a b, _ | .pair a b, _ => max (a.pend 0) (b.pend 0)
  | .ite a b c, _ => max (max (a.pend 0) (b.pend 0)) (c.pend 0)
  | .cast _ _ _ a, k => max (k + 1) (a.pend (k + 1))
def E.lead : E → Nat | .cast _ _ _ a => a.lead + 1 | _ => 0
def E.nest : E → Nat
  | .var _ | .num _ | .tru | .fls => 0
  | .lam _ _ a | .fst a | .snd a | .asc _ a => a.nest
  | .app a b | .add a b | .less a b | .pair a b => max a.nest b.nest
  | .ite a b c => max (max a.nest b.nest) c.nest
  | .cast _ _ _ a => max (a.lead + 1) a.nest
theorem E.lead_nest (e : E) : e.lead ≤ e.nest := by cases e <;> simp only [E.lead, E.nest] <;> omega
theorem E.pend_eq (e : E) : ∀ k : Nat, e.pend k = max (match e.lead with | 0 => 0 | n + 1 => k + n + 1) e.nest := by
  have hz : ∀ x : E, max (match x.lead with | 0 => 0 | n + 1 => 0 + n + 1) x.nest = x.nest := by
    intro x
    have := x.lead_nest
    cases h : x.lead with
    | zero => simp
    | succ n => simp only []; omega
  induction e with
  | cast s t l a ih =>
    intro k
    simp only [E.pend, E.lead, E.nest, ih]
    have := a.lead_nest
    cases h : a.lead with
    | zero => simp only []; omega
    | succ n => simp only []; omega
  | var _ | num _ | tru | fls => intro k; simp [E.pend, E.lead, E.nest]
  | lam _ _ a ih | fst a ih | snd a ih | asc _ a ih => intro k; simp only [E.pend, E.lead, E.nest, ih, hz]; omega
  | app a b iha ihb | add a b iha ihb | less a b iha ihb | pair a b iha ihb => intro k; simp only [E.pend, E.lead, E.nest, iha, ihb, hz]; omega
  | ite a b c iha ihb ihc => intro k; simp only [E.pend, E.lead, E.nest, iha, ihb, ihc, hz]; omega
theorem E.pend_nest (e : E) : e.pend 0 = e.nest := by
  rw [E.pend_eq]
  have := e.lead_nest
  cases h : e.lead with
  | zero => simp
  | succ n => simp only []; omega
theorem E.nest_nodes (e : E) : e.nest ≤ e.nodes ∧ e.lead ≤ e.nodes := by
  induction e <;> simp only [E.nest, E.lead, E.nodes] <;> omega
/-- the greatest number among the terms that are reached -/
def E.pI : Nat → E → Nat → Nat
  | 0, _, b => b
  | k + 1, x, b => match x.sc with | .took y => y.pI k (max b y.nest) | _ => b
theorem E.pI_took {x y : E} (h : x.sc = .took y) (k b : Nat) : x.pI (k + 1) b = y.pI k (max b y.nest) := by simp only [E.pI, h]
theorem E.pI_stop {x : E} (h : ∀ y, x.sc ≠ .took y) (k b : Nat) : x.pI k b = b := by
  cases k with
  | zero => rfl
  | succ k =>
    rw [E.pI]
    cases hx : x.sc with
    | took y => exact absurd hx (h y)
    | _ => rfl
/-- the greatest number of pending casts -/
noncomputable def Tm.pendV (t : Tm) (f : Int) : Nat := by
  classical
  exact if h : t.castV = true then (match decide (0 ≤ f) && decide (f ≤ 300) with | true => (Classical.choose (Tm.castV_E h)).pI f.toNat (Classical.choose (Tm.castV_E h)).nest | false => 0) else 0
theorem Tm.pendV_E {e : E} (h : e.okC = true) (f : Nat) (hf : f ≤ 300) : Tm.pendV e.tm f = e.pI f e.nest := by
  have h' : e.tm.castV = true := by rw [E.castV_tm]; exact h
  unfold Tm.pendV
  rw [dif_pos h', E.tm_inj _ _ (Classical.choose_spec (Tm.castV_E h')).1]
  have : (decide ((0 : Int) ≤ (f : Int)) && decide ((f : Int) ≤ 300)) = true := by simp; omega
  rw [this]
  rfl
theorem Tm.pendV_bad {t : Tm} (h : t.castV = false) (f : Int) : Tm.pendV t f = 0 := by unfold Tm.pendV; rw [dif_neg (by simp [h])]
theorem Tm.pendV_off (t : Tm) {f : Int} (h : (decide (0 ≤ f) && decide (f ≤ 300)) = false) : Tm.pendV t f = 0 := by
  unfold Tm.pendV; split
  · rw [h]
  · rfl
end Go.Proofs.Grad
/- StepCast and EvalCast at terms as they come. No program, no world. -/
namespace Go.Proofs.Grad
end Go.Proofs.Grad
/- Laws of evaluation: fuel, steps, contexts. No program, no world. -/
namespace Go.Proofs.Grad
end Go.Proofs.Grad
/- Blame: terms as they come. No program, no world. -/
namespace Go.Proofs.Grad
theorem Tm.labs_of {e : E} (h : e.okC = true) : e.tm.labsV = setL e.labs := by
  have h' : e.tm.castV = true := by rw [E.castV_tm]; exact h
  unfold Tm.labsV
  rw [h', E.labs_tm]
end Go.Proofs.Grad
