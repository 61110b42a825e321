/- Texts of the proof, one behind another. -/
import Derived.Test.YtchcbfbnffhifaaKB7
import Derived.Test.YtchcbfbnffhifaaKB9
set_option linter.unusedSimpArgs false
set_option linter.unusedVariables false
/- Terms: values, on shadows. -/
namespace Go.Proofs.Grad
def grTy (k : Int) : Ty := match k == 4 || k == 5 with | true => .mk k [.mk 1 [], .mk 1 []] | false => .mk k []
def Ty.isGr (t : Ty) : Bool := !(t.kind == 1) && t.same (grTy t.kind)
def proxyB (k : Int) (t f : Ty) : Bool := k == 14 && (f.kind == t.kind && (t.kind == 4 || t.kind == 5))
def injB (k : Int) (t f : Ty) : Bool := k == 14 && (t.kind == 1 && f.isGr)
def plainB (k : Int) : Bool := k == 2 || (k == 3 || (k == 4 || k == 5))
mutual
def Tm.isVal : Tm → Bool | .mk k _ _ t f _ ks => match k == 10 || (proxyB k t f || injB k t f) with | true => Tm.isVals ks | false => plainB k
def Tm.isVals : List Tm → Bool | [] => true | t :: l => t.isVal && Tm.isVals l
end
theorem Tm.isVals_all (l : List Tm) : Tm.isVals l = l.all Tm.isVal := by
  induction l with
  | nil => rfl
  | cons t l ih => simp [Tm.isVals, ih]
theorem Tm.isVal_eq (t : Tm) : t.isVal = (match t.kind == 10 || (proxyB t.kind t.type t.frm || injB t.kind t.type t.frm) with | true => Tm.isVals t.kids | false => plainB t.kind) := by cases t; rfl
theorem T.ground_ty (x : T) : x.ground.ty = grTy x.ty.kind := by cases x <;> rfl
end Go.Proofs.Grad
namespace Go.Proofs.Ytchcbfbnffhifaa
open Go.RowKit Go.Proofs.Sh Go.Proofs.Grad
set_option maxRecDepth 100000
set_option maxHeartbeats 8000000
theorem iGroundR (k : Int) : AFn Try.prog 144 [.one (.sc (.int .i64 k))] (.agg (tyC (grTy k))) := by
  have hb := both k (.mk 1 []) (.mk 1 [])
  have h1 := base 1
  have h0 := base k
  unfold grTy
  cases h4 : (k == 4)
  · cases h5 : (k == 5)
    all_goals
      refine fn_in ?_; refine acl_in Try.func144 rfl isfn_144 (Nat.le_of_ble_eq_true rfl) (fun R hR => ?_); rw [Try.results144] at hR; refine wg_run ?_; (simp only [Try.f144, go_sem, h4, h5])
      repeat' (first | (first | (simp only [go_sem, h4, h5]) | (((first | refine sp1 ?_ ?_ | refine sp2 ?_ ?_ | refine sp3 ?_ ?_ | refine sp4 ?_ ?_ | refine sp5 ?_ ?_ | refine sp6 ?_ ?_ | refine sp7 ?_ ?_) <;> intro hb) <;> (simp only [go_sem, hb, h4, h5])) | ((first | refine wm_done ?_ | refine wt_done ?_ | refine wg_run ?_ | refine fk ?_ ?_) <;> (simp only [go_sem, h4, h5]))) | ((first | refine mx 6 [] follows ?_ | refine mx 5 [] follows ?_ | refine mx 4 [] follows ?_ | refine mx 3 [] follows ?_ | refine mx 2 [] follows ?_ | refine mx 1 [] follows ?_ | refine mx 0 [] follows ?_ | fail); (simp only [go_sem, h4, h5])) | (first | refine cd (hc := h1) (hK := ?_) | refine cm (hc := h1) (hK := ?_) | refine ct (hc := h1) (hK := ?_)); (simp only [go_sem]) | (first | refine cd (hc := h0) (hK := ?_) | refine cm (hc := h0) (hK := ?_) | refine ct (hc := h0) (hK := ?_)); (simp only [go_sem]) | (first | refine cd (hc := hb) (hK := ?_) | refine cm (hc := hb) (hK := ?_) | refine ct (hc := hb) (hK := ?_)); (simp only [go_sem]))
      (refine hR _ (rat [] (hK := ⟨?_, rfl⟩)))
      rfl
  · refine fn_in ?_; refine acl_in Try.func144 rfl isfn_144 (Nat.le_of_ble_eq_true rfl) (fun R hR => ?_); rw [Try.results144] at hR; refine wg_run ?_; (simp only [Try.f144, go_sem, h4])
    repeat' (first | (first | (simp only [go_sem, h4]) | (((first | refine sp1 ?_ ?_ | refine sp2 ?_ ?_ | refine sp3 ?_ ?_ | refine sp4 ?_ ?_ | refine sp5 ?_ ?_ | refine sp6 ?_ ?_ | refine sp7 ?_ ?_) <;> intro hb) <;> (simp only [go_sem, hb, h4])) | ((first | refine wm_done ?_ | refine wt_done ?_ | refine wg_run ?_ | refine fk ?_ ?_) <;> (simp only [go_sem, h4]))) | ((first | refine mx 6 [] follows ?_ | refine mx 5 [] follows ?_ | refine mx 4 [] follows ?_ | refine mx 3 [] follows ?_ | refine mx 2 [] follows ?_ | refine mx 1 [] follows ?_ | refine mx 0 [] follows ?_ | fail); (simp only [go_sem, h4])) | (first | refine cd (hc := h1) (hK := ?_) | refine cm (hc := h1) (hK := ?_) | refine ct (hc := h1) (hK := ?_)); (simp only [go_sem]) | (first | refine cd (hc := h0) (hK := ?_) | refine cm (hc := h0) (hK := ?_) | refine ct (hc := h0) (hK := ?_)); (simp only [go_sem]) | (first | refine cd (hc := hb) (hK := ?_) | refine cm (hc := hb) (hK := ?_) | refine ct (hc := hb) (hK := ?_)); (simp only [go_sem]))
    (refine hR _ (rat [] (hK := ⟨?_, rfl⟩)))
    rfl
theorem iIsGround (t : Ty) (h : t.size < 4611686018427387904) : AFn Try.prog 140 [.agg (tyC t)] (.one (.sc (.bool t.isGr))) := by
  have hg := iGroundR t.kind
  have hs := iSame _ (Nat.le_refl _) t (grTy t.kind) h
  unfold Ty.isGr
  refine fn_in ?_; refine acl_in Try.func140 rfl isfn_140 (Nat.le_of_ble_eq_true rfl) (fun R hR => ?_); rw [Try.results140] at hR; refine wg_run ?_; (simp only [Try.f140, go_sem])
  repeat' (first | (first | (simp only [go_sem, int_bne]) | (((first | refine sp1 ?_ ?_ | refine sp2 ?_ ?_ | refine sp3 ?_ ?_ | refine sp4 ?_ ?_ | refine sp5 ?_ ?_ | refine sp6 ?_ ?_ | refine sp7 ?_ ?_) <;> intro hb) <;> (simp only [go_sem, hb, int_bne])) | ((first | refine wm_done ?_ | refine wt_done ?_ | refine wg_run ?_ | refine fk ?_ ?_) <;> (simp only [go_sem, int_bne]))) | ((first | refine mx 6 [] follows ?_ | refine mx 5 [] follows ?_ | refine mx 4 [] follows ?_ | refine mx 3 [] follows ?_ | refine mx 2 [] follows ?_ | refine mx 1 [] follows ?_ | refine mx 0 [] follows ?_ | fail); (simp only [go_sem, int_bne])) | (first | refine cd (hc := hg) (hK := ?_) | refine cm (hc := hg) (hK := ?_) | refine ct (hc := hg) (hK := ?_)); (simp only [go_sem]) | (first | refine cd (hc := hs) (hK := ?_) | refine cm (hc := hs) (hK := ?_) | refine ct (hc := hs) (hK := ?_)); (simp only [go_sem]))
  all_goals (refine hR _ (rat [] (hK := ⟨?_, rfl⟩)))
  all_goals simp_all
theorem sSame (n : Nat) (hn : n ≤ 4611686018427387904) : ∀ a b : Ty, a.size < n → AFn Try.prog 115 [.agg (tyC a), .agg (tyC b)] (.one (.sc (.bool (a.same b)))) := by
  induction n with
  | zero => intro a b h; omega
  | succ n ih =>
    intro a b h
    have hl : a.kids.length < 4611686018427387904 := by have := Ty.length_le_sizes a.kids; cases a; simp only [Ty.size, Ty.kids] at *; omega
    have e : a.same b = (a.kind == b.kind && all2 Ty.same a.kids b.kids) := by cases a; cases b; simp only [Ty.same, Ty.kind, Ty.kids, Ty.sames_all2]
    rw [e]
    cases hk : (a.kind == b.kind)
    · refine fn_in ?_; refine acl_in Try.func115 rfl isfn_115 (Nat.le_of_ble_eq_true rfl) (fun R hR => ?_); rw [Try.results115] at hR; refine wg_run ?_; (simp only [Try.f115, go_sem, hk, int_bne])
      repeat' (first | (simp only [go_sem, hk, int_bne]) | (((first | refine sp1 ?_ ?_ | refine sp2 ?_ ?_ | refine sp3 ?_ ?_ | refine sp4 ?_ ?_ | refine sp5 ?_ ?_ | refine sp6 ?_ ?_ | refine sp7 ?_ ?_) <;> intro hb) <;> (simp only [go_sem, hb, hk, int_bne])) | ((first | refine wm_done ?_ | refine wt_done ?_ | refine wg_run ?_ | refine fk ?_ ?_) <;> (simp only [go_sem, hk, int_bne])))
      (refine hR _ (rat [] (hK := ⟨rfl, rfl⟩)))
    · by_cases hlm : a.kids.length = b.kids.length
      · have hb0 : ((a.kids.length : Int) == (b.kids.length : Int)) = true := by simp; omega
        refine fn_in ?_; refine acl_in Try.func115 rfl isfn_115 (Nat.le_of_ble_eq_true rfl) (fun R hR => ?_); rw [Try.results115] at hR; refine wg_run ?_; (simp only [Try.f115, go_sem, hk, int_bne, hb0])
        repeat' (first | (simp only [go_sem, hk, int_bne, hb0]) | (((first | refine sp1 ?_ ?_ | refine sp2 ?_ ?_ | refine sp3 ?_ ?_ | refine sp4 ?_ ?_ | refine sp5 ?_ ?_ | refine sp6 ?_ ?_ | refine sp7 ?_ ?_) <;> intro hb) <;> (simp only [go_sem, hb, hk, int_bne, hb0])) | ((first | refine wm_done ?_ | refine wt_done ?_ | refine wg_run ?_ | refine fk ?_ ?_) <;> (simp only [go_sem, hk, int_bne, hb0])))
        refine wd_for [2, 3, 5] (fun k => [.one (.ptr 2 0 0 0), .one (.ptr 2 1 0 0), .one (.sc (.int .i64 (k : Nat)))]) (fun _ => [⟨2, 32, .mut, [tyC a]⟩, ⟨2, 32, .mut, [tyC b]⟩])
          (fun k => k ≤ a.kids.length ∧ all2 Ty.same (a.kids.drop k) (b.kids.drop k) = all2 Ty.same a.kids b.kids) (fun k => a.kids.length - k) 0 ⟨Nat.zero_le _, rfl⟩ (hat [0, 1] (hI := ⟨rfl, rfl⟩)) ?_
        rintro k ⟨hk0, hs⟩ G hG
        refine wg_run ?_
        (simp only [go_sem])
        ((first | refine sp1 ?_ ?_ | refine sp2 ?_ ?_ | refine sp3 ?_ ?_ | refine sp4 ?_ ?_ | refine sp5 ?_ ?_ | refine sp6 ?_ ?_ | refine sp7 ?_ ?_) <;> intro hb) <;> (simp only [go_sem, hb])
        · have hk1 : k < a.kids.length := by have := of_decide_eq_true hb; omega
          have hk2 : decide ((k : Int) < (b.kids.length : Int)) = true := by simp; omega
          have hw1 := wrap_succ hk1 (by omega)
          rw [drop_kid hk1, drop_kid (by omega : k < b.kids.length), all2] at hs
          have hc := ih (by omega) (kid a.kids k) (kid b.kids k) (by have := kid_lt hk1; omega)
          repeat' (first | (first | (simp only [go_sem, hb, hk2, hw1]) | (((first | refine sp1 ?_ ?_ | refine sp2 ?_ ?_ | refine sp3 ?_ ?_ | refine sp4 ?_ ?_ | refine sp5 ?_ ?_ | refine sp6 ?_ ?_ | refine sp7 ?_ ?_) <;> intro hb) <;> (simp only [go_sem, hb, hb, hk2, hw1])) | ((first | refine wm_done ?_ | refine wt_done ?_ | refine wg_run ?_ | refine fk ?_ ?_) <;> (simp only [go_sem, hb, hk2, hw1]))) | ((first | refine mx 6 [] follows ?_ | refine mx 5 [] follows ?_ | refine mx 4 [] follows ?_ | refine mx 3 [] follows ?_ | refine mx 2 [] follows ?_ | refine mx 1 [] follows ?_ | refine mx 0 [] follows ?_ | fail); (simp only [go_sem, hb, hk2])) | (first | refine cd (hc := hc) (hK := ?_) | refine cm (hc := hc) (hK := ?_) | refine ct (hc := hc) (hK := ?_)); (simp only [go_sem]))
          · exact hG (k + 1) _ _ ⟨by omega, by simpa [hb] using hs⟩ (by omega) (hat [0, 1] (hI := ⟨rfl, rfl⟩))
          · (refine hR _ (rat [] (hK := ⟨?_, rfl⟩)))
            simpa [hb] using hs
        · have hk1 : ¬ k < a.kids.length := by have := of_decide_eq_false hb; omega
          rw [List.drop_eq_nil_of_le (by omega), List.drop_eq_nil_of_le (by omega), all2] at hs
          (refine hR _ (rat [] (hK := ⟨?_, rfl⟩)))
          rw [← hs]; rfl
      · have hb0 : ((a.kids.length : Int) == (b.kids.length : Int)) = false := by simp; omega
        refine fn_in ?_; refine acl_in Try.func115 rfl isfn_115 (Nat.le_of_ble_eq_true rfl) (fun R hR => ?_); rw [Try.results115] at hR; refine wg_run ?_; (simp only [Try.f115, go_sem, hk, int_bne, hb0])
        repeat' (first | (simp only [go_sem, hk, int_bne, hb0]) | (((first | refine sp1 ?_ ?_ | refine sp2 ?_ ?_ | refine sp3 ?_ ?_ | refine sp4 ?_ ?_ | refine sp5 ?_ ?_ | refine sp6 ?_ ?_ | refine sp7 ?_ ?_) <;> intro hb) <;> (simp only [go_sem, hb, hk, int_bne, hb0])) | ((first | refine wm_done ?_ | refine wt_done ?_ | refine wg_run ?_ | refine fk ?_ ?_) <;> (simp only [go_sem, hk, int_bne, hb0])))
        (refine hR _ (rat [] (hK := ⟨?_, rfl⟩)))
        rw [all2_len hlm]; rfl
theorem sGround (x : T) (h : x.size < 1000000) : AFn Try.prog 139 [.agg (tyC x.ty)] (.one (.sc (.bool x.ty.isGr))) := by
  have hg := l1Ground x
  have hs := sSame 1000000 (by omega) x.ty x.ground.ty (by rw [T.ty_size]; exact h)
  rw [T.ground_ty] at hg hs
  unfold Ty.isGr
  refine fn_in ?_; refine acl_in Try.func139 rfl isfn_139 (Nat.le_of_ble_eq_true rfl) (fun R hR => ?_); rw [Try.results139] at hR; refine wg_run ?_; (simp only [Try.f139, go_sem])
  repeat' (first | (first | (simp only [go_sem, int_bne]) | (((first | refine sp1 ?_ ?_ | refine sp2 ?_ ?_ | refine sp3 ?_ ?_ | refine sp4 ?_ ?_ | refine sp5 ?_ ?_ | refine sp6 ?_ ?_ | refine sp7 ?_ ?_) <;> intro hb) <;> (simp only [go_sem, hb, int_bne])) | ((first | refine wm_done ?_ | refine wt_done ?_ | refine wg_run ?_ | refine fk ?_ ?_) <;> (simp only [go_sem, int_bne]))) | ((first | refine mx 6 [] follows ?_ | refine mx 5 [] follows ?_ | refine mx 4 [] follows ?_ | refine mx 3 [] follows ?_ | refine mx 2 [] follows ?_ | refine mx 1 [] follows ?_ | refine mx 0 [] follows ?_ | fail); (simp only [go_sem, int_bne])) | (first | refine cd (hc := hg) (hK := ?_) | refine cm (hc := hg) (hK := ?_) | refine ct (hc := hg) (hK := ?_)); (simp only [go_sem]) | (first | refine cd (hc := hs) (hK := ?_) | refine cm (hc := hs) (hK := ?_) | refine ct (hc := hs) (hK := ?_)); (simp only [go_sem]))
  all_goals (refine hR _ (rat [] (hK := ⟨?_, rfl⟩)))
  all_goals simp_all
theorem iProxy (t : Tm) : AFn Try.prog 104 [.agg (teC t)] (.one (.sc (.bool (proxyB t.kind t.type t.frm)))) := by
  unfold proxyB
  refine fn_in ?_; refine acl_in Try.func104 rfl isfn_104 (Nat.le_of_ble_eq_true rfl) (fun R hR => ?_); rw [Try.results104] at hR; refine wg_run ?_; (simp only [Try.f104, go_sem])
  repeat' (first | (((first | refine sp1 ?_ ?_ | refine sp2 ?_ ?_ | refine sp3 ?_ ?_ | refine sp4 ?_ ?_ | refine sp5 ?_ ?_ | refine sp6 ?_ ?_ | refine sp7 ?_ ?_) <;> intro hb) <;> (simp only [go_sem, hb])) | ((first | refine wm_done ?_ | refine wt_done ?_ | refine wg_run ?_ | refine fk ?_ ?_) <;> (simp only [go_sem])))
  all_goals (refine hR _ (rat [] (hK := ⟨?_, rfl⟩)))
  all_goals simp_all
theorem iInj (t : Tm) (h : t.size < 4611686018427387904) : AFn Try.prog 105 [.agg (teC t)] (.one (.sc (.bool (injB t.kind t.type t.frm)))) := by
  have hg := iIsGround t.frm (by cases t; simp only [Tm.size, Tm.frm] at *; omega)
  unfold injB
  refine fn_in ?_; refine acl_in Try.func105 rfl isfn_105 (Nat.le_of_ble_eq_true rfl) (fun R hR => ?_); rw [Try.results105] at hR; refine wg_run ?_; (simp only [Try.f105, go_sem])
  repeat' (first | (first | (((first | refine sp1 ?_ ?_ | refine sp2 ?_ ?_ | refine sp3 ?_ ?_ | refine sp4 ?_ ?_ | refine sp5 ?_ ?_ | refine sp6 ?_ ?_ | refine sp7 ?_ ?_) <;> intro hb) <;> (simp only [go_sem, hb])) | ((first | refine wm_done ?_ | refine wt_done ?_ | refine wg_run ?_ | refine fk ?_ ?_) <;> (simp only [go_sem]))) | (first | refine cd (hc := hg) (hK := ?_) | refine cm (hc := hg) (hK := ?_) | refine ct (hc := hg) (hK := ?_)); (simp only [go_sem]))
  all_goals (refine hR _ (rat [] (hK := ⟨?_, rfl⟩)))
  all_goals simp_all
theorem iPlain (t : Tm) : AFn Try.prog 108 [.agg (teC t)] (.one (.sc (.bool (plainB t.kind)))) := by
  unfold plainB
  refine fn_in ?_; refine acl_in Try.func108 rfl isfn_108 (Nat.le_of_ble_eq_true rfl) (fun R hR => ?_); rw [Try.results108] at hR; refine wg_run ?_; (simp only [Try.f108, go_sem])
  repeat' (first | (((first | refine sp1 ?_ ?_ | refine sp2 ?_ ?_ | refine sp3 ?_ ?_ | refine sp4 ?_ ?_ | refine sp5 ?_ ?_ | refine sp6 ?_ ?_ | refine sp7 ?_ ?_) <;> intro hb) <;> (simp only [go_sem, hb])) | ((first | refine wm_done ?_ | refine wt_done ?_ | refine wg_run ?_ | refine fk ?_ ?_) <;> (simp only [go_sem])))
  all_goals (refine hR _ (rat [] (hK := ⟨?_, rfl⟩)))
  all_goals (clear hR; simp_all)
  all_goals (try grind)
theorem iIsVal (n : Nat) (hn : n ≤ 4611686018427387904) : ∀ t : Tm, t.size < n → AFn Try.prog 60 [.agg (teC t)] (.one (.sc (.bool t.isVal))) := by
  induction n with
  | zero => intro t h; omega
  | succ n ih =>
    intro t h
    have h1 := iProxy t
    have h2 := iInj t (by omega)
    have h3 := iPlain t
    have hl := telen_lt t
    have hc : ACl Try.prog 106 [.one (.sl (teR t.kids)), .one (.fn 107 [])] [] (fun r H' => r = .one (.sc (.bool (t.kids.any (fun x => !x.isVal)))) ∧ H' = []) := by
      refine teContainsFunc0 _ (fun x => !x.isVal) _ (by omega) ?_
      intro k hk
      have := ih (by omega) (teKid t.kids k) (by have := teKid_lt hk; omega)
      refine acl_in Try.func107 rfl isfn_107 (Nat.le_of_ble_eq_true rfl) (fun R hR => ?_); rw [Try.results107] at hR; refine wg_run ?_; (simp only [Try.f107, go_sem])
      repeat' (first | (first | (((first | refine sp1 ?_ ?_ | refine sp2 ?_ ?_ | refine sp3 ?_ ?_ | refine sp4 ?_ ?_ | refine sp5 ?_ ?_ | refine sp6 ?_ ?_ | refine sp7 ?_ ?_) <;> intro hb) <;> (simp only [go_sem, hb])) | ((first | refine wm_done ?_ | refine wt_done ?_ | refine wg_run ?_ | refine fk ?_ ?_) <;> (simp only [go_sem]))) | (first | refine cd (hc := this) (hK := ?_) | refine cm (hc := this) (hK := ?_) | refine ct (hc := this) (hK := ?_)); (simp only [go_sem]))
      (refine hR _ (rat [] (hK := ⟨?_, ?_⟩)))
      · rfl
      · rfl
    rw [Tm.isVal_eq]
    clear ih
    refine fn_in ?_; refine acl_in Try.func60 rfl isfn_60 (Nat.le_of_ble_eq_true rfl) (fun R hR => ?_); rw [Try.results60] at hR; refine wg_run ?_; (simp only [Try.f60, go_sem])
    repeat' (first | (first | (((first | refine sp1 ?_ ?_ | refine sp2 ?_ ?_ | refine sp3 ?_ ?_ | refine sp4 ?_ ?_ | refine sp5 ?_ ?_ | refine sp6 ?_ ?_ | refine sp7 ?_ ?_) <;> intro hb) <;> (simp only [go_sem, hb])) | ((first | refine wm_done ?_ | refine wt_done ?_ | refine wg_run ?_ | refine fk ?_ ?_) <;> (simp only [go_sem]))) | (first | refine cd (hc := h1) (hK := ?_) | refine cm (hc := h1) (hK := ?_) | refine ct (hc := h1) (hK := ?_)); (simp only [go_sem]) | (first | refine cd (hc := h2) (hK := ?_) | refine cm (hc := h2) (hK := ?_) | refine ct (hc := h2) (hK := ?_)); (simp only [go_sem]) | (first | refine cd (hc := h3) (hK := ?_) | refine cm (hc := h3) (hK := ?_) | refine ct (hc := h3) (hK := ?_)); (simp only [go_sem]) | (first | refine kd [] (hc := hc) (hK := ?_) | refine km [] (hc := hc) (hK := ?_) | refine kt [] (hc := hc) (hK := ?_)); rintro _ _ ⟨rfl, rfl⟩; (simp only [go_sem]))
    all_goals (refine hR _ (rat [] (hK := ⟨?_, rfl⟩)))
    all_goals clear hR h1 h2 h3 hc
    all_goals simp_all [Tm.isVals_all, List.all_eq_not_any_not]
    all_goals (try grind)

theorem sProxy (t : Tm) : AFn Try.prog 102 [.agg (teC t)] (.one (.sc (.bool (proxyB t.kind t.type t.frm)))) := by
  unfold proxyB
  refine fn_in ?_; refine acl_in Try.func102 rfl isfn_102 (Nat.le_of_ble_eq_true rfl) (fun R hR => ?_); rw [Try.results102] at hR; refine wg_run ?_; (simp only [Try.f102, go_sem])
  repeat' (first | (((first | refine sp1 ?_ ?_ | refine sp2 ?_ ?_ | refine sp3 ?_ ?_ | refine sp4 ?_ ?_ | refine sp5 ?_ ?_ | refine sp6 ?_ ?_ | refine sp7 ?_ ?_) <;> intro hb) <;> (simp only [go_sem, hb])) | ((first | refine wm_done ?_ | refine wt_done ?_ | refine wg_run ?_ | refine fk ?_ ?_) <;> (simp only [go_sem])))
  all_goals (refine hR _ (rat [] (hK := ⟨?_, rfl⟩)))
  all_goals simp_all
theorem sInj (t : Tm) (x : T) (hx : x.ty = t.frm) (h : x.size < 1000000) : AFn Try.prog 103 [.agg (teC t)] (.one (.sc (.bool (injB t.kind t.type t.frm)))) := by
  have hg := sGround x h
  rw [hx] at hg
  unfold injB
  refine fn_in ?_; refine acl_in Try.func103 rfl isfn_103 (Nat.le_of_ble_eq_true rfl) (fun R hR => ?_); rw [Try.results103] at hR; refine wg_run ?_; (simp only [Try.f103, go_sem])
  repeat' (first | (first | (((first | refine sp1 ?_ ?_ | refine sp2 ?_ ?_ | refine sp3 ?_ ?_ | refine sp4 ?_ ?_ | refine sp5 ?_ ?_ | refine sp6 ?_ ?_ | refine sp7 ?_ ?_) <;> intro hb) <;> (simp only [go_sem, hb])) | ((first | refine wm_done ?_ | refine wt_done ?_ | refine wg_run ?_ | refine fk ?_ ?_) <;> (simp only [go_sem]))) | (first | refine cd (hc := hg) (hK := ?_) | refine cm (hc := hg) (hK := ?_) | refine ct (hc := hg) (hK := ?_)); (simp only [go_sem]))
  all_goals (refine hR _ (rat [] (hK := ⟨?_, rfl⟩)))
  all_goals simp_all
theorem sInj0 (t : Tm) (h : (t.kind == 14) = false) : AFn Try.prog 103 [.agg (teC t)] (.one (.sc (.bool false))) := by
  refine fn_in ?_; refine acl_in Try.func103 rfl isfn_103 (Nat.le_of_ble_eq_true rfl) (fun R hR => ?_); rw [Try.results103] at hR; refine wg_run ?_; (simp only [Try.f103, go_sem, h])
  repeat' (first | (simp only [go_sem, h]) | (((first | refine sp1 ?_ ?_ | refine sp2 ?_ ?_ | refine sp3 ?_ ?_ | refine sp4 ?_ ?_ | refine sp5 ?_ ?_ | refine sp6 ?_ ?_ | refine sp7 ?_ ?_) <;> intro hb) <;> (simp only [go_sem, hb, h])) | ((first | refine wm_done ?_ | refine wt_done ?_ | refine wg_run ?_ | refine fk ?_ ?_) <;> (simp only [go_sem, h])))
  (refine hR _ (rat [] (hK := ⟨rfl, rfl⟩)))
theorem sProxy0 (t : Tm) (h : (t.kind == 14) = false) : AFn Try.prog 102 [.agg (teC t)] (.one (.sc (.bool false))) := by
  refine fn_in ?_; refine acl_in Try.func102 rfl isfn_102 (Nat.le_of_ble_eq_true rfl) (fun R hR => ?_); rw [Try.results102] at hR; refine wg_run ?_; (simp only [Try.f102, go_sem, h])
  repeat' (first | (simp only [go_sem, h]) | (((first | refine sp1 ?_ ?_ | refine sp2 ?_ ?_ | refine sp3 ?_ ?_ | refine sp4 ?_ ?_ | refine sp5 ?_ ?_ | refine sp6 ?_ ?_ | refine sp7 ?_ ?_) <;> intro hb) <;> (simp only [go_sem, hb, h])) | ((first | refine wm_done ?_ | refine wt_done ?_ | refine wg_run ?_ | refine fk ?_ ?_) <;> (simp only [go_sem, h])))
  (refine hR _ (rat [] (hK := ⟨rfl, rfl⟩)))
theorem sIsVal (e : E) (h : e.wf = true) : AFn Try.prog 59 [.agg (teC e.tm)] (.one (.sc (.bool e.tm.isVal))) := by
  induction e with
  | pair a b iha ihb =>
    simp only [E.wf, Bool.and_eq_true] at h
    have iha := iha h.1
    have ihb := ihb h.2
    have e1 : (E.pair a b).tm.isVal = (a.tm.isVal && b.tm.isVal) := by
      simp only [E.tm, nd, Tm.isVal, Tm.isVals, Bool.and_true]; rfl
    rw [e1]
    simp only [E.tm, nd]
    refine fn_in ?_; refine acl_in Try.func59 rfl isfn_59 (Nat.le_of_ble_eq_true rfl) (fun R hR => ?_); rw [Try.results59] at hR; refine wg_run ?_; (simp only [Try.f59, go_sem])
    repeat' (first | (first | (((first | refine sp1 ?_ ?_ | refine sp2 ?_ ?_ | refine sp3 ?_ ?_ | refine sp4 ?_ ?_ | refine sp5 ?_ ?_ | refine sp6 ?_ ?_ | refine sp7 ?_ ?_) <;> intro hb) <;> (simp only [go_sem, hb])) | ((first | refine wm_done ?_ | refine wt_done ?_ | refine wg_run ?_ | refine fk ?_ ?_) <;> (simp only [go_sem]))) | (first | refine cd (hc := iha) (hK := ?_) | refine cm (hc := iha) (hK := ?_) | refine ct (hc := iha) (hK := ?_)); (simp only [go_sem]) | (first | refine cd (hc := ihb) (hK := ?_) | refine cm (hc := ihb) (hK := ?_) | refine ct (hc := ihb) (hK := ?_)); (simp only [go_sem]))
    all_goals (refine hR _ (rat [] (hK := ⟨?_, rfl⟩)))
    all_goals simp_all
  | cast s t l a ih =>
    simp only [E.wf, Bool.and_eq_true, decide_eq_true_eq] at h
    have ih := ih h.2.2.2
    have hs : s.size < 1000000 := by have := Ty.valid_16 (t := s.ty) (by rw [T.valid_ty]; simpa using h.1.1); rw [T.ty_size] at this; omega
    have h1 := sProxy (E.cast s t l a).tm
    have h2 := sInj (E.cast s t l a).tm s rfl hs
    have e1 : (E.cast s t l a).tm.isVal = ((proxyB 14 t.ty s.ty || injB 14 t.ty s.ty) && a.tm.isVal) := by
      simp only [E.tm, Tm.isVal, Tm.isVals, Bool.and_true]
      have : ((14 : Int) == 10) = false := rfl
      rw [this, Bool.false_or]
      have hp : plainB 14 = false := rfl
      rw [hp]
      cases (proxyB 14 t.ty s.ty || injB 14 t.ty s.ty) <;> rfl
    rw [e1]
    simp only [E.tm, Tm.kind, Tm.type, Tm.frm] at h1 h2 ⊢
    refine fn_in ?_; refine acl_in Try.func59 rfl isfn_59 (Nat.le_of_ble_eq_true rfl) (fun R hR => ?_); rw [Try.results59] at hR; refine wg_run ?_; (simp only [Try.f59, go_sem])
    repeat' (first | (first | (((first | refine sp1 ?_ ?_ | refine sp2 ?_ ?_ | refine sp3 ?_ ?_ | refine sp4 ?_ ?_ | refine sp5 ?_ ?_ | refine sp6 ?_ ?_ | refine sp7 ?_ ?_) <;> intro hb) <;> (simp only [go_sem, hb])) | ((first | refine wm_done ?_ | refine wt_done ?_ | refine wg_run ?_ | refine fk ?_ ?_) <;> (simp only [go_sem]))) | (first | refine cd (hc := h1) (hK := ?_) | refine cm (hc := h1) (hK := ?_) | refine ct (hc := h1) (hK := ?_)); (simp only [go_sem]) | (first | refine cd (hc := h2) (hK := ?_) | refine cm (hc := h2) (hK := ?_) | refine ct (hc := h2) (hK := ?_)); (simp only [go_sem]) | (first | refine cd (hc := ih) (hK := ?_) | refine cm (hc := ih) (hK := ?_) | refine ct (hc := ih) (hK := ?_)); (simp only [go_sem]))
    all_goals (refine hR _ (rat [] (hK := ⟨?_, rfl⟩)))
    all_goals clear hR h1 h2 ih
    all_goals simp_all
  | _ =>
    simp only [E.tm, nd]
    refine fn_in ?_; refine acl_in Try.func59 rfl isfn_59 (Nat.le_of_ble_eq_true rfl) (fun R hR => ?_); rw [Try.results59] at hR; refine wg_run ?_; (simp only [Try.f59, go_sem])
    repeat' (first | (first | (((first | refine sp1 ?_ ?_ | refine sp2 ?_ ?_ | refine sp3 ?_ ?_ | refine sp4 ?_ ?_ | refine sp5 ?_ ?_ | refine sp6 ?_ ?_ | refine sp7 ?_ ?_) <;> intro hb) <;> (simp only [go_sem, hb])) | ((first | refine wm_done ?_ | refine wt_done ?_ | refine wg_run ?_ | refine fk ?_ ?_) <;> (simp only [go_sem]))) | (first | refine cd (hc := sProxy0 _ rfl) (hK := ?_) | refine cm (hc := sProxy0 _ rfl) (hK := ?_) | refine ct (hc := sProxy0 _ rfl) (hK := ?_)); (simp only [go_sem]) | (first | refine cd (hc := sInj0 _ rfl) (hK := ?_) | refine cm (hc := sInj0 _ rfl) (hK := ?_) | refine ct (hc := sInj0 _ rfl) (hK := ?_)); (simp only [go_sem]))
    all_goals (refine hR _ (rat [] (hK := ⟨?_, rfl⟩)))
    all_goals rfl
noncomputable def isValV (t : Tm) : Bool := t.castV && t.isVal
theorem iIsValue (t : Tm) (h : t.size < 100000000) : AFn Try.prog 25 [.agg (teC t)] (.one (.sc (.bool (isValV t)))) := by
  have hv := iCastV t
  have hc := iIsVal 100000000 (by omega) t h
  unfold isValV
  refine fn_in ?_; refine acl_in Try.func25 rfl isfn_25 (Nat.le_of_ble_eq_true rfl) (fun R hR => ?_); rw [Try.results25] at hR; refine wg_run ?_; (simp only [Try.f25, go_sem])
  repeat' (first | (first | (((first | refine sp1 ?_ ?_ | refine sp2 ?_ ?_ | refine sp3 ?_ ?_ | refine sp4 ?_ ?_ | refine sp5 ?_ ?_ | refine sp6 ?_ ?_ | refine sp7 ?_ ?_) <;> intro hb) <;> (simp only [go_sem, hb])) | ((first | refine wm_done ?_ | refine wt_done ?_ | refine wg_run ?_ | refine fk ?_ ?_) <;> (simp only [go_sem]))) | (first | refine cd (hc := hv) (hK := ?_) | refine cm (hc := hv) (hK := ?_) | refine ct (hc := hv) (hK := ?_)); (simp only [go_sem]) | (first | refine cd (hc := hc) (hK := ?_) | refine cm (hc := hc) (hK := ?_) | refine ct (hc := hc) (hK := ?_)); (simp only [go_sem]))
  all_goals (refine hR _ (rat [] (hK := ⟨?_, rfl⟩)))
  all_goals simp_all
theorem sIsValue (t : Tm) (h : t.size < 100000000) : AFn Try.prog 24 [.agg (teC t)] (.one (.sc (.bool (isValV t)))) := by
  have hv := sCastV t (by omega)
  unfold isValV
  cases hb : t.castV
  · rw [hb] at hv
    refine fn_in ?_; refine acl_in Try.func24 rfl isfn_24 (Nat.le_of_ble_eq_true rfl) (fun R hR => ?_); rw [Try.results24] at hR; refine wg_run ?_; (simp only [Try.f24, go_sem])
    repeat' (first | (first | (((first | refine sp1 ?_ ?_ | refine sp2 ?_ ?_ | refine sp3 ?_ ?_ | refine sp4 ?_ ?_ | refine sp5 ?_ ?_ | refine sp6 ?_ ?_ | refine sp7 ?_ ?_) <;> intro hb) <;> (simp only [go_sem, hb])) | ((first | refine wm_done ?_ | refine wt_done ?_ | refine wg_run ?_ | refine fk ?_ ?_) <;> (simp only [go_sem]))) | (first | refine cd (hc := hv) (hK := ?_) | refine cm (hc := hv) (hK := ?_) | refine ct (hc := hv) (hK := ?_)); (simp only [go_sem]))
    (refine hR _ (rat [] (hK := ⟨rfl, rfl⟩)))
  · rw [hb] at hv
    obtain ⟨e, rfl, he⟩ := Tm.castV_E hb
    simp only [E.okC, Bool.and_eq_true] at he
    have hc := sIsVal e he.1
    refine fn_in ?_; refine acl_in Try.func24 rfl isfn_24 (Nat.le_of_ble_eq_true rfl) (fun R hR => ?_); rw [Try.results24] at hR; refine wg_run ?_; (simp only [Try.f24, go_sem])
    repeat' (first | (first | (((first | refine sp1 ?_ ?_ | refine sp2 ?_ ?_ | refine sp3 ?_ ?_ | refine sp4 ?_ ?_ | refine sp5 ?_ ?_ | refine sp6 ?_ ?_ | refine sp7 ?_ ?_) <;> intro hb) <;> (simp only [go_sem, hb])) | ((first | refine wm_done ?_ | refine wt_done ?_ | refine wg_run ?_ | refine fk ?_ ?_) <;> (simp only [go_sem]))) | (first | refine cd (hc := hv) (hK := ?_) | refine cm (hc := hv) (hK := ?_) | refine ct (hc := hv) (hK := ?_)); (simp only [go_sem]) | (first | refine cd (hc := hc) (hK := ?_) | refine cm (hc := hc) (hK := ?_) | refine ct (hc := hc) (hK := ?_)); (simp only [go_sem]))
    all_goals (refine hR _ (rat [] (hK := ⟨?_, rfl⟩)))
    all_goals simp_all
end Go.Proofs.Ytchcbfbnffhifaa
/- Terms: casts simplified, on shadows. -/
namespace Go.Proofs.Grad
def backB (s t : T) : E → Bool
  | .cast s' t' _ _ => t'.ty.kind == 1 && (s.ty.kind == 1 && s'.ty.same t.ty)
  | _ => false
def E.kid0 : E → E
  | .cast _ _ _ b => b
  | e => e
/-- a cast that does nothing, or that undoes the one below it, away -/
def E.simp1 : E → E
  | .cast s t l a => match s.ty.same t.ty with | true => a | false => (match backB s t a with | true => a.kid0 | false => .cast s t l a)
  | e => e
theorem E.kid0_wf {e : E} (h : e.wf = true) : e.kid0.wf = true := by
  cases e <;> simp only [E.kid0] <;> first | exact h | (simp only [E.wf, Bool.and_eq_true] at h; exact h.2.2.2)
theorem E.simp1_wf (x : E) (h : x.wf = true) : x.simp1.wf = true := by
  cases x <;> simp only [E.simp1] <;> try exact h
  rename_i s t l a
  have ha : a.wf = true := by simp only [E.wf, Bool.and_eq_true] at h; exact h.2.2.2
  split
  · exact ha
  · split
    · exact E.kid0_wf ha
    · exact h
def E.simp (e : E) : E := e.mapE E.simp1
theorem E.simp_wf (e : E) (h : e.wf = true) : e.simp.wf = true := E.mapE_wf E.simp1_wf e h
end Go.Proofs.Grad
namespace Go.Proofs.Ytchcbfbnffhifaa
open Go.RowKit Go.Proofs.Sh Go.Proofs.Grad
set_option maxRecDepth 100000
set_option maxHeartbeats 8000000
theorem iSimplified (x : E) (h : x.wf = true) : AFn Try.prog 67 [.agg (teC x.tm)] (.agg (teC x.simp1.tm)) := by
  cases x with
  | cast s t l a =>
    simp only [E.wf, Bool.and_eq_true, decide_eq_true_eq] at h
    have h1 := iSame 1000 (by omega) s.ty t.ty (T.ty_small h.1.1)
    simp only [E.simp1]
    cases e1 : s.ty.same t.ty
    · rw [e1] at h1
      cases a with
      | cast s' t' l' b =>
        have h2 := iSame 1000 (by omega) t.ty s'.ty (T.ty_small h.1.2)
        rw [Ty.same_comm] at h2
        have e2 : backB s t (.cast s' t' l' b) = (t'.ty.kind == 1 && (s.ty.kind == 1 && s'.ty.same t.ty)) := rfl
        rw [e2]
        simp only [E.tm, nd, E.kid0]
        cases e3 : (t'.ty.kind == 1) <;> cases e4 : (s.ty.kind == 1) <;> cases e5 : s'.ty.same t.ty
        all_goals
          rw [e5] at h2
          refine fn_in ?_; refine acl_in Try.func67 rfl isfn_67 (Nat.le_of_ble_eq_true rfl) (fun R hR => ?_); rw [Try.results67] at hR; refine wg_run ?_; (simp only [Try.f67, go_sem])
          repeat' (first | (first | (simp only [go_sem, int_bne, e3, e4]) | (((first | refine sp1 ?_ ?_ | refine sp2 ?_ ?_ | refine sp3 ?_ ?_ | refine sp4 ?_ ?_ | refine sp5 ?_ ?_ | refine sp6 ?_ ?_ | refine sp7 ?_ ?_) <;> intro hb) <;> (simp only [go_sem, hb, int_bne, e3, e4])) | ((first | refine wm_done ?_ | refine wt_done ?_ | refine wg_run ?_ | refine fk ?_ ?_) <;> (simp only [go_sem, int_bne, e3, e4]))) | (first | refine cd (hc := h1) (hK := ?_) | refine cm (hc := h1) (hK := ?_) | refine ct (hc := h1) (hK := ?_)); (simp only [go_sem]) | (first | refine cd (hc := h2) (hK := ?_) | refine cm (hc := h2) (hK := ?_) | refine ct (hc := h2) (hK := ?_)); (simp only [go_sem]))
          (refine hR _ (rat [] (hK := ⟨?_, rfl⟩)))
          simp only [Bool.true_and, Bool.false_and, Bool.and_false, Bool.and_true, E.tm]
          try rfl
      | _ =>
        simp only [backB, E.tm, nd]
        cases e4 : (s.ty.kind == 1)
        all_goals
          refine fn_in ?_; refine acl_in Try.func67 rfl isfn_67 (Nat.le_of_ble_eq_true rfl) (fun R hR => ?_); rw [Try.results67] at hR; refine wg_run ?_; (simp only [Try.f67, go_sem])
          repeat' (first | (first | (simp only [go_sem, int_bne, e4]) | (((first | refine sp1 ?_ ?_ | refine sp2 ?_ ?_ | refine sp3 ?_ ?_ | refine sp4 ?_ ?_ | refine sp5 ?_ ?_ | refine sp6 ?_ ?_ | refine sp7 ?_ ?_) <;> intro hb) <;> (simp only [go_sem, hb, int_bne, e4])) | ((first | refine wm_done ?_ | refine wt_done ?_ | refine wg_run ?_ | refine fk ?_ ?_) <;> (simp only [go_sem, int_bne, e4]))) | (first | refine cd (hc := h1) (hK := ?_) | refine cm (hc := h1) (hK := ?_) | refine ct (hc := h1) (hK := ?_)); (simp only [go_sem]))
          (refine hR _ (rat [] (hK := ⟨rfl, rfl⟩)))
    · rw [e1] at h1
      simp only [E.tm]
      refine fn_in ?_; refine acl_in Try.func67 rfl isfn_67 (Nat.le_of_ble_eq_true rfl) (fun R hR => ?_); rw [Try.results67] at hR; refine wg_run ?_; (simp only [Try.f67, go_sem])
      repeat' (first | (first | (simp only [go_sem, int_bne]) | (((first | refine sp1 ?_ ?_ | refine sp2 ?_ ?_ | refine sp3 ?_ ?_ | refine sp4 ?_ ?_ | refine sp5 ?_ ?_ | refine sp6 ?_ ?_ | refine sp7 ?_ ?_) <;> intro hb) <;> (simp only [go_sem, hb, int_bne])) | ((first | refine wm_done ?_ | refine wt_done ?_ | refine wg_run ?_ | refine fk ?_ ?_) <;> (simp only [go_sem, int_bne]))) | (first | refine cd (hc := h1) (hK := ?_) | refine cm (hc := h1) (hK := ?_) | refine ct (hc := h1) (hK := ?_)); (simp only [go_sem]))
      (refine hR _ (rat [] (hK := ⟨rfl, rfl⟩)))
  | _ =>
    simp only [E.tm, nd, E.simp1]
    refine fn_in ?_; refine acl_in Try.func67 rfl isfn_67 (Nat.le_of_ble_eq_true rfl) (fun R hR => ?_); rw [Try.results67] at hR; refine wg_run ?_; (simp only [Try.f67, go_sem])
    repeat' (first | (simp only [go_sem, int_bne]) | (((first | refine sp1 ?_ ?_ | refine sp2 ?_ ?_ | refine sp3 ?_ ?_ | refine sp4 ?_ ?_ | refine sp5 ?_ ?_ | refine sp6 ?_ ?_ | refine sp7 ?_ ?_) <;> intro hb) <;> (simp only [go_sem, hb, int_bne])) | ((first | refine wm_done ?_ | refine wt_done ?_ | refine wg_run ?_ | refine fk ?_ ?_) <;> (simp only [go_sem, int_bne])))
    (refine hR _ (rat [] (hK := ⟨rfl, rfl⟩)))
theorem iSimp (e : E) (h : e.wf = true) : AFn Try.prog 66 [.agg (teC e.tm), .one (.fn 67 [])] (.agg (teC e.simp.tm)) :=
  iMapped 67 E.simp1 E.simp1_wf iSimplified e h
end Go.Proofs.Ytchcbfbnffhifaa
/- Terms: casts that change nothing, counted; on shadows. -/
namespace Go.Proofs.Grad
theorem T.ty_size_pos (t : T) : 0 < t.ty.size := by rw [T.ty_size]; exact T.size_pos t
theorem E.kid0_size {e : E} : e.kid0.tm.size ≤ e.tm.size := by
  cases e <;> simp [E.kid0, E.tm, Tm.size, Tm.sizes] <;> omega
theorem E.simp1_size (x : E) : x.simp1.tm.size ≤ x.tm.size := by
  cases x <;> simp only [E.simp1] <;> try exact Nat.le_refl _
  rename_i s t l a
  have h := E.kid0_size (e := a)
  split
  · simp only [E.tm, Tm.size, Tm.sizes]; omega
  · split
    · simp only [E.tm, Tm.size, Tm.sizes] at h ⊢; omega
    · exact Nat.le_refl _
theorem E.mapE_size {φ : E → E} (h : ∀ x : E, (φ x).tm.size ≤ x.tm.size) (e : E) : (e.mapE φ).tm.size ≤ e.tm.size := by
  induction e <;> simp only [E.mapE] <;> refine Nat.le_trans (h _) ?_ <;> simp only [E.tm, nd, Tm.size, Tm.sizes] <;> omega
theorem E.simp_size (e : E) : e.simp.tm.size ≤ e.tm.size := E.mapE_size E.simp1_size e
/-- how many casts fall away -/
theorem Tm.red_ex (t : Tm) : ∃ n : Int, (t.castV = true → ∃ e : E, e.tm = t ∧ e.okC = true ∧ n = (e.tm.castsL.length : Int) - (e.simp.tm.castsL.length : Int)) ∧ (t.castV = false → n = 0) := by
  cases h : t.castV
  · exact ⟨0, by simp, fun _ => rfl⟩
  · obtain ⟨e, h1, h2⟩ := Tm.castV_E h
    exact ⟨_, fun _ => ⟨e, h1, h2, rfl⟩, by simp⟩
noncomputable def Tm.redV (t : Tm) : Int := (Tm.red_ex t).choose
theorem Tm.redV_spec (t : Tm) : (t.castV = true → ∃ e : E, e.tm = t ∧ e.okC = true ∧ Tm.redV t = (e.tm.castsL.length : Int) - (e.simp.tm.castsL.length : Int)) ∧ (t.castV = false → Tm.redV t = 0) := (Tm.red_ex t).choose_spec
theorem red_wrap {a b : Nat} (h1 : a < 100000000) (h2 : b < 100000000) : IntKind.i64.wrap ((a : Int) - (b : Int)) = (a : Int) - (b : Int) := IntWalk.i64_in _ (by omega)
end Go.Proofs.Grad
namespace Go.Proofs.Ytchcbfbnffhifaa
open Go.RowKit Go.Proofs.Sh Go.Proofs.Grad
set_option maxRecDepth 100000
set_option maxHeartbeats 8000000
theorem l2CopyS (t : Tm) (hk : 0 < t.kids.length) (h : t.size < 274877906944) : ACl Try.prog 73 [.agg (teC t)] [] (fun r H' => r = .agg (teK t (.row 9 0 t.kids.length)) ∧ H' = [⟨9, 35, .mut, teR t.kids⟩]) := by
  refine (l2CopyO _ (Nat.le_refl _) t h).mono ?_
  rintro r H' (⟨h1, _⟩ | ⟨_, h2, h3⟩)
  · rw [h1] at hk; exact absurd hk (by simp)
  · exact ⟨h2, h3⟩
theorem sBack (s t : T) (l : Int) (a : E) (hs : s.depth ≤ 4) (h : (E.cast s t l a).wf = true) : AFn Try.prog 116 [.agg (teC (E.cast s t l a).tm)] (.one (.sc (.bool (backB s t a)))) := by
  cases a with
  | cast s' t' l' b =>
    simp only [E.wf, Bool.and_eq_true, decide_eq_true_eq] at h
    have h2 := sSame 1000 (by omega) s'.ty t.ty (T.ty_small h.2.2.2.1.1)
    have e2 : backB s t (.cast s' t' l' b) = (t'.ty.kind == 1 && (s.ty.kind == 1 && s'.ty.same t.ty)) := rfl
    rw [e2]
    simp only [E.tm]
    cases e3 : (t'.ty.kind == 1) <;> cases e4 : (s.ty.kind == 1) <;> cases e5 : s'.ty.same t.ty
    all_goals
      rw [e5] at h2
      refine fn_in ?_; refine acl_in Try.func116 rfl isfn_116 (Nat.le_of_ble_eq_true rfl) (fun R hR => ?_); rw [Try.results116] at hR; refine wg_run ?_; (simp only [Try.f116, go_sem])
      repeat' (first | (first | (simp only [go_sem, int_bne, e3, e4]) | (((first | refine sp1 ?_ ?_ | refine sp2 ?_ ?_ | refine sp3 ?_ ?_ | refine sp4 ?_ ?_ | refine sp5 ?_ ?_ | refine sp6 ?_ ?_ | refine sp7 ?_ ?_) <;> intro hb) <;> (simp only [go_sem, hb, int_bne, e3, e4])) | ((first | refine wm_done ?_ | refine wt_done ?_ | refine wg_run ?_ | refine fk ?_ ?_) <;> (simp only [go_sem, int_bne, e3, e4]))) | (first | refine cd (hc := h2) (hK := ?_) | refine cm (hc := h2) (hK := ?_) | refine ct (hc := h2) (hK := ?_)); (simp only [go_sem]))
      (refine hR _ (rat [] (hK := ⟨rfl, rfl⟩)))
  | _ =>
    simp only [backB, E.tm, nd]
    refine fn_in ?_; refine acl_in Try.func116 rfl isfn_116 (Nat.le_of_ble_eq_true rfl) (fun R hR => ?_); rw [Try.results116] at hR; refine wg_run ?_; (simp only [Try.f116, go_sem])
    repeat' (first | (simp only [go_sem, int_bne]) | (((first | refine sp1 ?_ ?_ | refine sp2 ?_ ?_ | refine sp3 ?_ ?_ | refine sp4 ?_ ?_ | refine sp5 ?_ ?_ | refine sp6 ?_ ?_ | refine sp7 ?_ ?_) <;> intro hb) <;> (simp only [go_sem, hb, int_bne])) | ((first | refine wm_done ?_ | refine wt_done ?_ | refine wg_run ?_ | refine fk ?_ ?_) <;> (simp only [go_sem, int_bne])))
    (refine hR _ (rat [] (hK := ⟨rfl, rfl⟩)))
theorem sSimple (e : E) : e.wf = true → e.tm.size < 274877906944 → AFn Try.prog 65 [.agg (teC e.tm)] (.agg (teC e.simp.tm)) := by
  unfold E.simp
  induction e with
  | var _ | num _ | tru | fls =>
    intro h hz
    have hc := l2Copy _ (Nat.le_refl _) _ hz
    simp only [E.mapE, E.simp1]
    simp only [E.tm, nd] at hc ⊢
    refine fn_in ?_; refine acl_in Try.func65 rfl isfn_65 (Nat.le_of_ble_eq_true rfl) (fun R hR => ?_); rw [Try.results65] at hR; refine wg_run ?_; (simp only [Try.f65, go_sem])
    repeat' (first | (first | (((first | refine sp1 ?_ ?_ | refine sp2 ?_ ?_ | refine sp3 ?_ ?_ | refine sp4 ?_ ?_ | refine sp5 ?_ ?_ | refine sp6 ?_ ?_ | refine sp7 ?_ ?_) <;> intro hb) <;> (simp only [go_sem, hb])) | ((first | refine wm_done ?_ | refine wt_done ?_ | refine wg_run ?_ | refine fk ?_ ?_) <;> (simp only [go_sem]))) | (first | (refine wl_next (wg_run ?_); (simp only [go_sem])) | refine wd_rounds 6 ?_) | (first | refine cd (hc := hc) (hK := ?_) | refine cm (hc := hc) (hK := ?_) | refine ct (hc := hc) (hK := ?_)); (simp only [go_sem]))
    (refine hR _ (rat [] (hK := ⟨rfl, rfl⟩)))
  | app a b iha ihb | add a b iha ihb | less a b iha ihb | pair a b iha ihb =>
    intro h hz
    simp only [E.wf, Bool.and_eq_true] at h
    have hc := l2CopyS _ (by simp [E.tm, nd, Tm.kids]) hz
    simp only [E.tm, nd, Tm.size, Tm.sizes] at hz
    have iha := iha h.1 (by omega)
    have ihb := ihb h.2 (by omega)
    simp only [E.mapE, E.simp1]
    simp only [E.tm, nd, teK, Tm.kind, Tm.name, Tm.num, Tm.type, Tm.frm, Tm.label, Tm.kids, teR, List.length_cons, List.length_nil] at hc ⊢
    refine fn_in ?_; refine acl_in Try.func65 rfl isfn_65 (Nat.le_of_ble_eq_true rfl) (fun R hR => ?_); rw [Try.results65] at hR; refine wg_run ?_; (simp only [Try.f65, go_sem])
    repeat' (first | (first | (((first | refine sp1 ?_ ?_ | refine sp2 ?_ ?_ | refine sp3 ?_ ?_ | refine sp4 ?_ ?_ | refine sp5 ?_ ?_ | refine sp6 ?_ ?_ | refine sp7 ?_ ?_) <;> intro hb) <;> (simp only [go_sem, hb])) | ((first | refine wm_done ?_ | refine wt_done ?_ | refine wg_run ?_ | refine fk ?_ ?_) <;> (simp only [go_sem]))) | (first | (refine wl_next (wg_run ?_); (simp only [go_sem])) | refine wd_rounds 6 ?_) | ((first | refine kd [] (hc := hc) (hK := ?_) | refine km [] (hc := hc) (hK := ?_) | refine kt [] (hc := hc) (hK := ?_)); rintro _ _ ⟨rfl, rfl⟩ <;> (simp only [go_sem])) | (first | refine cd (hc := iha) (hK := ?_) | refine cm (hc := iha) (hK := ?_) | refine ct (hc := iha) (hK := ?_)); (simp only [go_sem]) | (first | refine cd (hc := ihb) (hK := ?_) | refine cm (hc := ihb) (hK := ?_) | refine ct (hc := ihb) (hK := ?_)); (simp only [go_sem]) | ((first | refine mx 6 [] follows ?_ | refine mx 5 [] follows ?_ | refine mx 4 [] follows ?_ | refine mx 3 [] follows ?_ | refine mx 2 [] follows ?_ | refine mx 1 [] follows ?_ | refine mx 0 [] follows ?_ | fail); (simp only [go_sem])) | fail)
    (refine hR _ (rat [] (hK := ⟨rfl, rfl⟩)))
  | ite a b c iha ihb ihc =>
    intro h hz
    simp only [E.wf, Bool.and_eq_true] at h
    have hc := l2CopyS _ (by simp [E.tm, nd, Tm.kids]) hz
    simp only [E.tm, nd, Tm.size, Tm.sizes] at hz
    have iha := iha h.1 (by omega)
    have ihb := ihb h.2.1 (by omega)
    have ihc := ihc h.2.2 (by omega)
    simp only [E.mapE, E.simp1]
    simp only [E.tm, nd, teK, Tm.kind, Tm.name, Tm.num, Tm.type, Tm.frm, Tm.label, Tm.kids, teR, List.length_cons, List.length_nil] at hc ⊢
    refine fn_in ?_; refine acl_in Try.func65 rfl isfn_65 (Nat.le_of_ble_eq_true rfl) (fun R hR => ?_); rw [Try.results65] at hR; refine wg_run ?_; (simp only [Try.f65, go_sem])
    repeat' (first | (first | (((first | refine sp1 ?_ ?_ | refine sp2 ?_ ?_ | refine sp3 ?_ ?_ | refine sp4 ?_ ?_ | refine sp5 ?_ ?_ | refine sp6 ?_ ?_ | refine sp7 ?_ ?_) <;> intro hb) <;> (simp only [go_sem, hb])) | ((first | refine wm_done ?_ | refine wt_done ?_ | refine wg_run ?_ | refine fk ?_ ?_) <;> (simp only [go_sem]))) | (first | (refine wl_next (wg_run ?_); (simp only [go_sem])) | refine wd_rounds 6 ?_) | ((first | refine kd [] (hc := hc) (hK := ?_) | refine km [] (hc := hc) (hK := ?_) | refine kt [] (hc := hc) (hK := ?_)); rintro _ _ ⟨rfl, rfl⟩ <;> (simp only [go_sem])) | (first | refine cd (hc := iha) (hK := ?_) | refine cm (hc := iha) (hK := ?_) | refine ct (hc := iha) (hK := ?_)); (simp only [go_sem]) | (first | refine cd (hc := ihb) (hK := ?_) | refine cm (hc := ihb) (hK := ?_) | refine ct (hc := ihb) (hK := ?_)); (simp only [go_sem]) | (first | refine cd (hc := ihc) (hK := ?_) | refine cm (hc := ihc) (hK := ?_) | refine ct (hc := ihc) (hK := ?_)); (simp only [go_sem]) | ((first | refine mx 6 [] follows ?_ | refine mx 5 [] follows ?_ | refine mx 4 [] follows ?_ | refine mx 3 [] follows ?_ | refine mx 2 [] follows ?_ | refine mx 1 [] follows ?_ | refine mx 0 [] follows ?_ | fail); (simp only [go_sem])) | fail)
    (refine hR _ (rat [] (hK := ⟨rfl, rfl⟩)))
  | cast s t l a ih =>
    intro h hz
    have hw := h
    simp only [E.wf, Bool.and_eq_true, decide_eq_true_eq] at h
    have hc := l2CopyS _ (by simp [E.tm, nd, Tm.kids]) hz
    simp only [E.tm, nd, Tm.size, Tm.sizes] at hz
    have ih := ih h.2.2.2 (by omega)
    have hwa : (a.mapE E.simp1).wf = true := E.simp_wf a h.2.2.2
    have h1 := sSame 1000 (by omega) s.ty t.ty (T.ty_small h.1.1)
    have h2 := sBack s t l (a.mapE E.simp1) h.1.1 (by simp only [E.wf, Bool.and_eq_true, decide_eq_true_eq]; exact ⟨h.1, h.2.1, h.2.2.1, hwa⟩)
    simp only [E.mapE, E.simp1]
    generalize a.mapE E.simp1 = a' at *
    simp only [E.tm, nd, teK, Tm.kind, Tm.name, Tm.num, Tm.type, Tm.frm, Tm.label, Tm.kids, teR, List.length_cons, List.length_nil] at hc ⊢
    rw [teC_eq] at h2
    simp only [E.tm, nd, teR, Tm.kind, Tm.name, Tm.num, Tm.type, Tm.frm, Tm.label, Tm.kids] at h2
    cases e1 : s.ty.same t.ty
    · rw [e1] at h1
      cases e2 : backB s t a'
      · rw [e2] at h2
        refine fn_in ?_; refine acl_in Try.func65 rfl isfn_65 (Nat.le_of_ble_eq_true rfl) (fun R hR => ?_); rw [Try.results65] at hR; refine wg_run ?_; (simp only [Try.f65, go_sem])
        repeat' (first | (first | (((first | refine sp1 ?_ ?_ | refine sp2 ?_ ?_ | refine sp3 ?_ ?_ | refine sp4 ?_ ?_ | refine sp5 ?_ ?_ | refine sp6 ?_ ?_ | refine sp7 ?_ ?_) <;> intro hb) <;> (simp only [go_sem, hb])) | ((first | refine wm_done ?_ | refine wt_done ?_ | refine wg_run ?_ | refine fk ?_ ?_) <;> (simp only [go_sem]))) | (first | (refine wl_next (wg_run ?_); (simp only [go_sem])) | refine wd_rounds 6 ?_) | ((first | refine kd [] (hc := hc) (hK := ?_) | refine km [] (hc := hc) (hK := ?_) | refine kt [] (hc := hc) (hK := ?_)); rintro _ _ ⟨rfl, rfl⟩ <;> (simp only [go_sem])) | (first | refine cd (hc := ih) (hK := ?_) | refine cm (hc := ih) (hK := ?_) | refine ct (hc := ih) (hK := ?_)); (simp only [go_sem]) | (first | refine cd (hc := h1) (hK := ?_) | refine cm (hc := h1) (hK := ?_) | refine ct (hc := h1) (hK := ?_)); (simp only [go_sem]) | (first | refine cd (hc := h2) (hK := ?_) | refine cm (hc := h2) (hK := ?_) | refine ct (hc := h2) (hK := ?_)); (simp only [go_sem]) | ((first | refine mx 6 [] follows ?_ | refine mx 5 [] follows ?_ | refine mx 4 [] follows ?_ | refine mx 3 [] follows ?_ | refine mx 2 [] follows ?_ | refine mx 1 [] follows ?_ | refine mx 0 [] follows ?_ | fail); (simp only [go_sem])) | fail)
        (refine hR _ (rat [] (hK := ⟨rfl, rfl⟩)))
      · rw [e2] at h2
        cases a' with
        | cast s' t' l' b =>
          simp only [E.tm, nd, E.kid0] at *
          refine fn_in ?_; refine acl_in Try.func65 rfl isfn_65 (Nat.le_of_ble_eq_true rfl) (fun R hR => ?_); rw [Try.results65] at hR; refine wg_run ?_; (simp only [Try.f65, go_sem])
          repeat' (first | (first | (((first | refine sp1 ?_ ?_ | refine sp2 ?_ ?_ | refine sp3 ?_ ?_ | refine sp4 ?_ ?_ | refine sp5 ?_ ?_ | refine sp6 ?_ ?_ | refine sp7 ?_ ?_) <;> intro hb) <;> (simp only [go_sem, hb])) | ((first | refine wm_done ?_ | refine wt_done ?_ | refine wg_run ?_ | refine fk ?_ ?_) <;> (simp only [go_sem]))) | (first | (refine wl_next (wg_run ?_); (simp only [go_sem])) | refine wd_rounds 6 ?_) | ((first | refine kd [] (hc := hc) (hK := ?_) | refine km [] (hc := hc) (hK := ?_) | refine kt [] (hc := hc) (hK := ?_)); rintro _ _ ⟨rfl, rfl⟩ <;> (simp only [go_sem])) | (first | refine cd (hc := ih) (hK := ?_) | refine cm (hc := ih) (hK := ?_) | refine ct (hc := ih) (hK := ?_)); (simp only [go_sem]) | (first | refine cd (hc := h1) (hK := ?_) | refine cm (hc := h1) (hK := ?_) | refine ct (hc := h1) (hK := ?_)); (simp only [go_sem]) | (first | refine cd (hc := h2) (hK := ?_) | refine cm (hc := h2) (hK := ?_) | refine ct (hc := h2) (hK := ?_)); (simp only [go_sem]) | ((first | refine mx 6 [] follows ?_ | refine mx 5 [] follows ?_ | refine mx 4 [] follows ?_ | refine mx 3 [] follows ?_ | refine mx 2 [] follows ?_ | refine mx 1 [] follows ?_ | refine mx 0 [] follows ?_ | fail); (simp only [go_sem])) | fail)
          (refine hR _ (rat [] (hK := ⟨rfl, rfl⟩)))
        | _ => simp [backB] at e2
    · rw [e1] at h1
      simp only []
      refine fn_in ?_; refine acl_in Try.func65 rfl isfn_65 (Nat.le_of_ble_eq_true rfl) (fun R hR => ?_); rw [Try.results65] at hR; refine wg_run ?_; (simp only [Try.f65, go_sem])
      repeat' (first | (first | (((first | refine sp1 ?_ ?_ | refine sp2 ?_ ?_ | refine sp3 ?_ ?_ | refine sp4 ?_ ?_ | refine sp5 ?_ ?_ | refine sp6 ?_ ?_ | refine sp7 ?_ ?_) <;> intro hb) <;> (simp only [go_sem, hb])) | ((first | refine wm_done ?_ | refine wt_done ?_ | refine wg_run ?_ | refine fk ?_ ?_) <;> (simp only [go_sem]))) | (first | (refine wl_next (wg_run ?_); (simp only [go_sem])) | refine wd_rounds 6 ?_) | ((first | refine kd [] (hc := hc) (hK := ?_) | refine km [] (hc := hc) (hK := ?_) | refine kt [] (hc := hc) (hK := ?_)); rintro _ _ ⟨rfl, rfl⟩ <;> (simp only [go_sem])) | (first | refine cd (hc := ih) (hK := ?_) | refine cm (hc := ih) (hK := ?_) | refine ct (hc := ih) (hK := ?_)); (simp only [go_sem]) | (first | refine cd (hc := h1) (hK := ?_) | refine cm (hc := h1) (hK := ?_) | refine ct (hc := h1) (hK := ?_)); (simp only [go_sem]) | ((first | refine mx 6 [] follows ?_ | refine mx 5 [] follows ?_ | refine mx 4 [] follows ?_ | refine mx 3 [] follows ?_ | refine mx 2 [] follows ?_ | refine mx 1 [] follows ?_ | refine mx 0 [] follows ?_ | fail); (simp only [go_sem])) | fail)
      (refine hR _ (rat [] (hK := ⟨rfl, rfl⟩)))
  | lam x t a ih =>
    intro h hz
    simp only [E.wf, Bool.and_eq_true, decide_eq_true_eq] at h
    have hc := l2CopyS _ (by simp [E.tm, nd, Tm.kids]) hz
    simp only [E.tm, nd, Tm.size, Tm.sizes] at hz
    have ih := ih h.2.2 (by omega)
    simp only [E.mapE, E.simp1]
    simp only [E.tm, nd, teK, Tm.kind, Tm.name, Tm.num, Tm.type, Tm.frm, Tm.label, Tm.kids, teR, List.length_cons, List.length_nil] at hc ⊢
    refine fn_in ?_; refine acl_in Try.func65 rfl isfn_65 (Nat.le_of_ble_eq_true rfl) (fun R hR => ?_); rw [Try.results65] at hR; refine wg_run ?_; (simp only [Try.f65, go_sem])
    repeat' (first | (first | (((first | refine sp1 ?_ ?_ | refine sp2 ?_ ?_ | refine sp3 ?_ ?_ | refine sp4 ?_ ?_ | refine sp5 ?_ ?_ | refine sp6 ?_ ?_ | refine sp7 ?_ ?_) <;> intro hb) <;> (simp only [go_sem, hb])) | ((first | refine wm_done ?_ | refine wt_done ?_ | refine wg_run ?_ | refine fk ?_ ?_) <;> (simp only [go_sem]))) | (first | (refine wl_next (wg_run ?_); (simp only [go_sem])) | refine wd_rounds 6 ?_) | ((first | refine kd [] (hc := hc) (hK := ?_) | refine km [] (hc := hc) (hK := ?_) | refine kt [] (hc := hc) (hK := ?_)); rintro _ _ ⟨rfl, rfl⟩ <;> (simp only [go_sem])) | (first | refine cd (hc := ih) (hK := ?_) | refine cm (hc := ih) (hK := ?_) | refine ct (hc := ih) (hK := ?_)); (simp only [go_sem]) | ((first | refine mx 6 [] follows ?_ | refine mx 5 [] follows ?_ | refine mx 4 [] follows ?_ | refine mx 3 [] follows ?_ | refine mx 2 [] follows ?_ | refine mx 1 [] follows ?_ | refine mx 0 [] follows ?_ | fail); (simp only [go_sem])) | fail)
    (refine hR _ (rat [] (hK := ⟨rfl, rfl⟩)))
  | fst a ih | snd a ih =>
    intro h hz
    simp only [E.wf, Bool.and_eq_true, decide_eq_true_eq] at h
    have hc := l2CopyS _ (by simp [E.tm, nd, Tm.kids]) hz
    simp only [E.tm, nd, Tm.size, Tm.sizes] at hz
    have ih := ih h (by omega)
    simp only [E.mapE, E.simp1]
    simp only [E.tm, nd, teK, Tm.kind, Tm.name, Tm.num, Tm.type, Tm.frm, Tm.label, Tm.kids, teR, List.length_cons, List.length_nil] at hc ⊢
    refine fn_in ?_; refine acl_in Try.func65 rfl isfn_65 (Nat.le_of_ble_eq_true rfl) (fun R hR => ?_); rw [Try.results65] at hR; refine wg_run ?_; (simp only [Try.f65, go_sem])
    repeat' (first | (first | (((first | refine sp1 ?_ ?_ | refine sp2 ?_ ?_ | refine sp3 ?_ ?_ | refine sp4 ?_ ?_ | refine sp5 ?_ ?_ | refine sp6 ?_ ?_ | refine sp7 ?_ ?_) <;> intro hb) <;> (simp only [go_sem, hb])) | ((first | refine wm_done ?_ | refine wt_done ?_ | refine wg_run ?_ | refine fk ?_ ?_) <;> (simp only [go_sem]))) | (first | (refine wl_next (wg_run ?_); (simp only [go_sem])) | refine wd_rounds 6 ?_) | ((first | refine kd [] (hc := hc) (hK := ?_) | refine km [] (hc := hc) (hK := ?_) | refine kt [] (hc := hc) (hK := ?_)); rintro _ _ ⟨rfl, rfl⟩ <;> (simp only [go_sem])) | (first | refine cd (hc := ih) (hK := ?_) | refine cm (hc := ih) (hK := ?_) | refine ct (hc := ih) (hK := ?_)); (simp only [go_sem]) | ((first | refine mx 6 [] follows ?_ | refine mx 5 [] follows ?_ | refine mx 4 [] follows ?_ | refine mx 3 [] follows ?_ | refine mx 2 [] follows ?_ | refine mx 1 [] follows ?_ | refine mx 0 [] follows ?_ | fail); (simp only [go_sem])) | fail)
    (refine hR _ (rat [] (hK := ⟨rfl, rfl⟩)))
  | _ =>
    rename_i t a ih
    intro h hz
    simp only [E.wf, Bool.and_eq_true, decide_eq_true_eq] at h
    have hc := l2CopyS _ (by simp [E.tm, nd, Tm.kids]) hz
    simp only [E.tm, nd, Tm.size, Tm.sizes] at hz
    have ih := ih h.2 (by omega)
    simp only [E.mapE, E.simp1]
    simp only [E.tm, nd, teK, Tm.kind, Tm.name, Tm.num, Tm.type, Tm.frm, Tm.label, Tm.kids, teR, List.length_cons, List.length_nil] at hc ⊢
    refine fn_in ?_; refine acl_in Try.func65 rfl isfn_65 (Nat.le_of_ble_eq_true rfl) (fun R hR => ?_); rw [Try.results65] at hR; refine wg_run ?_; (simp only [Try.f65, go_sem])
    repeat' (first | (first | (((first | refine sp1 ?_ ?_ | refine sp2 ?_ ?_ | refine sp3 ?_ ?_ | refine sp4 ?_ ?_ | refine sp5 ?_ ?_ | refine sp6 ?_ ?_ | refine sp7 ?_ ?_) <;> intro hb) <;> (simp only [go_sem, hb])) | ((first | refine wm_done ?_ | refine wt_done ?_ | refine wg_run ?_ | refine fk ?_ ?_) <;> (simp only [go_sem]))) | (first | (refine wl_next (wg_run ?_); (simp only [go_sem])) | refine wd_rounds 6 ?_) | ((first | refine kd [] (hc := hc) (hK := ?_) | refine km [] (hc := hc) (hK := ?_) | refine kt [] (hc := hc) (hK := ?_)); rintro _ _ ⟨rfl, rfl⟩ <;> (simp only [go_sem])) | (first | refine cd (hc := ih) (hK := ?_) | refine cm (hc := ih) (hK := ?_) | refine ct (hc := ih) (hK := ?_)); (simp only [go_sem]) | ((first | refine mx 6 [] follows ?_ | refine mx 5 [] follows ?_ | refine mx 4 [] follows ?_ | refine mx 3 [] follows ?_ | refine mx 2 [] follows ?_ | refine mx 1 [] follows ?_ | refine mx 0 [] follows ?_ | fail); (simp only [go_sem])) | fail)
    (refine hR _ (rat [] (hK := ⟨rfl, rfl⟩)))
theorem iRedundant (t : Tm) (h : t.size < 100000000) : AFn Try.prog 29 [.agg (teC t)] (.one (.sc (.int .i64 (Tm.redV t)))) := by
  have hv := iCastV t
  obtain ⟨s1, s2⟩ := Tm.redV_spec t
  cases hb : t.castV
  · rw [hb] at hv
    rw [s2 hb]
    refine fn_in ?_; refine acl_in Try.func29 rfl isfn_29 (Nat.le_of_ble_eq_true rfl) (fun R hR => ?_); rw [Try.results29] at hR; refine wg_run ?_; (simp only [Try.f29, go_sem])
    repeat' (first | (first | (((first | refine sp1 ?_ ?_ | refine sp2 ?_ ?_ | refine sp3 ?_ ?_ | refine sp4 ?_ ?_ | refine sp5 ?_ ?_ | refine sp6 ?_ ?_ | refine sp7 ?_ ?_) <;> intro hb) <;> (simp only [go_sem, hb])) | ((first | refine wm_done ?_ | refine wt_done ?_ | refine wg_run ?_ | refine fk ?_ ?_) <;> (simp only [go_sem]))) | (first | refine cd (hc := hv) (hK := ?_) | refine cm (hc := hv) (hK := ?_) | refine ct (hc := hv) (hK := ?_)); (simp only [go_sem]))
    (refine hR _ (rat [] (hK := ⟨rfl, rfl⟩)))
  · rw [hb] at hv
    obtain ⟨e, rfl, he, hq⟩ := s1 hb
    simp only [E.okC, Bool.and_eq_true] at he
    rw [hq]
    have hz := e.simp_size
    have h1 := iCasts 100000000 (by omega) e.tm h
    have h2 := iCasts 100000000 (by omega) e.simp.tm (by omega)
    have h3 := iSimp e he.1
    have hw := red_wrap (a := e.tm.castsL.length) (b := e.simp.tm.castsL.length) (by have := e.tm.castsL_len; have := e.tm.nodes_le; omega) (by have := e.simp.tm.castsL_len; have := e.simp.tm.nodes_le; omega)
    refine fn_in ?_; refine acl_in Try.func29 rfl isfn_29 (Nat.le_of_ble_eq_true rfl) (fun R hR => ?_); rw [Try.results29] at hR; refine wg_run ?_; (simp only [Try.f29, go_sem, hw])
    repeat' (first | (first | (simp only [go_sem, hw]) | (((first | refine sp1 ?_ ?_ | refine sp2 ?_ ?_ | refine sp3 ?_ ?_ | refine sp4 ?_ ?_ | refine sp5 ?_ ?_ | refine sp6 ?_ ?_ | refine sp7 ?_ ?_) <;> intro hb) <;> (simp only [go_sem, hb, hw])) | ((first | refine wm_done ?_ | refine wt_done ?_ | refine wg_run ?_ | refine fk ?_ ?_) <;> (simp only [go_sem, hw]))) | (first | refine cd (hc := hv) (hK := ?_) | refine cm (hc := hv) (hK := ?_) | refine ct (hc := hv) (hK := ?_)); (simp only [go_sem]) | (first | refine cd (hc := h3) (hK := ?_) | refine cm (hc := h3) (hK := ?_) | refine ct (hc := h3) (hK := ?_)); (simp only [go_sem]) | (first | refine cd (hc := h1) (hK := ?_) | refine cm (hc := h1) (hK := ?_) | refine ct (hc := h1) (hK := ?_)); (simp only [go_sem]) | (first | refine cd (hc := h2) (hK := ?_) | refine cm (hc := h2) (hK := ?_) | refine ct (hc := h2) (hK := ?_)); (simp only [go_sem]) | ((first | refine mx 6 [] follows ?_ | refine mx 5 [] follows ?_ | refine mx 4 [] follows ?_ | refine mx 3 [] follows ?_ | refine mx 2 [] follows ?_ | refine mx 1 [] follows ?_ | refine mx 0 [] follows ?_ | fail); (simp only [go_sem, hw])) | fail)
    (refine hR _ (rat [] (hK := ⟨rfl, rfl⟩)))
theorem sRedundant (t : Tm) (h : t.size < 100000000) : AFn Try.prog 28 [.agg (teC t)] (.one (.sc (.int .i64 (Tm.redV t)))) := by
  have hv := sCastV t (by omega)
  obtain ⟨s1, s2⟩ := Tm.redV_spec t
  cases hb : t.castV
  · rw [hb] at hv
    rw [s2 hb]
    refine fn_in ?_; refine acl_in Try.func28 rfl isfn_28 (Nat.le_of_ble_eq_true rfl) (fun R hR => ?_); rw [Try.results28] at hR; refine wg_run ?_; (simp only [Try.f28, go_sem])
    repeat' (first | (first | (((first | refine sp1 ?_ ?_ | refine sp2 ?_ ?_ | refine sp3 ?_ ?_ | refine sp4 ?_ ?_ | refine sp5 ?_ ?_ | refine sp6 ?_ ?_ | refine sp7 ?_ ?_) <;> intro hb) <;> (simp only [go_sem, hb])) | ((first | refine wm_done ?_ | refine wt_done ?_ | refine wg_run ?_ | refine fk ?_ ?_) <;> (simp only [go_sem]))) | (first | refine cd (hc := hv) (hK := ?_) | refine cm (hc := hv) (hK := ?_) | refine ct (hc := hv) (hK := ?_)); (simp only [go_sem]))
    (refine hR _ (rat [] (hK := ⟨rfl, rfl⟩)))
  · rw [hb] at hv
    obtain ⟨e, rfl, he, hq⟩ := s1 hb
    simp only [E.okC, Bool.and_eq_true] at he
    rw [hq]
    have hz := e.simp_size
    have h1 := l11Casts 100000000 (by omega) e.tm h
    have h2 := l11Casts 100000000 (by omega) e.simp.tm (by omega)
    have h3 := sSimple e he.1 (by omega)
    have hw := red_wrap (a := e.tm.castsL.length) (b := e.simp.tm.castsL.length) (by have := e.tm.castsL_len; have := e.tm.nodes_le; omega) (by have := e.simp.tm.castsL_len; have := e.simp.tm.nodes_le; omega)
    refine fn_in ?_; refine acl_in Try.func28 rfl isfn_28 (Nat.le_of_ble_eq_true rfl) (fun R hR => ?_); rw [Try.results28] at hR; refine wg_run ?_; (simp only [Try.f28, go_sem, hw])
    repeat' (first | (first | (simp only [go_sem, hw]) | (((first | refine sp1 ?_ ?_ | refine sp2 ?_ ?_ | refine sp3 ?_ ?_ | refine sp4 ?_ ?_ | refine sp5 ?_ ?_ | refine sp6 ?_ ?_ | refine sp7 ?_ ?_) <;> intro hb) <;> (simp only [go_sem, hb, hw])) | ((first | refine wm_done ?_ | refine wt_done ?_ | refine wg_run ?_ | refine fk ?_ ?_) <;> (simp only [go_sem, hw]))) | (first | refine cd (hc := hv) (hK := ?_) | refine cm (hc := hv) (hK := ?_) | refine ct (hc := hv) (hK := ?_)); (simp only [go_sem]) | (first | refine cd (hc := h3) (hK := ?_) | refine cm (hc := h3) (hK := ?_) | refine ct (hc := h3) (hK := ?_)); (simp only [go_sem]) | (first | refine cd (hc := h1) (hK := ?_) | refine cm (hc := h1) (hK := ?_) | refine ct (hc := h1) (hK := ?_)); (simp only [go_sem]) | (first | refine cd (hc := h2) (hK := ?_) | refine cm (hc := h2) (hK := ?_) | refine ct (hc := h2) (hK := ?_)); (simp only [go_sem]) | ((first | refine mx 6 [] follows ?_ | refine mx 5 [] follows ?_ | refine mx 4 [] follows ?_ | refine mx 3 [] follows ?_ | refine mx 2 [] follows ?_ | refine mx 1 [] follows ?_ | refine mx 0 [] follows ?_ | fail); (simp only [go_sem, hw])) | fail)
    (refine hR _ (rat [] (hK := ⟨rfl, rfl⟩)))
end Go.Proofs.Ytchcbfbnffhifaa
/- Casts made dynamic. On shadows. -/
namespace Go.Proofs.Grad
def E.dyn1 : E → E
  | .cast s t l a => (match s.kind == 1 || t.kind == 1 with | true => .cast s t l a | false => .cast .any t l (.cast s .any l a))
  | e => e
theorem T.cons_any (s : T) : s.cons .any = true := by cases s <;> rfl
theorem T.any_cons (s : T) : T.any.cons s = true := by cases s <;> rfl
theorem E.dyn1_wf (e : E) (h : e.wf = true) : e.dyn1.wf = true := by
  cases e with
  | cast s t l a =>
    simp only [E.wf, Bool.and_eq_true, decide_eq_true_eq] at h
    cases k : (s.kind == 1 || t.kind == 1) <;> simp [E.dyn1, k, E.wf, h, T.depth, T.cons_any, T.any_cons]
  | _ => exact h
theorem E.dyn_wf (e : E) (h : e.wf = true) : (e.mapE E.dyn1).wf = true := E.mapE_wf E.dyn1_wf e h
theorem E.dyn_size (e : E) : (e.mapE E.dyn1).tm.size ≤ 6 * e.tm.size := by
  have hp : ∀ t : Ty, 1 ≤ t.size := fun t => by cases t; simp only [Ty.size]; omega
  have hno : noTy.size = 1 := rfl
  have ha : T.any.ty.size = 1 := rfl
  induction e with
  | cast s t l a ih =>
    have h1 := hp s.ty; have h2 := hp t.ty
    simp only [E.mapE, E.dyn1]
    split <;> simp only [E.tm, nd, Tm.size, Tm.sizes, ha] <;> omega
  | _ => simp only [E.mapE, E.dyn1, E.tm, nd, Tm.size, Tm.sizes, hno] at * <;> (try omega)
end Go.Proofs.Grad
namespace Go.Proofs.Ytchcbfbnffhifaa
open Go.RowKit Go.Proofs.Sh Go.Proofs.Grad
set_option maxRecDepth 100000
set_option maxHeartbeats 8000000
theorem iCastedW (t : Tm) (f y : Ty) (l : Int) : AFn Try.prog 130 [.agg (teC t), .agg (tyC f), .agg (tyC y), .one (.sc (.int .i64 l))] (.agg (teC (.mk 14 ByteArray.empty 0 y f l [t]))) := by
  refine fn_in ?_; refine acl_in Try.func130 rfl isfn_130 (Nat.le_of_ble_eq_true rfl) (fun R hR => ?_); rw [Try.results130] at hR; refine wg_run ?_; (simp only [Try.f130, go_sem])
  repeat' (first | (first | (((first | refine sp1 ?_ ?_ | refine sp2 ?_ ?_ | refine sp3 ?_ ?_ | refine sp4 ?_ ?_ | refine sp5 ?_ ?_ | refine sp6 ?_ ?_ | refine sp7 ?_ ?_) <;> intro hb) <;> (simp only [go_sem, hb])) | ((first | refine wm_done ?_ | refine wt_done ?_ | refine wg_run ?_ | refine fk ?_ ?_) <;> (simp only [go_sem]))) | ((first | refine mx 6 [] follows ?_ | refine mx 5 [] follows ?_ | refine mx 4 [] follows ?_ | refine mx 3 [] follows ?_ | refine mx 2 [] follows ?_ | refine mx 1 [] follows ?_ | refine mx 0 [] follows ?_ | fail); (simp only [go_sem])) | fail)
  (refine hR _ (rat [] (hK := ⟨?_, rfl⟩)))
  rfl
theorem iThrough (x : Tm) (f y : Ty) (l : Int) : AFn Try.prog 87 [.agg (teC x), .agg (tyC f), .agg (tyC y), .one (.sc (.int .i64 l))] (.agg (teC (.mk 14 ByteArray.empty 0 y (.mk 1 []) l [.mk 14 ByteArray.empty 0 (.mk 1 []) f l [x]]))) := by
  have hb := base 1
  have h1 := iCastedW x f (.mk 1 []) l
  have h2 := iCastedW (.mk 14 ByteArray.empty 0 (.mk 1 []) f l [x]) (.mk 1 []) y l
  refine fn_in ?_; refine acl_in Try.func87 rfl isfn_87 (Nat.le_of_ble_eq_true rfl) (fun R hR => ?_); rw [Try.results87] at hR; refine wg_run ?_; (simp only [Try.f87, go_sem])
  repeat' (first | (first | (((first | refine sp1 ?_ ?_ | refine sp2 ?_ ?_ | refine sp3 ?_ ?_ | refine sp4 ?_ ?_ | refine sp5 ?_ ?_ | refine sp6 ?_ ?_ | refine sp7 ?_ ?_) <;> intro hb) <;> (simp only [go_sem, hb])) | ((first | refine wm_done ?_ | refine wt_done ?_ | refine wg_run ?_ | refine fk ?_ ?_) <;> (simp only [go_sem]))) | (first | refine cd (hc := hb) (hK := ?_) | refine cm (hc := hb) (hK := ?_) | refine ct (hc := hb) (hK := ?_)); (simp only [go_sem]) | (first | refine cd (hc := h1) (hK := ?_) | refine cm (hc := h1) (hK := ?_) | refine ct (hc := h1) (hK := ?_)); (simp only [go_sem]) | (first | refine cd (hc := h2) (hK := ?_) | refine cm (hc := h2) (hK := ?_) | refine ct (hc := h2) (hK := ?_)); (simp only [go_sem]) | ((first | refine mx 6 [] follows ?_ | refine mx 5 [] follows ?_ | refine mx 4 [] follows ?_ | refine mx 3 [] follows ?_ | refine mx 2 [] follows ?_ | refine mx 1 [] follows ?_ | refine mx 0 [] follows ?_ | fail); (simp only [go_sem])) | (first | fail) | fail)
  all_goals (refine hR _ ?_; refine rat [] (hK := ⟨rfl, rfl⟩))
theorem iDyn1 (x : E) : AFn Try.prog 86 [.agg (teC x.tm)] (.agg (teC x.dyn1.tm)) := by
  cases x with
  | cast s t l a =>
    have h1 := iThrough a.tm s.ty t.ty l
    have e1 : s.ty.kind = s.kind := T.ty_kind s
    have e2 : t.ty.kind = t.kind := T.ty_kind t
    simp only [E.dyn1]
    cases k1 : (s.kind == 1) <;> cases k2 : (t.kind == 1)
    all_goals
      simp only [Bool.or_false, Bool.or_true, E.tm, T.ty] at h1 ⊢
      refine fn_in ?_; refine acl_in Try.func86 rfl isfn_86 (Nat.le_of_ble_eq_true rfl) (fun R hR => ?_); rw [Try.results86] at hR; refine wg_run ?_; (simp only [Try.f86, go_sem])
      repeat' (first | (first | (simp only [go_sem, int_bne, e1, e2, k1, k2]) | (((first | refine sp1 ?_ ?_ | refine sp2 ?_ ?_ | refine sp3 ?_ ?_ | refine sp4 ?_ ?_ | refine sp5 ?_ ?_ | refine sp6 ?_ ?_ | refine sp7 ?_ ?_) <;> intro hb) <;> (simp only [go_sem, hb, int_bne, e1, e2, k1, k2])) | ((first | refine wm_done ?_ | refine wt_done ?_ | refine wg_run ?_ | refine fk ?_ ?_) <;> (simp only [go_sem, int_bne, e1, e2, k1, k2]))) | ((first | refine mx 6 [] follows ?_ | refine mx 5 [] follows ?_ | refine mx 4 [] follows ?_ | refine mx 3 [] follows ?_ | refine mx 2 [] follows ?_ | refine mx 1 [] follows ?_ | refine mx 0 [] follows ?_ | fail); (simp only [go_sem, e1, e2])) | (first | refine cd (hc := h1) (hK := ?_) | refine cm (hc := h1) (hK := ?_) | refine ct (hc := h1) (hK := ?_)); (simp only [go_sem]) | fail)
      all_goals (refine hR _ ?_; refine rat [] (hK := ⟨rfl, rfl⟩))
  | _ =>
    simp only [E.tm, nd, E.dyn1]
    refine fn_in ?_; refine acl_in Try.func86 rfl isfn_86 (Nat.le_of_ble_eq_true rfl) (fun R hR => ?_); rw [Try.results86] at hR; refine wg_run ?_; (simp only [Try.f86, go_sem])
    repeat' (first | (first | (simp only [go_sem, int_bne]) | (((first | refine sp1 ?_ ?_ | refine sp2 ?_ ?_ | refine sp3 ?_ ?_ | refine sp4 ?_ ?_ | refine sp5 ?_ ?_ | refine sp6 ?_ ?_ | refine sp7 ?_ ?_) <;> intro hb) <;> (simp only [go_sem, hb, int_bne])) | ((first | refine wm_done ?_ | refine wt_done ?_ | refine wg_run ?_ | refine fk ?_ ?_) <;> (simp only [go_sem, int_bne]))) | fail)
    all_goals (refine hR _ ?_; refine rat [] (hK := ⟨rfl, rfl⟩))
/-- what DynamicCasts yields -/
noncomputable def dynX (t : Tm) : Tm := by
  classical
  exact if h : t.castV = true then ((Classical.choose (Tm.castV_E h)).mapE E.dyn1).tm else tm0
theorem dynX_E {e : E} (h : e.okC = true) : dynX e.tm = (e.mapE E.dyn1).tm := by
  have h' : e.tm.castV = true := by rw [E.castV_tm]; exact h
  unfold dynX
  rw [dif_pos h', E.tm_inj _ _ (Classical.choose_spec (Tm.castV_E h')).1]
noncomputable def dynT (t : Tm) : Tm := match t.castV with | true => (dynX t).chkC | false => tm0
noncomputable def dynB (t : Tm) : Bool := t.castV && (dynX t).castV
theorem dynX_size (t : Tm) (h : t.size < 10000000) : (dynX t).size < 100000000 := by
  cases hv : t.castV
  · unfold dynX; rw [dif_neg (by simp [hv])]; have := Sh.tm0_size; omega
  · obtain ⟨e, rfl, ho⟩ := Tm.castV_E hv
    rw [dynX_E ho]
    have := E.dyn_size e; omega
theorem dynT_size (t : Tm) (h : t.size < 10000000) : (dynT t).size < 100000000 := by
  unfold dynT; split
  · exact Tm.chkC_size _ (dynX_size t h)
  · have := Sh.tm0_size; omega
theorem iDynamic (t : Tm) (ht : t.size < 10000000) : ACl Try.prog 39 [.agg (teC t)] [] (OwnK (teC (dynT t)) (boolF (dynB t))) := by
  have hv := iCastV t
  unfold dynT dynB
  cases h : t.castV
  · rw [h] at hv
    refine own_none ?_
    simp only [Bool.false_and, boolF]
    simp only [tm0, noTy]
    refine fn_in ?_; refine acl_in Try.func39 rfl isfn_39 (Nat.le_of_ble_eq_true rfl) (fun R hR => ?_); rw [Try.results39] at hR; refine wg_run ?_; (simp only [Try.f39, go_sem])
    repeat' (first | (first | (((first | refine sp1 ?_ ?_ | refine sp2 ?_ ?_ | refine sp3 ?_ ?_ | refine sp4 ?_ ?_ | refine sp5 ?_ ?_ | refine sp6 ?_ ?_ | refine sp7 ?_ ?_) <;> intro hb) <;> (simp only [go_sem, hb])) | ((first | refine wm_done ?_ | refine wt_done ?_ | refine wg_run ?_ | refine fk ?_ ?_) <;> (simp only [go_sem]))) | (first | refine cd (hc := hv) (hK := ?_) | refine cm (hc := hv) (hK := ?_) | refine ct (hc := hv) (hK := ?_)); (simp only [go_sem]) | fail)
    (refine hR _ ?_; refine rat [] (hK := ⟨rfl, rfl⟩))
  · rw [h] at hv
    have hz := dynX_size t ht
    have hc := iCheckedC (dynX t) (by omega)
    obtain ⟨e, rfl, ho⟩ := Tm.castV_E h
    rw [dynX_E ho] at hc ⊢
    have hw : e.wf = true := by simp only [E.okC, Bool.and_eq_true] at ho; exact ho.1
    have hm := iMapped 86 E.dyn1 (fun x hx => E.dyn1_wf x hx) (fun x _ => iDyn1 x) e hw
    rw [Bool.true_and]
    refine acl_in Try.func39 rfl isfn_39 (Nat.le_of_ble_eq_true rfl) (fun R hR => ?_); rw [Try.results39] at hR; refine wg_run ?_; (simp only [Try.f39, go_sem])
    repeat' (first | (first | (((first | refine sp1 ?_ ?_ | refine sp2 ?_ ?_ | refine sp3 ?_ ?_ | refine sp4 ?_ ?_ | refine sp5 ?_ ?_ | refine sp6 ?_ ?_ | refine sp7 ?_ ?_) <;> intro hb) <;> (simp only [go_sem, hb])) | ((first | refine wm_done ?_ | refine wt_done ?_ | refine wg_run ?_ | refine fk ?_ ?_) <;> (simp only [go_sem]))) | (first | refine cd (hc := hv) (hK := ?_) | refine cm (hc := hv) (hK := ?_) | refine ct (hc := hv) (hK := ?_)); (simp only [go_sem]) | (first | refine cd (hc := hm) (hK := ?_) | refine cm (hc := hm) (hK := ?_) | refine ct (hc := hm) (hK := ?_)); (simp only [go_sem]) | fail)
    refine wd_any (acalls_ownT (p := 2) (pre := [_, _]) (T := []) rfl (.cons (.same (by (simp only [go_sem]); first | done | rfl)) .nil) hc (WF.bool _).flat (WF.bool _).ren) ?_
    rintro _ _ ⟨cs, T, ids, rfl, rfl, -, -, O, -⟩
    have hcs : cs.length = 9 := by rw [O.len, teC_length]
    have htk : cs.take 9 = cs := List.take_of_length_le (by omega)
    simp only [boolF]
    (simp only [go_sem, hcs])
    repeat' (first | (first | (simp only [go_sem, hcs, htk]) | (((first | refine sp1 ?_ ?_ | refine sp2 ?_ ?_ | refine sp3 ?_ ?_ | refine sp4 ?_ ?_ | refine sp5 ?_ ?_ | refine sp6 ?_ ?_ | refine sp7 ?_ ?_) <;> intro hb) <;> (simp only [go_sem, hb, hcs, htk])) | ((first | refine wm_done ?_ | refine wt_done ?_ | refine wg_run ?_ | refine fk ?_ ?_) <;> (simp only [go_sem, hcs, htk]))) | fail)
    exact hR _ (ret_ownT (pre := [_, _]) (cs := cs) (WF.bool _) O rfl rfl (by (simp only [go_sem, hcs, htk]); first | done | rfl))
theorem sCast5W (t : Tm) (f y : Ty) (l : Int) (hf : f.size < 1000) (hy : y.size < 1000) : AFn Try.prog 129 [.agg (teC t), .agg (tyC f), .agg (tyC y), .one (.sc (.int .i64 l))] (.agg (teC (.mk 14 ByteArray.empty 0 y f l [t]))) := by
  have h1 := l1Copy 1000 (by omega) f hf
  have h2 := l1Copy 1000 (by omega) y hy
  refine fn_in ?_; refine acl_in Try.func129 rfl isfn_129 (Nat.le_of_ble_eq_true rfl) (fun R hR => ?_); rw [Try.results129] at hR; refine wg_run ?_; (simp only [Try.f129, go_sem])
  repeat' (first | (first | (((first | refine sp1 ?_ ?_ | refine sp2 ?_ ?_ | refine sp3 ?_ ?_ | refine sp4 ?_ ?_ | refine sp5 ?_ ?_ | refine sp6 ?_ ?_ | refine sp7 ?_ ?_) <;> intro hb) <;> (simp only [go_sem, hb])) | ((first | refine wm_done ?_ | refine wt_done ?_ | refine wg_run ?_ | refine fk ?_ ?_) <;> (simp only [go_sem]))) | (first | refine cd (hc := h1) (hK := ?_) | refine cm (hc := h1) (hK := ?_) | refine ct (hc := h1) (hK := ?_)); (simp only [go_sem]) | (first | refine cd (hc := h2) (hK := ?_) | refine cm (hc := h2) (hK := ?_) | refine ct (hc := h2) (hK := ?_)); (simp only [go_sem]) | ((first | refine mx 6 [] follows ?_ | refine mx 5 [] follows ?_ | refine mx 4 [] follows ?_ | refine mx 3 [] follows ?_ | refine mx 2 [] follows ?_ | refine mx 1 [] follows ?_ | refine mx 0 [] follows ?_ | fail); (simp only [go_sem])) | (first | (refine tr (.op 0 false (.op 2 false (.op 4 false (.op 5 false (.fork 1 false (.fork 3 false (.op 6 false (.op 7 false (.op 8 true .nil))) (.op 6 false (.op 3 false (.op 7 false (.op 8 true .nil))))) (.op 6 false (.op 1 false (.op 3 false (.op 7 false (.op 8 true .nil)))))))))) [] follows ?_; (simp only [go_sem])) | fail) | fail)
  all_goals
    (refine hR _ (rat [] (hK := ⟨?_, rfl⟩)))
    rfl
theorem sDyn (e : E) : e.wf = true → e.tm.size < 274877906944 → AFn Try.prog 84 [.agg (teC e.tm)] (.agg (teC (e.mapE E.dyn1).tm)) := by
  have hb := l1Any
  induction e with
  | var _ | num _ | tru | fls =>
    intro h hz
    have hc := l2Copy _ (Nat.le_refl _) _ hz
    simp only [E.mapE, E.dyn1]
    simp only [E.tm, nd] at hc ⊢
    refine fn_in ?_; refine acl_in Try.func84 rfl isfn_84 (Nat.le_of_ble_eq_true rfl) (fun R hR => ?_); rw [Try.results84] at hR; refine wg_run ?_; (simp only [Try.f84, go_sem])
    repeat' (first | (first | (simp only [go_sem, int_bne]) | (((first | refine sp1 ?_ ?_ | refine sp2 ?_ ?_ | refine sp3 ?_ ?_ | refine sp4 ?_ ?_ | refine sp5 ?_ ?_ | refine sp6 ?_ ?_ | refine sp7 ?_ ?_) <;> intro hb) <;> (simp only [go_sem, hb, int_bne])) | ((first | refine wm_done ?_ | refine wt_done ?_ | refine wg_run ?_ | refine fk ?_ ?_) <;> (simp only [go_sem, int_bne]))) | (first | (refine wl_next (wg_run ?_); (simp only [go_sem])) | refine wd_rounds 6 ?_) | (first | refine cd (hc := hc) (hK := ?_) | refine cm (hc := hc) (hK := ?_) | refine ct (hc := hc) (hK := ?_)); (simp only [go_sem]))
    (refine hR _ (rat [] (hK := ⟨rfl, rfl⟩)))
  | app a b iha ihb | add a b iha ihb | less a b iha ihb | pair a b iha ihb =>
    intro h hz
    simp only [E.wf, Bool.and_eq_true] at h
    have hc := l2CopyS _ (by simp [E.tm, nd, Tm.kids]) hz
    simp only [E.tm, nd, Tm.size, Tm.sizes] at hz
    have iha := iha h.1 (by omega)
    have ihb := ihb h.2 (by omega)
    simp only [E.mapE, E.dyn1]
    simp only [E.tm, nd, teK, Tm.kind, Tm.name, Tm.num, Tm.type, Tm.frm, Tm.label, Tm.kids, teR, List.length_cons, List.length_nil] at hc ⊢
    refine fn_in ?_; refine acl_in Try.func84 rfl isfn_84 (Nat.le_of_ble_eq_true rfl) (fun R hR => ?_); rw [Try.results84] at hR; refine wg_run ?_; (simp only [Try.f84, go_sem])
    repeat' (first | (first | (simp only [go_sem, int_bne]) | (((first | refine sp1 ?_ ?_ | refine sp2 ?_ ?_ | refine sp3 ?_ ?_ | refine sp4 ?_ ?_ | refine sp5 ?_ ?_ | refine sp6 ?_ ?_ | refine sp7 ?_ ?_) <;> intro hb) <;> (simp only [go_sem, hb, int_bne])) | ((first | refine wm_done ?_ | refine wt_done ?_ | refine wg_run ?_ | refine fk ?_ ?_) <;> (simp only [go_sem, int_bne]))) | (first | (refine wl_next (wg_run ?_); (simp only [go_sem])) | refine wd_rounds 6 ?_) | ((first | refine kd [] (hc := hc) (hK := ?_) | refine km [] (hc := hc) (hK := ?_) | refine kt [] (hc := hc) (hK := ?_)); rintro _ _ ⟨rfl, rfl⟩ <;> (simp only [go_sem])) | (first | refine cd (hc := iha) (hK := ?_) | refine cm (hc := iha) (hK := ?_) | refine ct (hc := iha) (hK := ?_)); (simp only [go_sem]) | (first | refine cd (hc := ihb) (hK := ?_) | refine cm (hc := ihb) (hK := ?_) | refine ct (hc := ihb) (hK := ?_)); (simp only [go_sem]) | ((first | refine mx 6 [] follows ?_ | refine mx 5 [] follows ?_ | refine mx 4 [] follows ?_ | refine mx 3 [] follows ?_ | refine mx 2 [] follows ?_ | refine mx 1 [] follows ?_ | refine mx 0 [] follows ?_ | fail); (simp only [go_sem])) | fail)
    (refine hR _ (rat [] (hK := ⟨rfl, rfl⟩)))
  | ite a b c iha ihb ihc =>
    intro h hz
    simp only [E.wf, Bool.and_eq_true] at h
    have hc := l2CopyS _ (by simp [E.tm, nd, Tm.kids]) hz
    simp only [E.tm, nd, Tm.size, Tm.sizes] at hz
    have iha := iha h.1 (by omega)
    have ihb := ihb h.2.1 (by omega)
    have ihc := ihc h.2.2 (by omega)
    simp only [E.mapE, E.dyn1]
    simp only [E.tm, nd, teK, Tm.kind, Tm.name, Tm.num, Tm.type, Tm.frm, Tm.label, Tm.kids, teR, List.length_cons, List.length_nil] at hc ⊢
    refine fn_in ?_; refine acl_in Try.func84 rfl isfn_84 (Nat.le_of_ble_eq_true rfl) (fun R hR => ?_); rw [Try.results84] at hR; refine wg_run ?_; (simp only [Try.f84, go_sem])
    repeat' (first | (first | (simp only [go_sem, int_bne]) | (((first | refine sp1 ?_ ?_ | refine sp2 ?_ ?_ | refine sp3 ?_ ?_ | refine sp4 ?_ ?_ | refine sp5 ?_ ?_ | refine sp6 ?_ ?_ | refine sp7 ?_ ?_) <;> intro hb) <;> (simp only [go_sem, hb, int_bne])) | ((first | refine wm_done ?_ | refine wt_done ?_ | refine wg_run ?_ | refine fk ?_ ?_) <;> (simp only [go_sem, int_bne]))) | (first | (refine wl_next (wg_run ?_); (simp only [go_sem])) | refine wd_rounds 6 ?_) | ((first | refine kd [] (hc := hc) (hK := ?_) | refine km [] (hc := hc) (hK := ?_) | refine kt [] (hc := hc) (hK := ?_)); rintro _ _ ⟨rfl, rfl⟩ <;> (simp only [go_sem])) | (first | refine cd (hc := iha) (hK := ?_) | refine cm (hc := iha) (hK := ?_) | refine ct (hc := iha) (hK := ?_)); (simp only [go_sem]) | (first | refine cd (hc := ihb) (hK := ?_) | refine cm (hc := ihb) (hK := ?_) | refine ct (hc := ihb) (hK := ?_)); (simp only [go_sem]) | (first | refine cd (hc := ihc) (hK := ?_) | refine cm (hc := ihc) (hK := ?_) | refine ct (hc := ihc) (hK := ?_)); (simp only [go_sem]) | ((first | refine mx 6 [] follows ?_ | refine mx 5 [] follows ?_ | refine mx 4 [] follows ?_ | refine mx 3 [] follows ?_ | refine mx 2 [] follows ?_ | refine mx 1 [] follows ?_ | refine mx 0 [] follows ?_ | fail); (simp only [go_sem])) | fail)
    (refine hR _ (rat [] (hK := ⟨rfl, rfl⟩)))
  | cast s t l a ih =>
    intro h hz
    simp only [E.wf, Bool.and_eq_true, decide_eq_true_eq] at h
    have hc := l2CopyS _ (by simp [E.tm, nd, Tm.kids]) hz
    simp only [E.tm, nd, Tm.size, Tm.sizes] at hz
    have ih := ih h.2.2.2 (by omega)
    have h1 := sCast5W (a.mapE E.dyn1).tm s.ty T.any.ty l (T.ty_small h.1.1) (T.ty_small (by simp [T.depth]))
    have h2 := sCast5W (.mk 14 ByteArray.empty 0 T.any.ty s.ty l [(a.mapE E.dyn1).tm]) T.any.ty t.ty l (T.ty_small (by simp [T.depth])) (T.ty_small h.1.2)
    have e1 : s.ty.kind = s.kind := T.ty_kind s
    have e2 : t.ty.kind = t.kind := T.ty_kind t
    simp only [E.mapE, E.dyn1]
    simp only [E.tm, nd, teK, Tm.kind, Tm.name, Tm.num, Tm.type, Tm.frm, Tm.label, Tm.kids, teR, List.length_cons, List.length_nil] at hc ⊢
    cases k1 : (s.kind == 1) <;> cases k2 : (t.kind == 1)
    all_goals
      simp only [Bool.or_false, Bool.or_true, E.tm]
      refine fn_in ?_; refine acl_in Try.func84 rfl isfn_84 (Nat.le_of_ble_eq_true rfl) (fun R hR => ?_); rw [Try.results84] at hR; refine wg_run ?_; (simp only [Try.f84, go_sem])
      repeat' (first | (first | (simp only [go_sem, int_bne, e1, e2, k1, k2]) | (((first | refine sp1 ?_ ?_ | refine sp2 ?_ ?_ | refine sp3 ?_ ?_ | refine sp4 ?_ ?_ | refine sp5 ?_ ?_ | refine sp6 ?_ ?_ | refine sp7 ?_ ?_) <;> intro hb) <;> (simp only [go_sem, hb, int_bne, e1, e2, k1, k2])) | ((first | refine wm_done ?_ | refine wt_done ?_ | refine wg_run ?_ | refine fk ?_ ?_) <;> (simp only [go_sem, int_bne, e1, e2, k1, k2]))) | (first | (refine wl_next (wg_run ?_); (simp only [go_sem])) | refine wd_rounds 6 ?_) | ((first | refine kd [] (hc := hc) (hK := ?_) | refine km [] (hc := hc) (hK := ?_) | refine kt [] (hc := hc) (hK := ?_)); rintro _ _ ⟨rfl, rfl⟩ <;> (simp only [go_sem])) | (first | refine cd (hc := ih) (hK := ?_) | refine cm (hc := ih) (hK := ?_) | refine ct (hc := ih) (hK := ?_)); (simp only [go_sem]) | (first | refine cd (hc := hb) (hK := ?_) | refine cm (hc := hb) (hK := ?_) | refine ct (hc := hb) (hK := ?_)); (simp only [go_sem]) | (first | refine cd (hc := h1) (hK := ?_) | refine cm (hc := h1) (hK := ?_) | refine ct (hc := h1) (hK := ?_)); (simp only [go_sem]) | (first | refine cd (hc := h2) (hK := ?_) | refine cm (hc := h2) (hK := ?_) | refine ct (hc := h2) (hK := ?_)); (simp only [go_sem]) | ((first | refine mx 6 [] follows ?_ | refine mx 5 [] follows ?_ | refine mx 4 [] follows ?_ | refine mx 3 [] follows ?_ | refine mx 2 [] follows ?_ | refine mx 1 [] follows ?_ | refine mx 0 [] follows ?_ | fail); (simp only [go_sem, e1, e2])) | (first | fail) | fail)
      all_goals
        (refine hR _ (rat [] (hK := ⟨?_, rfl⟩)))
        first | rfl | (simp only [teC, e1, e2]; rfl) | (simp only [teC, Ty.kind, Ty.kids, T.ty, e1, e2]; rfl) | (trace_state; fail)
  | lam x t a ih =>
    intro h hz
    simp only [E.wf, Bool.and_eq_true, decide_eq_true_eq] at h
    have hc := l2CopyS _ (by simp [E.tm, nd, Tm.kids]) hz
    simp only [E.tm, nd, Tm.size, Tm.sizes] at hz
    have ih := ih h.2.2 (by omega)
    simp only [E.mapE, E.dyn1]
    simp only [E.tm, nd, teK, Tm.kind, Tm.name, Tm.num, Tm.type, Tm.frm, Tm.label, Tm.kids, teR, List.length_cons, List.length_nil] at hc ⊢
    refine fn_in ?_; refine acl_in Try.func84 rfl isfn_84 (Nat.le_of_ble_eq_true rfl) (fun R hR => ?_); rw [Try.results84] at hR; refine wg_run ?_; (simp only [Try.f84, go_sem])
    repeat' (first | (first | (simp only [go_sem, int_bne]) | (((first | refine sp1 ?_ ?_ | refine sp2 ?_ ?_ | refine sp3 ?_ ?_ | refine sp4 ?_ ?_ | refine sp5 ?_ ?_ | refine sp6 ?_ ?_ | refine sp7 ?_ ?_) <;> intro hb) <;> (simp only [go_sem, hb, int_bne])) | ((first | refine wm_done ?_ | refine wt_done ?_ | refine wg_run ?_ | refine fk ?_ ?_) <;> (simp only [go_sem, int_bne]))) | (first | (refine wl_next (wg_run ?_); (simp only [go_sem])) | refine wd_rounds 6 ?_) | ((first | refine kd [] (hc := hc) (hK := ?_) | refine km [] (hc := hc) (hK := ?_) | refine kt [] (hc := hc) (hK := ?_)); rintro _ _ ⟨rfl, rfl⟩ <;> (simp only [go_sem])) | (first | refine cd (hc := ih) (hK := ?_) | refine cm (hc := ih) (hK := ?_) | refine ct (hc := ih) (hK := ?_)); (simp only [go_sem]) | ((first | refine mx 6 [] follows ?_ | refine mx 5 [] follows ?_ | refine mx 4 [] follows ?_ | refine mx 3 [] follows ?_ | refine mx 2 [] follows ?_ | refine mx 1 [] follows ?_ | refine mx 0 [] follows ?_ | fail); (simp only [go_sem])) | fail)
    (refine hR _ (rat [] (hK := ⟨rfl, rfl⟩)))
  | fst a ih | snd a ih =>
    intro h hz
    simp only [E.wf, Bool.and_eq_true, decide_eq_true_eq] at h
    have hc := l2CopyS _ (by simp [E.tm, nd, Tm.kids]) hz
    simp only [E.tm, nd, Tm.size, Tm.sizes] at hz
    have ih := ih h (by omega)
    simp only [E.mapE, E.dyn1]
    simp only [E.tm, nd, teK, Tm.kind, Tm.name, Tm.num, Tm.type, Tm.frm, Tm.label, Tm.kids, teR, List.length_cons, List.length_nil] at hc ⊢
    refine fn_in ?_; refine acl_in Try.func84 rfl isfn_84 (Nat.le_of_ble_eq_true rfl) (fun R hR => ?_); rw [Try.results84] at hR; refine wg_run ?_; (simp only [Try.f84, go_sem])
    repeat' (first | (first | (simp only [go_sem, int_bne]) | (((first | refine sp1 ?_ ?_ | refine sp2 ?_ ?_ | refine sp3 ?_ ?_ | refine sp4 ?_ ?_ | refine sp5 ?_ ?_ | refine sp6 ?_ ?_ | refine sp7 ?_ ?_) <;> intro hb) <;> (simp only [go_sem, hb, int_bne])) | ((first | refine wm_done ?_ | refine wt_done ?_ | refine wg_run ?_ | refine fk ?_ ?_) <;> (simp only [go_sem, int_bne]))) | (first | (refine wl_next (wg_run ?_); (simp only [go_sem])) | refine wd_rounds 6 ?_) | ((first | refine kd [] (hc := hc) (hK := ?_) | refine km [] (hc := hc) (hK := ?_) | refine kt [] (hc := hc) (hK := ?_)); rintro _ _ ⟨rfl, rfl⟩ <;> (simp only [go_sem])) | (first | refine cd (hc := ih) (hK := ?_) | refine cm (hc := ih) (hK := ?_) | refine ct (hc := ih) (hK := ?_)); (simp only [go_sem]) | ((first | refine mx 6 [] follows ?_ | refine mx 5 [] follows ?_ | refine mx 4 [] follows ?_ | refine mx 3 [] follows ?_ | refine mx 2 [] follows ?_ | refine mx 1 [] follows ?_ | refine mx 0 [] follows ?_ | fail); (simp only [go_sem])) | fail)
    (refine hR _ (rat [] (hK := ⟨rfl, rfl⟩)))
  | _ =>
    rename_i t a ih
    intro h hz
    simp only [E.wf, Bool.and_eq_true, decide_eq_true_eq] at h
    have hc := l2CopyS _ (by simp [E.tm, nd, Tm.kids]) hz
    simp only [E.tm, nd, Tm.size, Tm.sizes] at hz
    have ih := ih h.2 (by omega)
    simp only [E.mapE, E.dyn1]
    simp only [E.tm, nd, teK, Tm.kind, Tm.name, Tm.num, Tm.type, Tm.frm, Tm.label, Tm.kids, teR, List.length_cons, List.length_nil] at hc ⊢
    refine fn_in ?_; refine acl_in Try.func84 rfl isfn_84 (Nat.le_of_ble_eq_true rfl) (fun R hR => ?_); rw [Try.results84] at hR; refine wg_run ?_; (simp only [Try.f84, go_sem])
    repeat' (first | (first | (simp only [go_sem, int_bne]) | (((first | refine sp1 ?_ ?_ | refine sp2 ?_ ?_ | refine sp3 ?_ ?_ | refine sp4 ?_ ?_ | refine sp5 ?_ ?_ | refine sp6 ?_ ?_ | refine sp7 ?_ ?_) <;> intro hb) <;> (simp only [go_sem, hb, int_bne])) | ((first | refine wm_done ?_ | refine wt_done ?_ | refine wg_run ?_ | refine fk ?_ ?_) <;> (simp only [go_sem, int_bne]))) | (first | (refine wl_next (wg_run ?_); (simp only [go_sem])) | refine wd_rounds 6 ?_) | ((first | refine kd [] (hc := hc) (hK := ?_) | refine km [] (hc := hc) (hK := ?_) | refine kt [] (hc := hc) (hK := ?_)); rintro _ _ ⟨rfl, rfl⟩ <;> (simp only [go_sem])) | (first | refine cd (hc := ih) (hK := ?_) | refine cm (hc := ih) (hK := ?_) | refine ct (hc := ih) (hK := ?_)); (simp only [go_sem]) | ((first | refine mx 6 [] follows ?_ | refine mx 5 [] follows ?_ | refine mx 4 [] follows ?_ | refine mx 3 [] follows ?_ | refine mx 2 [] follows ?_ | refine mx 1 [] follows ?_ | refine mx 0 [] follows ?_ | fail); (simp only [go_sem])) | fail)
    (refine hR _ (rat [] (hK := ⟨rfl, rfl⟩)))
theorem sDynamic (t : Tm) (ht : t.size < 10000000) : AFn Try.prog 38 [.agg (teC t)] (boolF (dynB t) (teC (dynT t))) := by
  have hv := sCastV t (by omega)
  unfold dynT dynB
  cases h : t.castV
  · rw [h] at hv
    simp only [Bool.false_and, boolF]
    simp only [tm0, noTy]
    refine fn_in ?_; refine acl_in Try.func38 rfl isfn_38 (Nat.le_of_ble_eq_true rfl) (fun R hR => ?_); rw [Try.results38] at hR; refine wg_run ?_; (simp only [Try.f38, go_sem])
    repeat' (first | (first | (((first | refine sp1 ?_ ?_ | refine sp2 ?_ ?_ | refine sp3 ?_ ?_ | refine sp4 ?_ ?_ | refine sp5 ?_ ?_ | refine sp6 ?_ ?_ | refine sp7 ?_ ?_) <;> intro hb) <;> (simp only [go_sem, hb])) | ((first | refine wm_done ?_ | refine wt_done ?_ | refine wg_run ?_ | refine fk ?_ ?_) <;> (simp only [go_sem]))) | (first | refine cd (hc := hv) (hK := ?_) | refine cm (hc := hv) (hK := ?_) | refine ct (hc := hv) (hK := ?_)); (simp only [go_sem]) | fail)
    (refine hR _ ?_; refine rat [] (hK := ⟨rfl, rfl⟩))
  · rw [h] at hv
    have hz := dynX_size t ht
    have hv2 := sCastV (dynX t) (by omega)
    unfold Tm.chkC
    obtain ⟨e, rfl, ho⟩ := Tm.castV_E h
    rw [dynX_E ho] at hv2 ⊢
    have hm := sDyn e (by simp only [E.okC, Bool.and_eq_true] at ho; exact ho.1) (by omega)
    cases hb : ((e.mapE E.dyn1).tm).castV
    all_goals
      rw [hb] at hv2
      simp only [boolF, Bool.and_false, Bool.and_true]
      (try simp only [tm0, noTy])
      refine fn_in ?_; refine acl_in Try.func38 rfl isfn_38 (Nat.le_of_ble_eq_true rfl) (fun R hR => ?_); rw [Try.results38] at hR; refine wg_run ?_; (simp only [Try.f38, go_sem])
      repeat' (first | (first | (((first | refine sp1 ?_ ?_ | refine sp2 ?_ ?_ | refine sp3 ?_ ?_ | refine sp4 ?_ ?_ | refine sp5 ?_ ?_ | refine sp6 ?_ ?_ | refine sp7 ?_ ?_) <;> intro hb) <;> (simp only [go_sem, hb])) | ((first | refine wm_done ?_ | refine wt_done ?_ | refine wg_run ?_ | refine fk ?_ ?_) <;> (simp only [go_sem]))) | (first | refine cd (hc := hv) (hK := ?_) | refine cm (hc := hv) (hK := ?_) | refine ct (hc := hv) (hK := ?_)); (simp only [go_sem]) | (first | refine cd (hc := hm) (hK := ?_) | refine cm (hc := hm) (hK := ?_) | refine ct (hc := hm) (hK := ?_)); (simp only [go_sem]) | (first | refine cd (hc := hv2) (hK := ?_) | refine cm (hc := hv2) (hK := ?_) | refine ct (hc := hv2) (hK := ?_)); (simp only [go_sem]) | fail)
      (refine hR _ ?_; refine rat [] (hK := ⟨rfl, rfl⟩))
end Go.Proofs.Ytchcbfbnffhifaa
