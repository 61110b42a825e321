/- Texts of the proof, one behind another. -/
import Derived.Test.YtchcbfbnffhifaaK4
import Derived.Test.YtchcbfbnffhifaaK6
import Derived.Test.YtchcbfbnffhifaaK8
set_option linter.unusedSimpArgs false
set_option linter.unusedVariables false
/- Terms: values, on shadows. -/
namespace Go.Proofs.Grad
def grTy (k : Int) : Ty := match k == 4 || k == 5 with | true => .mk k [.mk 1 [], .mk 1 []] | false => .mk k []
def Ty.isGr (t : Ty) : Bool := !(t.kind == 1) && t.same (grTy t.kind)
def proxyB (k : Int) (t f : Ty) : Bool := k == 14 && (f.kind == t.kind && (t.kind == 4 || t.kind == 5))
def injB (k : Int) (t f : Ty) : Bool := k == 14 && (t.kind == 1 && f.isGr)
def plainB (k : Int) : Bool := k == 2 || (k == 3 || (k == 4 || k == 5))
mutual
def Tm.isVal : Tm → Bool | .mk k _ _ t f _ ks => match k == 10 || (proxyB k t f || injB k t f) with | true => Tm.isVals ks | false => plainB k
def Tm.isVals : List Tm → Bool | [] => true | t :: l => t.isVal && Tm.isVals l
end
theorem Tm.isVals_all (l : List Tm) : Tm.isVals l = l.all Tm.isVal := by
  induction l with
  | nil => rfl
  | cons t l ih => simp [Tm.isVals, ih]
theorem Tm.isVal_eq (t : Tm) : t.isVal = (match t.kind == 10 || (proxyB t.kind t.type t.frm || injB t.kind t.type t.frm) with | true => Tm.isVals t.kids | false => plainB t.kind) := by cases t; rfl
theorem T.ground_ty (x : T) : x.ground.ty = grTy x.ty.kind := by cases x <;> rfl
end Go.Proofs.Grad
namespace Go.Proofs.Ytchcbfbnffhifaa
open Go.RowKit Go.Proofs.Sh Go.Proofs.Grad
set_option maxRecDepth 100000
set_option maxHeartbeats 8000000
theorem iGroundR (k : Int) : AFn Try.prog 144 [.one (.sc (.int .i64 k))] (.agg (tyC (grTy k))) := by
  have hb := both k (.mk 1 []) (.mk 1 [])
  have h1 := base 1
  have h0 := base k
  unfold grTy
  cases h4 : (k == 4)
  · cases h5 : (k == 5)
    all_goals
      refine fn_in ?_; refine acl_in Try.func144 rfl isfn_144 (Nat.le_of_ble_eq_true rfl) (fun R hR => ?_); rw [Try.results144] at hR; refine wg_run ?_; (simp only [Try.f144, go_sem, h4, h5])
      repeat' (first | (first | (simp only [go_sem, h4, h5]) | ((first | refine wd_split _ (fun hb => ?_) (fun hb => ?_) | refine wd_nwant _ (fun hb => ?_) (fun hb => ?_) | refine wm_nwant _ (fun hb => ?_) (fun hb => ?_) | refine wd_want _ (fun hb => ?_) (fun hb => ?_) | refine wm_want _ (fun hb => ?_) (fun hb => ?_) | refine wt_nwant _ (fun hb => ?_) (fun hb => ?_) | refine wt_want _ (fun hb => ?_) (fun hb => ?_)) <;> (simp only [go_sem, hb, h4, h5])) | (refine wm_done ?_; (simp only [go_sem, h4, h5])) | (refine wt_done ?_; (simp only [go_sem, h4, h5])) | (refine wg_run ?_; (simp only [go_sem, h4, h5])) | (refine wt_fork (by (simp only [go_sem]); first | done | rfl) ?_ ?_ <;> (simp only [go_sem, h4, h5]))) | ((first | refine wd_mix 6 [] follows (by decide +kernel) (by (simp only [go_sem]); first | done | rfl) ?_ | refine wd_mix 5 [] follows (by decide +kernel) (by (simp only [go_sem]); first | done | rfl) ?_ | refine wd_mix 4 [] follows (by decide +kernel) (by (simp only [go_sem]); first | done | rfl) ?_ | refine wd_mix 3 [] follows (by decide +kernel) (by (simp only [go_sem]); first | done | rfl) ?_ | refine wd_mix 2 [] follows (by decide +kernel) (by (simp only [go_sem]); first | done | rfl) ?_ | refine wd_mix 1 [] follows (by decide +kernel) (by (simp only [go_sem]); first | done | rfl) ?_ | refine wd_mix 0 [] follows (by decide +kernel) (by (simp only [go_sem]); first | done | rfl) ?_ | fail); (simp only [go_sem, h4, h5])) | (first | refine wd_fn (by (simp only [go_sem]); first | done | rfl) (h1) ?_ | refine wm_fn (by (simp only [go_sem]); first | done | rfl) (h1) (by (simp only [go_sem]); first | done | rfl) (by (simp only [go_sem]); first | done | rfl) ?_ | refine wt_fn (by (simp only [go_sem]); first | done | rfl) (h1) (by (simp only [go_sem]); first | done | rfl) (by (simp only [go_sem]); first | done | rfl) ?_); (simp only [go_sem]) | (first | refine wd_fn (by (simp only [go_sem]); first | done | rfl) (h0) ?_ | refine wm_fn (by (simp only [go_sem]); first | done | rfl) (h0) (by (simp only [go_sem]); first | done | rfl) (by (simp only [go_sem]); first | done | rfl) ?_ | refine wt_fn (by (simp only [go_sem]); first | done | rfl) (h0) (by (simp only [go_sem]); first | done | rfl) (by (simp only [go_sem]); first | done | rfl) ?_); (simp only [go_sem]) | (first | refine wd_fn (by (simp only [go_sem]); first | done | rfl) (hb) ?_ | refine wm_fn (by (simp only [go_sem]); first | done | rfl) (hb) (by (simp only [go_sem]); first | done | rfl) (by (simp only [go_sem]); first | done | rfl) ?_ | refine wt_fn (by (simp only [go_sem]); first | done | rfl) (hb) (by (simp only [go_sem]); first | done | rfl) (by (simp only [go_sem]); first | done | rfl) ?_); (simp only [go_sem]))
      (refine hR _ (ret_at [] (by (simp only [go_sem]); first | done | rfl) (by (simp only [go_sem]); first | done | rfl) ⟨?_, rfl⟩))
      rfl
  · refine fn_in ?_; refine acl_in Try.func144 rfl isfn_144 (Nat.le_of_ble_eq_true rfl) (fun R hR => ?_); rw [Try.results144] at hR; refine wg_run ?_; (simp only [Try.f144, go_sem, h4])
    repeat' (first | (first | (simp only [go_sem, h4]) | ((first | refine wd_split _ (fun hb => ?_) (fun hb => ?_) | refine wd_nwant _ (fun hb => ?_) (fun hb => ?_) | refine wm_nwant _ (fun hb => ?_) (fun hb => ?_) | refine wd_want _ (fun hb => ?_) (fun hb => ?_) | refine wm_want _ (fun hb => ?_) (fun hb => ?_) | refine wt_nwant _ (fun hb => ?_) (fun hb => ?_) | refine wt_want _ (fun hb => ?_) (fun hb => ?_)) <;> (simp only [go_sem, hb, h4])) | (refine wm_done ?_; (simp only [go_sem, h4])) | (refine wt_done ?_; (simp only [go_sem, h4])) | (refine wg_run ?_; (simp only [go_sem, h4])) | (refine wt_fork (by (simp only [go_sem]); first | done | rfl) ?_ ?_ <;> (simp only [go_sem, h4]))) | ((first | refine wd_mix 6 [] follows (by decide +kernel) (by (simp only [go_sem]); first | done | rfl) ?_ | refine wd_mix 5 [] follows (by decide +kernel) (by (simp only [go_sem]); first | done | rfl) ?_ | refine wd_mix 4 [] follows (by decide +kernel) (by (simp only [go_sem]); first | done | rfl) ?_ | refine wd_mix 3 [] follows (by decide +kernel) (by (simp only [go_sem]); first | done | rfl) ?_ | refine wd_mix 2 [] follows (by decide +kernel) (by (simp only [go_sem]); first | done | rfl) ?_ | refine wd_mix 1 [] follows (by decide +kernel) (by (simp only [go_sem]); first | done | rfl) ?_ | refine wd_mix 0 [] follows (by decide +kernel) (by (simp only [go_sem]); first | done | rfl) ?_ | fail); (simp only [go_sem, h4])) | (first | refine wd_fn (by (simp only [go_sem]); first | done | rfl) (h1) ?_ | refine wm_fn (by (simp only [go_sem]); first | done | rfl) (h1) (by (simp only [go_sem]); first | done | rfl) (by (simp only [go_sem]); first | done | rfl) ?_ | refine wt_fn (by (simp only [go_sem]); first | done | rfl) (h1) (by (simp only [go_sem]); first | done | rfl) (by (simp only [go_sem]); first | done | rfl) ?_); (simp only [go_sem]) | (first | refine wd_fn (by (simp only [go_sem]); first | done | rfl) (h0) ?_ | refine wm_fn (by (simp only [go_sem]); first | done | rfl) (h0) (by (simp only [go_sem]); first | done | rfl) (by (simp only [go_sem]); first | done | rfl) ?_ | refine wt_fn (by (simp only [go_sem]); first | done | rfl) (h0) (by (simp only [go_sem]); first | done | rfl) (by (simp only [go_sem]); first | done | rfl) ?_); (simp only [go_sem]) | (first | refine wd_fn (by (simp only [go_sem]); first | done | rfl) (hb) ?_ | refine wm_fn (by (simp only [go_sem]); first | done | rfl) (hb) (by (simp only [go_sem]); first | done | rfl) (by (simp only [go_sem]); first | done | rfl) ?_ | refine wt_fn (by (simp only [go_sem]); first | done | rfl) (hb) (by (simp only [go_sem]); first | done | rfl) (by (simp only [go_sem]); first | done | rfl) ?_); (simp only [go_sem]))
    (refine hR _ (ret_at [] (by (simp only [go_sem]); first | done | rfl) (by (simp only [go_sem]); first | done | rfl) ⟨?_, rfl⟩))
    rfl
theorem iIsGround (t : Ty) (h : t.size < 4611686018427387904) : AFn Try.prog 140 [.agg (tyC t)] (.one (.sc (.bool t.isGr))) := by
  have hg := iGroundR t.kind
  have hs := iSame _ (Nat.le_refl _) t (grTy t.kind) h
  unfold Ty.isGr
  refine fn_in ?_; refine acl_in Try.func140 rfl isfn_140 (Nat.le_of_ble_eq_true rfl) (fun R hR => ?_); rw [Try.results140] at hR; refine wg_run ?_; (simp only [Try.f140, go_sem])
  repeat' (first | (first | (simp only [go_sem, int_bne]) | ((first | refine wd_split _ (fun hb => ?_) (fun hb => ?_) | refine wd_nwant _ (fun hb => ?_) (fun hb => ?_) | refine wm_nwant _ (fun hb => ?_) (fun hb => ?_) | refine wd_want _ (fun hb => ?_) (fun hb => ?_) | refine wm_want _ (fun hb => ?_) (fun hb => ?_) | refine wt_nwant _ (fun hb => ?_) (fun hb => ?_) | refine wt_want _ (fun hb => ?_) (fun hb => ?_)) <;> (simp only [go_sem, hb, int_bne])) | (refine wm_done ?_; (simp only [go_sem, int_bne])) | (refine wt_done ?_; (simp only [go_sem, int_bne])) | (refine wg_run ?_; (simp only [go_sem, int_bne])) | (refine wt_fork (by (simp only [go_sem]); first | done | rfl) ?_ ?_ <;> (simp only [go_sem, int_bne]))) | ((first | refine wd_mix 6 [] follows (by decide +kernel) (by (simp only [go_sem]); first | done | rfl) ?_ | refine wd_mix 5 [] follows (by decide +kernel) (by (simp only [go_sem]); first | done | rfl) ?_ | refine wd_mix 4 [] follows (by decide +kernel) (by (simp only [go_sem]); first | done | rfl) ?_ | refine wd_mix 3 [] follows (by decide +kernel) (by (simp only [go_sem]); first | done | rfl) ?_ | refine wd_mix 2 [] follows (by decide +kernel) (by (simp only [go_sem]); first | done | rfl) ?_ | refine wd_mix 1 [] follows (by decide +kernel) (by (simp only [go_sem]); first | done | rfl) ?_ | refine wd_mix 0 [] follows (by decide +kernel) (by (simp only [go_sem]); first | done | rfl) ?_ | fail); (simp only [go_sem, int_bne])) | (first | refine wd_fn (by (simp only [go_sem]); first | done | rfl) (hg) ?_ | refine wm_fn (by (simp only [go_sem]); first | done | rfl) (hg) (by (simp only [go_sem]); first | done | rfl) (by (simp only [go_sem]); first | done | rfl) ?_ | refine wt_fn (by (simp only [go_sem]); first | done | rfl) (hg) (by (simp only [go_sem]); first | done | rfl) (by (simp only [go_sem]); first | done | rfl) ?_); (simp only [go_sem]) | (first | refine wd_fn (by (simp only [go_sem]); first | done | rfl) (hs) ?_ | refine wm_fn (by (simp only [go_sem]); first | done | rfl) (hs) (by (simp only [go_sem]); first | done | rfl) (by (simp only [go_sem]); first | done | rfl) ?_ | refine wt_fn (by (simp only [go_sem]); first | done | rfl) (hs) (by (simp only [go_sem]); first | done | rfl) (by (simp only [go_sem]); first | done | rfl) ?_); (simp only [go_sem]))
  all_goals (refine hR _ (ret_at [] (by (simp only [go_sem]); first | done | rfl) (by (simp only [go_sem]); first | done | rfl) ⟨?_, rfl⟩))
  all_goals simp_all
theorem sSame (n : Nat) (hn : n ≤ 4611686018427387904) : ∀ a b : Ty, a.size < n → AFn Try.prog 115 [.agg (tyC a), .agg (tyC b)] (.one (.sc (.bool (a.same b)))) := by
  induction n with
  | zero => intro a b h; omega
  | succ n ih =>
    intro a b h
    have hl : a.kids.length < 4611686018427387904 := by have := Ty.length_le_sizes a.kids; cases a; simp only [Ty.size, Ty.kids] at *; omega
    have e : a.same b = (a.kind == b.kind && all2 Ty.same a.kids b.kids) := by cases a; cases b; simp only [Ty.same, Ty.kind, Ty.kids, Ty.sames_all2]
    rw [e]
    cases hk : (a.kind == b.kind)
    · refine fn_in ?_; refine acl_in Try.func115 rfl isfn_115 (Nat.le_of_ble_eq_true rfl) (fun R hR => ?_); rw [Try.results115] at hR; refine wg_run ?_; (simp only [Try.f115, go_sem, hk, int_bne])
      repeat' (first | (simp only [go_sem, hk, int_bne]) | ((first | refine wd_split _ (fun hb => ?_) (fun hb => ?_) | refine wd_nwant _ (fun hb => ?_) (fun hb => ?_) | refine wm_nwant _ (fun hb => ?_) (fun hb => ?_) | refine wd_want _ (fun hb => ?_) (fun hb => ?_) | refine wm_want _ (fun hb => ?_) (fun hb => ?_) | refine wt_nwant _ (fun hb => ?_) (fun hb => ?_) | refine wt_want _ (fun hb => ?_) (fun hb => ?_)) <;> (simp only [go_sem, hb, hk, int_bne])) | (refine wm_done ?_; (simp only [go_sem, hk, int_bne])) | (refine wt_done ?_; (simp only [go_sem, hk, int_bne])) | (refine wg_run ?_; (simp only [go_sem, hk, int_bne])) | (refine wt_fork (by (simp only [go_sem]); first | done | rfl) ?_ ?_ <;> (simp only [go_sem, hk, int_bne])))
      (refine hR _ (ret_at [] (by (simp only [go_sem]); first | done | rfl) (by (simp only [go_sem]); first | done | rfl) ⟨rfl, rfl⟩))
    · by_cases hlm : a.kids.length = b.kids.length
      · have hb0 : ((a.kids.length : Int) == (b.kids.length : Int)) = true := by simp; omega
        refine fn_in ?_; refine acl_in Try.func115 rfl isfn_115 (Nat.le_of_ble_eq_true rfl) (fun R hR => ?_); rw [Try.results115] at hR; refine wg_run ?_; (simp only [Try.f115, go_sem, hk, int_bne, hb0])
        repeat' (first | (simp only [go_sem, hk, int_bne, hb0]) | ((first | refine wd_split _ (fun hb => ?_) (fun hb => ?_) | refine wd_nwant _ (fun hb => ?_) (fun hb => ?_) | refine wm_nwant _ (fun hb => ?_) (fun hb => ?_) | refine wd_want _ (fun hb => ?_) (fun hb => ?_) | refine wm_want _ (fun hb => ?_) (fun hb => ?_) | refine wt_nwant _ (fun hb => ?_) (fun hb => ?_) | refine wt_want _ (fun hb => ?_) (fun hb => ?_)) <;> (simp only [go_sem, hb, hk, int_bne, hb0])) | (refine wm_done ?_; (simp only [go_sem, hk, int_bne, hb0])) | (refine wt_done ?_; (simp only [go_sem, hk, int_bne, hb0])) | (refine wg_run ?_; (simp only [go_sem, hk, int_bne, hb0])) | (refine wt_fork (by (simp only [go_sem]); first | done | rfl) ?_ ?_ <;> (simp only [go_sem, hk, int_bne, hb0])))
        refine wd_for [2, 3, 5] (fun k => [.one (.ptr 2 0 0 0), .one (.ptr 2 1 0 0), .one (.sc (.int .i64 (k : Nat)))]) (fun _ => [⟨2, 32, .mut, [tyC a]⟩, ⟨2, 32, .mut, [tyC b]⟩])
          (fun k => k ≤ a.kids.length ∧ all2 Ty.same (a.kids.drop k) (b.kids.drop k) = all2 Ty.same a.kids b.kids) (fun k => a.kids.length - k) 0 ⟨Nat.zero_le _, rfl⟩ (head_at [0, 1] (by (simp only [go_sem]); first | done | rfl) (by (simp only [go_sem]); first | done | rfl) ⟨rfl, rfl⟩) ?_
        rintro k ⟨hk0, hs⟩ G hG
        refine wg_run ?_
        (simp only [go_sem])
        (first | refine wd_split _ (fun hb => ?_) (fun hb => ?_) | refine wd_nwant _ (fun hb => ?_) (fun hb => ?_) | refine wm_nwant _ (fun hb => ?_) (fun hb => ?_) | refine wd_want _ (fun hb => ?_) (fun hb => ?_) | refine wm_want _ (fun hb => ?_) (fun hb => ?_) | refine wt_nwant _ (fun hb => ?_) (fun hb => ?_) | refine wt_want _ (fun hb => ?_) (fun hb => ?_)) <;> (simp only [go_sem, hb])
        · have hk1 : k < a.kids.length := by have := of_decide_eq_true hb; omega
          have hk2 : decide ((k : Int) < (b.kids.length : Int)) = true := by simp; omega
          have hw1 := wrap_succ hk1 (by omega)
          rw [drop_kid hk1, drop_kid (by omega : k < b.kids.length), all2] at hs
          have hc := ih (by omega) (kid a.kids k) (kid b.kids k) (by have := kid_lt hk1; omega)
          repeat' (first | (first | (simp only [go_sem, hb, hk2, hw1]) | ((first | refine wd_split _ (fun hb => ?_) (fun hb => ?_) | refine wd_nwant _ (fun hb => ?_) (fun hb => ?_) | refine wm_nwant _ (fun hb => ?_) (fun hb => ?_) | refine wd_want _ (fun hb => ?_) (fun hb => ?_) | refine wm_want _ (fun hb => ?_) (fun hb => ?_) | refine wt_nwant _ (fun hb => ?_) (fun hb => ?_) | refine wt_want _ (fun hb => ?_) (fun hb => ?_)) <;> (simp only [go_sem, hb, hb, hk2, hw1])) | (refine wm_done ?_; (simp only [go_sem, hb, hk2, hw1])) | (refine wt_done ?_; (simp only [go_sem, hb, hk2, hw1])) | (refine wg_run ?_; (simp only [go_sem, hb, hk2, hw1])) | (refine wt_fork (by (simp only [go_sem]); first | done | rfl) ?_ ?_ <;> (simp only [go_sem, hb, hk2, hw1]))) | ((first | refine wd_mix 6 [] follows (by decide +kernel) (by (simp only [go_sem]); first | done | rfl) ?_ | refine wd_mix 5 [] follows (by decide +kernel) (by (simp only [go_sem]); first | done | rfl) ?_ | refine wd_mix 4 [] follows (by decide +kernel) (by (simp only [go_sem]); first | done | rfl) ?_ | refine wd_mix 3 [] follows (by decide +kernel) (by (simp only [go_sem]); first | done | rfl) ?_ | refine wd_mix 2 [] follows (by decide +kernel) (by (simp only [go_sem]); first | done | rfl) ?_ | refine wd_mix 1 [] follows (by decide +kernel) (by (simp only [go_sem]); first | done | rfl) ?_ | refine wd_mix 0 [] follows (by decide +kernel) (by (simp only [go_sem]); first | done | rfl) ?_ | fail); (simp only [go_sem, hb, hk2])) | (first | refine wd_fn (by (simp only [go_sem]); first | done | rfl) (hc) ?_ | refine wm_fn (by (simp only [go_sem]); first | done | rfl) (hc) (by (simp only [go_sem]); first | done | rfl) (by (simp only [go_sem]); first | done | rfl) ?_ | refine wt_fn (by (simp only [go_sem]); first | done | rfl) (hc) (by (simp only [go_sem]); first | done | rfl) (by (simp only [go_sem]); first | done | rfl) ?_); (simp only [go_sem]))
          · exact hG (k + 1) _ _ ⟨by omega, by simpa [hb] using hs⟩ (by omega) (head_at [0, 1] (by (simp only [go_sem]); first | done | rfl) (by (simp only [go_sem]); first | done | rfl) ⟨rfl, rfl⟩)
          · (refine hR _ (ret_at [] (by (simp only [go_sem]); first | done | rfl) (by (simp only [go_sem]); first | done | rfl) ⟨?_, rfl⟩))
            simpa [hb] using hs
        · have hk1 : ¬ k < a.kids.length := by have := of_decide_eq_false hb; omega
          rw [List.drop_eq_nil_of_le (by omega), List.drop_eq_nil_of_le (by omega), all2] at hs
          (refine hR _ (ret_at [] (by (simp only [go_sem]); first | done | rfl) (by (simp only [go_sem]); first | done | rfl) ⟨?_, rfl⟩))
          rw [← hs]; rfl
      · have hb0 : ((a.kids.length : Int) == (b.kids.length : Int)) = false := by simp; omega
        refine fn_in ?_; refine acl_in Try.func115 rfl isfn_115 (Nat.le_of_ble_eq_true rfl) (fun R hR => ?_); rw [Try.results115] at hR; refine wg_run ?_; (simp only [Try.f115, go_sem, hk, int_bne, hb0])
        repeat' (first | (simp only [go_sem, hk, int_bne, hb0]) | ((first | refine wd_split _ (fun hb => ?_) (fun hb => ?_) | refine wd_nwant _ (fun hb => ?_) (fun hb => ?_) | refine wm_nwant _ (fun hb => ?_) (fun hb => ?_) | refine wd_want _ (fun hb => ?_) (fun hb => ?_) | refine wm_want _ (fun hb => ?_) (fun hb => ?_) | refine wt_nwant _ (fun hb => ?_) (fun hb => ?_) | refine wt_want _ (fun hb => ?_) (fun hb => ?_)) <;> (simp only [go_sem, hb, hk, int_bne, hb0])) | (refine wm_done ?_; (simp only [go_sem, hk, int_bne, hb0])) | (refine wt_done ?_; (simp only [go_sem, hk, int_bne, hb0])) | (refine wg_run ?_; (simp only [go_sem, hk, int_bne, hb0])) | (refine wt_fork (by (simp only [go_sem]); first | done | rfl) ?_ ?_ <;> (simp only [go_sem, hk, int_bne, hb0])))
        (refine hR _ (ret_at [] (by (simp only [go_sem]); first | done | rfl) (by (simp only [go_sem]); first | done | rfl) ⟨?_, rfl⟩))
        rw [all2_len hlm]; rfl
theorem sGround (x : T) (h : x.size < 1000000) : AFn Try.prog 139 [.agg (tyC x.ty)] (.one (.sc (.bool x.ty.isGr))) := by
  have hg := l1Ground x
  have hs := sSame 1000000 (by omega) x.ty x.ground.ty (by rw [T.ty_size]; exact h)
  rw [T.ground_ty] at hg hs
  unfold Ty.isGr
  refine fn_in ?_; refine acl_in Try.func139 rfl isfn_139 (Nat.le_of_ble_eq_true rfl) (fun R hR => ?_); rw [Try.results139] at hR; refine wg_run ?_; (simp only [Try.f139, go_sem])
  repeat' (first | (first | (simp only [go_sem, int_bne]) | ((first | refine wd_split _ (fun hb => ?_) (fun hb => ?_) | refine wd_nwant _ (fun hb => ?_) (fun hb => ?_) | refine wm_nwant _ (fun hb => ?_) (fun hb => ?_) | refine wd_want _ (fun hb => ?_) (fun hb => ?_) | refine wm_want _ (fun hb => ?_) (fun hb => ?_) | refine wt_nwant _ (fun hb => ?_) (fun hb => ?_) | refine wt_want _ (fun hb => ?_) (fun hb => ?_)) <;> (simp only [go_sem, hb, int_bne])) | (refine wm_done ?_; (simp only [go_sem, int_bne])) | (refine wt_done ?_; (simp only [go_sem, int_bne])) | (refine wg_run ?_; (simp only [go_sem, int_bne])) | (refine wt_fork (by (simp only [go_sem]); first | done | rfl) ?_ ?_ <;> (simp only [go_sem, int_bne]))) | ((first | refine wd_mix 6 [] follows (by decide +kernel) (by (simp only [go_sem]); first | done | rfl) ?_ | refine wd_mix 5 [] follows (by decide +kernel) (by (simp only [go_sem]); first | done | rfl) ?_ | refine wd_mix 4 [] follows (by decide +kernel) (by (simp only [go_sem]); first | done | rfl) ?_ | refine wd_mix 3 [] follows (by decide +kernel) (by (simp only [go_sem]); first | done | rfl) ?_ | refine wd_mix 2 [] follows (by decide +kernel) (by (simp only [go_sem]); first | done | rfl) ?_ | refine wd_mix 1 [] follows (by decide +kernel) (by (simp only [go_sem]); first | done | rfl) ?_ | refine wd_mix 0 [] follows (by decide +kernel) (by (simp only [go_sem]); first | done | rfl) ?_ | fail); (simp only [go_sem, int_bne])) | (first | refine wd_fn (by (simp only [go_sem]); first | done | rfl) (hg) ?_ | refine wm_fn (by (simp only [go_sem]); first | done | rfl) (hg) (by (simp only [go_sem]); first | done | rfl) (by (simp only [go_sem]); first | done | rfl) ?_ | refine wt_fn (by (simp only [go_sem]); first | done | rfl) (hg) (by (simp only [go_sem]); first | done | rfl) (by (simp only [go_sem]); first | done | rfl) ?_); (simp only [go_sem]) | (first | refine wd_fn (by (simp only [go_sem]); first | done | rfl) (hs) ?_ | refine wm_fn (by (simp only [go_sem]); first | done | rfl) (hs) (by (simp only [go_sem]); first | done | rfl) (by (simp only [go_sem]); first | done | rfl) ?_ | refine wt_fn (by (simp only [go_sem]); first | done | rfl) (hs) (by (simp only [go_sem]); first | done | rfl) (by (simp only [go_sem]); first | done | rfl) ?_); (simp only [go_sem]))
  all_goals (refine hR _ (ret_at [] (by (simp only [go_sem]); first | done | rfl) (by (simp only [go_sem]); first | done | rfl) ⟨?_, rfl⟩))
  all_goals simp_all
theorem iProxy (t : Tm) : AFn Try.prog 104 [.agg (teC t)] (.one (.sc (.bool (proxyB t.kind t.type t.frm)))) := by
  unfold proxyB
  refine fn_in ?_; refine acl_in Try.func104 rfl isfn_104 (Nat.le_of_ble_eq_true rfl) (fun R hR => ?_); rw [Try.results104] at hR; refine wg_run ?_; (simp only [Try.f104, go_sem])
  repeat' (first | ((first | refine wd_split _ (fun hb => ?_) (fun hb => ?_) | refine wd_nwant _ (fun hb => ?_) (fun hb => ?_) | refine wm_nwant _ (fun hb => ?_) (fun hb => ?_) | refine wd_want _ (fun hb => ?_) (fun hb => ?_) | refine wm_want _ (fun hb => ?_) (fun hb => ?_) | refine wt_nwant _ (fun hb => ?_) (fun hb => ?_) | refine wt_want _ (fun hb => ?_) (fun hb => ?_)) <;> (simp only [go_sem, hb])) | (refine wm_done ?_; (simp only [go_sem])) | (refine wt_done ?_; (simp only [go_sem])) | (refine wg_run ?_; (simp only [go_sem])) | (refine wt_fork (by (simp only [go_sem]); first | done | rfl) ?_ ?_ <;> (simp only [go_sem])))
  all_goals (refine hR _ (ret_at [] (by (simp only [go_sem]); first | done | rfl) (by (simp only [go_sem]); first | done | rfl) ⟨?_, rfl⟩))
  all_goals simp_all
theorem iInj (t : Tm) (h : t.size < 4611686018427387904) : AFn Try.prog 105 [.agg (teC t)] (.one (.sc (.bool (injB t.kind t.type t.frm)))) := by
  have hg := iIsGround t.frm (by cases t; simp only [Tm.size, Tm.frm] at *; omega)
  unfold injB
  refine fn_in ?_; refine acl_in Try.func105 rfl isfn_105 (Nat.le_of_ble_eq_true rfl) (fun R hR => ?_); rw [Try.results105] at hR; refine wg_run ?_; (simp only [Try.f105, go_sem])
  repeat' (first | (first | ((first | refine wd_split _ (fun hb => ?_) (fun hb => ?_) | refine wd_nwant _ (fun hb => ?_) (fun hb => ?_) | refine wm_nwant _ (fun hb => ?_) (fun hb => ?_) | refine wd_want _ (fun hb => ?_) (fun hb => ?_) | refine wm_want _ (fun hb => ?_) (fun hb => ?_) | refine wt_nwant _ (fun hb => ?_) (fun hb => ?_) | refine wt_want _ (fun hb => ?_) (fun hb => ?_)) <;> (simp only [go_sem, hb])) | (refine wm_done ?_; (simp only [go_sem])) | (refine wt_done ?_; (simp only [go_sem])) | (refine wg_run ?_; (simp only [go_sem])) | (refine wt_fork (by (simp only [go_sem]); first | done | rfl) ?_ ?_ <;> (simp only [go_sem]))) | (first | refine wd_fn (by (simp only [go_sem]); first | done | rfl) (hg) ?_ | refine wm_fn (by (simp only [go_sem]); first | done | rfl) (hg) (by (simp only [go_sem]); first | done | rfl) (by (simp only [go_sem]); first | done | rfl) ?_ | refine wt_fn (by (simp only [go_sem]); first | done | rfl) (hg) (by (simp only [go_sem]); first | done | rfl) (by (simp only [go_sem]); first | done | rfl) ?_); (simp only [go_sem]))
  all_goals (refine hR _ (ret_at [] (by (simp only [go_sem]); first | done | rfl) (by (simp only [go_sem]); first | done | rfl) ⟨?_, rfl⟩))
  all_goals simp_all
theorem iPlain (t : Tm) : AFn Try.prog 108 [.agg (teC t)] (.one (.sc (.bool (plainB t.kind)))) := by
  unfold plainB
  refine fn_in ?_; refine acl_in Try.func108 rfl isfn_108 (Nat.le_of_ble_eq_true rfl) (fun R hR => ?_); rw [Try.results108] at hR; refine wg_run ?_; (simp only [Try.f108, go_sem])
  repeat' (first | ((first | refine wd_split _ (fun hb => ?_) (fun hb => ?_) | refine wd_nwant _ (fun hb => ?_) (fun hb => ?_) | refine wm_nwant _ (fun hb => ?_) (fun hb => ?_) | refine wd_want _ (fun hb => ?_) (fun hb => ?_) | refine wm_want _ (fun hb => ?_) (fun hb => ?_) | refine wt_nwant _ (fun hb => ?_) (fun hb => ?_) | refine wt_want _ (fun hb => ?_) (fun hb => ?_)) <;> (simp only [go_sem, hb])) | (refine wm_done ?_; (simp only [go_sem])) | (refine wt_done ?_; (simp only [go_sem])) | (refine wg_run ?_; (simp only [go_sem])) | (refine wt_fork (by (simp only [go_sem]); first | done | rfl) ?_ ?_ <;> (simp only [go_sem])))
  all_goals (refine hR _ (ret_at [] (by (simp only [go_sem]); first | done | rfl) (by (simp only [go_sem]); first | done | rfl) ⟨?_, rfl⟩))
  all_goals (clear hR; simp_all)
  all_goals (try grind)
theorem iIsVal (n : Nat) (hn : n ≤ 4611686018427387904) : ∀ t : Tm, t.size < n → AFn Try.prog 60 [.agg (teC t)] (.one (.sc (.bool t.isVal))) := by
  induction n with
  | zero => intro t h; omega
  | succ n ih =>
    intro t h
    have h1 := iProxy t
    have h2 := iInj t (by omega)
    have h3 := iPlain t
    have hl := telen_lt t
    have hc : ACl Try.prog 106 [.one (.sl (teR t.kids)), .one (.fn 107 [])] [] (fun r H' => r = .one (.sc (.bool (t.kids.any (fun x => !x.isVal)))) ∧ H' = []) := by
      refine teContainsFunc0 _ (fun x => !x.isVal) _ (by omega) ?_
      intro k hk
      have := ih (by omega) (teKid t.kids k) (by have := teKid_lt hk; omega)
      refine acl_in Try.func107 rfl isfn_107 (Nat.le_of_ble_eq_true rfl) (fun R hR => ?_); rw [Try.results107] at hR; refine wg_run ?_; (simp only [Try.f107, go_sem])
      repeat' (first | (first | ((first | refine wd_split _ (fun hb => ?_) (fun hb => ?_) | refine wd_nwant _ (fun hb => ?_) (fun hb => ?_) | refine wm_nwant _ (fun hb => ?_) (fun hb => ?_) | refine wd_want _ (fun hb => ?_) (fun hb => ?_) | refine wm_want _ (fun hb => ?_) (fun hb => ?_) | refine wt_nwant _ (fun hb => ?_) (fun hb => ?_) | refine wt_want _ (fun hb => ?_) (fun hb => ?_)) <;> (simp only [go_sem, hb])) | (refine wm_done ?_; (simp only [go_sem])) | (refine wt_done ?_; (simp only [go_sem])) | (refine wg_run ?_; (simp only [go_sem])) | (refine wt_fork (by (simp only [go_sem]); first | done | rfl) ?_ ?_ <;> (simp only [go_sem]))) | (first | refine wd_fn (by (simp only [go_sem]); first | done | rfl) (this) ?_ | refine wm_fn (by (simp only [go_sem]); first | done | rfl) (this) (by (simp only [go_sem]); first | done | rfl) (by (simp only [go_sem]); first | done | rfl) ?_ | refine wt_fn (by (simp only [go_sem]); first | done | rfl) (this) (by (simp only [go_sem]); first | done | rfl) (by (simp only [go_sem]); first | done | rfl) ?_); (simp only [go_sem]))
      (refine hR _ (ret_at [] (by (simp only [go_sem]); first | done | rfl) (by (simp only [go_sem]); first | done | rfl) ⟨?_, ?_⟩))
      · rfl
      · rfl
    rw [Tm.isVal_eq]
    clear ih
    refine fn_in ?_; refine acl_in Try.func60 rfl isfn_60 (Nat.le_of_ble_eq_true rfl) (fun R hR => ?_); rw [Try.results60] at hR; refine wg_run ?_; (simp only [Try.f60, go_sem])
    repeat' (first | (first | ((first | refine wd_split _ (fun hb => ?_) (fun hb => ?_) | refine wd_nwant _ (fun hb => ?_) (fun hb => ?_) | refine wm_nwant _ (fun hb => ?_) (fun hb => ?_) | refine wd_want _ (fun hb => ?_) (fun hb => ?_) | refine wm_want _ (fun hb => ?_) (fun hb => ?_) | refine wt_nwant _ (fun hb => ?_) (fun hb => ?_) | refine wt_want _ (fun hb => ?_) (fun hb => ?_)) <;> (simp only [go_sem, hb])) | (refine wm_done ?_; (simp only [go_sem])) | (refine wt_done ?_; (simp only [go_sem])) | (refine wg_run ?_; (simp only [go_sem])) | (refine wt_fork (by (simp only [go_sem]); first | done | rfl) ?_ ?_ <;> (simp only [go_sem]))) | (first | refine wd_fn (by (simp only [go_sem]); first | done | rfl) (h1) ?_ | refine wm_fn (by (simp only [go_sem]); first | done | rfl) (h1) (by (simp only [go_sem]); first | done | rfl) (by (simp only [go_sem]); first | done | rfl) ?_ | refine wt_fn (by (simp only [go_sem]); first | done | rfl) (h1) (by (simp only [go_sem]); first | done | rfl) (by (simp only [go_sem]); first | done | rfl) ?_); (simp only [go_sem]) | (first | refine wd_fn (by (simp only [go_sem]); first | done | rfl) (h2) ?_ | refine wm_fn (by (simp only [go_sem]); first | done | rfl) (h2) (by (simp only [go_sem]); first | done | rfl) (by (simp only [go_sem]); first | done | rfl) ?_ | refine wt_fn (by (simp only [go_sem]); first | done | rfl) (h2) (by (simp only [go_sem]); first | done | rfl) (by (simp only [go_sem]); first | done | rfl) ?_); (simp only [go_sem]) | (first | refine wd_fn (by (simp only [go_sem]); first | done | rfl) (h3) ?_ | refine wm_fn (by (simp only [go_sem]); first | done | rfl) (h3) (by (simp only [go_sem]); first | done | rfl) (by (simp only [go_sem]); first | done | rfl) ?_ | refine wt_fn (by (simp only [go_sem]); first | done | rfl) (h3) (by (simp only [go_sem]); first | done | rfl) (by (simp only [go_sem]); first | done | rfl) ?_); (simp only [go_sem]) | (first | refine wd_cl [] (by (simp only [go_sem]); first | done | rfl) (hc) ?_ | refine wm_cl [] (by (simp only [go_sem]); first | done | rfl) (hc) (by (simp only [go_sem]); first | done | rfl) (by (simp only [go_sem]); first | done | rfl) ?_ | refine wt_cl [] (by (simp only [go_sem]); first | done | rfl) (hc) (by (simp only [go_sem]); first | done | rfl) (by (simp only [go_sem]); first | done | rfl) ?_); rintro _ _ ⟨rfl, rfl⟩; (simp only [go_sem]))
    all_goals (refine hR _ (ret_at [] (by (simp only [go_sem]); first | done | rfl) (by (simp only [go_sem]); first | done | rfl) ⟨?_, rfl⟩))
    all_goals clear hR h1 h2 h3 hc
    all_goals simp_all [Tm.isVals_all, List.all_eq_not_any_not]
    all_goals (try grind)

theorem sProxy (t : Tm) : AFn Try.prog 102 [.agg (teC t)] (.one (.sc (.bool (proxyB t.kind t.type t.frm)))) := by
  unfold proxyB
  refine fn_in ?_; refine acl_in Try.func102 rfl isfn_102 (Nat.le_of_ble_eq_true rfl) (fun R hR => ?_); rw [Try.results102] at hR; refine wg_run ?_; (simp only [Try.f102, go_sem])
  repeat' (first | ((first | refine wd_split _ (fun hb => ?_) (fun hb => ?_) | refine wd_nwant _ (fun hb => ?_) (fun hb => ?_) | refine wm_nwant _ (fun hb => ?_) (fun hb => ?_) | refine wd_want _ (fun hb => ?_) (fun hb => ?_) | refine wm_want _ (fun hb => ?_) (fun hb => ?_) | refine wt_nwant _ (fun hb => ?_) (fun hb => ?_) | refine wt_want _ (fun hb => ?_) (fun hb => ?_)) <;> (simp only [go_sem, hb])) | (refine wm_done ?_; (simp only [go_sem])) | (refine wt_done ?_; (simp only [go_sem])) | (refine wg_run ?_; (simp only [go_sem])) | (refine wt_fork (by (simp only [go_sem]); first | done | rfl) ?_ ?_ <;> (simp only [go_sem])))
  all_goals (refine hR _ (ret_at [] (by (simp only [go_sem]); first | done | rfl) (by (simp only [go_sem]); first | done | rfl) ⟨?_, rfl⟩))
  all_goals simp_all
theorem sInj (t : Tm) (x : T) (hx : x.ty = t.frm) (h : x.size < 1000000) : AFn Try.prog 103 [.agg (teC t)] (.one (.sc (.bool (injB t.kind t.type t.frm)))) := by
  have hg := sGround x h
  rw [hx] at hg
  unfold injB
  refine fn_in ?_; refine acl_in Try.func103 rfl isfn_103 (Nat.le_of_ble_eq_true rfl) (fun R hR => ?_); rw [Try.results103] at hR; refine wg_run ?_; (simp only [Try.f103, go_sem])
  repeat' (first | (first | ((first | refine wd_split _ (fun hb => ?_) (fun hb => ?_) | refine wd_nwant _ (fun hb => ?_) (fun hb => ?_) | refine wm_nwant _ (fun hb => ?_) (fun hb => ?_) | refine wd_want _ (fun hb => ?_) (fun hb => ?_) | refine wm_want _ (fun hb => ?_) (fun hb => ?_) | refine wt_nwant _ (fun hb => ?_) (fun hb => ?_) | refine wt_want _ (fun hb => ?_) (fun hb => ?_)) <;> (simp only [go_sem, hb])) | (refine wm_done ?_; (simp only [go_sem])) | (refine wt_done ?_; (simp only [go_sem])) | (refine wg_run ?_; (simp only [go_sem])) | (refine wt_fork (by (simp only [go_sem]); first | done | rfl) ?_ ?_ <;> (simp only [go_sem]))) | (first | refine wd_fn (by (simp only [go_sem]); first | done | rfl) (hg) ?_ | refine wm_fn (by (simp only [go_sem]); first | done | rfl) (hg) (by (simp only [go_sem]); first | done | rfl) (by (simp only [go_sem]); first | done | rfl) ?_ | refine wt_fn (by (simp only [go_sem]); first | done | rfl) (hg) (by (simp only [go_sem]); first | done | rfl) (by (simp only [go_sem]); first | done | rfl) ?_); (simp only [go_sem]))
  all_goals (refine hR _ (ret_at [] (by (simp only [go_sem]); first | done | rfl) (by (simp only [go_sem]); first | done | rfl) ⟨?_, rfl⟩))
  all_goals simp_all
theorem sInj0 (t : Tm) (h : (t.kind == 14) = false) : AFn Try.prog 103 [.agg (teC t)] (.one (.sc (.bool false))) := by
  refine fn_in ?_; refine acl_in Try.func103 rfl isfn_103 (Nat.le_of_ble_eq_true rfl) (fun R hR => ?_); rw [Try.results103] at hR; refine wg_run ?_; (simp only [Try.f103, go_sem, h])
  repeat' (first | (simp only [go_sem, h]) | ((first | refine wd_split _ (fun hb => ?_) (fun hb => ?_) | refine wd_nwant _ (fun hb => ?_) (fun hb => ?_) | refine wm_nwant _ (fun hb => ?_) (fun hb => ?_) | refine wd_want _ (fun hb => ?_) (fun hb => ?_) | refine wm_want _ (fun hb => ?_) (fun hb => ?_) | refine wt_nwant _ (fun hb => ?_) (fun hb => ?_) | refine wt_want _ (fun hb => ?_) (fun hb => ?_)) <;> (simp only [go_sem, hb, h])) | (refine wm_done ?_; (simp only [go_sem, h])) | (refine wt_done ?_; (simp only [go_sem, h])) | (refine wg_run ?_; (simp only [go_sem, h])) | (refine wt_fork (by (simp only [go_sem]); first | done | rfl) ?_ ?_ <;> (simp only [go_sem, h])))
  (refine hR _ (ret_at [] (by (simp only [go_sem]); first | done | rfl) (by (simp only [go_sem]); first | done | rfl) ⟨rfl, rfl⟩))
theorem sProxy0 (t : Tm) (h : (t.kind == 14) = false) : AFn Try.prog 102 [.agg (teC t)] (.one (.sc (.bool false))) := by
  refine fn_in ?_; refine acl_in Try.func102 rfl isfn_102 (Nat.le_of_ble_eq_true rfl) (fun R hR => ?_); rw [Try.results102] at hR; refine wg_run ?_; (simp only [Try.f102, go_sem, h])
  repeat' (first | (simp only [go_sem, h]) | ((first | refine wd_split _ (fun hb => ?_) (fun hb => ?_) | refine wd_nwant _ (fun hb => ?_) (fun hb => ?_) | refine wm_nwant _ (fun hb => ?_) (fun hb => ?_) | refine wd_want _ (fun hb => ?_) (fun hb => ?_) | refine wm_want _ (fun hb => ?_) (fun hb => ?_) | refine wt_nwant _ (fun hb => ?_) (fun hb => ?_) | refine wt_want _ (fun hb => ?_) (fun hb => ?_)) <;> (simp only [go_sem, hb, h])) | (refine wm_done ?_; (simp only [go_sem, h])) | (refine wt_done ?_; (simp only [go_sem, h])) | (refine wg_run ?_; (simp only [go_sem, h])) | (refine wt_fork (by (simp only [go_sem]); first | done | rfl) ?_ ?_ <;> (simp only [go_sem, h])))
  (refine hR _ (ret_at [] (by (simp only [go_sem]); first | done | rfl) (by (simp only [go_sem]); first | done | rfl) ⟨rfl, rfl⟩))
theorem sIsVal (e : E) (h : e.wf = true) : AFn Try.prog 59 [.agg (teC e.tm)] (.one (.sc (.bool e.tm.isVal))) := by
  induction e with
  | pair a b iha ihb =>
    simp only [E.wf, Bool.and_eq_true] at h
    have iha := iha h.1
    have ihb := ihb h.2
    have e1 : (E.pair a b).tm.isVal = (a.tm.isVal && b.tm.isVal) := by
      simp only [E.tm, nd, Tm.isVal, Tm.isVals, Bool.and_true]; rfl
    rw [e1]
    simp only [E.tm, nd]
    refine fn_in ?_; refine acl_in Try.func59 rfl isfn_59 (Nat.le_of_ble_eq_true rfl) (fun R hR => ?_); rw [Try.results59] at hR; refine wg_run ?_; (simp only [Try.f59, go_sem])
    repeat' (first | (first | ((first | refine wd_split _ (fun hb => ?_) (fun hb => ?_) | refine wd_nwant _ (fun hb => ?_) (fun hb => ?_) | refine wm_nwant _ (fun hb => ?_) (fun hb => ?_) | refine wd_want _ (fun hb => ?_) (fun hb => ?_) | refine wm_want _ (fun hb => ?_) (fun hb => ?_) | refine wt_nwant _ (fun hb => ?_) (fun hb => ?_) | refine wt_want _ (fun hb => ?_) (fun hb => ?_)) <;> (simp only [go_sem, hb])) | (refine wm_done ?_; (simp only [go_sem])) | (refine wt_done ?_; (simp only [go_sem])) | (refine wg_run ?_; (simp only [go_sem])) | (refine wt_fork (by (simp only [go_sem]); first | done | rfl) ?_ ?_ <;> (simp only [go_sem]))) | (first | refine wd_fn (by (simp only [go_sem]); first | done | rfl) (iha) ?_ | refine wm_fn (by (simp only [go_sem]); first | done | rfl) (iha) (by (simp only [go_sem]); first | done | rfl) (by (simp only [go_sem]); first | done | rfl) ?_ | refine wt_fn (by (simp only [go_sem]); first | done | rfl) (iha) (by (simp only [go_sem]); first | done | rfl) (by (simp only [go_sem]); first | done | rfl) ?_); (simp only [go_sem]) | (first | refine wd_fn (by (simp only [go_sem]); first | done | rfl) (ihb) ?_ | refine wm_fn (by (simp only [go_sem]); first | done | rfl) (ihb) (by (simp only [go_sem]); first | done | rfl) (by (simp only [go_sem]); first | done | rfl) ?_ | refine wt_fn (by (simp only [go_sem]); first | done | rfl) (ihb) (by (simp only [go_sem]); first | done | rfl) (by (simp only [go_sem]); first | done | rfl) ?_); (simp only [go_sem]))
    all_goals (refine hR _ (ret_at [] (by (simp only [go_sem]); first | done | rfl) (by (simp only [go_sem]); first | done | rfl) ⟨?_, rfl⟩))
    all_goals simp_all
  | cast s t l a ih =>
    simp only [E.wf, Bool.and_eq_true, decide_eq_true_eq] at h
    have ih := ih h.2.2.2
    have hs : s.size < 1000000 := by have := Ty.valid_16 (t := s.ty) (by rw [T.valid_ty]; simpa using h.1.1); rw [T.ty_size] at this; omega
    have h1 := sProxy (E.cast s t l a).tm
    have h2 := sInj (E.cast s t l a).tm s rfl hs
    have e1 : (E.cast s t l a).tm.isVal = ((proxyB 14 t.ty s.ty || injB 14 t.ty s.ty) && a.tm.isVal) := by
      simp only [E.tm, Tm.isVal, Tm.isVals, Bool.and_true]
      have : ((14 : Int) == 10) = false := rfl
      rw [this, Bool.false_or]
      have hp : plainB 14 = false := rfl
      rw [hp]
      cases (proxyB 14 t.ty s.ty || injB 14 t.ty s.ty) <;> rfl
    rw [e1]
    simp only [E.tm, Tm.kind, Tm.type, Tm.frm] at h1 h2 ⊢
    refine fn_in ?_; refine acl_in Try.func59 rfl isfn_59 (Nat.le_of_ble_eq_true rfl) (fun R hR => ?_); rw [Try.results59] at hR; refine wg_run ?_; (simp only [Try.f59, go_sem])
    repeat' (first | (first | ((first | refine wd_split _ (fun hb => ?_) (fun hb => ?_) | refine wd_nwant _ (fun hb => ?_) (fun hb => ?_) | refine wm_nwant _ (fun hb => ?_) (fun hb => ?_) | refine wd_want _ (fun hb => ?_) (fun hb => ?_) | refine wm_want _ (fun hb => ?_) (fun hb => ?_) | refine wt_nwant _ (fun hb => ?_) (fun hb => ?_) | refine wt_want _ (fun hb => ?_) (fun hb => ?_)) <;> (simp only [go_sem, hb])) | (refine wm_done ?_; (simp only [go_sem])) | (refine wt_done ?_; (simp only [go_sem])) | (refine wg_run ?_; (simp only [go_sem])) | (refine wt_fork (by (simp only [go_sem]); first | done | rfl) ?_ ?_ <;> (simp only [go_sem]))) | (first | refine wd_fn (by (simp only [go_sem]); first | done | rfl) (h1) ?_ | refine wm_fn (by (simp only [go_sem]); first | done | rfl) (h1) (by (simp only [go_sem]); first | done | rfl) (by (simp only [go_sem]); first | done | rfl) ?_ | refine wt_fn (by (simp only [go_sem]); first | done | rfl) (h1) (by (simp only [go_sem]); first | done | rfl) (by (simp only [go_sem]); first | done | rfl) ?_); (simp only [go_sem]) | (first | refine wd_fn (by (simp only [go_sem]); first | done | rfl) (h2) ?_ | refine wm_fn (by (simp only [go_sem]); first | done | rfl) (h2) (by (simp only [go_sem]); first | done | rfl) (by (simp only [go_sem]); first | done | rfl) ?_ | refine wt_fn (by (simp only [go_sem]); first | done | rfl) (h2) (by (simp only [go_sem]); first | done | rfl) (by (simp only [go_sem]); first | done | rfl) ?_); (simp only [go_sem]) | (first | refine wd_fn (by (simp only [go_sem]); first | done | rfl) (ih) ?_ | refine wm_fn (by (simp only [go_sem]); first | done | rfl) (ih) (by (simp only [go_sem]); first | done | rfl) (by (simp only [go_sem]); first | done | rfl) ?_ | refine wt_fn (by (simp only [go_sem]); first | done | rfl) (ih) (by (simp only [go_sem]); first | done | rfl) (by (simp only [go_sem]); first | done | rfl) ?_); (simp only [go_sem]))
    all_goals (refine hR _ (ret_at [] (by (simp only [go_sem]); first | done | rfl) (by (simp only [go_sem]); first | done | rfl) ⟨?_, rfl⟩))
    all_goals clear hR h1 h2 ih
    all_goals simp_all
  | _ =>
    simp only [E.tm, nd]
    refine fn_in ?_; refine acl_in Try.func59 rfl isfn_59 (Nat.le_of_ble_eq_true rfl) (fun R hR => ?_); rw [Try.results59] at hR; refine wg_run ?_; (simp only [Try.f59, go_sem])
    repeat' (first | (first | ((first | refine wd_split _ (fun hb => ?_) (fun hb => ?_) | refine wd_nwant _ (fun hb => ?_) (fun hb => ?_) | refine wm_nwant _ (fun hb => ?_) (fun hb => ?_) | refine wd_want _ (fun hb => ?_) (fun hb => ?_) | refine wm_want _ (fun hb => ?_) (fun hb => ?_) | refine wt_nwant _ (fun hb => ?_) (fun hb => ?_) | refine wt_want _ (fun hb => ?_) (fun hb => ?_)) <;> (simp only [go_sem, hb])) | (refine wm_done ?_; (simp only [go_sem])) | (refine wt_done ?_; (simp only [go_sem])) | (refine wg_run ?_; (simp only [go_sem])) | (refine wt_fork (by (simp only [go_sem]); first | done | rfl) ?_ ?_ <;> (simp only [go_sem]))) | (first | refine wd_fn (by (simp only [go_sem]); first | done | rfl) (sProxy0 _ rfl) ?_ | refine wm_fn (by (simp only [go_sem]); first | done | rfl) (sProxy0 _ rfl) (by (simp only [go_sem]); first | done | rfl) (by (simp only [go_sem]); first | done | rfl) ?_ | refine wt_fn (by (simp only [go_sem]); first | done | rfl) (sProxy0 _ rfl) (by (simp only [go_sem]); first | done | rfl) (by (simp only [go_sem]); first | done | rfl) ?_); (simp only [go_sem]) | (first | refine wd_fn (by (simp only [go_sem]); first | done | rfl) (sInj0 _ rfl) ?_ | refine wm_fn (by (simp only [go_sem]); first | done | rfl) (sInj0 _ rfl) (by (simp only [go_sem]); first | done | rfl) (by (simp only [go_sem]); first | done | rfl) ?_ | refine wt_fn (by (simp only [go_sem]); first | done | rfl) (sInj0 _ rfl) (by (simp only [go_sem]); first | done | rfl) (by (simp only [go_sem]); first | done | rfl) ?_); (simp only [go_sem]))
    all_goals (refine hR _ (ret_at [] (by (simp only [go_sem]); first | done | rfl) (by (simp only [go_sem]); first | done | rfl) ⟨?_, rfl⟩))
    all_goals rfl
noncomputable def isValV (t : Tm) : Bool := t.castV && t.isVal
theorem iIsValue (t : Tm) (h : t.size < 100000000) : AFn Try.prog 25 [.agg (teC t)] (.one (.sc (.bool (isValV t)))) := by
  have hv := iCastV t
  have hc := iIsVal 100000000 (by omega) t h
  unfold isValV
  refine fn_in ?_; refine acl_in Try.func25 rfl isfn_25 (Nat.le_of_ble_eq_true rfl) (fun R hR => ?_); rw [Try.results25] at hR; refine wg_run ?_; (simp only [Try.f25, go_sem])
  repeat' (first | (first | ((first | refine wd_split _ (fun hb => ?_) (fun hb => ?_) | refine wd_nwant _ (fun hb => ?_) (fun hb => ?_) | refine wm_nwant _ (fun hb => ?_) (fun hb => ?_) | refine wd_want _ (fun hb => ?_) (fun hb => ?_) | refine wm_want _ (fun hb => ?_) (fun hb => ?_) | refine wt_nwant _ (fun hb => ?_) (fun hb => ?_) | refine wt_want _ (fun hb => ?_) (fun hb => ?_)) <;> (simp only [go_sem, hb])) | (refine wm_done ?_; (simp only [go_sem])) | (refine wt_done ?_; (simp only [go_sem])) | (refine wg_run ?_; (simp only [go_sem])) | (refine wt_fork (by (simp only [go_sem]); first | done | rfl) ?_ ?_ <;> (simp only [go_sem]))) | (first | refine wd_fn (by (simp only [go_sem]); first | done | rfl) (hv) ?_ | refine wm_fn (by (simp only [go_sem]); first | done | rfl) (hv) (by (simp only [go_sem]); first | done | rfl) (by (simp only [go_sem]); first | done | rfl) ?_ | refine wt_fn (by (simp only [go_sem]); first | done | rfl) (hv) (by (simp only [go_sem]); first | done | rfl) (by (simp only [go_sem]); first | done | rfl) ?_); (simp only [go_sem]) | (first | refine wd_fn (by (simp only [go_sem]); first | done | rfl) (hc) ?_ | refine wm_fn (by (simp only [go_sem]); first | done | rfl) (hc) (by (simp only [go_sem]); first | done | rfl) (by (simp only [go_sem]); first | done | rfl) ?_ | refine wt_fn (by (simp only [go_sem]); first | done | rfl) (hc) (by (simp only [go_sem]); first | done | rfl) (by (simp only [go_sem]); first | done | rfl) ?_); (simp only [go_sem]))
  all_goals (refine hR _ (ret_at [] (by (simp only [go_sem]); first | done | rfl) (by (simp only [go_sem]); first | done | rfl) ⟨?_, rfl⟩))
  all_goals simp_all
theorem sIsValue (t : Tm) (h : t.size < 100000000) : AFn Try.prog 24 [.agg (teC t)] (.one (.sc (.bool (isValV t)))) := by
  have hv := sCastV t (by omega)
  unfold isValV
  cases hb : t.castV
  · rw [hb] at hv
    refine fn_in ?_; refine acl_in Try.func24 rfl isfn_24 (Nat.le_of_ble_eq_true rfl) (fun R hR => ?_); rw [Try.results24] at hR; refine wg_run ?_; (simp only [Try.f24, go_sem])
    repeat' (first | (first | ((first | refine wd_split _ (fun hb => ?_) (fun hb => ?_) | refine wd_nwant _ (fun hb => ?_) (fun hb => ?_) | refine wm_nwant _ (fun hb => ?_) (fun hb => ?_) | refine wd_want _ (fun hb => ?_) (fun hb => ?_) | refine wm_want _ (fun hb => ?_) (fun hb => ?_) | refine wt_nwant _ (fun hb => ?_) (fun hb => ?_) | refine wt_want _ (fun hb => ?_) (fun hb => ?_)) <;> (simp only [go_sem, hb])) | (refine wm_done ?_; (simp only [go_sem])) | (refine wt_done ?_; (simp only [go_sem])) | (refine wg_run ?_; (simp only [go_sem])) | (refine wt_fork (by (simp only [go_sem]); first | done | rfl) ?_ ?_ <;> (simp only [go_sem]))) | (first | refine wd_fn (by (simp only [go_sem]); first | done | rfl) (hv) ?_ | refine wm_fn (by (simp only [go_sem]); first | done | rfl) (hv) (by (simp only [go_sem]); first | done | rfl) (by (simp only [go_sem]); first | done | rfl) ?_ | refine wt_fn (by (simp only [go_sem]); first | done | rfl) (hv) (by (simp only [go_sem]); first | done | rfl) (by (simp only [go_sem]); first | done | rfl) ?_); (simp only [go_sem]))
    (refine hR _ (ret_at [] (by (simp only [go_sem]); first | done | rfl) (by (simp only [go_sem]); first | done | rfl) ⟨rfl, rfl⟩))
  · rw [hb] at hv
    obtain ⟨e, rfl, he⟩ := Tm.castV_E hb
    simp only [E.okC, Bool.and_eq_true] at he
    have hc := sIsVal e he.1
    refine fn_in ?_; refine acl_in Try.func24 rfl isfn_24 (Nat.le_of_ble_eq_true rfl) (fun R hR => ?_); rw [Try.results24] at hR; refine wg_run ?_; (simp only [Try.f24, go_sem])
    repeat' (first | (first | ((first | refine wd_split _ (fun hb => ?_) (fun hb => ?_) | refine wd_nwant _ (fun hb => ?_) (fun hb => ?_) | refine wm_nwant _ (fun hb => ?_) (fun hb => ?_) | refine wd_want _ (fun hb => ?_) (fun hb => ?_) | refine wm_want _ (fun hb => ?_) (fun hb => ?_) | refine wt_nwant _ (fun hb => ?_) (fun hb => ?_) | refine wt_want _ (fun hb => ?_) (fun hb => ?_)) <;> (simp only [go_sem, hb])) | (refine wm_done ?_; (simp only [go_sem])) | (refine wt_done ?_; (simp only [go_sem])) | (refine wg_run ?_; (simp only [go_sem])) | (refine wt_fork (by (simp only [go_sem]); first | done | rfl) ?_ ?_ <;> (simp only [go_sem]))) | (first | refine wd_fn (by (simp only [go_sem]); first | done | rfl) (hv) ?_ | refine wm_fn (by (simp only [go_sem]); first | done | rfl) (hv) (by (simp only [go_sem]); first | done | rfl) (by (simp only [go_sem]); first | done | rfl) ?_ | refine wt_fn (by (simp only [go_sem]); first | done | rfl) (hv) (by (simp only [go_sem]); first | done | rfl) (by (simp only [go_sem]); first | done | rfl) ?_); (simp only [go_sem]) | (first | refine wd_fn (by (simp only [go_sem]); first | done | rfl) (hc) ?_ | refine wm_fn (by (simp only [go_sem]); first | done | rfl) (hc) (by (simp only [go_sem]); first | done | rfl) (by (simp only [go_sem]); first | done | rfl) ?_ | refine wt_fn (by (simp only [go_sem]); first | done | rfl) (hc) (by (simp only [go_sem]); first | done | rfl) (by (simp only [go_sem]); first | done | rfl) ?_); (simp only [go_sem]))
    all_goals (refine hR _ (ret_at [] (by (simp only [go_sem]); first | done | rfl) (by (simp only [go_sem]); first | done | rfl) ⟨?_, rfl⟩))
    all_goals simp_all
end Go.Proofs.Ytchcbfbnffhifaa
/- Types: the relations of subtyping, on shadows (the program, SubPositive, SubNegative). -/
namespace Go.Proofs.Ytchcbfbnffhifaa
open Go.RowKit Go.Proofs.Sh Go.Proofs.Grad
set_option maxRecDepth 100000
set_option maxHeartbeats 4000000
theorem iPN (n : Nat) : (∀ a b : T, subM a b < n → AFn Try.prog 113 [.agg (tyC a.ty), .agg (tyC b.ty)] (.one (.sc (.bool (a.pos b))))) ∧
    (∀ a b : T, subM a b < n → AFn Try.prog 114 [.agg (tyC a.ty), .agg (tyC b.ty)] (.one (.sc (.bool (a.neg b))))) := by
  induction n with
  | zero => exact ⟨fun a b h => by omega, fun a b h => by omega⟩
  | succ n ih =>
    obtain ⟨ihp, ihn⟩ := ih
    have hp : ∀ a b : T, subM a b < n + 1 → ∀ x y : T, 2 * (x.size + y.size) + 5 < 2 * (a.size + b.size) → AFn Try.prog 113 [.agg (tyC x.ty), .agg (tyC y.ty)] (.one (.sc (.bool (x.pos y)))) := fun a b h x y hxy => ihp x y (by have := subM_le x y; have := le_subM a b; omega)
    have hn : ∀ a b : T, subM a b < n + 1 → ∀ x y : T, 2 * (x.size + y.size) + 5 < 2 * (a.size + b.size) → AFn Try.prog 114 [.agg (tyC x.ty), .agg (tyC y.ty)] (.one (.sc (.bool (x.neg y)))) := fun a b h x y hxy => ihn x y (by have := subM_le x y; have := le_subM a b; omega)
    constructor
    · intro a b h
      have hsub := iSub _ _ T.pos T.neg a b (hp a b h) (hn a b h)
      clear hp hn
      rcases a with _ | _ | _ | ⟨a1, a2⟩ | ⟨a1, a2⟩ <;> rcases b with _ | _ | _ | ⟨b1, b2⟩ | ⟨b1, b2⟩
      all_goals
        simp only [subM, T.size] at h
        refine fn_in ?_; refine acl_in Try.func113 rfl isfn_113 (Nat.le_of_ble_eq_true rfl) (fun R hR => ?_); rw [Try.results113] at hR; refine wg_run ?_; (simp only [Try.f113, go_sem])
        repeat' (first | (first | ((first | refine wd_split _ (fun hb => ?_) (fun hb => ?_) | refine wd_nwant _ (fun hb => ?_) (fun hb => ?_) | refine wm_nwant _ (fun hb => ?_) (fun hb => ?_) | refine wd_want _ (fun hb => ?_) (fun hb => ?_) | refine wm_want _ (fun hb => ?_) (fun hb => ?_) | refine wt_nwant _ (fun hb => ?_) (fun hb => ?_) | refine wt_want _ (fun hb => ?_) (fun hb => ?_)) <;> (simp only [go_sem, hb])) | (refine wm_done ?_; (simp only [go_sem])) | (refine wt_done ?_; (simp only [go_sem])) | (refine wg_run ?_; (simp only [go_sem])) | (refine wt_fork (by (simp only [go_sem]); first | done | rfl) ?_ ?_ <;> (simp only [go_sem]))) | (first | refine wd_fn (by (simp only [go_sem]); first | done | rfl) (hsub) ?_ | refine wm_fn (by (simp only [go_sem]); first | done | rfl) (hsub) (by (simp only [go_sem]); first | done | rfl) (by (simp only [go_sem]); first | done | rfl) ?_ | refine wt_fn (by (simp only [go_sem]); first | done | rfl) (hsub) (by (simp only [go_sem]); first | done | rfl) (by (simp only [go_sem]); first | done | rfl) ?_); (simp only [go_sem]) | ((first | refine wd_mix 6 [] follows (by decide +kernel) (by (simp only [go_sem]); first | done | rfl) ?_ | refine wd_mix 5 [] follows (by decide +kernel) (by (simp only [go_sem]); first | done | rfl) ?_ | refine wd_mix 4 [] follows (by decide +kernel) (by (simp only [go_sem]); first | done | rfl) ?_ | refine wd_mix 3 [] follows (by decide +kernel) (by (simp only [go_sem]); first | done | rfl) ?_ | refine wd_mix 2 [] follows (by decide +kernel) (by (simp only [go_sem]); first | done | rfl) ?_ | refine wd_mix 1 [] follows (by decide +kernel) (by (simp only [go_sem]); first | done | rfl) ?_ | refine wd_mix 0 [] follows (by decide +kernel) (by (simp only [go_sem]); first | done | rfl) ?_ | fail); (simp only [go_sem])))
      all_goals (refine hR _ (ret_at [] (by (simp only [go_sem]); first | done | rfl) (by (simp only [go_sem]); first | done | rfl) ⟨?_, rfl⟩))
      all_goals clear hR ihp ihn hsub
      all_goals simp_all [T.pos, subF]
    · intro a b h
      have hsub := iSub _ _ T.neg T.pos a b (hn a b h) (hp a b h)
      clear hp hn
      rcases a with _ | _ | _ | ⟨a1, a2⟩ | ⟨a1, a2⟩ <;> rcases b with _ | _ | _ | ⟨b1, b2⟩ | ⟨b1, b2⟩
      all_goals
        simp only [subM, T.size] at h
        refine fn_in ?_; refine acl_in Try.func114 rfl isfn_114 (Nat.le_of_ble_eq_true rfl) (fun R hR => ?_); rw [Try.results114] at hR; refine wg_run ?_; (simp only [Try.f114, go_sem])
        repeat' (first | (first | ((first | refine wd_split _ (fun hb => ?_) (fun hb => ?_) | refine wd_nwant _ (fun hb => ?_) (fun hb => ?_) | refine wm_nwant _ (fun hb => ?_) (fun hb => ?_) | refine wd_want _ (fun hb => ?_) (fun hb => ?_) | refine wm_want _ (fun hb => ?_) (fun hb => ?_) | refine wt_nwant _ (fun hb => ?_) (fun hb => ?_) | refine wt_want _ (fun hb => ?_) (fun hb => ?_)) <;> (simp only [go_sem, hb])) | (refine wm_done ?_; (simp only [go_sem])) | (refine wt_done ?_; (simp only [go_sem])) | (refine wg_run ?_; (simp only [go_sem])) | (refine wt_fork (by (simp only [go_sem]); first | done | rfl) ?_ ?_ <;> (simp only [go_sem]))) | (first | refine wd_fn (by (simp only [go_sem]); first | done | rfl) (iGround T.any) ?_ | refine wm_fn (by (simp only [go_sem]); first | done | rfl) (iGround T.any) (by (simp only [go_sem]); first | done | rfl) (by (simp only [go_sem]); first | done | rfl) ?_ | refine wt_fn (by (simp only [go_sem]); first | done | rfl) (iGround T.any) (by (simp only [go_sem]); first | done | rfl) (by (simp only [go_sem]); first | done | rfl) ?_); (simp only [go_sem]) | (first | refine wd_fn (by (simp only [go_sem]); first | done | rfl) (iGround T.int) ?_ | refine wm_fn (by (simp only [go_sem]); first | done | rfl) (iGround T.int) (by (simp only [go_sem]); first | done | rfl) (by (simp only [go_sem]); first | done | rfl) ?_ | refine wt_fn (by (simp only [go_sem]); first | done | rfl) (iGround T.int) (by (simp only [go_sem]); first | done | rfl) (by (simp only [go_sem]); first | done | rfl) ?_); (simp only [go_sem]) | (first | refine wd_fn (by (simp only [go_sem]); first | done | rfl) (iGround T.bool) ?_ | refine wm_fn (by (simp only [go_sem]); first | done | rfl) (iGround T.bool) (by (simp only [go_sem]); first | done | rfl) (by (simp only [go_sem]); first | done | rfl) ?_ | refine wt_fn (by (simp only [go_sem]); first | done | rfl) (iGround T.bool) (by (simp only [go_sem]); first | done | rfl) (by (simp only [go_sem]); first | done | rfl) ?_); (simp only [go_sem]) | (first | refine wd_fn (by (simp only [go_sem]); first | done | rfl) (iGround (T.fn a1 a2)) ?_ | refine wm_fn (by (simp only [go_sem]); first | done | rfl) (iGround (T.fn a1 a2)) (by (simp only [go_sem]); first | done | rfl) (by (simp only [go_sem]); first | done | rfl) ?_ | refine wt_fn (by (simp only [go_sem]); first | done | rfl) (iGround (T.fn a1 a2)) (by (simp only [go_sem]); first | done | rfl) (by (simp only [go_sem]); first | done | rfl) ?_); (simp only [go_sem]) | (first | refine wd_fn (by (simp only [go_sem]); first | done | rfl) (iGround (T.pr a1 a2)) ?_ | refine wm_fn (by (simp only [go_sem]); first | done | rfl) (iGround (T.pr a1 a2)) (by (simp only [go_sem]); first | done | rfl) (by (simp only [go_sem]); first | done | rfl) ?_ | refine wt_fn (by (simp only [go_sem]); first | done | rfl) (iGround (T.pr a1 a2)) (by (simp only [go_sem]); first | done | rfl) (by (simp only [go_sem]); first | done | rfl) ?_); (simp only [go_sem]) | (first | refine wd_fn (by (simp only [go_sem]); first | done | rfl) (ihn _ _ (by simp only [subM, T.size, T.ground]; (try split) <;> (try simp only [T.size]) <;> omega)) ?_ | refine wm_fn (by (simp only [go_sem]); first | done | rfl) (ihn _ _ (by simp only [subM, T.size, T.ground]; (try split) <;> (try simp only [T.size]) <;> omega)) (by (simp only [go_sem]); first | done | rfl) (by (simp only [go_sem]); first | done | rfl) ?_ | refine wt_fn (by (simp only [go_sem]); first | done | rfl) (ihn _ _ (by simp only [subM, T.size, T.ground]; (try split) <;> (try simp only [T.size]) <;> omega)) (by (simp only [go_sem]); first | done | rfl) (by (simp only [go_sem]); first | done | rfl) ?_); (simp only [go_sem]) | (first | refine wd_fn (by (simp only [go_sem]); first | done | rfl) (hsub) ?_ | refine wm_fn (by (simp only [go_sem]); first | done | rfl) (hsub) (by (simp only [go_sem]); first | done | rfl) (by (simp only [go_sem]); first | done | rfl) ?_ | refine wt_fn (by (simp only [go_sem]); first | done | rfl) (hsub) (by (simp only [go_sem]); first | done | rfl) (by (simp only [go_sem]); first | done | rfl) ?_); (simp only [go_sem]) | ((first | refine wd_mix 6 [] follows (by decide +kernel) (by (simp only [go_sem]); first | done | rfl) ?_ | refine wd_mix 5 [] follows (by decide +kernel) (by (simp only [go_sem]); first | done | rfl) ?_ | refine wd_mix 4 [] follows (by decide +kernel) (by (simp only [go_sem]); first | done | rfl) ?_ | refine wd_mix 3 [] follows (by decide +kernel) (by (simp only [go_sem]); first | done | rfl) ?_ | refine wd_mix 2 [] follows (by decide +kernel) (by (simp only [go_sem]); first | done | rfl) ?_ | refine wd_mix 1 [] follows (by decide +kernel) (by (simp only [go_sem]); first | done | rfl) ?_ | refine wd_mix 0 [] follows (by decide +kernel) (by (simp only [go_sem]); first | done | rfl) ?_ | fail); (simp only [go_sem])))
      all_goals (refine hR _ (ret_at [] (by (simp only [go_sem]); first | done | rfl) (by (simp only [go_sem]); first | done | rfl) ⟨?_, rfl⟩))
      all_goals clear hR ihp ihn hsub
      all_goals simp_all [T.neg, T.ground, subF]
end Go.Proofs.Ytchcbfbnffhifaa
/- Terms: safety for a label, on shadows. -/
namespace Go.Proofs.Grad
/-- is a cast unsafe for a label -/
noncomputable def unsB (l : Int) (c : Tm) : Bool := (c.label == l && !onT T.pos c.frm c.type) || (c.label == -l && !onT T.neg c.frm c.type)
theorem E.castsL_ok (e : E) (h : e.wf = true) : ∀ c ∈ e.tm.castsL, ∃ s t l a, c = (E.cast s t l a).tm ∧ s.depth ≤ 4 ∧ t.depth ≤ 4 ∧ s.cons t = true ∧ lab l = true := by
  induction e with
  | var _ | num _ | tru | fls => intro c hc; simp [E.tm, nd, Tm.castsL, Tm.castsLs, ownCast, Tm.kind] at hc
  | lam _ _ a ih =>
    simp only [E.wf, Bool.and_eq_true] at h
    intro c hc; simp [E.tm, nd, Tm.castsL, Tm.castsLs, ownCast, Tm.kind] at hc
    exact ih h.2.2 c hc
  | fst a ih | snd a ih =>
    simp only [E.wf, Bool.and_eq_true] at h
    intro c hc; simp [E.tm, nd, Tm.castsL, Tm.castsLs, ownCast, Tm.kind] at hc
    exact ih h c hc
  | app a b iha ihb | add a b iha ihb | less a b iha ihb | pair a b iha ihb =>
    simp only [E.wf, Bool.and_eq_true] at h
    intro c hc; simp [E.tm, nd, Tm.castsL, Tm.castsLs, ownCast, Tm.kind] at hc
    rcases hc with hc | hc
    · exact iha h.1 c hc
    · exact ihb h.2 c hc
  | ite a b c iha ihb ihc =>
    simp only [E.wf, Bool.and_eq_true] at h
    intro x hc; simp [E.tm, nd, Tm.castsL, Tm.castsLs, ownCast, Tm.kind] at hc
    rcases hc with hc | hc | hc
    · exact iha h.1 x hc
    · exact ihb h.2.1 x hc
    · exact ihc h.2.2 x hc
  | cast s t l a ih =>
    simp only [E.wf, Bool.and_eq_true, decide_eq_true_eq] at h
    intro c hc; simp [E.tm, Tm.castsL, Tm.castsLs, ownCast, Tm.kind] at hc
    rcases hc with rfl | hc
    · exact ⟨s, t, l, a, rfl, h.1.1, h.1.2, h.2.1, h.2.2.1⟩
    · exact ih h.2.2.2 c hc
  | _ =>
    rename_i ty a ih
    simp only [E.wf, Bool.and_eq_true] at h
    intro c hc; simp [E.tm, nd, Tm.castsL, Tm.castsLs, ownCast, Tm.kind] at hc
    exact ih h.2 c hc
theorem unsB_cast {s t : T} (hs : s.depth ≤ 4) (ht : t.depth ≤ 4) (l k : Int) (a : E) : unsB k (E.cast s t l a).tm = ((l == k && !s.pos t) || (l == -k && !s.neg t)) := by
  simp only [unsB, E.tm, Tm.label, Tm.frm, Tm.type, onT_ty _ hs ht]
theorem lab_bd {l : Int} (h : lab l = true) : -99 ≤ l ∧ l ≤ 99 := by simp [lab] at h; omega
/-- safe for a label -/
noncomputable def Tm.safeB (t : Tm) (l : Int) : Bool := !t.castsL.any (unsB l)
noncomputable def Tm.safeV (t : Tm) (l : Int) : Bool := t.castV && (lab l && t.safeB l)
end Go.Proofs.Grad
namespace Go.Proofs.Ytchcbfbnffhifaa
open Go.RowKit Go.Proofs.Sh Go.Proofs.Grad
set_option maxRecDepth 100000
set_option maxHeartbeats 8000000
theorem l8PN (n : Nat) : (∀ a b : T, subM a b < n → AFn Try.prog 110 [.agg (tyC a.ty), .agg (tyC b.ty)] (.one (.sc (.bool (a.pos b))))) ∧
    (∀ a b : T, subM a b < n → AFn Try.prog 111 [.agg (tyC a.ty), .agg (tyC b.ty)] (.one (.sc (.bool (a.neg b))))) := by
  induction n with
  | zero => exact ⟨fun a b h => by omega, fun a b h => by omega⟩
  | succ n ih =>
    obtain ⟨ihp, ihn⟩ := ih
    constructor
    · intro a b h
      rcases a with _ | _ | _ | ⟨a1, a2⟩ | ⟨a1, a2⟩ <;> rcases b with _ | _ | _ | ⟨b1, b2⟩ | ⟨b1, b2⟩
      all_goals
        ((try have p1 := T.size_pos a1); (try have p2 := T.size_pos a2); (try have p3 := T.size_pos b1); (try have p4 := T.size_pos b2))
        simp only [subM, T.size] at h
        refine fn_in ?_; refine acl_in Try.func110 rfl isfn_110 (Nat.le_of_ble_eq_true rfl) (fun R hR => ?_); rw [Try.results110] at hR; refine wg_run ?_; (simp only [Try.f110, go_sem])
        repeat' (first | (first | (simp only [go_sem, int_bne]) | ((first | refine wd_split _ (fun hb => ?_) (fun hb => ?_) | refine wd_nwant _ (fun hb => ?_) (fun hb => ?_) | refine wm_nwant _ (fun hb => ?_) (fun hb => ?_) | refine wd_want _ (fun hb => ?_) (fun hb => ?_) | refine wm_want _ (fun hb => ?_) (fun hb => ?_) | refine wt_nwant _ (fun hb => ?_) (fun hb => ?_) | refine wt_want _ (fun hb => ?_) (fun hb => ?_)) <;> (simp only [go_sem, hb, int_bne])) | (refine wm_done ?_; (simp only [go_sem, int_bne])) | (refine wt_done ?_; (simp only [go_sem, int_bne])) | (refine wg_run ?_; (simp only [go_sem, int_bne])) | (refine wt_fork (by (simp only [go_sem]); first | done | rfl) ?_ ?_ <;> (simp only [go_sem, int_bne]))) | ((first | refine wd_mix 6 [] follows (by decide +kernel) (by (simp only [go_sem]); first | done | rfl) ?_ | refine wd_mix 5 [] follows (by decide +kernel) (by (simp only [go_sem]); first | done | rfl) ?_ | refine wd_mix 4 [] follows (by decide +kernel) (by (simp only [go_sem]); first | done | rfl) ?_ | refine wd_mix 3 [] follows (by decide +kernel) (by (simp only [go_sem]); first | done | rfl) ?_ | refine wd_mix 2 [] follows (by decide +kernel) (by (simp only [go_sem]); first | done | rfl) ?_ | refine wd_mix 1 [] follows (by decide +kernel) (by (simp only [go_sem]); first | done | rfl) ?_ | refine wd_mix 0 [] follows (by decide +kernel) (by (simp only [go_sem]); first | done | rfl) ?_ | fail); (simp only [go_sem, int_bne])) | (first | refine wd_fn (by (simp only [go_sem]); first | done | rfl) (ihp _ _ (by simp only [subM, T.size, T.ground]; (try split) <;> (try simp only [T.size]) <;> omega)) ?_ | refine wm_fn (by (simp only [go_sem]); first | done | rfl) (ihp _ _ (by simp only [subM, T.size, T.ground]; (try split) <;> (try simp only [T.size]) <;> omega)) (by (simp only [go_sem]); first | done | rfl) (by (simp only [go_sem]); first | done | rfl) ?_ | refine wt_fn (by (simp only [go_sem]); first | done | rfl) (ihp _ _ (by simp only [subM, T.size, T.ground]; (try split) <;> (try simp only [T.size]) <;> omega)) (by (simp only [go_sem]); first | done | rfl) (by (simp only [go_sem]); first | done | rfl) ?_); (simp only [go_sem]) | (first | refine wd_fn (by (simp only [go_sem]); first | done | rfl) (ihn _ _ (by simp only [subM, T.size, T.ground]; (try split) <;> (try simp only [T.size]) <;> omega)) ?_ | refine wm_fn (by (simp only [go_sem]); first | done | rfl) (ihn _ _ (by simp only [subM, T.size, T.ground]; (try split) <;> (try simp only [T.size]) <;> omega)) (by (simp only [go_sem]); first | done | rfl) (by (simp only [go_sem]); first | done | rfl) ?_ | refine wt_fn (by (simp only [go_sem]); first | done | rfl) (ihn _ _ (by simp only [subM, T.size, T.ground]; (try split) <;> (try simp only [T.size]) <;> omega)) (by (simp only [go_sem]); first | done | rfl) (by (simp only [go_sem]); first | done | rfl) ?_); (simp only [go_sem]))
      all_goals (refine hR _ (ret_at [] (by (simp only [go_sem]); first | done | rfl) (by (simp only [go_sem]); first | done | rfl) ⟨?_, rfl⟩))
      all_goals clear hR ihp ihn
      all_goals simp_all [T.pos]
    · intro a b h
      rcases a with _ | _ | _ | ⟨a1, a2⟩ | ⟨a1, a2⟩ <;> rcases b with _ | _ | _ | ⟨b1, b2⟩ | ⟨b1, b2⟩
      all_goals
        ((try have p1 := T.size_pos a1); (try have p2 := T.size_pos a2); (try have p3 := T.size_pos b1); (try have p4 := T.size_pos b2))
        simp only [subM, T.size] at h
        refine fn_in ?_; refine acl_in Try.func111 rfl isfn_111 (Nat.le_of_ble_eq_true rfl) (fun R hR => ?_); rw [Try.results111] at hR; refine wg_run ?_; (simp only [Try.f111, go_sem])
        repeat' (first | (first | (simp only [go_sem, int_bne]) | ((first | refine wd_split _ (fun hb => ?_) (fun hb => ?_) | refine wd_nwant _ (fun hb => ?_) (fun hb => ?_) | refine wm_nwant _ (fun hb => ?_) (fun hb => ?_) | refine wd_want _ (fun hb => ?_) (fun hb => ?_) | refine wm_want _ (fun hb => ?_) (fun hb => ?_) | refine wt_nwant _ (fun hb => ?_) (fun hb => ?_) | refine wt_want _ (fun hb => ?_) (fun hb => ?_)) <;> (simp only [go_sem, hb, int_bne])) | (refine wm_done ?_; (simp only [go_sem, int_bne])) | (refine wt_done ?_; (simp only [go_sem, int_bne])) | (refine wg_run ?_; (simp only [go_sem, int_bne])) | (refine wt_fork (by (simp only [go_sem]); first | done | rfl) ?_ ?_ <;> (simp only [go_sem, int_bne]))) | ((first | refine wd_mix 6 [] follows (by decide +kernel) (by (simp only [go_sem]); first | done | rfl) ?_ | refine wd_mix 5 [] follows (by decide +kernel) (by (simp only [go_sem]); first | done | rfl) ?_ | refine wd_mix 4 [] follows (by decide +kernel) (by (simp only [go_sem]); first | done | rfl) ?_ | refine wd_mix 3 [] follows (by decide +kernel) (by (simp only [go_sem]); first | done | rfl) ?_ | refine wd_mix 2 [] follows (by decide +kernel) (by (simp only [go_sem]); first | done | rfl) ?_ | refine wd_mix 1 [] follows (by decide +kernel) (by (simp only [go_sem]); first | done | rfl) ?_ | refine wd_mix 0 [] follows (by decide +kernel) (by (simp only [go_sem]); first | done | rfl) ?_ | fail); (simp only [go_sem, int_bne])) | (first | refine wd_fn (by (simp only [go_sem]); first | done | rfl) (l1Ground T.int) ?_ | refine wm_fn (by (simp only [go_sem]); first | done | rfl) (l1Ground T.int) (by (simp only [go_sem]); first | done | rfl) (by (simp only [go_sem]); first | done | rfl) ?_ | refine wt_fn (by (simp only [go_sem]); first | done | rfl) (l1Ground T.int) (by (simp only [go_sem]); first | done | rfl) (by (simp only [go_sem]); first | done | rfl) ?_); (simp only [go_sem]) | (first | refine wd_fn (by (simp only [go_sem]); first | done | rfl) (l1Ground T.bool) ?_ | refine wm_fn (by (simp only [go_sem]); first | done | rfl) (l1Ground T.bool) (by (simp only [go_sem]); first | done | rfl) (by (simp only [go_sem]); first | done | rfl) ?_ | refine wt_fn (by (simp only [go_sem]); first | done | rfl) (l1Ground T.bool) (by (simp only [go_sem]); first | done | rfl) (by (simp only [go_sem]); first | done | rfl) ?_); (simp only [go_sem]) | (first | refine wd_fn (by (simp only [go_sem]); first | done | rfl) (l1Ground (T.fn a1 a2)) ?_ | refine wm_fn (by (simp only [go_sem]); first | done | rfl) (l1Ground (T.fn a1 a2)) (by (simp only [go_sem]); first | done | rfl) (by (simp only [go_sem]); first | done | rfl) ?_ | refine wt_fn (by (simp only [go_sem]); first | done | rfl) (l1Ground (T.fn a1 a2)) (by (simp only [go_sem]); first | done | rfl) (by (simp only [go_sem]); first | done | rfl) ?_); (simp only [go_sem]) | (first | refine wd_fn (by (simp only [go_sem]); first | done | rfl) (l1Ground (T.pr a1 a2)) ?_ | refine wm_fn (by (simp only [go_sem]); first | done | rfl) (l1Ground (T.pr a1 a2)) (by (simp only [go_sem]); first | done | rfl) (by (simp only [go_sem]); first | done | rfl) ?_ | refine wt_fn (by (simp only [go_sem]); first | done | rfl) (l1Ground (T.pr a1 a2)) (by (simp only [go_sem]); first | done | rfl) (by (simp only [go_sem]); first | done | rfl) ?_); (simp only [go_sem]) | (first | refine wd_fn (by (simp only [go_sem]); first | done | rfl) (ihn _ _ (by simp only [subM, T.size, T.ground]; (try split) <;> (try simp only [T.size]) <;> omega)) ?_ | refine wm_fn (by (simp only [go_sem]); first | done | rfl) (ihn _ _ (by simp only [subM, T.size, T.ground]; (try split) <;> (try simp only [T.size]) <;> omega)) (by (simp only [go_sem]); first | done | rfl) (by (simp only [go_sem]); first | done | rfl) ?_ | refine wt_fn (by (simp only [go_sem]); first | done | rfl) (ihn _ _ (by simp only [subM, T.size, T.ground]; (try split) <;> (try simp only [T.size]) <;> omega)) (by (simp only [go_sem]); first | done | rfl) (by (simp only [go_sem]); first | done | rfl) ?_); (simp only [go_sem]) | (first | refine wd_fn (by (simp only [go_sem]); first | done | rfl) (ihp _ _ (by simp only [subM, T.size, T.ground]; (try split) <;> (try simp only [T.size]) <;> omega)) ?_ | refine wm_fn (by (simp only [go_sem]); first | done | rfl) (ihp _ _ (by simp only [subM, T.size, T.ground]; (try split) <;> (try simp only [T.size]) <;> omega)) (by (simp only [go_sem]); first | done | rfl) (by (simp only [go_sem]); first | done | rfl) ?_ | refine wt_fn (by (simp only [go_sem]); first | done | rfl) (ihp _ _ (by simp only [subM, T.size, T.ground]; (try split) <;> (try simp only [T.size]) <;> omega)) (by (simp only [go_sem]); first | done | rfl) (by (simp only [go_sem]); first | done | rfl) ?_); (simp only [go_sem]))
      all_goals (refine hR _ (ret_at [] (by (simp only [go_sem]); first | done | rfl) (by (simp only [go_sem]); first | done | rfl) ⟨?_, rfl⟩))
      all_goals clear hR ihp ihn
      all_goals simp_all [T.neg, T.ground]

theorem iSafe1 (l : Int) (hl : lab l = true) (c : Tm) (s t : T) (k : Int) (a : E) (hc : c = (E.cast s t k a).tm) (hs : s.depth ≤ 4) (ht : t.depth ≤ 4) : ACl Try.prog 112 [.agg (teC c), .one (.ptr 1 0 0 0)] [⟨1, 3, .mut, [[.sc (.int .i64 l)]]⟩] (fun r H' => r = .one (.sc (.bool (unsB l c))) ∧ H' = [⟨1, 3, .mut, [[.sc (.int .i64 l)]]⟩]) := by
  subst hc
  rw [unsB_cast hs ht]
  have hp := (iPN _).1 s t (Nat.lt_succ_self _)
  have hn := (iPN _).2 s t (Nat.lt_succ_self _)
  have hw : IntKind.i64.wrap (0 - l) = -l := by have := lab_bd hl; rw [IntWalk.i64_in _ (by omega)]; omega
  simp only [E.tm]
  refine acl_in Try.func112 rfl isfn_112 (Nat.le_of_ble_eq_true rfl) (fun R hR => ?_); rw [Try.results112] at hR; refine wg_run ?_; (simp only [Try.f112, go_sem, hw])
  repeat' (first | (first | (simp only [go_sem, hw]) | ((first | refine wd_split _ (fun hb => ?_) (fun hb => ?_) | refine wd_nwant _ (fun hb => ?_) (fun hb => ?_) | refine wm_nwant _ (fun hb => ?_) (fun hb => ?_) | refine wd_want _ (fun hb => ?_) (fun hb => ?_) | refine wm_want _ (fun hb => ?_) (fun hb => ?_) | refine wt_nwant _ (fun hb => ?_) (fun hb => ?_) | refine wt_want _ (fun hb => ?_) (fun hb => ?_)) <;> (simp only [go_sem, hb, hw])) | (refine wm_done ?_; (simp only [go_sem, hw])) | (refine wt_done ?_; (simp only [go_sem, hw])) | (refine wg_run ?_; (simp only [go_sem, hw])) | (refine wt_fork (by (simp only [go_sem]); first | done | rfl) ?_ ?_ <;> (simp only [go_sem, hw]))) | (first | refine wd_fn (by (simp only [go_sem]); first | done | rfl) (hp) ?_ | refine wm_fn (by (simp only [go_sem]); first | done | rfl) (hp) (by (simp only [go_sem]); first | done | rfl) (by (simp only [go_sem]); first | done | rfl) ?_ | refine wt_fn (by (simp only [go_sem]); first | done | rfl) (hp) (by (simp only [go_sem]); first | done | rfl) (by (simp only [go_sem]); first | done | rfl) ?_); (simp only [go_sem]) | (first | refine wd_fn (by (simp only [go_sem]); first | done | rfl) (hn) ?_ | refine wm_fn (by (simp only [go_sem]); first | done | rfl) (hn) (by (simp only [go_sem]); first | done | rfl) (by (simp only [go_sem]); first | done | rfl) ?_ | refine wt_fn (by (simp only [go_sem]); first | done | rfl) (hn) (by (simp only [go_sem]); first | done | rfl) (by (simp only [go_sem]); first | done | rfl) ?_); (simp only [go_sem]))
  all_goals (refine hR _ (ret_at [] (by (simp only [go_sem]); first | done | rfl) (by (simp only [go_sem]); first | done | rfl) ⟨?_, ?_⟩))
  all_goals (first | rfl | (clear hR hp hn hw; grind))
theorem iSafe (e : E) (l : Int) (he : e.wf = true) (hl : lab l = true) (h : e.tm.size < 274877906944) : AFn Try.prog 64 [.agg (teC e.tm), .one (.sc (.int .i64 l))] (.one (.sc (.bool (e.tm.safeB l)))) := by
  have hca := iCasts _ (Nat.le_refl _) e.tm h
  have hlen := e.tm.castsL_len
  have hnl := e.tm.nodes_le
  have hcc := teContainsFunc1 112 l (unsB l) e.tm.castsL (by omega) (fun k hk => by
    obtain ⟨s, t, j, a, h1, h2, h3, _, _⟩ := e.castsL_ok he _ (List.getElem_mem hk)
    rw [← teKid_eq hk] at h1
    exact iSafe1 l hl _ s t j a h1 h2 h3)
  unfold Tm.safeB
  refine fn_in ?_; refine acl_in Try.func64 rfl isfn_64 (Nat.le_of_ble_eq_true rfl) (fun R hR => ?_); rw [Try.results64] at hR; refine wg_run ?_; (simp only [Try.f64, go_sem])
  repeat' (first | (first | ((first | refine wd_split _ (fun hb => ?_) (fun hb => ?_) | refine wd_nwant _ (fun hb => ?_) (fun hb => ?_) | refine wm_nwant _ (fun hb => ?_) (fun hb => ?_) | refine wd_want _ (fun hb => ?_) (fun hb => ?_) | refine wm_want _ (fun hb => ?_) (fun hb => ?_) | refine wt_nwant _ (fun hb => ?_) (fun hb => ?_) | refine wt_want _ (fun hb => ?_) (fun hb => ?_)) <;> (simp only [go_sem, hb])) | (refine wm_done ?_; (simp only [go_sem])) | (refine wt_done ?_; (simp only [go_sem])) | (refine wg_run ?_; (simp only [go_sem])) | (refine wt_fork (by (simp only [go_sem]); first | done | rfl) ?_ ?_ <;> (simp only [go_sem]))) | (first | refine wd_fn (by (simp only [go_sem]); first | done | rfl) (hca) ?_ | refine wm_fn (by (simp only [go_sem]); first | done | rfl) (hca) (by (simp only [go_sem]); first | done | rfl) (by (simp only [go_sem]); first | done | rfl) ?_ | refine wt_fn (by (simp only [go_sem]); first | done | rfl) (hca) (by (simp only [go_sem]); first | done | rfl) (by (simp only [go_sem]); first | done | rfl) ?_); (simp only [go_sem]) | (first | refine wd_cl [1] (by (simp only [go_sem]); first | done | rfl) (hcc) ?_ | refine wm_cl [1] (by (simp only [go_sem]); first | done | rfl) (hcc) (by (simp only [go_sem]); first | done | rfl) (by (simp only [go_sem]); first | done | rfl) ?_ | refine wt_cl [1] (by (simp only [go_sem]); first | done | rfl) (hcc) (by (simp only [go_sem]); first | done | rfl) (by (simp only [go_sem]); first | done | rfl) ?_); rintro _ _ ⟨rfl, rfl⟩; (simp only [go_sem]))
  (refine hR _ (ret_at [] (by (simp only [go_sem]); first | done | rfl) (by (simp only [go_sem]); first | done | rfl) ⟨?_, rfl⟩))
  rfl
theorem iSafeFor (t : Tm) (l : Int) (h : t.size < 100000000) (hl : -9223372036854775808 ≤ l ∧ l ≤ 9223372036854775807) : AFn Try.prog 27 [.agg (teC t), .one (.sc (.int .i64 l))] (.one (.sc (.bool (t.safeV l)))) := by
  have hv := iCastV t
  have hb := isLabel l
  unfold Tm.safeV
  cases hb1 : t.castV
  · rw [hb1] at hv
    refine fn_in ?_; refine acl_in Try.func27 rfl isfn_27 (Nat.le_of_ble_eq_true rfl) (fun R hR => ?_); rw [Try.results27] at hR; refine wg_run ?_; (simp only [Try.f27, go_sem])
    repeat' (first | (first | ((first | refine wd_split _ (fun hb => ?_) (fun hb => ?_) | refine wd_nwant _ (fun hb => ?_) (fun hb => ?_) | refine wm_nwant _ (fun hb => ?_) (fun hb => ?_) | refine wd_want _ (fun hb => ?_) (fun hb => ?_) | refine wm_want _ (fun hb => ?_) (fun hb => ?_) | refine wt_nwant _ (fun hb => ?_) (fun hb => ?_) | refine wt_want _ (fun hb => ?_) (fun hb => ?_)) <;> (simp only [go_sem, hb])) | (refine wm_done ?_; (simp only [go_sem])) | (refine wt_done ?_; (simp only [go_sem])) | (refine wg_run ?_; (simp only [go_sem])) | (refine wt_fork (by (simp only [go_sem]); first | done | rfl) ?_ ?_ <;> (simp only [go_sem]))) | (first | refine wd_fn (by (simp only [go_sem]); first | done | rfl) (hv) ?_ | refine wm_fn (by (simp only [go_sem]); first | done | rfl) (hv) (by (simp only [go_sem]); first | done | rfl) (by (simp only [go_sem]); first | done | rfl) ?_ | refine wt_fn (by (simp only [go_sem]); first | done | rfl) (hv) (by (simp only [go_sem]); first | done | rfl) (by (simp only [go_sem]); first | done | rfl) ?_); (simp only [go_sem]))
    (refine hR _ (ret_at [] (by (simp only [go_sem]); first | done | rfl) (by (simp only [go_sem]); first | done | rfl) ⟨rfl, rfl⟩))
  · rw [hb1] at hv
    cases hb2 : lab l
    · rw [hb2] at hb
      refine fn_in ?_; refine acl_in Try.func27 rfl isfn_27 (Nat.le_of_ble_eq_true rfl) (fun R hR => ?_); rw [Try.results27] at hR; refine wg_run ?_; (simp only [Try.f27, go_sem])
      repeat' (first | (first | ((first | refine wd_split _ (fun hb => ?_) (fun hb => ?_) | refine wd_nwant _ (fun hb => ?_) (fun hb => ?_) | refine wm_nwant _ (fun hb => ?_) (fun hb => ?_) | refine wd_want _ (fun hb => ?_) (fun hb => ?_) | refine wm_want _ (fun hb => ?_) (fun hb => ?_) | refine wt_nwant _ (fun hb => ?_) (fun hb => ?_) | refine wt_want _ (fun hb => ?_) (fun hb => ?_)) <;> (simp only [go_sem, hb])) | (refine wm_done ?_; (simp only [go_sem])) | (refine wt_done ?_; (simp only [go_sem])) | (refine wg_run ?_; (simp only [go_sem])) | (refine wt_fork (by (simp only [go_sem]); first | done | rfl) ?_ ?_ <;> (simp only [go_sem]))) | (first | refine wd_fn (by (simp only [go_sem]); first | done | rfl) (hv) ?_ | refine wm_fn (by (simp only [go_sem]); first | done | rfl) (hv) (by (simp only [go_sem]); first | done | rfl) (by (simp only [go_sem]); first | done | rfl) ?_ | refine wt_fn (by (simp only [go_sem]); first | done | rfl) (hv) (by (simp only [go_sem]); first | done | rfl) (by (simp only [go_sem]); first | done | rfl) ?_); (simp only [go_sem]) | (first | refine wd_fn (by (simp only [go_sem]); first | done | rfl) (hb) ?_ | refine wm_fn (by (simp only [go_sem]); first | done | rfl) (hb) (by (simp only [go_sem]); first | done | rfl) (by (simp only [go_sem]); first | done | rfl) ?_ | refine wt_fn (by (simp only [go_sem]); first | done | rfl) (hb) (by (simp only [go_sem]); first | done | rfl) (by (simp only [go_sem]); first | done | rfl) ?_); (simp only [go_sem]))
      (refine hR _ (ret_at [] (by (simp only [go_sem]); first | done | rfl) (by (simp only [go_sem]); first | done | rfl) ⟨rfl, rfl⟩))
    · rw [hb2] at hb
      obtain ⟨e, rfl, he⟩ := Tm.castV_E hb1
      simp only [E.okC, Bool.and_eq_true] at he
      have hs := iSafe e l he.1 hb2 (by omega)
      refine fn_in ?_; refine acl_in Try.func27 rfl isfn_27 (Nat.le_of_ble_eq_true rfl) (fun R hR => ?_); rw [Try.results27] at hR; refine wg_run ?_; (simp only [Try.f27, go_sem])
      repeat' (first | (first | ((first | refine wd_split _ (fun hb => ?_) (fun hb => ?_) | refine wd_nwant _ (fun hb => ?_) (fun hb => ?_) | refine wm_nwant _ (fun hb => ?_) (fun hb => ?_) | refine wd_want _ (fun hb => ?_) (fun hb => ?_) | refine wm_want _ (fun hb => ?_) (fun hb => ?_) | refine wt_nwant _ (fun hb => ?_) (fun hb => ?_) | refine wt_want _ (fun hb => ?_) (fun hb => ?_)) <;> (simp only [go_sem, hb])) | (refine wm_done ?_; (simp only [go_sem])) | (refine wt_done ?_; (simp only [go_sem])) | (refine wg_run ?_; (simp only [go_sem])) | (refine wt_fork (by (simp only [go_sem]); first | done | rfl) ?_ ?_ <;> (simp only [go_sem]))) | (first | refine wd_fn (by (simp only [go_sem]); first | done | rfl) (hv) ?_ | refine wm_fn (by (simp only [go_sem]); first | done | rfl) (hv) (by (simp only [go_sem]); first | done | rfl) (by (simp only [go_sem]); first | done | rfl) ?_ | refine wt_fn (by (simp only [go_sem]); first | done | rfl) (hv) (by (simp only [go_sem]); first | done | rfl) (by (simp only [go_sem]); first | done | rfl) ?_); (simp only [go_sem]) | (first | refine wd_fn (by (simp only [go_sem]); first | done | rfl) (hb) ?_ | refine wm_fn (by (simp only [go_sem]); first | done | rfl) (hb) (by (simp only [go_sem]); first | done | rfl) (by (simp only [go_sem]); first | done | rfl) ?_ | refine wt_fn (by (simp only [go_sem]); first | done | rfl) (hb) (by (simp only [go_sem]); first | done | rfl) (by (simp only [go_sem]); first | done | rfl) ?_); (simp only [go_sem]) | (first | refine wd_fn (by (simp only [go_sem]); first | done | rfl) (hs) ?_ | refine wm_fn (by (simp only [go_sem]); first | done | rfl) (hs) (by (simp only [go_sem]); first | done | rfl) (by (simp only [go_sem]); first | done | rfl) ?_ | refine wt_fn (by (simp only [go_sem]); first | done | rfl) (hs) (by (simp only [go_sem]); first | done | rfl) (by (simp only [go_sem]); first | done | rfl) ?_); (simp only [go_sem]))
      (refine hR _ (ret_at [] (by (simp only [go_sem]); first | done | rfl) (by (simp only [go_sem]); first | done | rfl) ⟨?_, rfl⟩))
      rfl
theorem sSafe (l : Int) (hl : lab l = true) (e : E) (h : e.wf = true) : AFn Try.prog 62 [.agg (teC e.tm), .one (.sc (.int .i64 l))] (.one (.sc (.bool (e.tm.safeB l)))) := by
  have hw : IntKind.i64.wrap (0 - l) = -l := by have := lab_bd hl; rw [IntWalk.i64_in _ (by omega)]; omega
  induction e with
  | var _ | num _ | tru | fls =>
    simp only [E.tm, nd]
    refine fn_in ?_; refine acl_in Try.func62 rfl isfn_62 (Nat.le_of_ble_eq_true rfl) (fun R hR => ?_); rw [Try.results62] at hR; refine wg_run ?_; (simp only [Try.f62, go_sem])
    repeat' (first | (first | ((first | refine wd_split _ (fun hb => ?_) (fun hb => ?_) | refine wd_nwant _ (fun hb => ?_) (fun hb => ?_) | refine wm_nwant _ (fun hb => ?_) (fun hb => ?_) | refine wd_want _ (fun hb => ?_) (fun hb => ?_) | refine wm_want _ (fun hb => ?_) (fun hb => ?_) | refine wt_nwant _ (fun hb => ?_) (fun hb => ?_) | refine wt_want _ (fun hb => ?_) (fun hb => ?_)) <;> (simp only [go_sem, hb])) | (refine wm_done ?_; (simp only [go_sem])) | (refine wt_done ?_; (simp only [go_sem])) | (refine wg_run ?_; (simp only [go_sem])) | (refine wt_fork (by (simp only [go_sem]); first | done | rfl) ?_ ?_ <;> (simp only [go_sem]))) | (first | (refine wl_next (wg_run ?_); (simp only [go_sem])) | refine wd_rounds 6 ?_))
    (refine hR _ (ret_at [] (by (simp only [go_sem]); first | done | rfl) (by (simp only [go_sem]); first | done | rfl) ⟨?_, rfl⟩))
    rfl
  | lam _ _ a ih =>
    simp only [E.wf, Bool.and_eq_true] at h
    have ih := ih h.2.2
    have e1 : (E.lam ‹_› ‹_› a).tm.safeB l = a.tm.safeB l := by simp [Tm.safeB, E.tm, Tm.castsL, Tm.castsLs, ownCast, Tm.kind]
    rw [e1]
    simp only [E.tm]
    refine fn_in ?_; refine acl_in Try.func62 rfl isfn_62 (Nat.le_of_ble_eq_true rfl) (fun R hR => ?_); rw [Try.results62] at hR; refine wg_run ?_; (simp only [Try.f62, go_sem])
    repeat' (first | (first | ((first | refine wd_split _ (fun hb => ?_) (fun hb => ?_) | refine wd_nwant _ (fun hb => ?_) (fun hb => ?_) | refine wm_nwant _ (fun hb => ?_) (fun hb => ?_) | refine wd_want _ (fun hb => ?_) (fun hb => ?_) | refine wm_want _ (fun hb => ?_) (fun hb => ?_) | refine wt_nwant _ (fun hb => ?_) (fun hb => ?_) | refine wt_want _ (fun hb => ?_) (fun hb => ?_)) <;> (simp only [go_sem, hb])) | (refine wm_done ?_; (simp only [go_sem])) | (refine wt_done ?_; (simp only [go_sem])) | (refine wg_run ?_; (simp only [go_sem])) | (refine wt_fork (by (simp only [go_sem]); first | done | rfl) ?_ ?_ <;> (simp only [go_sem]))) | (first | (refine wl_next (wg_run ?_); (simp only [go_sem])) | refine wd_rounds 6 ?_) | (first | refine wd_fn (by (simp only [go_sem]); first | done | rfl) (ih) ?_ | refine wm_fn (by (simp only [go_sem]); first | done | rfl) (ih) (by (simp only [go_sem]); first | done | rfl) (by (simp only [go_sem]); first | done | rfl) ?_ | refine wt_fn (by (simp only [go_sem]); first | done | rfl) (ih) (by (simp only [go_sem]); first | done | rfl) (by (simp only [go_sem]); first | done | rfl) ?_); (simp only [go_sem]))
    all_goals (refine hR _ (ret_at [] (by (simp only [go_sem]); first | done | rfl) (by (simp only [go_sem]); first | done | rfl) ⟨?_, rfl⟩))
    all_goals simp_all
  | fst a ih | snd a ih =>
    simp only [E.wf] at h
    have ih := ih h
    have e1 : a.tm.safeB l = (E.fst a).tm.safeB l := by simp [Tm.safeB, E.tm, nd, Tm.castsL, Tm.castsLs, ownCast, Tm.kind]
    have e2 : a.tm.safeB l = (E.snd a).tm.safeB l := by simp [Tm.safeB, E.tm, nd, Tm.castsL, Tm.castsLs, ownCast, Tm.kind]
    first | rw [← e1] | rw [← e2]
    simp only [E.tm, nd]
    refine fn_in ?_; refine acl_in Try.func62 rfl isfn_62 (Nat.le_of_ble_eq_true rfl) (fun R hR => ?_); rw [Try.results62] at hR; refine wg_run ?_; (simp only [Try.f62, go_sem])
    repeat' (first | (first | ((first | refine wd_split _ (fun hb => ?_) (fun hb => ?_) | refine wd_nwant _ (fun hb => ?_) (fun hb => ?_) | refine wm_nwant _ (fun hb => ?_) (fun hb => ?_) | refine wd_want _ (fun hb => ?_) (fun hb => ?_) | refine wm_want _ (fun hb => ?_) (fun hb => ?_) | refine wt_nwant _ (fun hb => ?_) (fun hb => ?_) | refine wt_want _ (fun hb => ?_) (fun hb => ?_)) <;> (simp only [go_sem, hb])) | (refine wm_done ?_; (simp only [go_sem])) | (refine wt_done ?_; (simp only [go_sem])) | (refine wg_run ?_; (simp only [go_sem])) | (refine wt_fork (by (simp only [go_sem]); first | done | rfl) ?_ ?_ <;> (simp only [go_sem]))) | (first | (refine wl_next (wg_run ?_); (simp only [go_sem])) | refine wd_rounds 6 ?_) | (first | refine wd_fn (by (simp only [go_sem]); first | done | rfl) (ih) ?_ | refine wm_fn (by (simp only [go_sem]); first | done | rfl) (ih) (by (simp only [go_sem]); first | done | rfl) (by (simp only [go_sem]); first | done | rfl) ?_ | refine wt_fn (by (simp only [go_sem]); first | done | rfl) (ih) (by (simp only [go_sem]); first | done | rfl) (by (simp only [go_sem]); first | done | rfl) ?_); (simp only [go_sem]))
    all_goals (refine hR _ (ret_at [] (by (simp only [go_sem]); first | done | rfl) (by (simp only [go_sem]); first | done | rfl) ⟨?_, rfl⟩))
    all_goals simp_all
  | app a b iha ihb | add a b iha ihb | less a b iha ihb | pair a b iha ihb =>
    simp only [E.wf, Bool.and_eq_true] at h
    have iha := iha h.1
    have ihb := ihb h.2
    have e1 : ∀ k, (nd k [a.tm, b.tm]).kind = k := fun _ => rfl
    have e2 : ∀ k, (k == (14 : Int)) = false → (nd k [a.tm, b.tm]).safeB l = (a.tm.safeB l && b.tm.safeB l) := by
      intro k hk
      simp [Tm.safeB, nd, Tm.castsL, Tm.castsLs, ownCast, Tm.kind, hk]
    simp only [E.tm]
    rw [e2 _ rfl]
    simp only [nd]
    refine fn_in ?_; refine acl_in Try.func62 rfl isfn_62 (Nat.le_of_ble_eq_true rfl) (fun R hR => ?_); rw [Try.results62] at hR; refine wg_run ?_; (simp only [Try.f62, go_sem])
    repeat' (first | (first | ((first | refine wd_split _ (fun hb => ?_) (fun hb => ?_) | refine wd_nwant _ (fun hb => ?_) (fun hb => ?_) | refine wm_nwant _ (fun hb => ?_) (fun hb => ?_) | refine wd_want _ (fun hb => ?_) (fun hb => ?_) | refine wm_want _ (fun hb => ?_) (fun hb => ?_) | refine wt_nwant _ (fun hb => ?_) (fun hb => ?_) | refine wt_want _ (fun hb => ?_) (fun hb => ?_)) <;> (simp only [go_sem, hb])) | (refine wm_done ?_; (simp only [go_sem])) | (refine wt_done ?_; (simp only [go_sem])) | (refine wg_run ?_; (simp only [go_sem])) | (refine wt_fork (by (simp only [go_sem]); first | done | rfl) ?_ ?_ <;> (simp only [go_sem]))) | (first | (refine wl_next (wg_run ?_); (simp only [go_sem])) | refine wd_rounds 6 ?_) | (first | refine wd_fn (by (simp only [go_sem]); first | done | rfl) (iha) ?_ | refine wm_fn (by (simp only [go_sem]); first | done | rfl) (iha) (by (simp only [go_sem]); first | done | rfl) (by (simp only [go_sem]); first | done | rfl) ?_ | refine wt_fn (by (simp only [go_sem]); first | done | rfl) (iha) (by (simp only [go_sem]); first | done | rfl) (by (simp only [go_sem]); first | done | rfl) ?_); (simp only [go_sem]) | (first | refine wd_fn (by (simp only [go_sem]); first | done | rfl) (ihb) ?_ | refine wm_fn (by (simp only [go_sem]); first | done | rfl) (ihb) (by (simp only [go_sem]); first | done | rfl) (by (simp only [go_sem]); first | done | rfl) ?_ | refine wt_fn (by (simp only [go_sem]); first | done | rfl) (ihb) (by (simp only [go_sem]); first | done | rfl) (by (simp only [go_sem]); first | done | rfl) ?_); (simp only [go_sem]))
    all_goals (refine hR _ (ret_at [] (by (simp only [go_sem]); first | done | rfl) (by (simp only [go_sem]); first | done | rfl) ⟨?_, rfl⟩))
    all_goals simp_all
  | ite a b c iha ihb ihc =>
    simp only [E.wf, Bool.and_eq_true] at h
    have iha := iha h.1
    have ihb := ihb h.2.1
    have ihc := ihc h.2.2
    have e2 : (E.ite a b c).tm.safeB l = (a.tm.safeB l && (b.tm.safeB l && c.tm.safeB l)) := by
      simp [Tm.safeB, E.tm, nd, Tm.castsL, Tm.castsLs, ownCast, Tm.kind]
    rw [e2]
    simp only [E.tm, nd]
    refine fn_in ?_; refine acl_in Try.func62 rfl isfn_62 (Nat.le_of_ble_eq_true rfl) (fun R hR => ?_); rw [Try.results62] at hR; refine wg_run ?_; (simp only [Try.f62, go_sem])
    repeat' (first | (first | ((first | refine wd_split _ (fun hb => ?_) (fun hb => ?_) | refine wd_nwant _ (fun hb => ?_) (fun hb => ?_) | refine wm_nwant _ (fun hb => ?_) (fun hb => ?_) | refine wd_want _ (fun hb => ?_) (fun hb => ?_) | refine wm_want _ (fun hb => ?_) (fun hb => ?_) | refine wt_nwant _ (fun hb => ?_) (fun hb => ?_) | refine wt_want _ (fun hb => ?_) (fun hb => ?_)) <;> (simp only [go_sem, hb])) | (refine wm_done ?_; (simp only [go_sem])) | (refine wt_done ?_; (simp only [go_sem])) | (refine wg_run ?_; (simp only [go_sem])) | (refine wt_fork (by (simp only [go_sem]); first | done | rfl) ?_ ?_ <;> (simp only [go_sem]))) | (first | (refine wl_next (wg_run ?_); (simp only [go_sem])) | refine wd_rounds 6 ?_) | (first | refine wd_fn (by (simp only [go_sem]); first | done | rfl) (iha) ?_ | refine wm_fn (by (simp only [go_sem]); first | done | rfl) (iha) (by (simp only [go_sem]); first | done | rfl) (by (simp only [go_sem]); first | done | rfl) ?_ | refine wt_fn (by (simp only [go_sem]); first | done | rfl) (iha) (by (simp only [go_sem]); first | done | rfl) (by (simp only [go_sem]); first | done | rfl) ?_); (simp only [go_sem]) | (first | refine wd_fn (by (simp only [go_sem]); first | done | rfl) (ihb) ?_ | refine wm_fn (by (simp only [go_sem]); first | done | rfl) (ihb) (by (simp only [go_sem]); first | done | rfl) (by (simp only [go_sem]); first | done | rfl) ?_ | refine wt_fn (by (simp only [go_sem]); first | done | rfl) (ihb) (by (simp only [go_sem]); first | done | rfl) (by (simp only [go_sem]); first | done | rfl) ?_); (simp only [go_sem]) | (first | refine wd_fn (by (simp only [go_sem]); first | done | rfl) (ihc) ?_ | refine wm_fn (by (simp only [go_sem]); first | done | rfl) (ihc) (by (simp only [go_sem]); first | done | rfl) (by (simp only [go_sem]); first | done | rfl) ?_ | refine wt_fn (by (simp only [go_sem]); first | done | rfl) (ihc) (by (simp only [go_sem]); first | done | rfl) (by (simp only [go_sem]); first | done | rfl) ?_); (simp only [go_sem]))
    all_goals (refine hR _ (ret_at [] (by (simp only [go_sem]); first | done | rfl) (by (simp only [go_sem]); first | done | rfl) ⟨?_, rfl⟩))
    all_goals simp_all
  | cast s t k a ih =>
    simp only [E.wf, Bool.and_eq_true, decide_eq_true_eq] at h
    have ih := ih h.2.2.2
    have hp := (l8PN _).1 s t (Nat.lt_succ_self _)
    have hn := (l8PN _).2 s t (Nat.lt_succ_self _)
    have e2 : (E.cast s t k a).tm.safeB l = (!((k == l && !s.pos t) || (k == -l && !s.neg t)) && a.tm.safeB l) := by
      rw [← unsB_cast h.1.1 h.1.2 k l a]
      simp [Tm.safeB, E.tm, Tm.castsL, Tm.castsLs, ownCast, Tm.kind]
    rw [e2]
    simp only [E.tm]
    refine fn_in ?_; refine acl_in Try.func62 rfl isfn_62 (Nat.le_of_ble_eq_true rfl) (fun R hR => ?_); rw [Try.results62] at hR; refine wg_run ?_; (simp only [Try.f62, go_sem, hw])
    repeat' (first | (first | (simp only [go_sem, hw]) | ((first | refine wd_split _ (fun hb => ?_) (fun hb => ?_) | refine wd_nwant _ (fun hb => ?_) (fun hb => ?_) | refine wm_nwant _ (fun hb => ?_) (fun hb => ?_) | refine wd_want _ (fun hb => ?_) (fun hb => ?_) | refine wm_want _ (fun hb => ?_) (fun hb => ?_) | refine wt_nwant _ (fun hb => ?_) (fun hb => ?_) | refine wt_want _ (fun hb => ?_) (fun hb => ?_)) <;> (simp only [go_sem, hb, hw])) | (refine wm_done ?_; (simp only [go_sem, hw])) | (refine wt_done ?_; (simp only [go_sem, hw])) | (refine wg_run ?_; (simp only [go_sem, hw])) | (refine wt_fork (by (simp only [go_sem]); first | done | rfl) ?_ ?_ <;> (simp only [go_sem, hw]))) | (first | (refine wl_next (wg_run ?_); (simp only [go_sem])) | refine wd_rounds 6 ?_) | (first | refine wd_fn (by (simp only [go_sem]); first | done | rfl) (hp) ?_ | refine wm_fn (by (simp only [go_sem]); first | done | rfl) (hp) (by (simp only [go_sem]); first | done | rfl) (by (simp only [go_sem]); first | done | rfl) ?_ | refine wt_fn (by (simp only [go_sem]); first | done | rfl) (hp) (by (simp only [go_sem]); first | done | rfl) (by (simp only [go_sem]); first | done | rfl) ?_); (simp only [go_sem]) | (first | refine wd_fn (by (simp only [go_sem]); first | done | rfl) (hn) ?_ | refine wm_fn (by (simp only [go_sem]); first | done | rfl) (hn) (by (simp only [go_sem]); first | done | rfl) (by (simp only [go_sem]); first | done | rfl) ?_ | refine wt_fn (by (simp only [go_sem]); first | done | rfl) (hn) (by (simp only [go_sem]); first | done | rfl) (by (simp only [go_sem]); first | done | rfl) ?_); (simp only [go_sem]) | (first | refine wd_fn (by (simp only [go_sem]); first | done | rfl) (ih) ?_ | refine wm_fn (by (simp only [go_sem]); first | done | rfl) (ih) (by (simp only [go_sem]); first | done | rfl) (by (simp only [go_sem]); first | done | rfl) ?_ | refine wt_fn (by (simp only [go_sem]); first | done | rfl) (ih) (by (simp only [go_sem]); first | done | rfl) (by (simp only [go_sem]); first | done | rfl) ?_); (simp only [go_sem]))
    all_goals (refine hR _ (ret_at [] (by (simp only [go_sem]); first | done | rfl) (by (simp only [go_sem]); first | done | rfl) ⟨?_, rfl⟩))
    all_goals (clear hR hp hn ih hw; grind)
  | _ =>
    rename_i ty a ih
    simp only [E.wf, Bool.and_eq_true] at h
    have ih := ih h.2
    have e1 : (E.asc ty a).tm.safeB l = a.tm.safeB l := by simp [Tm.safeB, E.tm, Tm.castsL, Tm.castsLs, ownCast, Tm.kind]
    rw [e1]
    simp only [E.tm]
    refine fn_in ?_; refine acl_in Try.func62 rfl isfn_62 (Nat.le_of_ble_eq_true rfl) (fun R hR => ?_); rw [Try.results62] at hR; refine wg_run ?_; (simp only [Try.f62, go_sem])
    repeat' (first | (first | ((first | refine wd_split _ (fun hb => ?_) (fun hb => ?_) | refine wd_nwant _ (fun hb => ?_) (fun hb => ?_) | refine wm_nwant _ (fun hb => ?_) (fun hb => ?_) | refine wd_want _ (fun hb => ?_) (fun hb => ?_) | refine wm_want _ (fun hb => ?_) (fun hb => ?_) | refine wt_nwant _ (fun hb => ?_) (fun hb => ?_) | refine wt_want _ (fun hb => ?_) (fun hb => ?_)) <;> (simp only [go_sem, hb])) | (refine wm_done ?_; (simp only [go_sem])) | (refine wt_done ?_; (simp only [go_sem])) | (refine wg_run ?_; (simp only [go_sem])) | (refine wt_fork (by (simp only [go_sem]); first | done | rfl) ?_ ?_ <;> (simp only [go_sem]))) | (first | (refine wl_next (wg_run ?_); (simp only [go_sem])) | refine wd_rounds 6 ?_) | (first | refine wd_fn (by (simp only [go_sem]); first | done | rfl) (ih) ?_ | refine wm_fn (by (simp only [go_sem]); first | done | rfl) (ih) (by (simp only [go_sem]); first | done | rfl) (by (simp only [go_sem]); first | done | rfl) ?_ | refine wt_fn (by (simp only [go_sem]); first | done | rfl) (ih) (by (simp only [go_sem]); first | done | rfl) (by (simp only [go_sem]); first | done | rfl) ?_); (simp only [go_sem]))
    all_goals (refine hR _ (ret_at [] (by (simp only [go_sem]); first | done | rfl) (by (simp only [go_sem]); first | done | rfl) ⟨?_, rfl⟩))
    all_goals simp_all
theorem sSafeFor (t : Tm) (l : Int) (h : t.size < 100000000) (hl : -9223372036854775808 ≤ l ∧ l ≤ 9223372036854775807) : AFn Try.prog 26 [.agg (teC t), .one (.sc (.int .i64 l))] (.one (.sc (.bool (t.safeV l)))) := by
  have hv := sCastV t (by omega)
  have hb := l6Label l
  unfold Tm.safeV
  cases hb1 : t.castV
  · rw [hb1] at hv
    refine fn_in ?_; refine acl_in Try.func26 rfl isfn_26 (Nat.le_of_ble_eq_true rfl) (fun R hR => ?_); rw [Try.results26] at hR; refine wg_run ?_; (simp only [Try.f26, go_sem])
    repeat' (first | (first | ((first | refine wd_split _ (fun hb => ?_) (fun hb => ?_) | refine wd_nwant _ (fun hb => ?_) (fun hb => ?_) | refine wm_nwant _ (fun hb => ?_) (fun hb => ?_) | refine wd_want _ (fun hb => ?_) (fun hb => ?_) | refine wm_want _ (fun hb => ?_) (fun hb => ?_) | refine wt_nwant _ (fun hb => ?_) (fun hb => ?_) | refine wt_want _ (fun hb => ?_) (fun hb => ?_)) <;> (simp only [go_sem, hb])) | (refine wm_done ?_; (simp only [go_sem])) | (refine wt_done ?_; (simp only [go_sem])) | (refine wg_run ?_; (simp only [go_sem])) | (refine wt_fork (by (simp only [go_sem]); first | done | rfl) ?_ ?_ <;> (simp only [go_sem]))) | (first | refine wd_fn (by (simp only [go_sem]); first | done | rfl) (hv) ?_ | refine wm_fn (by (simp only [go_sem]); first | done | rfl) (hv) (by (simp only [go_sem]); first | done | rfl) (by (simp only [go_sem]); first | done | rfl) ?_ | refine wt_fn (by (simp only [go_sem]); first | done | rfl) (hv) (by (simp only [go_sem]); first | done | rfl) (by (simp only [go_sem]); first | done | rfl) ?_); (simp only [go_sem]))
    (refine hR _ (ret_at [] (by (simp only [go_sem]); first | done | rfl) (by (simp only [go_sem]); first | done | rfl) ⟨rfl, rfl⟩))
  · rw [hb1] at hv
    cases hb2 : lab l
    · rw [hb2] at hb
      refine fn_in ?_; refine acl_in Try.func26 rfl isfn_26 (Nat.le_of_ble_eq_true rfl) (fun R hR => ?_); rw [Try.results26] at hR; refine wg_run ?_; (simp only [Try.f26, go_sem])
      repeat' (first | (first | ((first | refine wd_split _ (fun hb => ?_) (fun hb => ?_) | refine wd_nwant _ (fun hb => ?_) (fun hb => ?_) | refine wm_nwant _ (fun hb => ?_) (fun hb => ?_) | refine wd_want _ (fun hb => ?_) (fun hb => ?_) | refine wm_want _ (fun hb => ?_) (fun hb => ?_) | refine wt_nwant _ (fun hb => ?_) (fun hb => ?_) | refine wt_want _ (fun hb => ?_) (fun hb => ?_)) <;> (simp only [go_sem, hb])) | (refine wm_done ?_; (simp only [go_sem])) | (refine wt_done ?_; (simp only [go_sem])) | (refine wg_run ?_; (simp only [go_sem])) | (refine wt_fork (by (simp only [go_sem]); first | done | rfl) ?_ ?_ <;> (simp only [go_sem]))) | (first | refine wd_fn (by (simp only [go_sem]); first | done | rfl) (hv) ?_ | refine wm_fn (by (simp only [go_sem]); first | done | rfl) (hv) (by (simp only [go_sem]); first | done | rfl) (by (simp only [go_sem]); first | done | rfl) ?_ | refine wt_fn (by (simp only [go_sem]); first | done | rfl) (hv) (by (simp only [go_sem]); first | done | rfl) (by (simp only [go_sem]); first | done | rfl) ?_); (simp only [go_sem]) | (first | refine wd_fn (by (simp only [go_sem]); first | done | rfl) (hb) ?_ | refine wm_fn (by (simp only [go_sem]); first | done | rfl) (hb) (by (simp only [go_sem]); first | done | rfl) (by (simp only [go_sem]); first | done | rfl) ?_ | refine wt_fn (by (simp only [go_sem]); first | done | rfl) (hb) (by (simp only [go_sem]); first | done | rfl) (by (simp only [go_sem]); first | done | rfl) ?_); (simp only [go_sem]))
      (refine hR _ (ret_at [] (by (simp only [go_sem]); first | done | rfl) (by (simp only [go_sem]); first | done | rfl) ⟨rfl, rfl⟩))
    · rw [hb2] at hb
      obtain ⟨e, rfl, he⟩ := Tm.castV_E hb1
      simp only [E.okC, Bool.and_eq_true] at he
      have hs := sSafe l hb2 e he.1
      refine fn_in ?_; refine acl_in Try.func26 rfl isfn_26 (Nat.le_of_ble_eq_true rfl) (fun R hR => ?_); rw [Try.results26] at hR; refine wg_run ?_; (simp only [Try.f26, go_sem])
      repeat' (first | (first | ((first | refine wd_split _ (fun hb => ?_) (fun hb => ?_) | refine wd_nwant _ (fun hb => ?_) (fun hb => ?_) | refine wm_nwant _ (fun hb => ?_) (fun hb => ?_) | refine wd_want _ (fun hb => ?_) (fun hb => ?_) | refine wm_want _ (fun hb => ?_) (fun hb => ?_) | refine wt_nwant _ (fun hb => ?_) (fun hb => ?_) | refine wt_want _ (fun hb => ?_) (fun hb => ?_)) <;> (simp only [go_sem, hb])) | (refine wm_done ?_; (simp only [go_sem])) | (refine wt_done ?_; (simp only [go_sem])) | (refine wg_run ?_; (simp only [go_sem])) | (refine wt_fork (by (simp only [go_sem]); first | done | rfl) ?_ ?_ <;> (simp only [go_sem]))) | (first | refine wd_fn (by (simp only [go_sem]); first | done | rfl) (hv) ?_ | refine wm_fn (by (simp only [go_sem]); first | done | rfl) (hv) (by (simp only [go_sem]); first | done | rfl) (by (simp only [go_sem]); first | done | rfl) ?_ | refine wt_fn (by (simp only [go_sem]); first | done | rfl) (hv) (by (simp only [go_sem]); first | done | rfl) (by (simp only [go_sem]); first | done | rfl) ?_); (simp only [go_sem]) | (first | refine wd_fn (by (simp only [go_sem]); first | done | rfl) (hb) ?_ | refine wm_fn (by (simp only [go_sem]); first | done | rfl) (hb) (by (simp only [go_sem]); first | done | rfl) (by (simp only [go_sem]); first | done | rfl) ?_ | refine wt_fn (by (simp only [go_sem]); first | done | rfl) (hb) (by (simp only [go_sem]); first | done | rfl) (by (simp only [go_sem]); first | done | rfl) ?_); (simp only [go_sem]) | (first | refine wd_fn (by (simp only [go_sem]); first | done | rfl) (hs) ?_ | refine wm_fn (by (simp only [go_sem]); first | done | rfl) (hs) (by (simp only [go_sem]); first | done | rfl) (by (simp only [go_sem]); first | done | rfl) ?_ | refine wt_fn (by (simp only [go_sem]); first | done | rfl) (hs) (by (simp only [go_sem]); first | done | rfl) (by (simp only [go_sem]); first | done | rfl) ?_); (simp only [go_sem]))
      (refine hR _ (ret_at [] (by (simp only [go_sem]); first | done | rfl) (by (simp only [go_sem]); first | done | rfl) ⟨?_, rfl⟩))
      rfl
end Go.Proofs.Ytchcbfbnffhifaa
/- Coercions as shadows. -/
namespace Go.Proofs.Sh
open Go.RowKit Go.Proofs.Grad

mutual
def coC : Co → List C
  | .mk x0 x1 x2 x3 => [.sc (.int .i64 (x0)), .sc (.int .i64 (x1)), .sc (.int .i64 (x2)), .sl (coR (x3))]
def coR : List Co → List (List C)
  | [] => []
  | t :: l => coC t :: coR l
end
theorem coC_eq (t : Co) : coC t = [.sc (.int .i64 (t.kind)), .sc (.int .i64 (t.tag)), .sc (.int .i64 (t.label)), .sl (coR (t.kids))] := by cases t; rfl
@[go_sem] theorem coC_length (t : Co) : (coC t).length = 4 := by rw [coC_eq]; rfl
@[go_sem] theorem coC_take (t : Co) : (coC t).take 4 = coC t := by rw [coC_eq]; rfl
@[go_sem] theorem coC_drop (t : Co) : (coC t).drop 0 = coC t := rfl
@[go_sem] theorem coC_dropn (t : Co) : (coC t).drop 4 = [] := by rw [coC_eq]; rfl
@[go_sem] theorem coC_treeL (t : Co) : treeL (coC t) = true := by rw [coC_eq]; rfl
@[go_sem] theorem coC_0 (t : Co) : (coC t)[0]? = some (.sc (.int .i64 (t.kind))) := by rw [coC_eq]; rfl
@[go_sem] theorem coC_1 (t : Co) : (coC t)[1]? = some (.sc (.int .i64 (t.tag))) := by rw [coC_eq]; rfl
@[go_sem] theorem coC_2 (t : Co) : (coC t)[2]? = some (.sc (.int .i64 (t.label))) := by rw [coC_eq]; rfl
@[go_sem] theorem coC_3 (t : Co) : (coC t)[3]? = some (.sl (coR (t.kids))) := by rw [coC_eq]; rfl
@[go_sem] theorem coC_splice0 (t : Co) (x : C) : splice (coC t) 0 [x] = [x, .sc (.int .i64 (t.tag)), .sc (.int .i64 (t.label)), .sl (coR (t.kids))] := by rw [coC_eq]; rfl
@[go_sem] theorem coC_splice1 (t : Co) (x : C) : splice (coC t) 1 [x] = [.sc (.int .i64 (t.kind)), x, .sc (.int .i64 (t.label)), .sl (coR (t.kids))] := by rw [coC_eq]; rfl
@[go_sem] theorem coC_splice2 (t : Co) (x : C) : splice (coC t) 2 [x] = [.sc (.int .i64 (t.kind)), .sc (.int .i64 (t.tag)), x, .sl (coR (t.kids))] := by rw [coC_eq]; rfl
@[go_sem] theorem coC_splice3 (t : Co) (x : C) : splice (coC t) 3 [x] = [.sc (.int .i64 (t.kind)), .sc (.int .i64 (t.tag)), .sc (.int .i64 (t.label)), x] := by rw [coC_eq]; rfl
@[go_sem] theorem coR_length (l : List Co) : (coR l).length = l.length := by
  induction l with
  | nil => rfl
  | cons t l ih => simp [coR, ih]
theorem coR_get (l : List Co) (i : Nat) : (coR l)[i]? = (l[i]?).map coC := by
  induction l generalizing i with
  | nil => simp [coR]
  | cons t l ih => cases i <;> simp [coR, ih]
/-- the k-th one -/
def coKid (l : List Co) (k : Nat) : Co := l.getD k (.mk 0 0 0 [])
theorem coKid_eq {l : List Co} {k : Nat} (h : k < l.length) : coKid l k = l[k] := by simp [coKid, h]
@[go_sem] theorem coR_at (l : List Co) (i : Nat) : (coR l)[i]? = match decide ((i : Int) < (l.length : Int)) with | true => some (coC (coKid l i)) | false => none := by
  rw [coR_get]
  by_cases h : i < l.length
  · have h' : (i : Int) < (l.length : Int) := by omega
    simp [h, h', coKid]
  · have h' : ¬ (i : Int) < (l.length : Int) := by omega
    simp [h, h']
theorem cosizes_mem {t : Co} {l : List Co} (h : t ∈ l) : t.size ≤ Co.sizes l := by
  induction l with
  | nil => simp at h
  | cons x l ih =>
    simp only [Co.sizes]
    rcases List.mem_cons.1 h with rfl | h
    · omega
    · have := ih h; omega
theorem colen_sizes (l : List Co) : l.length ≤ Co.sizes l := by
  induction l with
  | nil => simp [Co.sizes]
  | cons x l ih => cases x; simp only [Co.sizes, Co.size, List.length_cons]; omega
theorem cokids_lt (t : Co) : Co.sizes t.kids < t.size := by cases t; simp only [Co.size, Co.kids]; omega
theorem colen_lt (t : Co) : t.kids.length < t.size := Nat.lt_of_le_of_lt (colen_sizes _) (cokids_lt t)
theorem coKid_lt {t : Co} {k : Nat} (h : k < t.kids.length) : (coKid t.kids k).size < t.size := by
  rw [coKid_eq h]
  exact Nat.lt_of_le_of_lt (cosizes_mem (List.getElem_mem h)) (cokids_lt t)
theorem cotake_kid {l : List Co} {k : Nat} (h : k < l.length) : l.take (k + 1) = l.take k ++ [coKid l k] := by
  rw [coKid_eq h, List.take_succ_eq_append_getElem h]
theorem codrop_kid {l : List Co} {k : Nat} (h : k < l.length) : l.drop k = coKid l k :: l.drop (k + 1) := by
  rw [coKid_eq h, List.drop_eq_getElem_cons h]
theorem coR_append (l m : List Co) : coR (l ++ m) = coR l ++ coR m := by
  induction l with
  | nil => rfl
  | cons t l ih => simp [coR, ih]
theorem coR_take {l : List Co} {k : Nat} (h : k < l.length) : coR (l.take (k + 1)) = coR (l.take k) ++ [coC (coKid l k)] := by
  rw [cotake_kid h, coR_append]; rfl
@[go_sem] theorem coR_tree (l : List Co) : treeRows (coR l) = true := by
  induction l with
  | nil => rfl
  | cons t l ih => simp only [coR, treeRows_cons, coC_treeL, Bool.true_and]; exact ih
@[go_sem] theorem coR_len (l : List Co) : rowsLen 4 (coR l) = true := by
  induction l with
  | nil => rfl
  | cons t l ih => simp only [coR, rowsLen_cons, coC_length, beq_self_eq_true, Bool.true_and]; exact ih
attribute [go_sem] coR
@[go_sem] theorem cokind_mk (x0 : Int) (x1 : Int) (x2 : Int) (x3 : List Co) : (Co.mk x0 x1 x2 x3).kind = x0 := rfl
@[go_sem] theorem cotag_mk (x0 : Int) (x1 : Int) (x2 : Int) (x3 : List Co) : (Co.mk x0 x1 x2 x3).tag = x1 := rfl
@[go_sem] theorem colabel_mk (x0 : Int) (x1 : Int) (x2 : Int) (x3 : List Co) : (Co.mk x0 x1 x2 x3).label = x2 := rfl
@[go_sem] theorem cokids_mk (x0 : Int) (x1 : Int) (x2 : Int) (x3 : List Co) : (Co.mk x0 x1 x2 x3).kids = x3 := rfl
end Go.Proofs.Sh
/- Coercions: equality and search of lists, on shadows. -/
namespace Go.Proofs.Sh
open Go.Proofs.Grad
def coall2 (f : Co → Co → Bool) : List Co → List Co → Bool
  | [], [] => true
  | a :: l, b :: m => f a b && coall2 f l m
  | _, _ => false
theorem coall2_kid {f : Co → Co → Bool} {a b : List Co} {i : Nat} (ha : i < a.length) (hb : i < b.length) : coall2 f (a.drop i) (b.drop i) = (f (coKid a i) (coKid b i) && coall2 f (a.drop (i + 1)) (b.drop (i + 1))) := by
  rw [codrop_kid ha, codrop_kid hb]; rfl
theorem coall2_end {f : Co → Co → Bool} {a b : List Co} {i : Nat} (ha : ¬ i < a.length) (hb : a.length = b.length) : coall2 f (a.drop i) (b.drop i) = true := by
  rw [List.drop_eq_nil_of_le (by omega), List.drop_eq_nil_of_le (by omega)]; rfl
theorem coall2_len {f : Co → Co → Bool} : ∀ {a b : List Co}, a.length ≠ b.length → coall2 f a b = false
  | [], [], h => by simp at h
  | [], _ :: _, _ => rfl
  | _ :: _, [], _ => rfl
  | _ :: a, _ :: b, h => by simp only [coall2]; rw [coall2_len (by simpa using h)]; simp
theorem cosames_all2 : ∀ a b : List Co, Co.sames a b = coall2 Co.same a b
  | [], [] => rfl
  | [], _ :: _ => rfl
  | _ :: _, [] => rfl
  | _ :: a, _ :: b => by simp only [Co.sames, coall2, cosames_all2 a b]
/-- the index of the first one, -1 for none -/
def coidx (p : Co → Bool) : Nat → List Co → Int
  | _, [] => -1
  | k, t :: l => if p t then (k : Nat) else coidx p (k + 1) l
theorem coidx_any (p : Co → Bool) : ∀ (l : List Co) (k : Nat), decide (0 ≤ coidx p k l) = l.any p
  | [], k => by simp [coidx]
  | t :: l, k => by
    simp only [coidx, List.any_cons]
    split
    · rename_i h; simp [h]
    · rename_i h; rw [coidx_any p l (k + 1)]; simp [h]
end Go.Proofs.Sh
namespace Go.Proofs.Ytchcbfbnffhifaa
open Go.RowKit Go.Proofs.Sh Go.Proofs.Grad
set_option maxRecDepth 100000
set_option maxHeartbeats 4000000
end Go.Proofs.Ytchcbfbnffhifaa
