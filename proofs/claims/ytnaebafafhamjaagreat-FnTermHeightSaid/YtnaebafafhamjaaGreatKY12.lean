/- Texts of the proof, one behind another. -/
import Derived.Test.YtnaebafafhamjaaGreatKY8
import Derived.Test.YtnaebafafhamjaaGreatKY9
import Derived.Test.YtnaebafafhamjaaGreatKY10
import Derived.Test.YtnaebafafhamjaaGreatKY11
set_option linter.unusedSimpArgs false
set_option linter.unusedVariables false
/- Coercions: equality and search of lists, on shadows. -/
namespace Go.Proofs.Sh
open Go.Proofs.Grad
/-- the index of the first one, -1 for none -/
def coidx (p : Co → Bool) : Nat → List Co → Int
  | _, [] => -1
  | k, t :: l => if p t then (k : Nat) else coidx p (k + 1) l
theorem coidx_any (p : Co → Bool) : ∀ (l : List Co) (k : Nat), decide (0 ≤ coidx p k l) = l.any p
  | [], k => by simp [coidx]
  | t :: l, k => by
    simp only [coidx, List.any_cons]
    split
    · rename_i h; simp [h]
    · rename_i h; rw [coidx_any p l (k + 1)]; simp [h]
end Go.Proofs.Sh
namespace Go.Proofs.YtnaebafafhamjaaGreat
open Go.RowKit Go.Proofs.Sh Go.Proofs.Grad
set_option maxRecDepth 100000
set_option maxHeartbeats 4000000
theorem coIndexFunc1 (g : FuncId) (d : Int) (p : Co → Bool) (l : List Co) (hl : l.length < 4611686018427387904)
    (hg : ∀ k, k < l.length → ACl Tryz.prog g [.agg (coC (coKid l k)), .one (.ptr 1 0 0 0)] [⟨1, 3, .mut, [[.sc (.int .i64 d)]]⟩] (fun r H' => r = .one (.sc (.bool (p (coKid l k)))) ∧ H' = [⟨1, 3, .mut, [[.sc (.int .i64 d)]]⟩])) :
    ACl Tryz.prog 183 [.one (.sl (coR l)), .one (.fn g [.ptr 1 0 0 0])] [⟨1, 3, .mut, [[.sc (.int .i64 d)]]⟩] (fun r H' => r = .one (.sc (.int .i64 (coidx p 0 l))) ∧ H' = [⟨1, 3, .mut, [[.sc (.int .i64 d)]]⟩]) := by
  refine acl_in Tryz.func183 rfl isfn_183 (Nat.le_of_ble_eq_true rfl) (fun R hR => ?_); rw [Tryz.results183] at hR; refine wg_run ?_; (simp only [Tryz.f183, go_sem])
  refine wd_for [0, 1, 7, 8] (fun k => [.one (.sl (coR l)), .one (.fn g [.ptr 1 0 0 0]), .one (.sc (.int .i64 l.length)), .one (.sc (.int .i64 (k : Nat)))]) (fun k => [⟨1, 3, .mut, [[.sc (.int .i64 d)]]⟩])
      (fun k => k ≤ l.length ∧ coidx p k (l.drop k) = coidx p 0 l) (fun k => l.length - k) 0 ⟨Nat.zero_le _, rfl⟩ (hat [] (hI := ⟨rfl, rfl⟩)) ?_
  rintro k ⟨hk, hs⟩ G hG
  refine wg_run ?_
  (simp only [go_sem])
  ((first | apply sp1 | apply sp2 | apply sp3 | apply sp4 | apply sp5 | apply sp6 | apply sp7) <;> intro hb) <;> (simp only [go_sem, hb])
  · have hk1 : k < l.length := by have := of_decide_eq_true hb; omega
    rw [codrop_kid hk1, coidx] at hs
    have hw1 := wrap_succ hk1 (by omega)
    (first | refine kdq [0] ?_ (hc := hg k hk1) | refine kmq [0] ?_ (hc := hg k hk1) | refine ktq [0] ?_ (hc := hg k hk1)); rintro _ _ ⟨rfl, rfl⟩; (simp only [go_sem])
    repeat' (first | (simp only [go_sem, hw1]) | (((first | apply sp1 | apply sp2 | apply sp3 | apply sp4 | apply sp5 | apply sp6 | apply sp7) <;> intro hb) <;> (simp only [go_sem, hb, hw1])) | ((first | apply wm_done | apply wt_done | apply wg_run | refine fk ?_ ?_) <;> (simp only [go_sem, hw1])))
    · (refine hR _ (rat [] (hK := ⟨?_, ?_⟩)))
      · simpa [hb] using hs
      · rfl
    · exact hG (k + 1) _ _ ⟨by omega, by simpa [hb] using hs⟩ (by omega) (hat [] (hI := ⟨rfl, rfl⟩))
  · have hk1 : ¬ k < l.length := by have := of_decide_eq_false hb; omega
    rw [List.drop_eq_nil_of_le (by omega), coidx] at hs
    (refine hR _ (rat [] (hK := ⟨?_, ?_⟩)))
    · rw [← hs]
    · rfl
theorem coContainsFunc1 (g : FuncId) (d : Int) (p : Co → Bool) (l : List Co) (hl : l.length < 4611686018427387904)
    (hg : ∀ k, k < l.length → ACl Tryz.prog g [.agg (coC (coKid l k)), .one (.ptr 1 0 0 0)] [⟨1, 3, .mut, [[.sc (.int .i64 d)]]⟩] (fun r H' => r = .one (.sc (.bool (p (coKid l k)))) ∧ H' = [⟨1, 3, .mut, [[.sc (.int .i64 d)]]⟩])) :
    ACl Tryz.prog 146 [.one (.sl (coR l)), .one (.fn g [.ptr 1 0 0 0])] [⟨1, 3, .mut, [[.sc (.int .i64 d)]]⟩] (fun r H' => r = .one (.sc (.bool (l.any p))) ∧ H' = [⟨1, 3, .mut, [[.sc (.int .i64 d)]]⟩]) := by
  have hi := coIndexFunc1 g d p l hl hg
  refine acl_in Tryz.func146 rfl isfn_146 (Nat.le_of_ble_eq_true rfl) (fun R hR => ?_); rw [Tryz.results146] at hR; refine wg_run ?_; (simp only [Tryz.f146, go_sem])
  (first | refine kdq [0] ?_ (hc := hi) | refine kmq [0] ?_ (hc := hi) | refine ktq [0] ?_ (hc := hi)); rintro _ _ ⟨rfl, rfl⟩; (simp only [go_sem])
  (refine hR _ (rat [] (hK := ⟨?_, ?_⟩)))
  · rw [← coidx_any p l 0]
  · rfl
end Go.Proofs.YtnaebafafhamjaaGreat
/- Coercions: the program's checks, on shadows. -/
namespace Go.Proofs.Sh
open Go.Proofs.Grad
@[go_sem] theorem kid_kind (g : Int) : (K.id g).co.kind = 1 := rfl
@[go_sem] theorem kid_tag (g : Int) : (K.id g).co.tag = g := rfl
@[go_sem] theorem kid_label (g : Int) : (K.id g).co.label = 0 := rfl
@[go_sem] theorem kid_kids (g : Int) : (K.id g).co.kids = [] := rfl
@[go_sem] theorem kfn_kind (a : K) (b : K) : (K.fn a b).co.kind = 2 := rfl
@[go_sem] theorem kfn_tag (a : K) (b : K) : (K.fn a b).co.tag = 0 := rfl
@[go_sem] theorem kfn_label (a : K) (b : K) : (K.fn a b).co.label = 0 := rfl
@[go_sem] theorem kfn_kids (a : K) (b : K) : (K.fn a b).co.kids = [a.co, b.co] := rfl
@[go_sem] theorem kpr_kind (a : K) (b : K) : (K.pr a b).co.kind = 3 := rfl
@[go_sem] theorem kpr_tag (a : K) (b : K) : (K.pr a b).co.tag = 0 := rfl
@[go_sem] theorem kpr_label (a : K) (b : K) : (K.pr a b).co.label = 0 := rfl
@[go_sem] theorem kpr_kids (a : K) (b : K) : (K.pr a b).co.kids = [a.co, b.co] := rfl
@[go_sem] theorem kinj_kind (c : K) : (K.inj c).co.kind = 4 := rfl
@[go_sem] theorem kinj_tag (c : K) : (K.inj c).co.tag = 0 := rfl
@[go_sem] theorem kinj_label (c : K) : (K.inj c).co.label = 0 := rfl
@[go_sem] theorem kinj_kids (c : K) : (K.inj c).co.kids = [c.co] := rfl
@[go_sem] theorem kprj_kind (l : Int) (c : K) : (K.prj l c).co.kind = 5 := rfl
@[go_sem] theorem kprj_tag (l : Int) (c : K) : (K.prj l c).co.tag = 0 := rfl
@[go_sem] theorem kprj_label (l : Int) (c : K) : (K.prj l c).co.label = l := rfl
@[go_sem] theorem kprj_kids (l : Int) (c : K) : (K.prj l c).co.kids = [c.co] := rfl
@[go_sem] theorem kfail_kind (l : Int) (g : Int) : (K.fail l g).co.kind = 6 := rfl
@[go_sem] theorem kfail_tag (l : Int) (g : Int) : (K.fail l g).co.tag = g := rfl
@[go_sem] theorem kfail_label (l : Int) (g : Int) : (K.fail l g).co.label = l := rfl
@[go_sem] theorem kfail_kids (l : Int) (g : Int) : (K.fail l g).co.kids = [] := rfl
/-- how many operands -/
def coN (k : Int) : Int := if k = 1 then 0 else if k = 2 then 2 else if k = 3 then 2 else if k = 4 then 1 else if k = 5 then 1 else if k = 6 then 0 else -1
@[go_sem] theorem coN_1 : coN 1 = 0 := rfl
@[go_sem] theorem coN_2 : coN 2 = 2 := rfl
@[go_sem] theorem coN_3 : coN 3 = 2 := rfl
@[go_sem] theorem coN_4 : coN 4 = 1 := rfl
@[go_sem] theorem coN_5 : coN 5 = 1 := rfl
@[go_sem] theorem coN_6 : coN 6 = 0 := rfl
end Go.Proofs.Sh
namespace Go.Proofs.YtnaebafafhamjaaGreat
open Go.RowKit Go.Proofs.Sh Go.Proofs.Grad
set_option maxRecDepth 100000
set_option maxHeartbeats 4000000
theorem coOperands (k : Int) : AFn Tryz.prog 143 [.one (.sc (.int .i64 k))] (.one (.sc (.int .i64 (coN k)))) := by
  have hw := within k 1 6
  by_cases h : 1 ≤ k ∧ k ≤ 6
  · obtain rfl | rfl | rfl | rfl | rfl | rfl : k = 1 ∨ k = 2 ∨ k = 3 ∨ k = 4 ∨ k = 5 ∨ k = 6 := by omega
    all_goals
      refine fn_in ?_; refine acl_in Tryz.func143 rfl isfn_143 (Nat.le_of_ble_eq_true rfl) (fun R hR => ?_); rw [Tryz.results143] at hR; refine wg_run ?_; (simp only [Tryz.f143, go_sem])
      repeat' (first | (first | (((first | apply sp1 | apply sp2 | apply sp3 | apply sp4 | apply sp5 | apply sp6 | apply sp7) <;> intro hb) <;> (simp only [go_sem, hb])) | ((first | apply wm_done | apply wt_done | apply wg_run | refine fk ?_ ?_) <;> (simp only [go_sem]))) | (first | refine cdq ?_ (hc := hw) | refine cmq ?_ (hc := hw) | refine ctq ?_ (hc := hw)); (simp only [go_sem]))
      (refine hR _ (rat [] (hK := ⟨?_, rfl⟩)))
      rfl
  · have hf : (decide (1 ≤ k) && decide (k ≤ 6)) = false := by simp; omega
    rw [hf] at hw
    refine fn_in ?_; refine acl_in Tryz.func143 rfl isfn_143 (Nat.le_of_ble_eq_true rfl) (fun R hR => ?_); rw [Tryz.results143] at hR; refine wg_run ?_; (simp only [Tryz.f143, go_sem])
    repeat' (first | (first | (((first | apply sp1 | apply sp2 | apply sp3 | apply sp4 | apply sp5 | apply sp6 | apply sp7) <;> intro hb) <;> (simp only [go_sem, hb])) | ((first | apply wm_done | apply wt_done | apply wg_run | refine fk ?_ ?_) <;> (simp only [go_sem]))) | (first | refine cdq ?_ (hc := hw) | refine cmq ?_ (hc := hw) | refine ctq ?_ (hc := hw)); (simp only [go_sem]))
    (refine hR _ (rat [] (hK := ⟨?_, rfl⟩)))
    have : coN k = -1 := by unfold coN; repeat' (first | rw [if_neg (by omega)]); 
    rw [this]
theorem coPlain (c : Co) : AFn Tryz.prog 144 [.agg (coC c)] (.one (.sc (.bool c.plain))) := by
  refine fn_in ?_; refine acl_in Tryz.func144 rfl isfn_144 (Nat.le_of_ble_eq_true rfl) (fun R hR => ?_); rw [Tryz.results144] at hR; refine wg_run ?_; (simp only [Tryz.f144, go_sem])
  repeat' (first | (((first | apply sp1 | apply sp2 | apply sp3 | apply sp4 | apply sp5 | apply sp6 | apply sp7) <;> intro hb) <;> (simp only [go_sem, hb])) | ((first | apply wm_done | apply wt_done | apply wg_run | refine fk ?_ ?_) <;> (simp only [go_sem])))
  all_goals (refine hR _ (rat [] (hK := ⟨?_, rfl⟩)))
  all_goals simp_all [Co.plain]
theorem coAny (c : Co) : AFn Tryz.prog 145 [.agg (coC c)] (.one (.sc (.bool (c.kind == 1 && c.tag == 1)))) := by
  refine fn_in ?_; refine acl_in Tryz.func145 rfl isfn_145 (Nat.le_of_ble_eq_true rfl) (fun R hR => ?_); rw [Tryz.results145] at hR; refine wg_run ?_; (simp only [Tryz.f145, go_sem])
  repeat' (first | (((first | apply sp1 | apply sp2 | apply sp3 | apply sp4 | apply sp5 | apply sp6 | apply sp7) <;> intro hb) <;> (simp only [go_sem, hb])) | ((first | apply wm_done | apply wt_done | apply wg_run | refine fk ?_ ?_) <;> (simp only [go_sem])))
  all_goals (refine hR _ (rat [] (hK := ⟨?_, rfl⟩)))
  all_goals simp_all
theorem co_cases (k : Int) : k = 1 ∨ k = 2 ∨ k = 3 ∨ k = 4 ∨ k = 5 ∨ k = 6 ∨ (coN k = -1 ∧ ∀ t l ks, (Co.mk k t l ks).okN = false) := by
  by_cases h : 1 ≤ k ∧ k ≤ 6
  · omega
  · right; right; right; right; right; right
    constructor
    · unfold coN; repeat' (first | rw [if_neg (by omega)])
    · intro t l ks
      unfold Co.okN
      simp only []
      repeat' (first | rw [if_neg (by omega)])
theorem okN_len {k t l : Int} {ks : List Co} (h : coN k ≠ (ks.length : Int)) : (Co.mk k t l ks).okN = false := by
  rcases co_cases k with rfl | rfl | rfl | rfl | rfl | rfl | ⟨_, h⟩
  · simp only [coN_1] at h; simp [Co.okN]; intro h'; subst h'; simp at h
  · simp only [coN_2] at h; simp [Co.okN]; intro h'; omega
  · simp only [coN_3] at h; simp [Co.okN]; intro h'; omega
  · simp only [coN_4] at h; simp only [Co.okN]; match ks, h with | [], _ => rfl | [_], h => simp at h | _ :: _ :: _, _ => rfl
  · simp only [coN_5] at h; simp only [Co.okN]; match ks, h with | [], _ => rfl | [_], h => simp at h | _ :: _ :: _, _ => rfl
  · simp only [coN_6] at h; simp [Co.okN]; intro h'; subst h'; simp at h
  · exact h t l ks
theorem coScan (m : Nat) (hm : m ≤ 9) : ∀ c : Co, AFn Tryz.prog 96 [.agg (coC c), .one (.sc (.int .i64 (10 - (m : Int))))] (.one (.sc (.bool (c.shape m)))) := by
  induction m with
  | zero =>
    intro c
    refine fn_in ?_; refine acl_in Tryz.func96 rfl isfn_96 (Nat.le_of_ble_eq_true rfl) (fun R hR => ?_); rw [Tryz.results96] at hR; refine wg_run ?_; (simp only [Tryz.f96, go_sem])
    repeat' (first | (first | (((first | apply sp1 | apply sp2 | apply sp3 | apply sp4 | apply sp5 | apply sp6 | apply sp7) <;> intro hb) <;> (simp only [go_sem, hb])) | ((first | apply wm_done | apply wt_done | apply wg_run | refine fk ?_ ?_) <;> (simp only [go_sem]))) | ((first | refine mxq6 [] ?_ | refine mxq5 [] ?_ | refine mxq4 [] ?_ | refine mxq3 [] ?_ | refine mxq2 [] ?_ | refine mxq1 [] ?_ | refine mxq0 [] ?_ | fail); (simp only [go_sem])))
    all_goals (refine hR _ (rat [] (hK := ⟨?_, rfl⟩)))
    all_goals rfl
  | succ m ih =>
    intro c
    have hd : decide (10 - ((m + 1 : Nat) : Int) > 9) = false := by simp; omega
    have hw : IntKind.i64.wrap (10 - ((m + 1 : Nat) : Int) + 1) = 10 - (m : Int) := by rw [IntWalk.i64_in _ (by omega)]; omega
    have hcc : ∀ l : List Co, l.length < 4611686018427387904 → ACl Tryz.prog 146 [.one (.sl (coR l)), .one (.fn 147 [.ptr 1 0 0 0])] [⟨1, 3, .mut, [[.sc (.int .i64 (10 - ((m + 1 : Nat) : Int)))]]⟩] (fun r H' => r = .one (.sc (.bool (l.any (fun x => !x.shape m)))) ∧ H' = [⟨1, 3, .mut, [[.sc (.int .i64 (10 - ((m + 1 : Nat) : Int)))]]⟩]) := by
      intro l hl
      refine coContainsFunc1 _ _ (fun x => !x.shape m) _ (by omega) ?_
      intro k hk
      refine acl_in Tryz.func147 rfl isfn_147 (Nat.le_of_ble_eq_true rfl) (fun R hR => ?_); rw [Tryz.results147] at hR; refine wg_run ?_; (simp only [Tryz.f147, go_sem])
      (simp only [go_sem, hw])
      (first | refine cdq ?_ (hc := ih (by omega) _) | refine cmq ?_ (hc := ih (by omega) _) | refine ctq ?_ (hc := ih (by omega) _)); (simp only [go_sem])
      (refine hR _ (rat [] (hK := ⟨?_, ?_⟩)))
      · rfl
      · rfl
    clear ih
    obtain ⟨k, t, l, ks⟩ := c
    have hco := coOperands k
    by_cases hlen : coN k = (ks.length : Int)
    · rcases co_cases k with rfl | rfl | rfl | rfl | rfl | rfl | ⟨h, _⟩
      · obtain rfl : ks = [] := List.eq_nil_of_length_eq_zero (by rw [coN_1] at hlen; omega)
        have hc := hcc [] (by decide)
        refine fn_in ?_; refine acl_in Tryz.func96 rfl isfn_96 (Nat.le_of_ble_eq_true rfl) (fun R hR => ?_); rw [Tryz.results96] at hR; refine wg_run ?_; (simp only [Tryz.f96, go_sem])
        repeat' (first | (first | (simp only [go_sem, hd]) | (((first | apply sp1 | apply sp2 | apply sp3 | apply sp4 | apply sp5 | apply sp6 | apply sp7) <;> intro hb) <;> (simp only [go_sem, hb, hd])) | ((first | apply wm_done | apply wt_done | apply wg_run | refine fk ?_ ?_) <;> (simp only [go_sem, hd]))) | ((first | refine mxq6 [] ?_ | refine mxq5 [] ?_ | refine mxq4 [] ?_ | refine mxq3 [] ?_ | refine mxq2 [] ?_ | refine mxq1 [] ?_ | refine mxq0 [] ?_ | fail); (simp only [go_sem, hd])) | (first | refine cdq ?_ (hc := hco) | refine cmq ?_ (hc := hco) | refine ctq ?_ (hc := hco)); (simp only [go_sem]) | (first | refine cdq ?_ (hc := within _ _ _) | refine cmq ?_ (hc := within _ _ _) | refine ctq ?_ (hc := within _ _ _)); (simp only [go_sem]) | (first | refine cdq ?_ (hc := isLabel _) | refine cmq ?_ (hc := isLabel _) | refine ctq ?_ (hc := isLabel _)); (simp only [go_sem]) | (first | refine kdq [1] ?_ (hc := hc) | refine kmq [1] ?_ (hc := hc) | refine ktq [1] ?_ (hc := hc)); rintro _ _ ⟨rfl, rfl⟩; (simp only [go_sem]))
        all_goals (refine hR _ (rat [] (hK := ⟨?_, rfl⟩)))
        all_goals clear hR hco hc hcc hd hw
        all_goals simp_all [Co.shape, Co.okN, Co.kids]
        all_goals (try grind)
      · obtain ⟨a, b, rfl⟩ : ∃ a b, ks = [a, b] := by
          simp only [coN_2] at hlen
          match ks, hlen with
          | [a, b], _ => exact ⟨a, b, rfl⟩
          | [], h => simp at h
          | [_], h => simp at h
          | _ :: _ :: _ :: _, h => simp at h; omega
        have hc := hcc [a, b] (by simp)
        refine fn_in ?_; refine acl_in Tryz.func96 rfl isfn_96 (Nat.le_of_ble_eq_true rfl) (fun R hR => ?_); rw [Tryz.results96] at hR; refine wg_run ?_; (simp only [Tryz.f96, go_sem])
        repeat' (first | (first | (simp only [go_sem, hd]) | (((first | apply sp1 | apply sp2 | apply sp3 | apply sp4 | apply sp5 | apply sp6 | apply sp7) <;> intro hb) <;> (simp only [go_sem, hb, hd])) | ((first | apply wm_done | apply wt_done | apply wg_run | refine fk ?_ ?_) <;> (simp only [go_sem, hd]))) | ((first | refine mxq6 [] ?_ | refine mxq5 [] ?_ | refine mxq4 [] ?_ | refine mxq3 [] ?_ | refine mxq2 [] ?_ | refine mxq1 [] ?_ | refine mxq0 [] ?_ | fail); (simp only [go_sem, hd])) | (first | refine cdq ?_ (hc := hco) | refine cmq ?_ (hc := hco) | refine ctq ?_ (hc := hco)); (simp only [go_sem]) | (first | refine cdq ?_ (hc := within _ _ _) | refine cmq ?_ (hc := within _ _ _) | refine ctq ?_ (hc := within _ _ _)); (simp only [go_sem]) | (first | refine cdq ?_ (hc := isLabel _) | refine cmq ?_ (hc := isLabel _) | refine ctq ?_ (hc := isLabel _)); (simp only [go_sem]) | (first | refine kdq [1] ?_ (hc := hc) | refine kmq [1] ?_ (hc := hc) | refine ktq [1] ?_ (hc := hc)); rintro _ _ ⟨rfl, rfl⟩; (simp only [go_sem]))
        all_goals (refine hR _ (rat [] (hK := ⟨?_, rfl⟩)))
        all_goals clear hR hco hc hcc hd hw
        all_goals simp_all [Co.shape, Co.okN, Co.kids]
        all_goals (try grind)
      · obtain ⟨a, b, rfl⟩ : ∃ a b, ks = [a, b] := by
          simp only [coN_3] at hlen
          match ks, hlen with
          | [a, b], _ => exact ⟨a, b, rfl⟩
          | [], h => simp at h
          | [_], h => simp at h
          | _ :: _ :: _ :: _, h => simp at h; omega
        have hc := hcc [a, b] (by simp)
        refine fn_in ?_; refine acl_in Tryz.func96 rfl isfn_96 (Nat.le_of_ble_eq_true rfl) (fun R hR => ?_); rw [Tryz.results96] at hR; refine wg_run ?_; (simp only [Tryz.f96, go_sem])
        repeat' (first | (first | (simp only [go_sem, hd]) | (((first | apply sp1 | apply sp2 | apply sp3 | apply sp4 | apply sp5 | apply sp6 | apply sp7) <;> intro hb) <;> (simp only [go_sem, hb, hd])) | ((first | apply wm_done | apply wt_done | apply wg_run | refine fk ?_ ?_) <;> (simp only [go_sem, hd]))) | ((first | refine mxq6 [] ?_ | refine mxq5 [] ?_ | refine mxq4 [] ?_ | refine mxq3 [] ?_ | refine mxq2 [] ?_ | refine mxq1 [] ?_ | refine mxq0 [] ?_ | fail); (simp only [go_sem, hd])) | (first | refine cdq ?_ (hc := hco) | refine cmq ?_ (hc := hco) | refine ctq ?_ (hc := hco)); (simp only [go_sem]) | (first | refine cdq ?_ (hc := within _ _ _) | refine cmq ?_ (hc := within _ _ _) | refine ctq ?_ (hc := within _ _ _)); (simp only [go_sem]) | (first | refine cdq ?_ (hc := isLabel _) | refine cmq ?_ (hc := isLabel _) | refine ctq ?_ (hc := isLabel _)); (simp only [go_sem]) | (first | refine kdq [1] ?_ (hc := hc) | refine kmq [1] ?_ (hc := hc) | refine ktq [1] ?_ (hc := hc)); rintro _ _ ⟨rfl, rfl⟩; (simp only [go_sem]))
        all_goals (refine hR _ (rat [] (hK := ⟨?_, rfl⟩)))
        all_goals clear hR hco hc hcc hd hw
        all_goals simp_all [Co.shape, Co.okN, Co.kids]
        all_goals (try grind)
      · obtain ⟨a, rfl⟩ : ∃ a, ks = [a] := by
          simp only [coN_4] at hlen
          match ks, hlen with
          | [a], _ => exact ⟨a, rfl⟩
          | [], h => simp at h
          | _ :: _ :: _, h => simp at h; omega
        have hc := hcc [a] (by simp)
        refine fn_in ?_; refine acl_in Tryz.func96 rfl isfn_96 (Nat.le_of_ble_eq_true rfl) (fun R hR => ?_); rw [Tryz.results96] at hR; refine wg_run ?_; (simp only [Tryz.f96, go_sem])
        repeat' (first | (first | (simp only [go_sem, hd]) | (((first | apply sp1 | apply sp2 | apply sp3 | apply sp4 | apply sp5 | apply sp6 | apply sp7) <;> intro hb) <;> (simp only [go_sem, hb, hd])) | ((first | apply wm_done | apply wt_done | apply wg_run | refine fk ?_ ?_) <;> (simp only [go_sem, hd]))) | ((first | refine mxq6 [] ?_ | refine mxq5 [] ?_ | refine mxq4 [] ?_ | refine mxq3 [] ?_ | refine mxq2 [] ?_ | refine mxq1 [] ?_ | refine mxq0 [] ?_ | fail); (simp only [go_sem, hd])) | (first | refine cdq ?_ (hc := hco) | refine cmq ?_ (hc := hco) | refine ctq ?_ (hc := hco)); (simp only [go_sem]) | (first | refine cdq ?_ (hc := within _ _ _) | refine cmq ?_ (hc := within _ _ _) | refine ctq ?_ (hc := within _ _ _)); (simp only [go_sem]) | (first | refine cdq ?_ (hc := isLabel _) | refine cmq ?_ (hc := isLabel _) | refine ctq ?_ (hc := isLabel _)); (simp only [go_sem]) | (first | refine cdq ?_ (hc := coPlain _) | refine cmq ?_ (hc := coPlain _) | refine ctq ?_ (hc := coPlain _)); (simp only [go_sem]) | (first | refine cdq ?_ (hc := coAny _) | refine cmq ?_ (hc := coAny _) | refine ctq ?_ (hc := coAny _)); (simp only [go_sem]) | (first | refine kdq [1] ?_ (hc := hc) | refine kmq [1] ?_ (hc := hc) | refine ktq [1] ?_ (hc := hc)); rintro _ _ ⟨rfl, rfl⟩; (simp only [go_sem]))
        all_goals (refine hR _ (rat [] (hK := ⟨?_, rfl⟩)))
        all_goals clear hR hco hc hcc hd hw
        all_goals simp_all [Co.shape, Co.okN, Co.kids]
        all_goals (try grind)
      · obtain ⟨a, rfl⟩ : ∃ a, ks = [a] := by
          simp only [coN_5] at hlen
          match ks, hlen with
          | [a], _ => exact ⟨a, rfl⟩
          | [], h => simp at h
          | _ :: _ :: _, h => simp at h; omega
        have hc := hcc [a] (by simp)
        refine fn_in ?_; refine acl_in Tryz.func96 rfl isfn_96 (Nat.le_of_ble_eq_true rfl) (fun R hR => ?_); rw [Tryz.results96] at hR; refine wg_run ?_; (simp only [Tryz.f96, go_sem])
        repeat' (first | (first | (simp only [go_sem, hd]) | (((first | apply sp1 | apply sp2 | apply sp3 | apply sp4 | apply sp5 | apply sp6 | apply sp7) <;> intro hb) <;> (simp only [go_sem, hb, hd])) | ((first | apply wm_done | apply wt_done | apply wg_run | refine fk ?_ ?_) <;> (simp only [go_sem, hd]))) | ((first | refine mxq6 [] ?_ | refine mxq5 [] ?_ | refine mxq4 [] ?_ | refine mxq3 [] ?_ | refine mxq2 [] ?_ | refine mxq1 [] ?_ | refine mxq0 [] ?_ | fail); (simp only [go_sem, hd])) | (first | refine cdq ?_ (hc := hco) | refine cmq ?_ (hc := hco) | refine ctq ?_ (hc := hco)); (simp only [go_sem]) | (first | refine cdq ?_ (hc := within _ _ _) | refine cmq ?_ (hc := within _ _ _) | refine ctq ?_ (hc := within _ _ _)); (simp only [go_sem]) | (first | refine cdq ?_ (hc := isLabel _) | refine cmq ?_ (hc := isLabel _) | refine ctq ?_ (hc := isLabel _)); (simp only [go_sem]) | (first | refine cdq ?_ (hc := coPlain _) | refine cmq ?_ (hc := coPlain _) | refine ctq ?_ (hc := coPlain _)); (simp only [go_sem]) | (first | refine cdq ?_ (hc := coAny _) | refine cmq ?_ (hc := coAny _) | refine ctq ?_ (hc := coAny _)); (simp only [go_sem]) | (first | refine kdq [1] ?_ (hc := hc) | refine kmq [1] ?_ (hc := hc) | refine ktq [1] ?_ (hc := hc)); rintro _ _ ⟨rfl, rfl⟩; (simp only [go_sem]))
        all_goals (refine hR _ (rat [] (hK := ⟨?_, rfl⟩)))
        all_goals clear hR hco hc hcc hd hw
        all_goals simp_all [Co.shape, Co.okN, Co.kids]
        all_goals (try grind)
      · obtain rfl : ks = [] := List.eq_nil_of_length_eq_zero (by rw [coN_6] at hlen; omega)
        have hc := hcc [] (by decide)
        refine fn_in ?_; refine acl_in Tryz.func96 rfl isfn_96 (Nat.le_of_ble_eq_true rfl) (fun R hR => ?_); rw [Tryz.results96] at hR; refine wg_run ?_; (simp only [Tryz.f96, go_sem])
        repeat' (first | (first | (simp only [go_sem, hd]) | (((first | apply sp1 | apply sp2 | apply sp3 | apply sp4 | apply sp5 | apply sp6 | apply sp7) <;> intro hb) <;> (simp only [go_sem, hb, hd])) | ((first | apply wm_done | apply wt_done | apply wg_run | refine fk ?_ ?_) <;> (simp only [go_sem, hd]))) | ((first | refine mxq6 [] ?_ | refine mxq5 [] ?_ | refine mxq4 [] ?_ | refine mxq3 [] ?_ | refine mxq2 [] ?_ | refine mxq1 [] ?_ | refine mxq0 [] ?_ | fail); (simp only [go_sem, hd])) | (first | refine cdq ?_ (hc := hco) | refine cmq ?_ (hc := hco) | refine ctq ?_ (hc := hco)); (simp only [go_sem]) | (first | refine cdq ?_ (hc := within _ _ _) | refine cmq ?_ (hc := within _ _ _) | refine ctq ?_ (hc := within _ _ _)); (simp only [go_sem]) | (first | refine cdq ?_ (hc := isLabel _) | refine cmq ?_ (hc := isLabel _) | refine ctq ?_ (hc := isLabel _)); (simp only [go_sem]) | (first | refine kdq [1] ?_ (hc := hc) | refine kmq [1] ?_ (hc := hc) | refine ktq [1] ?_ (hc := hc)); rintro _ _ ⟨rfl, rfl⟩; (simp only [go_sem]))
        all_goals (refine hR _ (rat [] (hK := ⟨?_, rfl⟩)))
        all_goals clear hR hco hc hcc hd hw
        all_goals simp_all [Co.shape, Co.okN, Co.kids]
        all_goals (try grind)
      · rw [h] at hlen; omega
    · have hn : (coN k != (ks.length : Int)) = true := by simp [hlen]
      have hs : (Co.mk k t l ks).shape (m + 1) = false := by simp only [Co.shape, okN_len hlen, Bool.false_and]
      rw [hs]
      refine fn_in ?_; refine acl_in Tryz.func96 rfl isfn_96 (Nat.le_of_ble_eq_true rfl) (fun R hR => ?_); rw [Tryz.results96] at hR; refine wg_run ?_; (simp only [Tryz.f96, go_sem])
      repeat' (first | (first | (simp only [go_sem, hd, hn]) | (((first | apply sp1 | apply sp2 | apply sp3 | apply sp4 | apply sp5 | apply sp6 | apply sp7) <;> intro hb) <;> (simp only [go_sem, hb, hd, hn])) | ((first | apply wm_done | apply wt_done | apply wg_run | refine fk ?_ ?_) <;> (simp only [go_sem, hd, hn]))) | ((first | refine mxq6 [] ?_ | refine mxq5 [] ?_ | refine mxq4 [] ?_ | refine mxq3 [] ?_ | refine mxq2 [] ?_ | refine mxq1 [] ?_ | refine mxq0 [] ?_ | fail); (simp only [go_sem, hd])) | (first | refine cdq ?_ (hc := hco) | refine cmq ?_ (hc := hco) | refine ctq ?_ (hc := hco)); (simp only [go_sem]))
      (refine hR _ (rat [] (hK := ⟨rfl, rfl⟩)))
theorem coValid (c : Co) : AFn Tryz.prog 63 [.agg (coC c)] (.one (.sc (.bool c.valid))) := by
  refine fn_in ?_; refine acl_in Tryz.func63 rfl isfn_63 (Nat.le_of_ble_eq_true rfl) (fun R hR => ?_); rw [Tryz.results63] at hR; refine wg_run ?_; (simp only [Tryz.f63, go_sem])
  (first | refine cdq ?_ (hc := coScan 9 (by omega) _) | refine cmq ?_ (hc := coScan 9 (by omega) _) | refine ctq ?_ (hc := coScan 9 (by omega) _)); (simp only [go_sem])
  (refine hR _ (rat [] (hK := ⟨?_, rfl⟩)))
  rfl
end Go.Proofs.YtnaebafafhamjaaGreat
/- Casts as coercions. No program, no world. -/
namespace Go.Proofs.Grad
def castM (a b : T) : Nat := 2 * (a.size + b.size) + (match a, b with | .any, .any => 0 | .any, _ => 5 | _, .any => 5 | _, _ => 0)
/-- the coercion of a cast between types -/
def T.cast (a b : T) (l : Int) : K :=
  match a, b with
  | .any, .any => .id 1
  | .int, .any => .inj (.id 2)
  | .bool, .any => .inj (.id 3)
  | .fn a1 a2, .any => .inj (.fn (T.cast .any a1 (-l)) (T.cast a2 .any l))
  | .pr a1 a2, .any => .inj (.pr (T.cast a1 .any l) (T.cast a2 .any l))
  | .any, .int => .prj l (.id 2)
  | .any, .bool => .prj l (.id 3)
  | .any, .fn b1 b2 => .prj l (.fn (T.cast b1 .any (-l)) (T.cast .any b2 l))
  | .any, .pr b1 b2 => .prj l (.pr (T.cast .any b1 l) (T.cast .any b2 l))
  | .fn a1 a2, .fn b1 b2 => .fn (T.cast b1 a1 (-l)) (T.cast a2 b2 l)
  | .pr a1 a2, .pr b1 b2 => .pr (T.cast a1 b1 l) (T.cast a2 b2 l)
  | .int, _ => .id 2
  | .bool, _ => .id 3
  | _, _ => .id 1
termination_by a.size + b.size
decreasing_by all_goals (simp only [T.size]; omega)
theorem T.cons_any (a : T) : a.cons .any = true := by cases a <;> rfl
theorem lab_neg {l : Int} (h : lab l = true) : lab (-l) = true := by
  simp [lab] at *; omega
theorem T.cast_wf (a b : T) (l : Int) (hl : lab l = true) : (T.cast a b l).wf = true := by
  fun_induction T.cast a b l <;> simp_all [K.wf, K.plain, K.isPrj, K.isAny, lab_neg]
theorem T.cast_size (a b : T) (l : Int) : (T.cast a b l).size + 2 ≤ 2 * (a.size + b.size) := by
  have := T.size_pos a; have := T.size_pos b
  fun_induction T.cast a b l <;> simp_all [K.size, T.size, T.size_pos] <;> (try omega)
  all_goals grind [T.size_pos]
theorem T.depth_pos (a : T) : 1 ≤ a.depth := by cases a <;> simp [T.depth]
theorem T.cast_depth (a b : T) (l : Int) : (T.cast a b l).depth ≤ 2 * max a.depth b.depth := by
  fun_induction T.cast a b l <;> simp only [K.depth, T.depth] at * <;> (try omega)
  all_goals grind [T.depth_pos]
end Go.Proofs.Grad
/- Laws of composition. No program, no world. -/
namespace Go.Proofs.Grad
end Go.Proofs.Grad
/- Coercions: composition in the program, on shadows. -/
namespace Go.Proofs.Grad
end Go.Proofs.Grad
namespace Go.Proofs.Sh
open Go.Proofs.Grad
end Go.Proofs.Sh
namespace Go.Proofs.YtnaebafafhamjaaGreat
open Go.RowKit Go.Proofs.Sh Go.Proofs.Grad
set_option maxRecDepth 100000
set_option maxHeartbeats 4000000
end Go.Proofs.YtnaebafafhamjaaGreat
/- Coercions: copies; composition in the program, behind validity. On shadows. -/
namespace Go.Proofs.Grad
theorem K.size_depth (k : K) (d : Nat) (h : k.depth ≤ d) : k.size < 2 ^ d := by
  induction k generalizing d with
  | id g => simp only [K.depth, K.size] at *; exact Nat.one_lt_two_pow (by omega)
  | fail l g => simp only [K.depth, K.size] at *; exact Nat.one_lt_two_pow (by omega)
  | fn a b iha ihb | pr a b iha ihb =>
    simp only [K.depth, K.size] at *
    obtain ⟨d, rfl⟩ : ∃ e, d = e + 1 := ⟨d - 1, by omega⟩
    have := iha d (by omega); have := ihb d (by omega)
    rw [Nat.pow_succ]; omega
  | inj a ih =>
    simp only [K.depth, K.size] at *
    obtain ⟨d, rfl⟩ : ∃ e, d = e + 1 := ⟨d - 1, by omega⟩
    have := ih d (by omega)
    rw [Nat.pow_succ]; omega
  | prj l a ih =>
    simp only [K.depth, K.size] at *
    obtain ⟨d, rfl⟩ : ∃ e, d = e + 1 := ⟨d - 1, by omega⟩
    have := ih d (by omega)
    rw [Nat.pow_succ]; omega
theorem K.co_inj : ∀ a b : K, a.co = b.co → a = b := by
  intro a
  induction a with
  | id g => intro b h; cases b <;> simp [K.co] at h; rw [h]
  | fail l g => intro b h; cases b <;> simp [K.co] at h; rw [h.1, h.2]
  | fn x y ihx ihy => intro b h; cases b <;> simp [K.co] at h; rw [ihx _ h.1, ihy _ h.2]
  | pr x y ihx ihy => intro b h; cases b <;> simp [K.co] at h; rw [ihx _ h.1, ihy _ h.2]
  | inj x ih => intro b h; cases b <;> simp [K.co] at h; rw [ih _ h]
  | prj l x ih => intro b h; cases b <;> simp [K.co] at h; rw [h.1, ih _ h.2]
/-- no coercion -/
def Co.zero : Co := .mk 0 0 0 []
/-- a valid one, or none -/
def K.ok (k : K) : Bool := k.wf && decide (k.depth ≤ 9)
theorem K.ok_valid (k : K) : k.co.valid = k.ok := K.shape_co k 9
def K.coO : Option K → Co
  | some k => k.co
  | none => Co.zero
end Go.Proofs.Grad
namespace Go.Proofs.YtnaebafafhamjaaGreat
open Go.RowKit Go.Proofs.Sh Go.Proofs.Grad
set_option maxRecDepth 100000
set_option maxHeartbeats 4000000
end Go.Proofs.YtnaebafafhamjaaGreat
/- Coercions: the reference's checks, on shadows. -/
namespace Go.Proofs.YtnaebafafhamjaaGreat
open Go.RowKit Go.Proofs.Sh Go.Proofs.Grad
set_option maxRecDepth 100000
set_option maxHeartbeats 4000000
end Go.Proofs.YtnaebafafhamjaaGreat
/- Coercions: copies and composition in the reference, on shadows. -/
namespace Go.Proofs.YtnaebafafhamjaaGreat
open Go.RowKit Go.Proofs.Sh Go.Proofs.Grad
set_option maxRecDepth 100000
set_option maxHeartbeats 4000000
theorem l6Id (g : Int) : AFn Tryz.prog 138 [.one (.sc (.int .i64 g))] (.agg (coC (K.id g).co)) := by
  refine fn_in ?_; refine acl_in Tryz.func138 rfl isfn_138 (Nat.le_of_ble_eq_true rfl) (fun R hR => ?_); rw [Tryz.results138] at hR; refine wg_run ?_; (simp only [Tryz.f138, go_sem])
  (refine hR _ (rat [] (hK := ⟨rfl, rfl⟩)))
end Go.Proofs.YtnaebafafhamjaaGreat
/- Coercions: composition in the reference, on shadows. -/
namespace Go.Proofs.Grad
def K.base : K → Bool
  | .id _ => true | .fn _ _ => true | .pr _ _ => true | .prj _ _ => true | _ => false
end Go.Proofs.Grad
namespace Go.Proofs.YtnaebafafhamjaaGreat
open Go.RowKit Go.Proofs.Sh Go.Proofs.Grad
set_option maxRecDepth 100000
set_option maxHeartbeats 4000000
end Go.Proofs.YtnaebafafhamjaaGreat
/- Coercions: composition in the reference, whole. On shadows. -/
namespace Go.Proofs.YtnaebafafhamjaaGreat
open Go.RowKit Go.Proofs.Sh Go.Proofs.Grad
set_option maxRecDepth 100000
set_option maxHeartbeats 8000000
end Go.Proofs.YtnaebafafhamjaaGreat
/- Casts as coercions, in the program and in the reference. On shadows. -/
namespace Go.Proofs.Grad
theorem lab_wrap {l : Int} (h : lab l = true) : -99 ≤ l ∧ l ≤ 99 := by simp [lab] at h; omega
end Go.Proofs.Grad
namespace Go.Proofs.YtnaebafafhamjaaGreat
open Go.RowKit Go.Proofs.Sh Go.Proofs.Grad
set_option maxRecDepth 100000
set_option maxHeartbeats 8000000
theorem iCoerce (n : Nat) : ∀ (a b : T) (l : Int), castM a b < n → a.cons b = true → -99 ≤ l ∧ l ≤ 99 → AFn Tryz.prog 62 [.agg (tyC a.ty), .agg (tyC b.ty), .one (.sc (.int .i64 l))] (.agg (coC (T.cast a b l).co)) := by
  induction n with
  | zero => intro a b l h; omega
  | succ n ih =>
    intro a b l h hc hl
    have hw : IntKind.i64.wrap (0 - l) = -l := by rw [IntWalk.i64_in _ (by omega)]; omega
    rcases a with _ | _ | _ | ⟨a1, a2⟩ | ⟨a1, a2⟩ <;> rcases b with _ | _ | _ | ⟨b1, b2⟩ | ⟨b1, b2⟩
    all_goals simp only [T.cons, Bool.false_eq_true, Bool.and_eq_true] at hc
    all_goals
      ((try have p1 := T.size_pos a1); (try have p2 := T.size_pos a2); (try have p3 := T.size_pos b1); (try have p4 := T.size_pos b2))
      simp only [castM, T.size] at h
      refine fn_in ?_; refine acl_in Tryz.func62 rfl isfn_62 (Nat.le_of_ble_eq_true rfl) (fun R hR => ?_); rw [Tryz.results62] at hR; refine wg_run ?_; (simp only [Tryz.f62, go_sem])
      repeat' (first | (first | (simp only [go_sem, hw]) | (((first | apply sp1 | apply sp2 | apply sp3 | apply sp4 | apply sp5 | apply sp6 | apply sp7) <;> intro hb) <;> (simp only [go_sem, hb, hw])) | ((first | apply wm_done | apply wt_done | apply wg_run | refine fk ?_ ?_) <;> (simp only [go_sem, hw]))) | (first | fail) | ((first | refine mxq6 [] ?_ | refine mxq5 [] ?_ | refine mxq4 [] ?_ | refine mxq3 [] ?_ | refine mxq2 [] ?_ | refine mxq1 [] ?_ | refine mxq0 [] ?_ | fail); (simp only [go_sem])) | (first | refine cdq ?_ (hc := iGround T.int) | refine cmq ?_ (hc := iGround T.int) | refine ctq ?_ (hc := iGround T.int)); (simp only [go_sem]) | (first | refine cdq ?_ (hc := iGround T.bool) | refine cmq ?_ (hc := iGround T.bool) | refine ctq ?_ (hc := iGround T.bool)); (simp only [go_sem]) | (first | refine cdq ?_ (hc := iGround (T.fn T.any T.any)) | refine cmq ?_ (hc := iGround (T.fn T.any T.any)) | refine ctq ?_ (hc := iGround (T.fn T.any T.any))); (simp only [go_sem]) | (first | refine cdq ?_ (hc := iGround (T.pr T.any T.any)) | refine cmq ?_ (hc := iGround (T.pr T.any T.any)) | refine ctq ?_ (hc := iGround (T.pr T.any T.any))); (simp only [go_sem]) | (first | refine cdq ?_ (hc := ih _ _ _ (by simp only [castM, T.size]; (repeat' split) <;> (try simp only [T.size]) <;> omega) (by first | rfl | exact hc.1 | exact hc.2 | (rw [T.cons_symm]; exact hc.1) | simp [T.cons, T.cons_any]) (by omega)) | refine cmq ?_ (hc := ih _ _ _ (by simp only [castM, T.size]; (repeat' split) <;> (try simp only [T.size]) <;> omega) (by first | rfl | exact hc.1 | exact hc.2 | (rw [T.cons_symm]; exact hc.1) | simp [T.cons, T.cons_any]) (by omega)) | refine ctq ?_ (hc := ih _ _ _ (by simp only [castM, T.size]; (repeat' split) <;> (try simp only [T.size]) <;> omega) (by first | rfl | exact hc.1 | exact hc.2 | (rw [T.cons_symm]; exact hc.1) | simp [T.cons, T.cons_any]) (by omega))); (simp only [go_sem]))
    all_goals (refine hR _ (rat [] (hK := ⟨?_, rfl⟩)))
    all_goals simp only [T.cast, K.co]
    all_goals rfl
theorem sCast (n : Nat) : ∀ (a b : T) (l : Int), castM a b < n → a.cons b = true → -99 ≤ l ∧ l ≤ 99 → AFn Tryz.prog 92 [.agg (tyC a.ty), .agg (tyC b.ty), .one (.sc (.int .i64 l))] (.agg (coC (T.cast a b l).co)) := by
  induction n with
  | zero => intro a b l h; omega
  | succ n ih =>
    intro a b l h hc hl
    have hw : IntKind.i64.wrap (0 - l) = -l := by rw [IntWalk.i64_in _ (by omega)]; omega
    rcases a with _ | _ | _ | ⟨a1, a2⟩ | ⟨a1, a2⟩ <;> rcases b with _ | _ | _ | ⟨b1, b2⟩ | ⟨b1, b2⟩
    all_goals simp only [T.cons, Bool.false_eq_true, Bool.and_eq_true] at hc
    all_goals
      ((try have p1 := T.size_pos a1); (try have p2 := T.size_pos a2); (try have p3 := T.size_pos b1); (try have p4 := T.size_pos b2))
      simp only [castM, T.size] at h
      refine fn_in ?_; refine acl_in Tryz.func92 rfl isfn_92 (Nat.le_of_ble_eq_true rfl) (fun R hR => ?_); rw [Tryz.results92] at hR; refine wg_run ?_; (simp only [Tryz.f92, go_sem])
      repeat' (first | (first | (simp only [go_sem, hw]) | (((first | apply sp1 | apply sp2 | apply sp3 | apply sp4 | apply sp5 | apply sp6 | apply sp7) <;> intro hb) <;> (simp only [go_sem, hb, hw])) | ((first | apply wm_done | apply wt_done | apply wg_run | refine fk ?_ ?_) <;> (simp only [go_sem, hw]))) | (first | fail) | ((first | refine mxq6 [] ?_ | refine mxq5 [] ?_ | refine mxq4 [] ?_ | refine mxq3 [] ?_ | refine mxq2 [] ?_ | refine mxq1 [] ?_ | refine mxq0 [] ?_ | fail); (simp only [go_sem])) | (first | refine cdq ?_ (hc := l1Ground _) | refine cmq ?_ (hc := l1Ground _) | refine ctq ?_ (hc := l1Ground _)); (simp only [go_sem]) | (first | refine cdq ?_ (hc := l6Id _) | refine cmq ?_ (hc := l6Id _) | refine ctq ?_ (hc := l6Id _)); (simp only [go_sem]) | (first | refine cdq ?_ (hc := ih _ _ _ (by simp only [castM, T.size]; (repeat' split) <;> (try simp only [T.size]) <;> omega) (by first | rfl | exact hc.1 | exact hc.2 | (rw [T.cons_symm]; exact hc.1) | simp [T.cons, T.cons_any]) (by omega)) | refine cmq ?_ (hc := ih _ _ _ (by simp only [castM, T.size]; (repeat' split) <;> (try simp only [T.size]) <;> omega) (by first | rfl | exact hc.1 | exact hc.2 | (rw [T.cons_symm]; exact hc.1) | simp [T.cons, T.cons_any]) (by omega)) | refine ctq ?_ (hc := ih _ _ _ (by simp only [castM, T.size]; (repeat' split) <;> (try simp only [T.size]) <;> omega) (by first | rfl | exact hc.1 | exact hc.2 | (rw [T.cons_symm]; exact hc.1) | simp [T.cons, T.cons_any]) (by omega))); (simp only [go_sem]))
    all_goals (refine hR _ (rat [] (hK := ⟨?_, rfl⟩)))
    all_goals simp only [T.cast, K.co]
    all_goals rfl
end Go.Proofs.YtnaebafafhamjaaGreat
/- Composition is associative. No program, no world. -/
namespace Go.Proofs.Grad
end Go.Proofs.Grad
/- Composition of coercions as they come, in the program and in the reference. On shadows. -/
namespace Go.Proofs.Grad
open Classical in
/-- the form of a valid coercion -/
noncomputable def Co.k? (c : Co) : Option K := if h : c.valid = true then some (Classical.choose ((Co.valid_iff c).1 h)) else none
theorem Co.k?_some {c : Co} {k : K} (h : c.k? = some k) : c = k.co ∧ k.ok = true := by
  unfold Co.k? at h
  split at h
  · rename_i hv
    have hs := Classical.choose_spec ((Co.valid_iff c).1 hv)
    rw [Option.some.inj h] at hs
    exact ⟨hs.1.symm, by simp [K.ok, hs.2.1, hs.2.2]⟩
  · cases h
theorem Co.k?_none {c : Co} (h : c.k? = none) : c.valid = false := by
  unfold Co.k? at h
  split at h
  · cases h
  · rename_i hv; simpa using hv
theorem K.k?_co {k : K} (h : k.ok = true) : k.co.k? = some k := by
  cases e : k.co.k? with
  | none => have := Co.k?_none e; rw [K.ok_valid, h] at this; cases this
  | some x => rw [K.co_inj _ _ (Co.k?_some e).1]
theorem Co.k?_valid (c : Co) : c.valid = c.k?.isSome := by
  cases e : c.k? with
  | none => exact Co.k?_none e
  | some x => have h := Co.k?_some e; rw [h.1, K.ok_valid, h.2]; rfl
end Go.Proofs.Grad
namespace Go.Proofs.YtnaebafafhamjaaGreat
open Go.RowKit Go.Proofs.Sh Go.Proofs.Grad
set_option maxRecDepth 100000
set_option maxHeartbeats 4000000
end Go.Proofs.YtnaebafafhamjaaGreat
/- Typing of coercions; identities; heights. No program, no world. -/
namespace Go.Proofs.Grad
/-- the ground type of a kind -/
def gT (k : Int) : T := if k = 2 then .int else if k = 3 then .bool else if k = 4 then .fn .any .any else if k = 5 then .pr .any .any else .any
def K.typed : K → T → T → Bool
  | .id g, a, b => a.kind == g && b.kind == g
  | .fn c d, .fn a1 a2, .fn b1 b2 => c.typed b1 a1 && d.typed a2 b2
  | .pr c d, .pr a1 a2, .pr b1 b2 => c.typed a1 b1 && d.typed a2 b2
  | .inj c, a, b => b.kind == 1 && (a.kind == c.tag && c.typed a a.ground)
  | .prj _ c, a, b => a.kind == 1 && c.typed (gT c.tag) b
  | .fail _ g, a, _ => a.kind == g
  | _, _, _ => false
theorem K.height_size (k : K) : 1 ≤ k.height ∧ k.height ≤ k.size := by
  induction k <;> simp only [K.height, K.size] <;> omega
end Go.Proofs.Grad
