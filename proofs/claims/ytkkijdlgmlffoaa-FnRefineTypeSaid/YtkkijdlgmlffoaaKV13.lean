/- Texts of the proof, one behind another. -/
import Derived.Test.YtkkijdlgmlffoaaKV9
import Derived.Test.YtkkijdlgmlffoaaKV10
import Derived.Test.YtkkijdlgmlffoaaKV12
set_option linter.unusedSimpArgs false
set_option linter.unusedVariables false
/- Owned trees: rows changed where they lie. -/
namespace Go.Proofs.Sh
def dgs (k : Nat) (out : ByteArray) : ByteArray := if h : k = 0 then out else dgs (k / 10) (bytesOf [((48 + k % 10 : Nat) : Int)] ++ out)
termination_by k
decreasing_by omega
def mkT (k : Nat) : ByteArray := ⟨#[109]⟩ ++ dgs k ByteArray.empty
end Go.Proofs.Sh
namespace Go.Proofs.Sh
open Go.RowKit Go.Proofs.Grad

end Go.Proofs.Sh
namespace Go.Proofs.Grad
mutual
def Ty.mark : Ty → Nat → Ty
  | .mk _ l, k => .mk (k : Int) (Ty.marks l (k + 1))
def Ty.marks : List Ty → Nat → List Ty
  | [], _ => []
  | t :: l, k => t.mark k :: Ty.marks l (k + t.size)
end
theorem Ty.sizes_append : ∀ (l m : List Ty), Ty.sizes (l ++ m) = Ty.sizes l + Ty.sizes m
  | [], m => by simp [Ty.sizes]
  | t :: l, m => by simp only [List.cons_append, Ty.sizes, Ty.sizes_append l m, Nat.add_assoc]
/-- a list of which the first i are marked -/
def Ty.part (l : List Ty) (k i : Nat) : List Ty := Ty.marks (l.take i) k ++ l.drop i
end Go.Proofs.Grad
namespace Go.Proofs.Sh
open Go.RowKit Go.Proofs.Grad
theorem tyR_set (l : List Ty) (i : Nat) (t : Ty) : (tyR l).set i (tyC t) = tyR (l.set i t) := by
  induction l generalizing i with
  | nil => rfl
  | cons x l ih => cases i <;> simp [tyR, ih]
end Go.Proofs.Sh
namespace Go.Proofs.Grad
open Go.Proofs.Sh
mutual
/-- how many marks a term takes -/
def Tm.mw : Tm → Nat
  | .mk _ _ _ t f _ l => 6 + (Ty.sizes t.kids + (Ty.sizes f.kids + Tm.mws l))
def Tm.mws : List Tm → Nat
  | [] => 0
  | t :: l => t.mw + Tm.mws l
end
mutual
def Tm.mark : Tm → Nat → Tm
  | .mk _ _ _ t f _ l, k => .mk (k : Int) (mkT (k + 1)) ((k + 2 : Nat) : Int) (.mk ((k + 3 : Nat) : Int) (Ty.marks t.kids (k + 4))) (.mk ((k + 4 + Ty.sizes t.kids : Nat) : Int) (Ty.marks f.kids (k + 4 + Ty.sizes t.kids + 1)))
      ((k + 4 + Ty.sizes t.kids + 1 + Ty.sizes f.kids : Nat) : Int) (Tm.marks l (k + 4 + Ty.sizes t.kids + 1 + Ty.sizes f.kids + 1))
def Tm.marks : List Tm → Nat → List Tm
  | [], _ => []
  | t :: l, k => t.mark k :: Tm.marks l (k + t.mw)
end
def Tm.part (l : List Tm) (k i : Nat) : List Tm := Tm.marks (l.take i) k ++ l.drop i
end Go.Proofs.Grad
namespace Go.Proofs.Sh
open Go.RowKit Go.Proofs.Grad
end Go.Proofs.Sh
/- Types: validity in the program; checks behind validity. On shadows. -/
namespace Go.Proofs.Ytkkijdlgmlffoaa
open Go.RowKit Go.Proofs.Sh Go.Proofs.Grad
set_option maxRecDepth 100000
set_option maxHeartbeats 4000000
theorem iScan (m : Nat) (hm : m ≤ 4) : ∀ t : Ty, AFn Try.prog 52 [.agg (tyC t), .one (.sc (.int .i64 (5 - (m : Int))))] (.one (.sc (.bool (t.shape m)))) := by
  induction m with
  | zero =>
    intro t
    refine fn_in ?_; refine acl_in Try.func52 rfl isfn_52 (Nat.le_of_ble_eq_true rfl) (fun R hR => ?_); rw [Try.results52] at hR; refine wg_run ?_; (simp only [Try.f52, go_sem])
    repeat' (first | (((first | apply sp1 | apply sp2 | apply sp3 | apply sp4 | apply sp5 | apply sp6 | apply sp7) <;> intro hb) <;> (simp only [go_sem, hb])) | ((first | apply wm_done | apply wt_done | apply wg_run | refine fk ?_ ?_) <;> (simp only [go_sem])))
    all_goals (refine hR _ (rat [] (hK := ⟨?_, rfl⟩)))
    all_goals rfl
  | succ m ih =>
    intro t
    have hd : decide (5 - ((m + 1 : Nat) : Int) ≤ 4) = true := by simp; omega
    have hw : IntKind.i64.wrap (5 - ((m + 1 : Nat) : Int) + 1) = 5 - (m : Int) := by rw [IntWalk.i64_in _ (by omega)]; omega
    have hc : t.kids.length < 3 → ACl Try.prog 69 [.one (.sl (tyR t.kids)), .one (.fn 70 [.ptr 1 0 0 0])] [⟨1, 3, .mut, [[.sc (.int .i64 (5 - ((m + 1 : Nat) : Int)))]]⟩] (fun r H' => r = .one (.sc (.bool (t.kids.any (fun x => !x.shape m)))) ∧ H' = [⟨1, 3, .mut, [[.sc (.int .i64 (5 - ((m + 1 : Nat) : Int)))]]⟩]) := by
      intro hl
      refine containsFunc1 _ _ (fun x => !x.shape m) _ (by omega) ?_
      intro k hk
      refine acl_in Try.func70 rfl isfn_70 (Nat.le_of_ble_eq_true rfl) (fun R hR => ?_); rw [Try.results70] at hR; refine wg_run ?_; (simp only [Try.f70, go_sem])
      (simp only [go_sem, hw])
      (first | refine cdq ?_ (hc := ih (by omega) _) | refine cmq ?_ (hc := ih (by omega) _) | refine ctq ?_ (hc := ih (by omega) _)); (simp only [go_sem])
      (refine hR _ (rat [] (hK := ⟨?_, ?_⟩)))
      · rfl
      · rfl
    clear ih
    refine fn_in ?_; refine acl_in Try.func52 rfl isfn_52 (Nat.le_of_ble_eq_true rfl) (fun R hR => ?_); rw [Try.results52] at hR; refine wg_run ?_; (simp only [Try.f52, go_sem])
    repeat' (first | (first | (simp only [go_sem, hd]) | (((first | apply sp1 | apply sp2 | apply sp3 | apply sp4 | apply sp5 | apply sp6 | apply sp7) <;> intro hb) <;> (simp only [go_sem, hb, hd])) | ((first | apply wm_done | apply wt_done | apply wg_run | refine fk ?_ ?_) <;> (simp only [go_sem, hd]))) | (first | refine kdq [1] ?_ (hc := hc (by have := beq_iff_eq.1 hb; omega)) | refine kmq [1] ?_ (hc := hc (by have := beq_iff_eq.1 hb; omega)) | refine ktq [1] ?_ (hc := hc (by have := beq_iff_eq.1 hb; omega))); rintro _ _ ⟨rfl, rfl⟩; (simp only [go_sem]))
    all_goals (refine hR _ (rat [] (hK := ⟨?_, rfl⟩)))
    all_goals clear hR hc
    all_goals simp_all [Ty.shape, kidsN, List.all_eq_not_any_not]
theorem iValid (t : Ty) : AFn Try.prog 25 [.agg (tyC t)] (.one (.sc (.bool t.valid))) := by
  refine fn_in ?_; refine acl_in Try.func25 rfl isfn_25 (Nat.le_of_ble_eq_true rfl) (fun R hR => ?_); rw [Try.results25] at hR; refine wg_run ?_; (simp only [Try.f25, go_sem])
  (first | refine cdq ?_ (hc := iScan 4 (by omega) _) | refine cmq ?_ (hc := iScan 4 (by omega) _) | refine ctq ?_ (hc := iScan 4 (by omega) _)); (simp only [go_sem])
  (refine hR _ (rat [] (hK := ⟨?_, rfl⟩)))
  rfl
theorem Ty.valid_16 {t : Ty} (h : t.valid = true) : t.size < 16 := by
  obtain ⟨x, rfl, hx⟩ := (Ty.valid_iff t).1 h
  rw [T.ty_size]
  have : ∀ (x : T) (d : Nat), x.depth ≤ d → d ≤ 4 → x.size < 2 ^ d := by
    intro x
    induction x with
    | any | int | bool => intro d h1 h2; simp only [T.depth, T.size] at *; exact Nat.one_lt_two_pow (by omega)
    | fn a b iha ihb | pr a b iha ihb =>
      intro d h1 h2
      simp only [T.depth, T.size] at *
      obtain ⟨d, rfl⟩ : ∃ e, d = e + 1 := ⟨d - 1, by omega⟩
      have := iha d (by omega) (by omega); have := ihb d (by omega) (by omega)
      rw [Nat.pow_succ]; omega
  have := this x 4 hx (Nat.le_refl _)
  omega
theorem Ty.valid_size {t : Ty} (h : t.valid = true) : t.size < 4611686018427387904 := by have := Ty.valid_16 h; omega
-- written by gen_on.py
theorem iPrecise (a b : Ty) : AFn Try.prog 24 [.agg (tyC a), .agg (tyC b)] (.one (.sc (.bool (onT T.prec a b)))) := by
  have va := iValid a
  have vb := iValid b
  by_cases ha : a.valid = true
  · rw [ha] at va
    by_cases hb' : b.valid = true
    · rw [hb'] at vb
      have hf := fun (x y : T) (e1 : x.ty = a) (e2 : y.ty = b) => by have h := iPrec _ (Nat.le_refl _) a b (Ty.valid_size ha); rw [← e1, ← e2, T.prec_ty] at h; exact h
      obtain ⟨x, rfl, hx⟩ := (Ty.valid_iff a).1 ha
      obtain ⟨y, rfl, hy⟩ := (Ty.valid_iff b).1 hb'
      have hf := hf x y rfl rfl
      rw [onT_ty _ hx hy]
      clear ha hb'
      refine fn_in ?_; refine acl_in Try.func24 rfl isfn_24 (Nat.le_of_ble_eq_true rfl) (fun R hR => ?_); rw [Try.results24] at hR; refine wg_run ?_; (simp only [Try.f24, go_sem])
      repeat' (first | (first | (((first | apply sp1 | apply sp2 | apply sp3 | apply sp4 | apply sp5 | apply sp6 | apply sp7) <;> intro hb) <;> (simp only [go_sem, hb])) | ((first | apply wm_done | apply wt_done | apply wg_run | refine fk ?_ ?_) <;> (simp only [go_sem]))) | (first | refine cdq ?_ (hc := va) | refine cmq ?_ (hc := va) | refine ctq ?_ (hc := va)); (simp only [go_sem]) | (first | refine cdq ?_ (hc := vb) | refine cmq ?_ (hc := vb) | refine ctq ?_ (hc := vb)); (simp only [go_sem]) | (first | refine cdq ?_ (hc := hf) | refine cmq ?_ (hc := hf) | refine ctq ?_ (hc := hf)); (simp only [go_sem]) | ((first | refine mxq6 [] ?_ | refine mxq5 [] ?_ | refine mxq4 [] ?_ | refine mxq3 [] ?_ | refine mxq2 [] ?_ | refine mxq1 [] ?_ | refine mxq0 [] ?_ | fail); (simp only [go_sem])))
      all_goals (refine hR _ (rat [] (hK := ⟨rfl, rfl⟩)))
    · rw [Bool.not_eq_true] at hb'
      rw [onT_off _ (by simp [hb'])]
      rw [hb'] at vb
      clear ha hb'
      refine fn_in ?_; refine acl_in Try.func24 rfl isfn_24 (Nat.le_of_ble_eq_true rfl) (fun R hR => ?_); rw [Try.results24] at hR; refine wg_run ?_; (simp only [Try.f24, go_sem])
      repeat' (first | (first | (((first | apply sp1 | apply sp2 | apply sp3 | apply sp4 | apply sp5 | apply sp6 | apply sp7) <;> intro hb) <;> (simp only [go_sem, hb])) | ((first | apply wm_done | apply wt_done | apply wg_run | refine fk ?_ ?_) <;> (simp only [go_sem]))) | (first | refine cdq ?_ (hc := va) | refine cmq ?_ (hc := va) | refine ctq ?_ (hc := va)); (simp only [go_sem]) | (first | refine cdq ?_ (hc := vb) | refine cmq ?_ (hc := vb) | refine ctq ?_ (hc := vb)); (simp only [go_sem]) | ((first | refine mxq6 [] ?_ | refine mxq5 [] ?_ | refine mxq4 [] ?_ | refine mxq3 [] ?_ | refine mxq2 [] ?_ | refine mxq1 [] ?_ | refine mxq0 [] ?_ | fail); (simp only [go_sem])))
      all_goals (refine hR _ (rat [] (hK := ⟨rfl, rfl⟩)))
  · rw [Bool.not_eq_true] at ha
    rw [onT_off _ (by simp [ha])]
    rw [ha] at va
    clear ha
    refine fn_in ?_; refine acl_in Try.func24 rfl isfn_24 (Nat.le_of_ble_eq_true rfl) (fun R hR => ?_); rw [Try.results24] at hR; refine wg_run ?_; (simp only [Try.f24, go_sem])
    repeat' (first | (first | (((first | apply sp1 | apply sp2 | apply sp3 | apply sp4 | apply sp5 | apply sp6 | apply sp7) <;> intro hb) <;> (simp only [go_sem, hb])) | ((first | apply wm_done | apply wt_done | apply wg_run | refine fk ?_ ?_) <;> (simp only [go_sem]))) | (first | refine cdq ?_ (hc := va) | refine cmq ?_ (hc := va) | refine ctq ?_ (hc := va)); (simp only [go_sem]) | ((first | refine mxq6 [] ?_ | refine mxq5 [] ?_ | refine mxq4 [] ?_ | refine mxq3 [] ?_ | refine mxq2 [] ?_ | refine mxq1 [] ?_ | refine mxq0 [] ?_ | fail); (simp only [go_sem])))
    all_goals (refine hR _ (rat [] (hK := ⟨rfl, rfl⟩)))
-- end
end Go.Proofs.Ytkkijdlgmlffoaa
/- Refined types: slices.DeleteFunc at types, RefineType. On shadows. -/
namespace Go.Proofs.Grad
/-- the first l's places hold what stays of what has been seen; i of them -/
theorem filter_take {q : Ty → Bool} {l : List Ty} {j : Nat} (h : j < l.length) : (l.take (j + 1)).filter q = (l.take j).filter q ++ (match q (Sh.kid l j) with | true => [Sh.kid l j] | false => []) := by
  rw [Sh.kid_eq h, List.take_succ_eq_append_getElem h, List.filter_append]
  cases e : q l[j] <;> simp [e]
theorem tyR_mapX (l : List Ty) : Sh.tyR l = l.map Sh.tyC := by induction l with | nil => rfl | cons x l ih => rw [Sh.tyR, ih]; rfl
end Go.Proofs.Grad
namespace Go.Proofs.Ytkkijdlgmlffoaa
open Go.RowKit Go.Proofs.Sh Go.Proofs.Grad
set_option maxRecDepth 100000
set_option maxHeartbeats 8000000
theorem iIdxT (g : FuncId) (p : Ty → Bool) (l : List Ty) (hl : l.length < 4611686018427387904)
    (hg : ∀ t : Ty, AFn Try.prog g [.agg (tyC t)] (.one (.sc (.bool (p t))))) :
    ACl Try.prog 74 [.one (.row 2 0 l.length), .one (.fn g [])] [⟨2, 29, .mut, tyR l⟩] (fun r H' => r = .one (.sc (.int .i64 (idx p 0 l))) ∧ H' = [⟨2, 29, .mut, tyR l⟩]) := by
  refine acl_in Try.func74 rfl isfn_74 (Nat.le_of_ble_eq_true rfl) (fun R hR => ?_); rw [Try.results74] at hR; refine wg_run ?_; (simp only [Try.f74, go_sem])
  refine wd_for [0, 1, 7, 8] (fun k => [.one (.row 2 0 l.length), .one (.fn g []), .one (.sc (.int .i64 l.length)), .one (.sc (.int .i64 (k : Nat)))]) (fun k => [⟨2, 29, .mut, tyR l⟩])
      (fun k => k ≤ l.length ∧ idx p k (l.drop k) = idx p 0 l) (fun k => l.length - k) 0 ⟨Nat.zero_le _, rfl⟩ (head_all (by (simp only [go_sem]); first | done | rfl) ⟨rfl, rfl⟩) ?_
  rintro k ⟨hk, hs⟩ G hG
  refine wg_run ?_
  (simp only [go_sem])
  ((first | apply sp1 | apply sp2 | apply sp3 | apply sp4 | apply sp5 | apply sp6 | apply sp7) <;> intro hb) <;> (simp only [go_sem, hb])
  · have hk1 : k < l.length := by have := of_decide_eq_true hb; omega
    rw [drop_kid hk1, idx] at hs
    have hw1 := wrap_succ hk1 (by omega)
    have b2 : decide ((0 : Int) ≤ (k : Int)) = true := decide_eq_true (by omega)
    have b4 : decide (k < l.length) = true := decide_eq_true hk1
    have hgk := hg (kid l k)
    repeat' (first | (first | (simp only [go_sem, hb, b2, b4, hw1]) | (((first | apply sp1 | apply sp2 | apply sp3 | apply sp4 | apply sp5 | apply sp6 | apply sp7) <;> intro hb) <;> (simp only [go_sem, hb, hb, b2, b4, hw1])) | ((first | apply wm_done | apply wt_done | apply wg_run | refine fk ?_ ?_) <;> (simp only [go_sem, hb, b2, b4, hw1]))) | (first | refine cdq ?_ (hc := hgk) | refine cmq ?_ (hc := hgk) | refine ctq ?_ (hc := hgk)); (simp only [go_sem]) | fail)
    · exact hR _ (ret_all (by (simp only [go_sem]); first | done | rfl) ⟨by rw [← hs]; simp_all, rfl⟩)
    · exact hG (k + 1) _ _ ⟨by omega, by simpa [hb] using hs⟩ (by omega) (head_all (by (simp only [go_sem]); first | done | rfl) ⟨rfl, rfl⟩)
  · have hk1 : ¬ k < l.length := by have := of_decide_eq_false hb; omega
    rw [List.drop_eq_nil_of_le (by omega), idx] at hs
    exact hR _ (ret_all (by (simp only [go_sem]); first | done | rfl) ⟨by rw [← hs], rfl⟩)
theorem iPred (t : Ty) : AFn Try.prog 59 [.agg (tyC t)] (.one (.sc (.bool (!t.valid)))) := by
  have hv := iValid t
  refine fn_in ?_; refine acl_in Try.func59 rfl isfn_59 (Nat.le_of_ble_eq_true rfl) (fun R hR => ?_); rw [Try.results59] at hR; refine wg_run ?_; (simp only [Try.f59, go_sem])
  repeat' (first | (first | (((first | apply sp1 | apply sp2 | apply sp3 | apply sp4 | apply sp5 | apply sp6 | apply sp7) <;> intro hb) <;> (simp only [go_sem, hb])) | ((first | apply wm_done | apply wt_done | apply wg_run | refine fk ?_ ?_) <;> (simp only [go_sem]))) | (first | refine cdq ?_ (hc := hv) | refine cmq ?_ (hc := hv) | refine ctq ?_ (hc := hv)); (simp only [go_sem]) | fail)
  (refine hR _ (rat [] (hK := ⟨rfl, rfl⟩)))
theorem idx_spec (p : Ty → Bool) : ∀ (l : List Ty) (k : Nat), (idx p k l = -1 ∧ l.filter (fun t => !p t) = l) ∨ ∃ i, i < l.length ∧ idx p k l = ((k + i : Nat) : Int) ∧ (l.take (i + 1)).filter (fun t => !p t) = l.take i
  | [], k => .inl ⟨rfl, rfl⟩
  | t :: l, k => by
    simp only [idx]
    cases e : p t
    · rcases idx_spec p l (k + 1) with ⟨h1, h2⟩ | ⟨i, h1, h2, h3⟩
      · exact .inl ⟨by simpa using h1, by simp [e, h2]⟩
      · refine .inr ⟨i + 1, by simpa using h1, ?_, ?_⟩
        · rw [if_neg (by simp), h2]; congr 1; omega
        · rw [List.take_succ_cons, List.filter_cons, if_pos (by simp [e]), h3, List.take_succ_cons]
    · exact .inr ⟨0, by simp, by simp, by simp [e]⟩
theorem iDelT (g : FuncId) (p : Ty → Bool) (l : List Ty) (hl : l.length < 4611686018427387904) (hl0 : 0 < l.length)
    (hg : ∀ t : Ty, AFn Try.prog g [.agg (tyC t)] (.one (.sc (.bool (p t))))) :
    ACl Try.prog 57 [.one (.row 2 0 l.length), .one (.fn g [])] [⟨2, 29, .mut, tyR l⟩] (fun r H' => r = .one (.row 2 0 (l.filter (fun t => !p t)).length) ∧ H' = [⟨2, 29, .mut, tyR (l.filter (fun t => !p t))⟩]) := by
  have hix := iIdxT g p l hl hg
  rcases idx_spec p l 0 with ⟨h1, h2⟩ | ⟨i0, h1, h2, h3⟩
  · rw [h1] at hix
    rw [h2]
    refine acl_in Try.func57 rfl isfn_57 (Nat.le_of_ble_eq_true rfl) (fun R hR => ?_); rw [Try.results57] at hR; refine wg_run ?_; (simp only [Try.f57, go_sem])
    repeat' (first | (first | (((first | apply sp1 | apply sp2 | apply sp3 | apply sp4 | apply sp5 | apply sp6 | apply sp7) <;> intro hb) <;> (simp only [go_sem, hb])) | ((first | apply wm_done | apply wt_done | apply wg_run | refine fk ?_ ?_) <;> (simp only [go_sem]))) | ((first | refine kdq [0] ?_ (hc := hix) | refine kmq [0] ?_ (hc := hix) | refine ktq [0] ?_ (hc := hix)); rintro _ _ ⟨rfl, rfl⟩ <;> (simp only [go_sem])) | fail)
    exact hR _ (ret_all (by (simp only [go_sem]); first | done | rfl) ⟨rfl, rfl⟩)
  · rw [h2, Nat.zero_add] at hix
    have n1 : (((i0 : Nat) : Int) == -1) = false := beq_eq_false_iff_ne.2 (by omega)
    have w1 := wrap_succ h1 (by omega)
    refine acl_in Try.func57 rfl isfn_57 (Nat.le_of_ble_eq_true rfl) (fun R hR => ?_); rw [Try.results57] at hR; refine wg_run ?_; (simp only [Try.f57, go_sem, n1])
    repeat' (first | (first | (simp only [go_sem, n1, w1]) | (((first | apply sp1 | apply sp2 | apply sp3 | apply sp4 | apply sp5 | apply sp6 | apply sp7) <;> intro hb) <;> (simp only [go_sem, hb, n1, w1])) | ((first | apply wm_done | apply wt_done | apply wg_run | refine fk ?_ ?_) <;> (simp only [go_sem, n1, w1]))) | ((first | refine kdq [0] ?_ (hc := hix) | refine kmq [0] ?_ (hc := hix) | refine ktq [0] ?_ (hc := hix)); rintro _ _ ⟨rfl, rfl⟩ <;> (simp only [go_sem])) | fail)
    refine wd_for (σ := Nat × Nat × List Ty) [0, 1, 5, 6] (fun x => [.one (.row 2 0 l.length), .one (.fn g []), .one (.sc (.int .i64 (x.2.1 : Nat))), .one (.sc (.int .i64 (x.1 : Nat)))]) (fun x => [⟨2, 29, .mut, tyR x.2.2⟩])
      (fun x => x.2.1 < x.1 ∧ x.1 ≤ l.length ∧ x.2.2.length = l.length ∧ x.2.2.take x.2.1 = (l.take x.1).filter (fun t => !p t) ∧ x.2.2.drop x.1 = l.drop x.1) (fun x => l.length - x.1) (i0 + 1, i0, l) ⟨by simp only; omega, h1, rfl, h3.symm, rfl⟩ (head_all (by (simp only [go_sem]); first | done | rfl) ⟨rfl, rfl⟩) ?_
    rintro ⟨j, i, m⟩ ⟨hij, hj, hm, ht, hd⟩ G hGo
    simp only at hij hj hm ht hd hGo ⊢
    refine wg_runN 14 ?_
    (simp only [go_sem])
    ((first | apply sp1 | apply sp2 | apply sp3 | apply sp4 | apply sp5 | apply sp6 | apply sp7) <;> intro hb) <;> (simp only [go_sem, hb])
    · have hj1 : j < l.length := by have := of_decide_eq_true hb; omega
      have hkj : kid m j = kid l j := by
        have e1 := drop_kid (l := m) (k := j) (by omega)
        have e2 := drop_kid (l := l) (k := j) hj1
        rw [hd, e2] at e1
        injection e1 with e1 _
        exact e1.symm
      have b0 : decide ((0 : Int) ≤ (j : Int)) = true := decide_eq_true (by omega)
      have b1 : decide (j < l.length) = true := decide_eq_true hj1
      have b2 : decide ((j : Int) < (m.length : Int)) = true := decide_eq_true (by omega)
      have c0 : decide ((0 : Int) ≤ (i : Int)) = true := decide_eq_true (by omega)
      have c1 : decide (i < l.length) = true := decide_eq_true (by omega)
      have c2 : decide ((i : Int) < (m.length : Int)) = true := decide_eq_true (by omega)
      have wj := wrap_succ hj1 (by omega)
      have wi : IntKind.i64.wrap (((i : Nat) : Int) + 1) = ((i + 1 : Nat) : Int) := wrap_succ (n := l.length) (by omega) (by omega)
      have hgk := hg (kid l j)
      have hft := filter_take (q := fun t => !p t) hj1
      refine wd_fuel (wg_run ?_)
      cases ep : p (kid l j)
      all_goals
        rw [ep] at hgk
        simp only [ep, Bool.not_false, Bool.not_true] at hft
        repeat' (first | (first | (simp only [go_sem, b0, b1, b2, c0, c1, c2, wj, wi, hkj, tyR_set]) | (((first | apply sp1 | apply sp2 | apply sp3 | apply sp4 | apply sp5 | apply sp6 | apply sp7) <;> intro hb) <;> (simp only [go_sem, hb, b0, b1, b2, c0, c1, c2, wj, wi, hkj, tyR_set])) | ((first | apply wm_done | apply wt_done | apply wg_run | refine fk ?_ ?_) <;> (simp only [go_sem, b0, b1, b2, c0, c1, c2, wj, wi, hkj, tyR_set]))) | (first | refine cdq ?_ (hc := hgk) | refine cmq ?_ (hc := hgk) | refine ctq ?_ (hc := hgk)); (simp only [go_sem]) | fail)
      · have hs1 : (m.set i (kid l j)).take (i + 1) = m.take i ++ [kid l j] := by
          rw [List.take_succ_eq_append_getElem (by rw [List.length_set]; omega), List.take_set_of_le (Nat.le_refl _)]; simp
        have hs2 : (m.set i (kid l j)).drop (j + 1) = l.drop (j + 1) := by
          rw [List.drop_set_of_lt (by omega), ← List.drop_drop, hd, List.drop_drop]
        exact hGo (j + 1, i + 1, m.set i (kid l j)) _ _ ⟨by simp only; omega, hj1, by simpa using hm, by simp only; rw [hs1, ht, hft], hs2⟩ (by simp only; omega) (hat [] (hI := ⟨rfl, rfl⟩))
      · have hs2 : m.drop (j + 1) = l.drop (j + 1) := by rw [← List.drop_drop, hd, List.drop_drop]
        exact hGo (j + 1, i, m) _ _ ⟨by simp only; omega, hj1, hm, by simp only; rw [ht, hft, List.append_nil], hs2⟩ (by simp only; omega) (hat [] (hI := ⟨rfl, rfl⟩))
    · have hjl : j = l.length := by have := of_decide_eq_false hb; omega
      subst hjl
      rw [List.take_length] at ht
      have hfl : (m.take i).length = i := by rw [List.length_take]; omega
      have htR : (tyR m).take i = tyR (m.take i) := by rw [tyR_mapX, tyR_mapX, List.map_take]
      refine wd_fuel (wg_clear rfl rfl rfl (by show _ < 42; decide) rfl rfl rfl rfl rfl (by omega) (by (simp only [go_sem]); first | done | rfl) (by (simp only [go_sem]); first | done | rfl) (by (simp only [go_sem]); first | done | rfl) rfl (by decide) rfl (by rw [tyR_length, hm]) ?_)
      rw [htR]
      refine wg_runN 4 ?_
      (simp only [go_sem])
      refine wd_fuel (wg_upto rfl rfl rfl (by show _ < 42; decide) rfl rfl (by omega) hl0 (by (simp only [go_sem]); first | done | rfl) (by (simp only [go_sem]); first | done | rfl) (by (simp only [go_sem]); first | done | rfl) ?_)
      refine wg_run ?_
      (simp only [go_sem])
      exact hR _ (ret_all (by (simp only [go_sem]); first | done | rfl) ⟨by rw [← ht, hfl], by rw [← ht]⟩)
end Go.Proofs.Ytkkijdlgmlffoaa
/- Refined types: RefineType in the program. On shadows. -/
namespace Go.Proofs.Grad
theorem T.refs_size (t : T) : ∀ x ∈ t.refs, x.size ≤ t.size + 2 := by
  induction t with
  | any => simp [T.refs, T.size]
  | int => simp [T.refs]
  | bool => simp [T.refs]
  | fn a b iha ihb | pr a b iha ihb =>
    intro x hx
    simp only [T.refs, List.mem_append, List.mem_map] at hx
    rcases hx with ⟨y, hy, rfl⟩ | ⟨y, hy, rfl⟩
    · have := iha y hy; simp only [T.size]; omega
    · have := ihb y hy; simp only [T.size]; omega
theorem T.anys_size (t : T) : t.anys ≤ t.size := by induction t <;> simp only [T.anys, T.size] <;> omega
theorem size_depthR (t : T) : t.size + 1 ≤ 2 ^ t.depth := by
  induction t with
  | fn a b iha ihb | pr a b iha ihb =>
    have h1 : 2 ^ a.depth ≤ 2 ^ (max a.depth b.depth) := Nat.pow_le_pow_right (by omega) (by omega)
    have h2 : 2 ^ b.depth ≤ 2 ^ (max a.depth b.depth) := Nat.pow_le_pow_right (by omega) (by omega)
    simp only [T.size, T.depth, Nat.pow_succ]; omega
  | _ => simp [T.size, T.depth]
theorem T.refs_fn (a b : T) : (T.fn a b).refs.map T.ty = (a.refs.map T.ty).map (fun x => Ty.mk 4 [x, b.ty]) ++ (b.refs.map T.ty).map (fun y => Ty.mk 4 [a.ty, y]) := by
  simp only [T.refs, List.map_append, List.map_map]; rfl
theorem T.refs_pr (a b : T) : (T.pr a b).refs.map T.ty = (a.refs.map T.ty).map (fun x => Ty.mk 5 [x, b.ty]) ++ (b.refs.map T.ty).map (fun y => Ty.mk 5 [a.ty, y]) := by
  simp only [T.refs, List.map_append, List.map_map]; rfl
end Go.Proofs.Grad
namespace Go.Proofs.Ytkkijdlgmlffoaa
open Go.RowKit Go.Proofs.Sh Go.Proofs.Grad
set_option maxRecDepth 100000
set_option maxHeartbeats 8000000
theorem iRefined (t : T) : t.size < 100000 → AFn Try.prog 58 [.agg (tyC t.ty)] (.one (.sl (tyR (t.refs.map T.ty)))) := by
  induction t with
  | any =>
    intro _
    have h2 := base 2
    have h3 := base 3
    have h4 := iGround (.fn .any .any)
    have h5 := iGround (.pr .any .any)
    simp only [T.kind, T.ground] at h4 h5
    refine fn_in ?_; refine acl_in Try.func58 rfl isfn_58 (Nat.le_of_ble_eq_true rfl) (fun R hR => ?_); rw [Try.results58] at hR; refine wg_run ?_; (simp only [Try.f58, go_sem])
    repeat' (first | (first | (((first | apply sp1 | apply sp2 | apply sp3 | apply sp4 | apply sp5 | apply sp6 | apply sp7) <;> intro hb) <;> (simp only [go_sem, hb])) | ((first | apply wm_done | apply wt_done | apply wg_run | refine fk ?_ ?_) <;> (simp only [go_sem]))) | (first | refine cdq ?_ (hc := h2) | refine cmq ?_ (hc := h2) | refine ctq ?_ (hc := h2)); (simp only [go_sem]) | (first | refine cdq ?_ (hc := h3) | refine cmq ?_ (hc := h3) | refine ctq ?_ (hc := h3)); (simp only [go_sem]) | (first | refine cdq ?_ (hc := h4) | refine cmq ?_ (hc := h4) | refine ctq ?_ (hc := h4)); (simp only [go_sem]) | (first | refine cdq ?_ (hc := h5) | refine cmq ?_ (hc := h5) | refine ctq ?_ (hc := h5)); (simp only [go_sem]) | fail)
    (refine hR _ (rat [] (hK := ⟨rfl, rfl⟩)))
  | int | bool =>
    intro _
    simp only [T.ty, T.refs]
    refine fn_in ?_; refine acl_in Try.func58 rfl isfn_58 (Nat.le_of_ble_eq_true rfl) (fun R hR => ?_); rw [Try.results58] at hR; refine wg_run ?_; (simp only [Try.f58, go_sem])
    repeat' (first | (first | (simp only [go_sem, int_bne]) | (((first | apply sp1 | apply sp2 | apply sp3 | apply sp4 | apply sp5 | apply sp6 | apply sp7) <;> intro hb) <;> (simp only [go_sem, hb, int_bne])) | ((first | apply wm_done | apply wt_done | apply wg_run | refine fk ?_ ?_) <;> (simp only [go_sem, int_bne]))) | (first | (refine wl_next (wg_run ?_); (simp only [go_sem])) | refine wd_rounds 6 ?_) | fail)
    (refine hR _ (rat [] (hK := ⟨rfl, rfl⟩)))
  | fn a b iha ihb =>
    intro h
    simp only [T.size] at h
    rw [T.refs_fn]
    have la := a.refs_len; have lb := b.refs_len
    have na := a.anys_size; have nb := b.anys_size
    exact iRefined2 4 rfl a.ty b.ty _ _ (iha (by omega)) (ihb (by omega)) (by simp only [List.length_map]; omega)
  | pr a b iha ihb =>
    intro h
    simp only [T.size] at h
    rw [T.refs_pr]
    have la := a.refs_len; have lb := b.refs_len
    have na := a.anys_size; have nb := b.anys_size
    exact iRefined2 5 rfl a.ty b.ty _ _ (iha (by omega)) (ihb (by omega)) (by simp only [List.length_map]; omega)
theorem iRefinedO (t : T) (h : t.size < 100000) : ACl Try.prog 58 [.agg (tyC t.ty)] [] (RowT (t.refs.map T.ty)) := by
  cases t with
  | any =>
    have h2 := base 2
    have h3 := base 3
    have h4 := iGround (.fn .any .any)
    have h5 := iGround (.pr .any .any)
    simp only [T.kind, T.ground] at h4 h5
    refine acl_in Try.func58 rfl isfn_58 (Nat.le_of_ble_eq_true rfl) (fun R hR => ?_); rw [Try.results58] at hR; refine wg_run ?_; (simp only [Try.f58, go_sem])
    repeat' (first | (first | (((first | apply sp1 | apply sp2 | apply sp3 | apply sp4 | apply sp5 | apply sp6 | apply sp7) <;> intro hb) <;> (simp only [go_sem, hb])) | ((first | apply wm_done | apply wt_done | apply wg_run | refine fk ?_ ?_) <;> (simp only [go_sem]))) | (first | refine cdq ?_ (hc := h2) | refine cmq ?_ (hc := h2) | refine ctq ?_ (hc := h2)); (simp only [go_sem]) | (first | refine cdq ?_ (hc := h3) | refine cmq ?_ (hc := h3) | refine ctq ?_ (hc := h3)); (simp only [go_sem]) | (first | refine cdq ?_ (hc := h4) | refine cmq ?_ (hc := h4) | refine ctq ?_ (hc := h4)); (simp only [go_sem]) | (first | refine cdq ?_ (hc := h5) | refine cmq ?_ (hc := h5) | refine ctq ?_ (hc := h5)); (simp only [go_sem]) | fail)
    exact hR _ (rwn [1] (hK := (.inr ⟨by decide, rfl, rfl⟩)))
  | int | bool =>
    simp only [T.ty, T.refs]
    refine acl_in Try.func58 rfl isfn_58 (Nat.le_of_ble_eq_true rfl) (fun R hR => ?_); rw [Try.results58] at hR; refine wg_run ?_; (simp only [Try.f58, go_sem])
    repeat' (first | (first | (simp only [go_sem, int_bne]) | (((first | apply sp1 | apply sp2 | apply sp3 | apply sp4 | apply sp5 | apply sp6 | apply sp7) <;> intro hb) <;> (simp only [go_sem, hb, int_bne])) | ((first | apply wm_done | apply wt_done | apply wg_run | refine fk ?_ ?_) <;> (simp only [go_sem, int_bne]))) | (first | (refine wl_next (wg_run ?_); (simp only [go_sem])) | refine wd_rounds 6 ?_) | fail)
    exact hR _ (rat [] (hK := (.inl ⟨rfl, rfl, rfl⟩)))
  | fn a b =>
    simp only [T.size] at h
    rw [T.refs_fn]
    have la := a.refs_len; have lb := b.refs_len
    have na := a.anys_size; have nb := b.anys_size
    exact iRefined2O 4 rfl a.ty b.ty _ _ (iRefined a (by omega)) (iRefined b (by omega)) (by simp only [List.length_map]; omega)
  | pr a b =>
    simp only [T.size] at h
    rw [T.refs_pr]
    have la := a.refs_len; have lb := b.refs_len
    have na := a.anys_size; have nb := b.anys_size
    exact iRefined2O 5 rfl a.ty b.ty _ _ (iRefined a (by omega)) (iRefined b (by omega)) (by simp only [List.length_map]; omega)
theorem iDelNil (g : FuncId) : AFn Try.prog 57 [.one (.sl []), .one (.fn g [])] (.one (.sl [])) := by
  have hi : AFn Try.prog 74 [.one (.sl []), .one (.fn g [])] (.one (.sc (.int .i64 (-1)))) := by
    refine fn_in ?_; refine acl_in Try.func74 rfl isfn_74 (Nat.le_of_ble_eq_true rfl) (fun R hR => ?_); rw [Try.results74] at hR; refine wg_run ?_; (simp only [Try.f74, go_sem])
    repeat' (first | (first | (((first | apply sp1 | apply sp2 | apply sp3 | apply sp4 | apply sp5 | apply sp6 | apply sp7) <;> intro hb) <;> (simp only [go_sem, hb])) | ((first | apply wm_done | apply wt_done | apply wg_run | refine fk ?_ ?_) <;> (simp only [go_sem]))) | (first | (refine wl_next (wg_run ?_); (simp only [go_sem])) | refine wd_rounds 6 ?_) | fail)
    (refine hR _ (rat [] (hK := ⟨rfl, rfl⟩)))
  refine fn_in ?_; refine acl_in Try.func57 rfl isfn_57 (Nat.le_of_ble_eq_true rfl) (fun R hR => ?_); rw [Try.results57] at hR; refine wg_run ?_; (simp only [Try.f57, go_sem])
  repeat' (first | (first | (((first | apply sp1 | apply sp2 | apply sp3 | apply sp4 | apply sp5 | apply sp6 | apply sp7) <;> intro hb) <;> (simp only [go_sem, hb])) | ((first | apply wm_done | apply wt_done | apply wg_run | refine fk ?_ ?_) <;> (simp only [go_sem]))) | (first | refine cdq ?_ (hc := hi) | refine cmq ?_ (hc := hi) | refine ctq ?_ (hc := hi)); (simp only [go_sem]) | fail)
  (refine hR _ (rat [] (hK := ⟨rfl, rfl⟩)))
theorem iOwnTys (l : List Ty) (hl : l.length < 1000000) (hz : ∀ k, k < l.length → (kid l k).size < 1000000) : AFn Try.prog 56 [.one (.sl (tyR l))] (.one (.sl (tyR l))) := by
  refine fn_in ?_; refine acl_in Try.func56 rfl isfn_56 (Nat.le_of_ble_eq_true rfl) (fun R hR => ?_); rw [Try.results56] at hR; refine wg_run ?_; (simp only [Try.f56, go_sem])
  refine wd_for (σ := Nat × C × List Blk) [3, 6, 7, 8] (fun x => [.one x.2.1, .one (.sl (tyR l)), .one (.sc (.int .i64 l.length)), .one (.sc (.int .i64 (x.1 : Nat)))])
    (fun x => x.2.2) (fun x => x.1 ≤ l.length ∧ ((x.1 = 0 ∧ x.2.1 = .sc (.slice none 0 0) ∧ x.2.2 = []) ∨ (0 < x.1 ∧ x.2.1 = .row 2 0 x.1 ∧ x.2.2 = [⟨2, 29, .mut, tyR (l.take x.1)⟩]))) (fun x => l.length - x.1) (0, .sc (.slice none 0 0), []) ⟨Nat.zero_le _, .inl ⟨rfl, rfl, rfl⟩⟩ (hat [] (hI := ⟨rfl, rfl⟩)) ?_
  rintro ⟨k, cc, T⟩ ⟨hk, hO⟩ G hGo
  simp only at hk hO hGo ⊢
  rcases hO with ⟨rfl, rfl, rfl⟩ | ⟨hm, rfl, rfl⟩
  · refine wg_run ?_
    (simp only [go_sem])
    ((first | apply sp1 | apply sp2 | apply sp3 | apply sp4 | apply sp5 | apply sp6 | apply sp7) <;> intro hb) <;> (simp only [go_sem, hb])
    · have hk1 : 0 < l.length := by have := of_decide_eq_true hb; omega
      have hc := iOwnTy 1000000 (by omega) (kid l 0) (hz 0 hk1)
      repeat' (first | (first | (simp only [go_sem, hb]) | (((first | apply sp1 | apply sp2 | apply sp3 | apply sp4 | apply sp5 | apply sp6 | apply sp7) <;> intro hb) <;> (simp only [go_sem, hb, hb])) | ((first | apply wm_done | apply wt_done | apply wg_run | refine fk ?_ ?_) <;> (simp only [go_sem, hb]))) | (first | refine cdq ?_ (hc := hc) | refine cmq ?_ (hc := hc) | refine ctq ?_ (hc := hc)); (simp only [go_sem]) | fail)
      refine hGo (1, _, _) _ _ ⟨hk1, .inr ⟨by simp only; omega, rfl, ?_⟩⟩ (by simp only; omega) (hat [2] (hI := ⟨rfl, rfl⟩))
      simp only [tyR_take hk1, List.take_zero, tyR, List.nil_append]
    · have hk1 : l = [] := by have := of_decide_eq_false hb; exact List.eq_nil_of_length_eq_zero (by omega)
      subst hk1
      repeat' (first | (first | (((first | apply sp1 | apply sp2 | apply sp3 | apply sp4 | apply sp5 | apply sp6 | apply sp7) <;> intro hb) <;> (simp only [go_sem, hb])) | ((first | apply wm_done | apply wt_done | apply wg_run | refine fk ?_ ?_) <;> (simp only [go_sem]))) | fail)
      exact hR _ (rat [] (hK := ⟨rfl, rfl⟩))
  · refine wg_run ?_
    (simp only [go_sem])
    ((first | apply sp1 | apply sp2 | apply sp3 | apply sp4 | apply sp5 | apply sp6 | apply sp7) <;> intro hb) <;> (simp only [go_sem, hb])
    · have hk1 : k < l.length := by have := of_decide_eq_true hb; omega
      have hw1 := wrap_succ hk1 (by omega)
      have hc := iOwnTy 1000000 (by omega) (kid l k) (hz k hk1)
      have hlen : (l.take k).length = k := by rw [List.length_take]; omega
      have hcap : (k + 1) * 32 ≤ 140737488355328 := by omega
      repeat' (first | (first | (simp only [go_sem, hb, hw1, hlen, hcap]) | (((first | apply sp1 | apply sp2 | apply sp3 | apply sp4 | apply sp5 | apply sp6 | apply sp7) <;> intro hb) <;> (simp only [go_sem, hb, hb, hw1, hlen, hcap])) | ((first | apply wm_done | apply wt_done | apply wg_run | refine fk ?_ ?_) <;> (simp only [go_sem, hb, hw1, hlen, hcap]))) | (first | refine cdq ?_ (hc := hc) | refine cmq ?_ (hc := hc) | refine ctq ?_ (hc := hc)); (simp only [go_sem]) | fail)
      refine hGo (k + 1, _, _) _ _ ⟨hk1, .inr ⟨by simp only; omega, rfl, ?_⟩⟩ (by simp only; omega) (hat [3] (hI := ⟨rfl, rfl⟩))
      simp only [tyR_take hk1]
    · have hk1 : k = l.length := by have := of_decide_eq_false hb; omega
      subst hk1
      rw [List.take_length]
      repeat' (first | (first | (((first | apply sp1 | apply sp2 | apply sp3 | apply sp4 | apply sp5 | apply sp6 | apply sp7) <;> intro hb) <;> (simp only [go_sem, hb])) | ((first | apply wm_done | apply wt_done | apply wg_run | refine fk ?_ ?_) <;> (simp only [go_sem]))) | fail)
      exact hR _ (rat [] (hK := ⟨rfl, rfl⟩))
theorem iRefineV (t : T) (ht : t.depth ≤ 4) : AFn Try.prog 29 [.agg (tyC t.ty)] (.one (.sl (tyR ((t.steps 4).map T.ty)))) := by
  have hv := iValid t.ty
  rw [T.valid_ty, decide_eq_true ht] at hv
  have hsz : t.size < 100 := by have h1 := size_depthR t; have h3 : 2 ^ t.depth ≤ 2 ^ 4 := Nat.pow_le_pow_right (by omega) ht; omega
  have hr := iRefinedO t (by omega)
  have hal := t.anys_size
  have hrl := t.refs_len
  have hsl := t.steps_len 4
  have hfl : (t.refs.map T.ty).filter (fun x => !(!x.valid)) = (t.steps 4).map T.ty := by
    rw [← T.refs_steps t 4 ht, List.filter_map]
    congr 1
    apply List.filter_congr
    intro x _
    simp only [Function.comp, T.valid_ty, Bool.not_not]
  have hsub : ∀ x ∈ t.steps 4, x ∈ t.refs := by
    intro x hx
    rw [← T.refs_steps t 4 ht] at hx
    exact (List.mem_filter.1 hx).1
  have hor : AFn Try.prog 56 [.one (.sl (tyR ((t.steps 4).map T.ty)))] (.one (.sl (tyR ((t.steps 4).map T.ty)))) := by
    refine iOwnTys _ (by rw [List.length_map]; omega) (fun k hk => ?_)
    rw [kid_eq hk, List.getElem_map, T.ty_size]
    have := t.refs_size _ (hsub _ (List.getElem_mem (by simpa using hk)))
    omega
  generalize hLL : t.refs.map T.ty = L at *
  generalize (t.steps 4).map T.ty = M at *
  have hLl : L.length < 1000000 := by rw [← hLL, List.length_map]; omega
  cases L with
  | nil =>
    have hr0 : AFn Try.prog 58 [.agg (tyC t.ty)] (.one (.sl [])) := by
      have := iRefined t (by omega)
      rw [hLL] at this; exact this
    have hd := iDelNil 59
    have hM : M = [] := by rw [← hfl]; rfl
    subst hM
    refine fn_in ?_; refine acl_in Try.func29 rfl isfn_29 (Nat.le_of_ble_eq_true rfl) (fun R hR => ?_); rw [Try.results29] at hR; refine wg_run ?_; (simp only [Try.f29, go_sem])
    repeat' (first | (first | (((first | apply sp1 | apply sp2 | apply sp3 | apply sp4 | apply sp5 | apply sp6 | apply sp7) <;> intro hb) <;> (simp only [go_sem, hb])) | ((first | apply wm_done | apply wt_done | apply wg_run | refine fk ?_ ?_) <;> (simp only [go_sem]))) | (first | refine cdq ?_ (hc := hv) | refine cmq ?_ (hc := hv) | refine ctq ?_ (hc := hv)); (simp only [go_sem]) | (first | refine cdq ?_ (hc := hr0) | refine cmq ?_ (hc := hr0) | refine ctq ?_ (hc := hr0)); (simp only [go_sem]) | (first | refine cdq ?_ (hc := hd) | refine cmq ?_ (hc := hd) | refine ctq ?_ (hc := hd)); (simp only [go_sem]) | (first | refine cdq ?_ (hc := hor) | refine cmq ?_ (hc := hor) | refine ctq ?_ (hc := hor)); (simp only [go_sem]) | fail)
    (refine hR _ (rat [] (hK := ⟨rfl, rfl⟩)))
  | cons y L =>
    have hd := iDelT 59 (fun x => !x.valid) (y :: L) (by omega) (by simp) iPred
    rw [hfl] at hd
    have hr1 : ACl Try.prog 58 [.agg (tyC t.ty)] [] (fun r H' => r = .one (.row 2 0 (y :: L).length) ∧ H' = [⟨2, 29, .mut, tyR (y :: L)⟩]) := by
      refine hr.mono ?_
      rintro r H' (⟨h, _⟩ | ⟨_, h1, h2⟩)
      · cases h
      · exact ⟨h1, h2⟩
    generalize (y :: L) = L' at *
    refine fn_in ?_; refine acl_in Try.func29 rfl isfn_29 (Nat.le_of_ble_eq_true rfl) (fun R hR => ?_); rw [Try.results29] at hR; refine wg_run ?_; (simp only [Try.f29, go_sem])
    repeat' (first | (first | (simp only [go_sem, List.getD_cons_zero]) | (((first | apply sp1 | apply sp2 | apply sp3 | apply sp4 | apply sp5 | apply sp6 | apply sp7) <;> intro hb) <;> (simp only [go_sem, hb, List.getD_cons_zero])) | ((first | apply wm_done | apply wt_done | apply wg_run | refine fk ?_ ?_) <;> (simp only [go_sem, List.getD_cons_zero]))) | (first | refine cdq ?_ (hc := hv) | refine cmq ?_ (hc := hv) | refine ctq ?_ (hc := hv)); (simp only [go_sem]) | ((first | refine kdq [] ?_ (hc := hr1) | refine kmq [] ?_ (hc := hr1) | refine ktq [] ?_ (hc := hr1)); rintro _ _ ⟨rfl, rfl⟩ <;> (simp only [go_sem])) | ((first | refine kdq [1] ?_ (hc := hd) | refine kmq [1] ?_ (hc := hd) | refine ktq [1] ?_ (hc := hd)); rintro _ _ ⟨rfl, rfl⟩ <;> (simp only [go_sem])) | (first | refine cdq ?_ (hc := hor) | refine cmq ?_ (hc := hor) | refine ctq ?_ (hc := hor)); (simp only [go_sem]) | fail)
    (refine hR _ (rat [] (hK := ⟨rfl, rfl⟩)))
theorem iRefineN (t : Ty) (h : t.valid = false) : AFn Try.prog 29 [.agg (tyC t)] (.one (.sl [])) := by
  have hv := iValid t
  rw [h] at hv
  refine fn_in ?_; refine acl_in Try.func29 rfl isfn_29 (Nat.le_of_ble_eq_true rfl) (fun R hR => ?_); rw [Try.results29] at hR; refine wg_run ?_; (simp only [Try.f29, go_sem])
  repeat' (first | (first | (((first | apply sp1 | apply sp2 | apply sp3 | apply sp4 | apply sp5 | apply sp6 | apply sp7) <;> intro hb) <;> (simp only [go_sem, hb])) | ((first | apply wm_done | apply wt_done | apply wg_run | refine fk ?_ ?_) <;> (simp only [go_sem]))) | (first | refine cdq ?_ (hc := hv) | refine cmq ?_ (hc := hv) | refine ctq ?_ (hc := hv)); (simp only [go_sem]) | fail)
  (refine hR _ (rat [] (hK := ⟨rfl, rfl⟩)))
end Go.Proofs.Ytkkijdlgmlffoaa
