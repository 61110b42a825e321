/- Texts of the proof, one behind another. -/
import Derived.Test.YtchcbfbnffhifaaKV7
import Derived.Test.YtchcbfbnffhifaaKV8
import Derived.Test.YtchcbfbnffhifaaKV10
import Derived.Test.YtchcbfbnffhifaaKV11
set_option linter.unusedSimpArgs false
set_option linter.unusedVariables false
/- Numbers and labels, on shadows. -/
namespace Go.Proofs.Ytchcbfbnffhifaa
open Go.RowKit Go.Proofs.Sh Go.Proofs.Grad
set_option maxRecDepth 100000
set_option maxHeartbeats 4000000
theorem within (n lo hi : Int) : AFn Try.prog 90 [.one (.sc (.int .i64 n)), .one (.sc (.int .i64 lo)), .one (.sc (.int .i64 hi))] (.one (.sc (.bool (decide (lo ≤ n) && decide (n ≤ hi))))) := by
  refine fn_in ?_; refine acl_in Try.func90 rfl isfn_90 (Nat.le_of_ble_eq_true rfl) (fun R hR => ?_); rw [Try.results90] at hR; refine wg_run ?_; (simp only [Try.f90, go_sem])
  repeat' (first | (((first | apply sp1 | apply sp2 | apply sp3 | apply sp4 | apply sp5 | apply sp6 | apply sp7) <;> intro hb) <;> (simp only [go_sem, hb])) | ((first | apply wm_done | apply wt_done | apply wg_run | refine fk ?_ ?_) <;> (simp only [go_sem])))
  all_goals (refine hR _ (rat [] (hK := ⟨?_, rfl⟩)))
  all_goals simp [hb]
theorem isLabel (n : Int) : AFn Try.prog 63 [.one (.sc (.int .i64 n))] (.one (.sc (.bool (lab n)))) := by
  refine fn_in ?_; refine acl_in Try.func63 rfl isfn_63 (Nat.le_of_ble_eq_true rfl) (fun R hR => ?_); rw [Try.results63] at hR; refine wg_run ?_; (simp only [Try.f63, go_sem])
  repeat' (first | (first | (((first | apply sp1 | apply sp2 | apply sp3 | apply sp4 | apply sp5 | apply sp6 | apply sp7) <;> intro hb) <;> (simp only [go_sem, hb])) | ((first | apply wm_done | apply wt_done | apply wg_run | refine fk ?_ ?_) <;> (simp only [go_sem]))) | (first | refine cdq ?_ (hc := within _ _ _) | refine cmq ?_ (hc := within _ _ _) | refine ctq ?_ (hc := within _ _ _)); (simp only [go_sem]))
  all_goals (refine hR _ (rat [] (hK := ⟨?_, rfl⟩)))
  all_goals simp_all [lab]
  all_goals (intros; omega)
/-- the absolute value of a label, 0 for none -/
def labN (n : Int) : Int := if n < -99 ∨ n > 99 then 0 else if n < 0 then -n else n
theorem l1Abs (n : Int) : AFn Try.prog 109 [.one (.sc (.int .i64 n))] (.one (.sc (.int .i64 (labN n)))) := by
  by_cases h1 : n < -99
  · have d1 : decide (n < -99) = true := by simp; omega
    have e : labN n = 0 := by unfold labN; rw [if_pos (by omega)]
    rw [e]
    refine fn_in ?_; refine acl_in Try.func109 rfl isfn_109 (Nat.le_of_ble_eq_true rfl) (fun R hR => ?_); rw [Try.results109] at hR; refine wg_run ?_; (simp only [Try.f109, go_sem, d1])
    (refine hR _ (rat [] (hK := ⟨rfl, rfl⟩)))
  · have d1 : decide (n < -99) = false := by simp; omega
    by_cases h2 : n > 99
    · have d2 : decide (n > 99) = true := by simp; omega
      have e : labN n = 0 := by unfold labN; rw [if_pos (by omega)]
      rw [e]
      refine fn_in ?_; refine acl_in Try.func109 rfl isfn_109 (Nat.le_of_ble_eq_true rfl) (fun R hR => ?_); rw [Try.results109] at hR; refine wg_run ?_; (simp only [Try.f109, go_sem, d1, d2])
      (refine hR _ (rat [] (hK := ⟨rfl, rfl⟩)))
    · have d2 : decide (n > 99) = false := by simp; omega
      have hw : IntKind.i64.wrap (0 - n) = -n := by rw [IntWalk.i64_in _ (by omega)]; omega
      by_cases h3 : n < 0
      · have d3 : decide (n < 0) = true := by simp; omega
        have e : labN n = -n := by unfold labN; rw [if_neg (by omega), if_pos h3]
        rw [e]
        refine fn_in ?_; refine acl_in Try.func109 rfl isfn_109 (Nat.le_of_ble_eq_true rfl) (fun R hR => ?_); rw [Try.results109] at hR; refine wg_run ?_; (simp only [Try.f109, go_sem, d1, d2, d3, hw])
        (refine hR _ (rat [] (hK := ⟨rfl, rfl⟩)))
      · have d3 : decide (n < 0) = false := by simp; omega
        have e : labN n = n := by unfold labN; rw [if_neg (by omega), if_neg h3]
        rw [e]
        refine fn_in ?_; refine acl_in Try.func109 rfl isfn_109 (Nat.le_of_ble_eq_true rfl) (fun R hR => ?_); rw [Try.results109] at hR; refine wg_run ?_; (simp only [Try.f109, go_sem, d1, d2, d3])
        (refine hR _ (rat [] (hK := ⟨rfl, rfl⟩)))
end Go.Proofs.Ytchcbfbnffhifaa
/- Terms: validity as a form. No program, no world. -/
namespace Go.Proofs.Grad
theorem E.shapeA_tm (e : E) : ∀ d, e.tm.shape 13 d = (e.wf && (e.noA && decide (e.depth ≤ d))) := by
  induction e with
  | var _ | num _ | tru | fls =>
    intro d
    cases d with
    | zero => simp [Tm.shape, E.depth]
    | succ d =>
      rw [Tm.shape, E.nodeOk_tm]
      simp [E.tm, nd, Tm.kind, Tm.kids, E.wf, E.noA, E.depth]
  | lam _ _ a ih | fst a ih | snd a ih | cast _ _ _ a ih =>
    intro d
    cases d with
    | zero => simp [Tm.shape, E.depth]
    | succ d =>
      rw [Tm.shape, E.nodeOk_tm]
      simp only [E.tm, nd, Tm.kind, Tm.kids, E.wf, E.noA, E.depth, List.all_cons, List.all_nil, ih]
      rw [Bool.eq_iff_iff]; simp; try grind
  | asc t a ih =>
    intro d
    cases d with
    | zero => simp [Tm.shape, E.depth]
    | succ d =>
      rw [Tm.shape, E.nodeOk_tm]
      simp [E.tm, Tm.kind, E.noA]
  | app a b iha ihb | add a b iha ihb | less a b iha ihb | pair a b iha ihb =>
    intro d
    cases d with
    | zero => simp [Tm.shape, E.depth]
    | succ d =>
      rw [Tm.shape, E.nodeOk_tm]
      simp only [E.tm, nd, Tm.kind, Tm.kids, E.wf, E.noA, E.depth, List.all_cons, List.all_nil, iha, ihb]
      rw [Bool.eq_iff_iff]; simp; grind
  | ite a b c iha ihb ihc =>
    intro d
    cases d with
    | zero => simp [Tm.shape, E.depth]
    | succ d =>
      rw [Tm.shape, E.nodeOk_tm]
      simp only [E.tm, nd, Tm.kind, Tm.kids, E.wf, E.noA, E.depth, List.all_cons, List.all_nil, iha, ihb, ihc]
      rw [Bool.eq_iff_iff]; simp; grind
theorem opN_cases (k : Int) : (1 ≤ k ∧ k ≤ 14) ∨ opN k = -1 := by
  by_cases h : 1 ≤ k ∧ k ≤ 14
  · exact .inl h
  · right; unfold opN; repeat' (first | rw [if_neg (by omega)])
theorem bs_nil {s : ByteArray} (h : s.size = 0) : s = ByteArray.empty := by
  obtain ⟨⟨l⟩⟩ := s
  rw [size_mk] at h
  simp at h; subst h; rfl
theorem onT_cons_some {a b : Ty} (h : onT T.cons a b = true) : ∃ x y : T, a = x.ty ∧ b = y.ty ∧ x.depth ≤ 4 ∧ y.depth ≤ 4 ∧ x.cons y = true := by
  classical
  unfold onT at h
  obtain ⟨x, y, rfl, rfl, hx, hy, h⟩ := of_decide_eq_true h
  exact ⟨x, y, rfl, rfl, hx, hy, h⟩
theorem Tm.shape_E (no : Int) : ∀ (d : Nat) (t : Tm), t.shape no d = true → ∃ e : E, e.tm = t := by
  intro d
  induction d with
  | zero => intro t h; simp [Tm.shape] at h
  | succ d ih =>
    intro t h
    obtain ⟨k, n, m, ty, f, l, ks⟩ := t
    simp only [Tm.shape, Bool.and_eq_true, Tm.kids, List.all_eq_true] at h
    obtain ⟨_, h1, h2⟩ := h
    simp only [Tm.nodeOk, Tm.kind, Tm.name, Tm.num, Tm.type, Tm.frm, Tm.label, Tm.kids, Bool.and_eq_true, beq_iff_eq, decide_eq_true_eq] at h1
    obtain ⟨q1, q2, q3, q4, q5⟩ := h1
    have hk : 1 ≤ k ∧ k ≤ 14 := by
      rcases opN_cases k with h | h
      · exact h
      · rw [h] at q1; omega
    have e0 : (ks.length : Int) = 0 → ks = [] := fun h => List.eq_nil_of_length_eq_zero (by omega)
    have e1 : (ks.length : Int) = 1 → ∃ a : E, ks = [a.tm] := fun h => by
      match ks, h with
      | [a], _ => obtain ⟨x, hx⟩ := ih a (h2 a (by simp)); exact ⟨x, by rw [hx]⟩
      | [], h => simp at h
      | _ :: _ :: _, h => simp at h; omega
    have e2 : (ks.length : Int) = 2 → ∃ a b : E, ks = [a.tm, b.tm] := fun h => by
      match ks, h with
      | [a, b], _ => obtain ⟨x, hx⟩ := ih a (h2 a (by simp)); obtain ⟨y, hy⟩ := ih b (h2 b (by simp)); exact ⟨x, y, by rw [hx, hy]⟩
      | [], h => simp at h
      | [_], h => simp at h
      | _ :: _ :: _ :: _, h => simp at h; omega
    have e3 : (ks.length : Int) = 3 → ∃ a b c : E, ks = [a.tm, b.tm, c.tm] := fun h => by
      match ks, h with
      | [a, b, c], _ => obtain ⟨x, hx⟩ := ih a (h2 a (by simp)); obtain ⟨y, hy⟩ := ih b (h2 b (by simp)); obtain ⟨z, hz⟩ := ih c (h2 c (by simp)); exact ⟨x, y, z, by rw [hx, hy, hz]⟩
      | [], h => simp at h
      | [_], h => simp at h
      | [_, _], h => simp at h
      | _ :: _ :: _ :: _ :: _, h => simp at h; omega
    clear ih h2
    obtain rfl | rfl | rfl | rfl | rfl | rfl | rfl | rfl | rfl | rfl | rfl | rfl | rfl | rfl : k = 1 ∨ k = 2 ∨ k = 3 ∨ k = 4 ∨ k = 5 ∨ k = 6 ∨ k = 7 ∨ k = 8 ∨ k = 9 ∨ k = 10 ∨ k = 11 ∨ k = 12 ∨ k = 13 ∨ k = 14 := by omega
    all_goals
      simp only [opN, Int.reduceEq, reduceIte, if_true, if_false, or_true, true_or, or_false, or_self, Bool.and_eq_true, beq_iff_eq, decide_eq_true_eq] at q1 q2 q3 q4 q5
    · skip
      obtain ⟨x, rfl, hx⟩ := nmOk_some q2
      obtain rfl := e0 q1.symm
      obtain rfl := Ty.isNo_iff q4; obtain rfl := Ty.isNo_iff q5.1
      obtain rfl : m = 0 := by first | omega | (have a1 := of_decide_eq_true q3.1; have a2 := q3.2; omega)
      exact ⟨.var x, by rw [E.tm, q5.2]⟩
    · obtain rfl := bs_nil q2
      obtain rfl := e0 q1.symm
      obtain rfl := Ty.isNo_iff q4; obtain rfl := Ty.isNo_iff q5.1
      exact ⟨.num m, by rw [E.tm, q5.2]⟩
    · obtain rfl := bs_nil q2
      obtain rfl := e0 q1.symm
      obtain rfl := Ty.isNo_iff q4; obtain rfl := Ty.isNo_iff q5.1
      obtain rfl : m = 0 := by first | omega | (have a1 := of_decide_eq_true q3.1; have a2 := q3.2; omega)
      exact ⟨.tru, by rw [E.tm, q5.2]; rfl⟩
    · obtain rfl := bs_nil q2
      obtain rfl := e0 q1.symm
      obtain rfl := Ty.isNo_iff q4; obtain rfl := Ty.isNo_iff q5.1
      obtain rfl : m = 0 := by first | omega | (have a1 := of_decide_eq_true q3.1; have a2 := q3.2; omega)
      exact ⟨.fls, by rw [E.tm, q5.2]; rfl⟩
    · obtain ⟨x, rfl, hx⟩ := nmOk_some q2
      obtain ⟨a, rfl⟩ := e1 q1.symm
      obtain ⟨t, rfl, ht⟩ := (Ty.valid_iff ty).1 q4
      obtain rfl := Ty.isNo_iff q5.1
      obtain rfl : m = 0 := by first | omega | (have a1 := of_decide_eq_true q3.1; have a2 := q3.2; omega)
      exact ⟨.lam x t a, by rw [E.tm, q5.2]⟩
    all_goals obtain rfl := bs_nil q2
    all_goals obtain rfl : m = 0 := by first | omega | (have a1 := of_decide_eq_true q3.1; have a2 := q3.2; omega)
    all_goals try
      (obtain ⟨a, b, rfl⟩ := e2 q1.symm
       obtain rfl := Ty.isNo_iff q4; obtain rfl := Ty.isNo_iff q5.1
       first
         | exact ⟨.app a b, by rw [E.tm, q5.2]; rfl⟩
         | exact ⟨.add a b, by rw [E.tm, q5.2]; rfl⟩
         | exact ⟨.less a b, by rw [E.tm, q5.2]; rfl⟩
         | exact ⟨.pair a b, by rw [E.tm, q5.2]; rfl⟩
       done)
    · obtain ⟨a, b, c, rfl⟩ := e3 q1.symm
      obtain rfl := Ty.isNo_iff q4; obtain rfl := Ty.isNo_iff q5.1
      exact ⟨.ite a b c, by rw [E.tm, q5.2]; rfl⟩
    · obtain ⟨a, rfl⟩ := e1 q1.symm
      obtain rfl := Ty.isNo_iff q4; obtain rfl := Ty.isNo_iff q5.1
      exact ⟨.fst a, by rw [E.tm, q5.2]; rfl⟩
    · obtain ⟨a, rfl⟩ := e1 q1.symm
      obtain rfl := Ty.isNo_iff q4; obtain rfl := Ty.isNo_iff q5.1
      exact ⟨.snd a, by rw [E.tm, q5.2]; rfl⟩
    · obtain ⟨a, rfl⟩ := e1 q1.symm
      obtain ⟨t, rfl, ht⟩ := (Ty.valid_iff ty).1 q4
      obtain rfl := Ty.isNo_iff q5.1
      exact ⟨.asc t a, by rw [E.tm, q5.2]⟩
    · obtain ⟨a, rfl⟩ := e1 q1.symm
      obtain ⟨s, t, rfl, rfl, hs, ht, hc⟩ := onT_cons_some q5.1
      exact ⟨.cast s t l a, rfl⟩
/-- .. with casts -/
def E.okC (e : E) : Bool := e.wf && (e.noA && (decide (e.depth ≤ 40) && decide (e.nodes ≤ 200)))
theorem E.castV_tm (e : E) : e.tm.castV = e.okC := by simp only [Tm.castV, E.shapeA_tm, E.tm_nodes, E.okC, Bool.and_assoc]
theorem Tm.castV_E {t : Tm} (h : t.castV = true) : ∃ e : E, e.tm = t ∧ e.okC = true := by
  have h' := h
  simp only [Tm.castV, Bool.and_eq_true] at h'
  obtain ⟨e, rfl⟩ := Tm.shape_E _ _ _ h'.1
  exact ⟨e, rfl, by rwa [← E.castV_tm]⟩
end Go.Proofs.Grad
/- Terms: the program's checks, on shadows. -/
namespace Go.Proofs.Sh
open Go.Proofs.Grad
theorem bytes_nil (s : ByteArray) : (s.toList == ByteArray.toList { data := { toList := [] } }) = (s.size == 0) := by
  rw [Bool.eq_iff_iff, beq_iff_eq, beq_iff_eq]
  constructor
  · intro h; rw [bytes_ext h]; rfl
  · intro h; rw [bs_nil h]; rfl
theorem nm_iff (s : ByteArray) : nmOk s = (s.size == 1 && (match s[0]? with | some b => decide (97 ≤ (b.toNat : Int)) && decide ((b.toNat : Int) ≤ 122) | none => false)) := rfl
@[go_sem] theorem opN_1 : opN 1 = 0 := rfl
@[go_sem] theorem opN_2 : opN 2 = 0 := rfl
@[go_sem] theorem opN_3 : opN 3 = 0 := rfl
@[go_sem] theorem opN_4 : opN 4 = 0 := rfl
@[go_sem] theorem opN_5 : opN 5 = 1 := rfl
@[go_sem] theorem opN_6 : opN 6 = 2 := rfl
@[go_sem] theorem opN_7 : opN 7 = 2 := rfl
@[go_sem] theorem opN_8 : opN 8 = 2 := rfl
@[go_sem] theorem opN_9 : opN 9 = 3 := rfl
@[go_sem] theorem opN_10 : opN 10 = 2 := rfl
@[go_sem] theorem opN_11 : opN 11 = 1 := rfl
@[go_sem] theorem opN_12 : opN 12 = 1 := rfl
@[go_sem] theorem opN_13 : opN 13 = 1 := rfl
@[go_sem] theorem opN_14 : opN 14 = 1 := rfl
theorem kinds {k : Int} (h : 1 ≤ k ∧ k ≤ 14) : k = 1 ∨ k = 2 ∨ k = 3 ∨ k = 4 ∨ k = 5 ∨ k = 6 ∨ k = 7 ∨ k = 8 ∨ k = 9 ∨ k = 10 ∨ k = 11 ∨ k = 12 ∨ k = 13 ∨ k = 14 := by omega
theorem opN_bound (k : Int) : opN k ≤ 3 := by unfold opN; repeat' (first | omega | split)
end Go.Proofs.Sh
namespace Go.Proofs.Grad
/-- what is asked of a node but for the number of its operands -/
noncomputable def Tm.ownOk (t : Tm) : Bool :=
  ((if t.kind = 1 ∨ t.kind = 5 then nmOk t.name else t.name.size == 0) &&
  ((decide (0 ≤ t.num) && decide (t.num ≤ if t.kind = 2 then 999 else 0)) &&
  ((if t.kind = 5 ∨ t.kind = 13 ∨ t.kind = 14 then t.type.valid else t.type.isNo) &&
  (if t.kind = 14 then onT T.cons t.frm t.type && lab t.label else t.frm.isNo && t.label == 0))))
theorem Tm.nodeOk_own (t : Tm) : t.nodeOk = (opN t.kind == (t.kids.length : Int) && t.ownOk) := rfl
end Go.Proofs.Grad
namespace Go.Proofs.Ytchcbfbnffhifaa
open Go.RowKit Go.Proofs.Sh Go.Proofs.Grad
set_option maxRecDepth 100000
set_option maxHeartbeats 8000000
theorem iIsName (s : ByteArray) : AFn Try.prog 153 [.one (.sc (.string s))] (.one (.sc (.bool (nmOk s)))) := by
  rw [nm_iff]
  by_cases h : s.size = 1
  · have h0 : s[0]? = some s[0] := getElem?_pos s 0 (by omega)
    have h1 : ((s.size : Int) == 1) = true := by simp; omega
    have h2 : (s.size == 1) = true := by simp; omega
    rw [h0, h2]
    refine fn_in ?_; refine acl_in Try.func153 rfl isfn_153 (Nat.le_of_ble_eq_true rfl) (fun R hR => ?_); rw [Try.results153] at hR; refine wg_run ?_; (simp only [Try.f153, go_sem, h0, h1])
    repeat' (first | (simp only [go_sem, h0]) | (((first | apply sp1 | apply sp2 | apply sp3 | apply sp4 | apply sp5 | apply sp6 | apply sp7) <;> intro hb) <;> (simp only [go_sem, hb, h0])) | ((first | apply wm_done | apply wt_done | apply wg_run | refine fk ?_ ?_) <;> (simp only [go_sem, h0])))
    all_goals (refine hR _ (rat [] (hK := ⟨?_, rfl⟩)))
    all_goals simp_all
    all_goals (try (intros; omega))
  · have h1 : ((s.size : Int) == 1) = false := by simp; omega
    have h2 : (s.size == 1) = false := by simp; omega
    rw [h2]
    refine fn_in ?_; refine acl_in Try.func153 rfl isfn_153 (Nat.le_of_ble_eq_true rfl) (fun R hR => ?_); rw [Try.results153] at hR; refine wg_run ?_; (simp only [Try.f153, go_sem, h1])
    repeat' (first | (((first | apply sp1 | apply sp2 | apply sp3 | apply sp4 | apply sp5 | apply sp6 | apply sp7) <;> intro hb) <;> (simp only [go_sem, hb])) | ((first | apply wm_done | apply wt_done | apply wg_run | refine fk ?_ ?_) <;> (simp only [go_sem])))
    all_goals (refine hR _ (rat [] (hK := ⟨?_, rfl⟩)))
    all_goals simp_all
theorem iIsNo (t : Ty) : AFn Try.prog 155 [.agg (tyC t)] (.one (.sc (.bool t.isNo))) := by
  have e : t.isNo = (t.kind == 0 && ((t.kids.length : Int) == 0)) := by
    simp only [Ty.isNo]; congr 1; rw [Bool.eq_iff_iff]; simp
  rw [e]
  refine fn_in ?_; refine acl_in Try.func155 rfl isfn_155 (Nat.le_of_ble_eq_true rfl) (fun R hR => ?_); rw [Try.results155] at hR; refine wg_run ?_; (simp only [Try.f155, go_sem])
  repeat' (first | (((first | apply sp1 | apply sp2 | apply sp3 | apply sp4 | apply sp5 | apply sp6 | apply sp7) <;> intro hb) <;> (simp only [go_sem, hb])) | ((first | apply wm_done | apply wt_done | apply wg_run | refine fk ?_ ?_) <;> (simp only [go_sem])))
  all_goals (refine hR _ (rat [] (hK := ⟨?_, rfl⟩)))
  all_goals simp_all
theorem iOperands (k : Int) : AFn Try.prog 152 [.one (.sc (.int .i64 k))] (.one (.sc (.int .i64 (opN k)))) := by
  have hw := within k 1 14
  by_cases h : 1 ≤ k ∧ k ≤ 14
  · obtain rfl | rfl | rfl | rfl | rfl | rfl | rfl | rfl | rfl | rfl | rfl | rfl | rfl | rfl := kinds h
    all_goals
      refine fn_in ?_; refine acl_in Try.func152 rfl isfn_152 (Nat.le_of_ble_eq_true rfl) (fun R hR => ?_); rw [Try.results152] at hR; refine wg_run ?_; (simp only [Try.f152, go_sem])
      repeat' (first | (first | (((first | apply sp1 | apply sp2 | apply sp3 | apply sp4 | apply sp5 | apply sp6 | apply sp7) <;> intro hb) <;> (simp only [go_sem, hb])) | ((first | apply wm_done | apply wt_done | apply wg_run | refine fk ?_ ?_) <;> (simp only [go_sem]))) | (first | refine cdq ?_ (hc := hw) | refine cmq ?_ (hc := hw) | refine ctq ?_ (hc := hw)); (simp only [go_sem]))
      (refine hR _ (rat [] (hK := ⟨?_, rfl⟩)))
      rfl
  · have hf : (decide (1 ≤ k) && decide (k ≤ 14)) = false := by simp; omega
    rw [hf] at hw
    refine fn_in ?_; refine acl_in Try.func152 rfl isfn_152 (Nat.le_of_ble_eq_true rfl) (fun R hR => ?_); rw [Try.results152] at hR; refine wg_run ?_; (simp only [Try.f152, go_sem])
    repeat' (first | (first | (((first | apply sp1 | apply sp2 | apply sp3 | apply sp4 | apply sp5 | apply sp6 | apply sp7) <;> intro hb) <;> (simp only [go_sem, hb])) | ((first | apply wm_done | apply wt_done | apply wg_run | refine fk ?_ ?_) <;> (simp only [go_sem]))) | (first | refine cdq ?_ (hc := hw) | refine cmq ?_ (hc := hw) | refine ctq ?_ (hc := hw)); (simp only [go_sem]))
    (refine hR _ (rat [] (hK := ⟨?_, rfl⟩)))
    rcases opN_cases k with h' | h'
    · exact absurd h' h
    · rw [h']
theorem iNodeOk (t : Tm) : AFn Try.prog 138 [.agg (teC t)] (.one (.sc (.bool t.nodeOk))) := by
  have ho := iOperands t.kind
  have hn := iIsName t.name
  have ht := iValid t.type
  have ht0 := iIsNo t.type
  have hf0 := iIsNo t.frm
  have hc := iConsistent t.frm t.type
  have hl := isLabel t.label
  rw [Tm.nodeOk_own]
  by_cases hlen : opN t.kind = (t.kids.length : Int)
  · have hk : 1 ≤ t.kind ∧ t.kind ≤ 14 := by
      rcases opN_cases t.kind with h | h
      · exact h
      · rw [h] at hlen; omega
    rw [← hlen, beq_self_eq_true, Bool.true_and]
    unfold Tm.ownOk
    obtain h | h | h | h | h | h | h | h | h | h | h | h | h | h := kinds hk
    all_goals rw [h] at hlen ho ⊢
    all_goals simp only [Int.reduceEq, or_true, true_or, or_false, or_self, if_true, if_false, reduceIte, opN_1, opN_2, opN_3, opN_4, opN_5, opN_6, opN_7, opN_8, opN_9, opN_10, opN_11, opN_12, opN_13, opN_14] at hlen ho ⊢
    all_goals
      refine fn_in ?_; refine acl_in Try.func138 rfl isfn_138 (Nat.le_of_ble_eq_true rfl) (fun R hR => ?_); rw [Try.results138] at hR; refine wg_run ?_; (simp only [Try.f138, go_sem, h])
      repeat' (first | (first | (simp only [go_sem, h, ← hlen, bytes_nil, int_bne]) | (((first | apply sp1 | apply sp2 | apply sp3 | apply sp4 | apply sp5 | apply sp6 | apply sp7) <;> intro hb) <;> (simp only [go_sem, hb, h, ← hlen, bytes_nil, int_bne])) | ((first | apply wm_done | apply wt_done | apply wg_run | refine fk ?_ ?_) <;> (simp only [go_sem, h, ← hlen, bytes_nil, int_bne]))) | ((first | refine mxq6 [] ?_ | refine mxq5 [] ?_ | refine mxq4 [] ?_ | refine mxq3 [] ?_ | refine mxq2 [] ?_ | refine mxq1 [] ?_ | refine mxq0 [] ?_ | fail); (simp only [go_sem, h, ← hlen, bytes_nil, int_bne])) | (first | refine cdq ?_ (hc := ho) | refine cmq ?_ (hc := ho) | refine ctq ?_ (hc := ho)); (simp only [go_sem]) | (first | refine cdq ?_ (hc := hn) | refine cmq ?_ (hc := hn) | refine ctq ?_ (hc := hn)); (simp only [go_sem]) | (first | refine cdq ?_ (hc := within _ _ _) | refine cmq ?_ (hc := within _ _ _) | refine ctq ?_ (hc := within _ _ _)); (simp only [go_sem]) | (first | refine cdq ?_ (hc := ht) | refine cmq ?_ (hc := ht) | refine ctq ?_ (hc := ht)); (simp only [go_sem]) | (first | refine cdq ?_ (hc := ht0) | refine cmq ?_ (hc := ht0) | refine ctq ?_ (hc := ht0)); (simp only [go_sem]) | (first | refine cdq ?_ (hc := hf0) | refine cmq ?_ (hc := hf0) | refine ctq ?_ (hc := hf0)); (simp only [go_sem]) | (first | refine cdq ?_ (hc := hc) | refine cmq ?_ (hc := hc) | refine ctq ?_ (hc := hc)); (simp only [go_sem]) | (first | refine cdq ?_ (hc := hl) | refine cmq ?_ (hc := hl) | refine ctq ?_ (hc := hl)); (simp only [go_sem]))
      all_goals (refine hR _ (rat [] (hK := ⟨?_, rfl⟩)))
      all_goals clear hR ho hn ht ht0 hf0 hc hl
      all_goals simp_all
      all_goals (try grind)
  · have hb0 : (opN t.kind == (t.kids.length : Int)) = false := by simp [hlen]
    rw [hb0]
    refine fn_in ?_; refine acl_in Try.func138 rfl isfn_138 (Nat.le_of_ble_eq_true rfl) (fun R hR => ?_); rw [Try.results138] at hR; refine wg_run ?_; (simp only [Try.f138, go_sem])
    repeat' (first | (first | (simp only [go_sem, hb0, int_bne]) | (((first | apply sp1 | apply sp2 | apply sp3 | apply sp4 | apply sp5 | apply sp6 | apply sp7) <;> intro hb) <;> (simp only [go_sem, hb, hb0, int_bne])) | ((first | apply wm_done | apply wt_done | apply wg_run | refine fk ?_ ?_) <;> (simp only [go_sem, hb0, int_bne]))) | ((first | refine mxq6 [] ?_ | refine mxq5 [] ?_ | refine mxq4 [] ?_ | refine mxq3 [] ?_ | refine mxq2 [] ?_ | refine mxq1 [] ?_ | refine mxq0 [] ?_ | fail); (simp only [go_sem, hb0, int_bne])) | (first | refine cdq ?_ (hc := ho) | refine cmq ?_ (hc := ho) | refine ctq ?_ (hc := ho)); (simp only [go_sem]))
    (refine hR _ (rat [] (hK := ⟨rfl, rfl⟩)))
end Go.Proofs.Ytchcbfbnffhifaa
/- Terms: validity in the program, on shadows. -/
namespace Go.Proofs.Grad
theorem Tm.nodess_take {l : List Tm} {k : Nat} (h : k < l.length) : Tm.nodess (l.take (k + 1)) = Tm.nodess (l.take k) + (Sh.teKid l k).nodes := by
  rw [Sh.tetake_kid h]
  induction l.take k with
  | nil => simp [Tm.nodess]
  | cons x m ih => simp only [List.cons_append, Tm.nodess, ih]; omega
theorem Tm.nodess_le_take (l : List Tm) : ∀ k, Tm.nodess (l.take k) ≤ Tm.nodess l := by
  induction l with
  | nil => intro k; simp [Tm.nodess]
  | cons x l ih => intro k; cases k with
    | zero => simp [Tm.nodess]
    | succ k => have := ih k; simp only [List.take_succ_cons, Tm.nodess]; omega
theorem Tm.shape_succ (no : Int) (m : Nat) (t : Tm) : t.shape no (m + 1) = (!(t.kind == no) && (t.nodeOk && t.kids.all (Tm.shape no m))) := rfl
theorem Tm.nodeOk_len {t : Tm} (h : t.nodeOk = true) : t.kids.length ≤ 3 := by
  rw [Tm.nodeOk_own, Bool.and_eq_true, beq_iff_eq] at h
  have := Sh.opN_bound t.kind
  omega
end Go.Proofs.Grad
namespace Go.Proofs.Ytchcbfbnffhifaa
open Go.RowKit Go.Proofs.Sh Go.Proofs.Grad
set_option maxRecDepth 100000
set_option maxHeartbeats 8000000
theorem iScanT (no : Int) (most D : Nat) (hmost : most ≤ 100000) (hD : D ≤ 100) (m : Nat) (hm : m ≤ D) : ∀ (t : Tm) (c : Nat), c ≤ most → ACl Try.prog 101 [.agg (teC t), .one (.sc (.int .i64 ((D : Int) + 1 - (m : Int)))), .one (.sc (.int .i64 (most : Nat))), .one (.sc (.int .i64 (D : Nat))), .one (.sc (.int .i64 no)), .one (.ptr 1 0 0 0)] [⟨1, 3, .mut, [[.sc (.int .i64 (c : Nat))]]⟩]
    (fun r H' => ∃ (b : Bool) (c' : Nat), r = .one (.sc (.bool b)) ∧ H' = [⟨1, 3, .mut, [[.sc (.int .i64 (c' : Nat))]]⟩] ∧ b = (t.shape no m && decide (c + t.nodes ≤ most)) ∧ (b = true → c' = c + t.nodes)) := by
  induction m with
  | zero =>
    intro t c hc
    have hw : IntKind.i64.wrap ((c : Int) + 1) = ((c + 1 : Nat) : Int) := by rw [IntWalk.i64_in _ (by omega)]; omega
    have hd : decide ((D : Int) + 1 - ((0 : Nat) : Int) > (D : Int)) = true := by simp; omega
    simp only [Int.natCast_zero] at hd ⊢
    refine acl_in Try.func101 rfl isfn_101 (Nat.le_of_ble_eq_true rfl) (fun R hR => ?_); rw [Try.results101] at hR; refine wg_run ?_; (simp only [Try.f101, go_sem, hw])
    repeat' (first | (simp only [go_sem, hd]) | (((first | apply sp1 | apply sp2 | apply sp3 | apply sp4 | apply sp5 | apply sp6 | apply sp7) <;> intro hb) <;> (simp only [go_sem, hb, hd])) | ((first | apply wm_done | apply wt_done | apply wg_run | refine fk ?_ ?_) <;> (simp only [go_sem, hd])))
    all_goals refine hR _ (rat [] (hK := ⟨false, _, rfl, rfl, ?_, by simp⟩))
    all_goals rfl
  | succ m ih =>
    intro t c hc
    have hw : IntKind.i64.wrap ((c : Int) + 1) = ((c + 1 : Nat) : Int) := by rw [IntWalk.i64_in _ (by omega)]; omega
    have hd : decide ((D : Int) + 1 - ((m + 1 : Nat) : Int) > (D : Int)) = false := by simp; omega
    have hw2 : IntKind.i64.wrap ((D : Int) + 1 - ((m + 1 : Nat) : Int) + 1) = (D : Int) + 1 - (m : Int) := by rw [IntWalk.i64_in _ (by omega)]; omega
    have hno := iNodeOk t
    have hnodes := t.nodes_eq
    by_cases hover : c + 1 ≤ most
    · have ho : decide (((c + 1 : Nat) : Int) > (most : Int)) = false := by simp; omega
      cases hk : (t.kind == no)
      · cases hok : t.nodeOk
        · rw [hok] at hno
          have he : t.shape no (m + 1) = false := by rw [Tm.shape_succ, hok]; simp
          rw [he]
          refine acl_in Try.func101 rfl isfn_101 (Nat.le_of_ble_eq_true rfl) (fun R hR => ?_); rw [Try.results101] at hR; refine wg_run ?_; (simp only [Try.f101, go_sem, hw])
          repeat' (first | (first | (simp only [go_sem, hd, ho, hk]) | (((first | apply sp1 | apply sp2 | apply sp3 | apply sp4 | apply sp5 | apply sp6 | apply sp7) <;> intro hb) <;> (simp only [go_sem, hb, hd, ho, hk])) | ((first | apply wm_done | apply wt_done | apply wg_run | refine fk ?_ ?_) <;> (simp only [go_sem, hd, ho, hk]))) | (first | refine cdq ?_ (hc := hno) | refine cmq ?_ (hc := hno) | refine ctq ?_ (hc := hno)); (simp only [go_sem]))
          refine hR _ (rat [] (hK := ⟨false, _, rfl, rfl, rfl, by simp⟩))
        · rw [hok] at hno
          have hlen := Tm.nodeOk_len hok
          have he : t.shape no (m + 1) = t.kids.all (Tm.shape no m) := by rw [Tm.shape_succ, hok, hk]; simp
          rw [he]
          have ih := ih (by omega)
          refine acl_in Try.func101 rfl isfn_101 (Nat.le_of_ble_eq_true rfl) (fun R hR => ?_); rw [Try.results101] at hR; refine wg_run ?_; (simp only [Try.f101, go_sem, hw])
          repeat' (first | (first | (simp only [go_sem, hd, ho, hk]) | (((first | apply sp1 | apply sp2 | apply sp3 | apply sp4 | apply sp5 | apply sp6 | apply sp7) <;> intro hb) <;> (simp only [go_sem, hb, hd, ho, hk])) | ((first | apply wm_done | apply wt_done | apply wg_run | refine fk ?_ ?_) <;> (simp only [go_sem, hd, ho, hk]))) | (first | refine cdq ?_ (hc := hno) | refine cmq ?_ (hc := hno) | refine ctq ?_ (hc := hno)); (simp only [go_sem]))
          refine wd_for [1, 2, 3, 4, 5, 42, 43, 44] (fun k => [.one (.sc (.int .i64 ((D : Int) + 1 - ((m + 1 : Nat) : Int)))), .one (.sc (.int .i64 (most : Nat))), .one (.sc (.int .i64 (D : Nat))), .one (.sc (.int .i64 no)), .one (.ptr 1 0 0 0), .one (.sl (teR t.kids)), .one (.sc (.int .i64 t.kids.length)), .one (.sc (.int .i64 (k : Nat)))])
            (fun k => [⟨1, 3, .mut, [[.sc (.int .i64 ((c + 1 + Tm.nodess (t.kids.take k) : Nat) : Int))]]⟩])
            (fun k => k ≤ t.kids.length ∧ c + 1 + Tm.nodess (t.kids.take k) ≤ most ∧ (t.kids.drop k).all (Tm.shape no m) = t.kids.all (Tm.shape no m)) (fun k => t.kids.length - k) 0 ⟨Nat.zero_le _, by simp [Tm.nodess]; omega, rfl⟩ (hat [] (hI := ⟨rfl, by simp [Tm.nodess]⟩)) ?_
          rintro k ⟨hk0, hs, ha⟩ G hG
          refine wg_run ?_
          (simp only [go_sem])
          ((first | apply sp1 | apply sp2 | apply sp3 | apply sp4 | apply sp5 | apply sp6 | apply sp7) <;> intro hb) <;> (simp only [go_sem, hb])
          · have hk1 : k < t.kids.length := by have := of_decide_eq_true hb; omega
            have hw1 := wrap_succ hk1 (by omega)
            have hc := ih (teKid t.kids k) (c + 1 + Tm.nodess (t.kids.take k)) hs
            have hnt := Tm.nodess_take hk1
            have hle := Tm.nodess_le_take t.kids (k + 1)
            rw [tedrop_kid hk1, List.all_cons] at ha
            repeat' (first | (first | (simp only [go_sem, hw1, hw2, hb]) | (((first | apply sp1 | apply sp2 | apply sp3 | apply sp4 | apply sp5 | apply sp6 | apply sp7) <;> intro hb) <;> (simp only [go_sem, hb, hw1, hw2, hb])) | ((first | apply wm_done | apply wt_done | apply wg_run | refine fk ?_ ?_) <;> (simp only [go_sem, hw1, hw2, hb]))) | ((first | refine kdq [0] ?_ (hc := hc) | refine kmq [0] ?_ (hc := hc) | refine ktq [0] ?_ (hc := hc)); rintro _ _ ⟨b, c', rfl, rfl, hbq, hcq⟩ <;> (simp only [go_sem])))
            · have hb2 : b = true := by simpa using hb
              subst hb2
              have := hcq rfl
              subst this
              have hbq := hbq.symm
              rw [Bool.and_eq_true, decide_eq_true_eq] at hbq
              refine hG (k + 1) _ _ ⟨by omega, by omega, ?_⟩ (by omega) (hat [] (hI := ⟨rfl, ?_⟩))
              · rw [← ha, hbq.1]; rfl
              · rw [hnt, Nat.add_assoc (c + 1)]
            · have hb2 : b = false := by simpa using hb
              subst hb2
              refine hR _ (rat [] (hK := ⟨false, _, rfl, rfl, ?_, by simp⟩))
              have hbq := hbq.symm
              rw [Bool.and_eq_false_iff] at hbq
              rcases hbq with h | h
              · rw [← ha, h]; rfl
              · have h := of_decide_eq_false h
                have : ¬ c + t.nodes ≤ most := by omega
                simp [this]
          · have hk1 : k = t.kids.length := by have := of_decide_eq_false hb; omega
            subst hk1
            rw [List.take_length] at hs
            rw [List.drop_length, List.all_nil] at ha
            refine hR _ (rat [] (hK := ⟨true, _, rfl, rfl, ?_, ?_⟩))
            · rw [← ha]
              have : c + t.nodes ≤ most := by omega
              simp [this]
            · intro _; rw [List.take_length]; omega
      · have he : t.shape no (m + 1) = false := by rw [Tm.shape_succ, hk]; simp
        rw [he]
        refine acl_in Try.func101 rfl isfn_101 (Nat.le_of_ble_eq_true rfl) (fun R hR => ?_); rw [Try.results101] at hR; refine wg_run ?_; (simp only [Try.f101, go_sem, hw])
        repeat' (first | (simp only [go_sem, hd, ho, hk]) | (((first | apply sp1 | apply sp2 | apply sp3 | apply sp4 | apply sp5 | apply sp6 | apply sp7) <;> intro hb) <;> (simp only [go_sem, hb, hd, ho, hk])) | ((first | apply wm_done | apply wt_done | apply wg_run | refine fk ?_ ?_) <;> (simp only [go_sem, hd, ho, hk])))
        refine hR _ (rat [] (hK := ⟨false, _, rfl, rfl, rfl, by simp⟩))
    · have ho : decide (((c + 1 : Nat) : Int) > (most : Int)) = true := by simp; omega
      have he : decide (c + t.nodes ≤ most) = false := by simp; omega
      rw [he]
      refine acl_in Try.func101 rfl isfn_101 (Nat.le_of_ble_eq_true rfl) (fun R hR => ?_); rw [Try.results101] at hR; refine wg_run ?_; (simp only [Try.f101, go_sem, hw])
      repeat' (first | (simp only [go_sem, ho]) | (((first | apply sp1 | apply sp2 | apply sp3 | apply sp4 | apply sp5 | apply sp6 | apply sp7) <;> intro hb) <;> (simp only [go_sem, hb, ho])) | ((first | apply wm_done | apply wt_done | apply wg_run | refine fk ?_ ?_) <;> (simp only [go_sem, ho])))
      refine hR _ (rat [] (hK := ⟨false, _, rfl, rfl, by simp, by simp⟩))
theorem iCastV (t : Tm) : AFn Try.prog 54 [.agg (teC t)] (.one (.sc (.bool t.castV))) := by
  have hc := iScanT 13 200 40 (by omega) (by omega) 40 (by omega) t 0 (by omega)
  have e1 : ((40 : Nat) : Int) + 1 - ((40 : Nat) : Int) = 1 := by omega
  rw [e1] at hc
  simp only [Int.cast_ofNat_Int, Int.natCast_zero] at hc
  refine fn_in ?_; refine acl_in Try.func54 rfl isfn_54 (Nat.le_of_ble_eq_true rfl) (fun R hR => ?_); rw [Try.results54] at hR; refine wg_run ?_; (simp only [Try.f54, go_sem])
  repeat' (first | (first | (((first | apply sp1 | apply sp2 | apply sp3 | apply sp4 | apply sp5 | apply sp6 | apply sp7) <;> intro hb) <;> (simp only [go_sem, hb])) | ((first | apply wm_done | apply wt_done | apply wg_run | refine fk ?_ ?_) <;> (simp only [go_sem]))) | ((first | refine kdq [1] ?_ (hc := hc) | refine kmq [1] ?_ (hc := hc) | refine ktq [1] ?_ (hc := hc)); rintro _ _ ⟨b, c', rfl, rfl, hbq, hcq⟩ <;> (simp only [go_sem])))
  (refine hR _ (rat [] (hK := ⟨?_, rfl⟩)))
  rw [hbq, Nat.zero_add]
  rfl
end Go.Proofs.Ytchcbfbnffhifaa
/- Types: the relations of subtyping, on shadows. -/
namespace Go.Proofs.Sh
open Go.Proofs.Grad
@[go_sem] theorem ty_any_kind : T.any.ty.kind = 1 := rfl
@[go_sem] theorem ty_int_kind : T.int.ty.kind = 2 := rfl
@[go_sem] theorem ty_bool_kind : T.bool.ty.kind = 3 := rfl
@[go_sem] theorem ty_fn_kind (a b : T) : (T.fn a b).ty.kind = 4 := rfl
@[go_sem] theorem ty_pr_kind (a b : T) : (T.pr a b).ty.kind = 5 := rfl
@[go_sem] theorem ty_any_kids : T.any.ty.kids = [] := rfl
@[go_sem] theorem ty_int_kids : T.int.ty.kids = [] := rfl
@[go_sem] theorem ty_bool_kids : T.bool.ty.kids = [] := rfl
@[go_sem] theorem ty_fn_kids (a b : T) : (T.fn a b).ty.kids = [a.ty, b.ty] := rfl
@[go_sem] theorem ty_pr_kids (a b : T) : (T.pr a b).ty.kids = [a.ty, b.ty] := rfl
attribute [go_sem] T.ground
end Go.Proofs.Sh
namespace Go.Proofs.Ytchcbfbnffhifaa
open Go.RowKit Go.Proofs.Sh Go.Proofs.Grad
set_option maxRecDepth 100000
set_option maxHeartbeats 4000000
theorem base (k : Int) : AFn Try.prog 83 [.one (.sc (.int .i64 k))] (.agg (tyC (.mk k []))) := by
  refine fn_in ?_; refine acl_in Try.func83 rfl isfn_83 (Nat.le_of_ble_eq_true rfl) (fun R hR => ?_); rw [Try.results83] at hR; refine wg_run ?_; (simp only [Try.f83, go_sem])
  (refine hR _ (rat [] (hK := ⟨rfl, rfl⟩)))
theorem both (k : Int) (a b : Ty) : AFn Try.prog 157 [.one (.sc (.int .i64 k)), .agg (tyC a), .agg (tyC b)] (.agg (tyC (.mk k [a, b]))) := by
  refine fn_in ?_; refine acl_in Try.func157 rfl isfn_157 (Nat.le_of_ble_eq_true rfl) (fun R hR => ?_); rw [Try.results157] at hR; refine wg_run ?_; (simp only [Try.f157, go_sem])
  (refine hR _ (rat [] (hK := ⟨rfl, rfl⟩)))
end Go.Proofs.Ytchcbfbnffhifaa
/- Terms: the reference's checks, on shadows. -/
namespace Go.Proofs.Ytchcbfbnffhifaa
open Go.RowKit Go.Proofs.Sh Go.Proofs.Grad
set_option maxRecDepth 100000
set_option maxHeartbeats 8000000
theorem l2Kids (k : Int) : AFn Try.prog 135 [.one (.sc (.int .i64 k))] (.one (.sc (.int .i64 (opN k)))) := by
  by_cases h : 1 ≤ k ∧ k ≤ 14
  · obtain rfl | rfl | rfl | rfl | rfl | rfl | rfl | rfl | rfl | rfl | rfl | rfl | rfl | rfl := kinds h
    all_goals
      refine fn_in ?_; refine acl_in Try.func135 rfl isfn_135 (Nat.le_of_ble_eq_true rfl) (fun R hR => ?_); rw [Try.results135] at hR; refine wg_run ?_; (simp only [Try.f135, go_sem])
      repeat' (first | (((first | apply sp1 | apply sp2 | apply sp3 | apply sp4 | apply sp5 | apply sp6 | apply sp7) <;> intro hb) <;> (simp only [go_sem, hb])) | ((first | apply wm_done | apply wt_done | apply wg_run | refine fk ?_ ?_) <;> (simp only [go_sem])))
      (refine hR _ (rat [] (hK := ⟨rfl, rfl⟩)))
  · have e : ∀ n : Int, 1 ≤ n → n ≤ 14 → (k == n) = false := fun n h1 h2 => by rw [beq_eq_false_iff_ne]; omega
    have e1 := e 1 (by omega) (by omega); have e2 := e 2 (by omega) (by omega); have e3 := e 3 (by omega) (by omega); have e4 := e 4 (by omega) (by omega); have e5 := e 5 (by omega) (by omega); have e6 := e 6 (by omega) (by omega); have e7 := e 7 (by omega) (by omega)
    have e8 := e 8 (by omega) (by omega); have e9 := e 9 (by omega) (by omega); have e10 := e 10 (by omega) (by omega); have e11 := e 11 (by omega) (by omega); have e12 := e 12 (by omega) (by omega); have e13 := e 13 (by omega) (by omega); have e14 := e 14 (by omega) (by omega)
    have : opN k = -1 := by
      rcases opN_cases k with h' | h'
      · exact absurd h' h
      · exact h'
    rw [this]
    refine fn_in ?_; refine acl_in Try.func135 rfl isfn_135 (Nat.le_of_ble_eq_true rfl) (fun R hR => ?_); rw [Try.results135] at hR; refine wg_run ?_; (simp only [Try.f135, go_sem, e1, e2, e3, e4, e5, e6, e7, e8, e9, e10, e11, e12, e13, e14])
    repeat' (first | (((first | apply sp1 | apply sp2 | apply sp3 | apply sp4 | apply sp5 | apply sp6 | apply sp7) <;> intro hb) <;> (simp only [go_sem, hb])) | ((first | apply wm_done | apply wt_done | apply wg_run | refine fk ?_ ?_) <;> (simp only [go_sem])))
    (refine hR _ (rat [] (hK := ⟨rfl, rfl⟩)))
theorem sName (s : ByteArray) : AFn Try.prog 150 [.one (.sc (.string s))] (.one (.sc (.bool (nmOk s)))) := by
  rw [nm_iff]
  by_cases h : s.size = 1
  · have h0 : s[0]? = some s[0] := getElem?_pos s 0 (by omega)
    have h1 : ((s.size : Int) == 1) = true := by simp; omega
    have h2 : (s.size == 1) = true := by simp; omega
    rw [h0, h2]
    refine fn_in ?_; refine acl_in Try.func150 rfl isfn_150 (Nat.le_of_ble_eq_true rfl) (fun R hR => ?_); rw [Try.results150] at hR; refine wg_run ?_; (simp only [Try.f150, go_sem, h0, h1])
    repeat' (first | (simp only [go_sem, h0]) | (((first | apply sp1 | apply sp2 | apply sp3 | apply sp4 | apply sp5 | apply sp6 | apply sp7) <;> intro hb) <;> (simp only [go_sem, hb, h0])) | ((first | apply wm_done | apply wt_done | apply wg_run | refine fk ?_ ?_) <;> (simp only [go_sem, h0])))
    all_goals (refine hR _ (rat [] (hK := ⟨?_, rfl⟩)))
    all_goals simp_all
    all_goals (try (intros; omega))
  · have h1 : ((s.size : Int) == 1) = false := by simp; omega
    have h2 : (s.size == 1) = false := by simp; omega
    rw [h2]
    refine fn_in ?_; refine acl_in Try.func150 rfl isfn_150 (Nat.le_of_ble_eq_true rfl) (fun R hR => ?_); rw [Try.results150] at hR; refine wg_run ?_; (simp only [Try.f150, go_sem, h1])
    repeat' (first | (((first | apply sp1 | apply sp2 | apply sp3 | apply sp4 | apply sp5 | apply sp6 | apply sp7) <;> intro hb) <;> (simp only [go_sem, hb])) | ((first | apply wm_done | apply wt_done | apply wg_run | refine fk ?_ ?_) <;> (simp only [go_sem])))
    all_goals (refine hR _ (rat [] (hK := ⟨?_, rfl⟩)))
    all_goals simp_all
theorem sNone (t : Ty) : AFn Try.prog 151 [.agg (tyC t)] (.one (.sc (.bool t.isNo))) := by
  have e : t.isNo = (t.kind == 0 && ((t.kids.length : Int) == 0)) := by
    simp only [Ty.isNo]; congr 1; rw [Bool.eq_iff_iff]; simp
  rw [e]
  refine fn_in ?_; refine acl_in Try.func151 rfl isfn_151 (Nat.le_of_ble_eq_true rfl) (fun R hR => ?_); rw [Try.results151] at hR; refine wg_run ?_; (simp only [Try.f151, go_sem])
  repeat' (first | (((first | apply sp1 | apply sp2 | apply sp3 | apply sp4 | apply sp5 | apply sp6 | apply sp7) <;> intro hb) <;> (simp only [go_sem, hb])) | ((first | apply wm_done | apply wt_done | apply wg_run | refine fk ?_ ?_) <;> (simp only [go_sem])))
  all_goals (refine hR _ (rat [] (hK := ⟨?_, rfl⟩)))
  all_goals simp_all
theorem nmOk_nil {s : ByteArray} (h : s.size = 0) : nmOk s = false := by rw [nm_iff, h]; rfl
theorem l2Own (t : Tm) (h1 : 1 ≤ t.kind) (h2 : t.kind ≤ 13) : AFn Try.prog 137 [.agg (teC t)] (.one (.sc (.bool t.ownOk))) := by
  have hn := sName t.name
  have ht := sValid t.type
  have ht0 := sNone t.type
  have hf0 := sNone t.frm
  unfold Tm.ownOk
  have hz : t.name.size = 0 → nmOk t.name = false := nmOk_nil
  obtain h | h | h | h | h | h | h | h | h | h | h | h | h | h := kinds (k := t.kind) ⟨h1, by omega⟩
  all_goals (try (exfalso; omega))
  all_goals rw [h] at ⊢
  all_goals simp only [Int.reduceEq, or_true, true_or, or_false, or_self, if_true, if_false, reduceIte]
  all_goals
    refine fn_in ?_; refine acl_in Try.func137 rfl isfn_137 (Nat.le_of_ble_eq_true rfl) (fun R hR => ?_); rw [Try.results137] at hR; refine wg_run ?_; (simp only [Try.f137, go_sem, h])
    repeat' (first | (first | (simp only [go_sem, h, bytes_nil, int_bne]) | (((first | apply sp1 | apply sp2 | apply sp3 | apply sp4 | apply sp5 | apply sp6 | apply sp7) <;> intro hb) <;> (simp only [go_sem, hb, h, bytes_nil, int_bne])) | ((first | apply wm_done | apply wt_done | apply wg_run | refine fk ?_ ?_) <;> (simp only [go_sem, h, bytes_nil, int_bne]))) | ((first | refine mxq6 [] ?_ | refine mxq5 [] ?_ | refine mxq4 [] ?_ | refine mxq3 [] ?_ | refine mxq2 [] ?_ | refine mxq1 [] ?_ | refine mxq0 [] ?_ | fail); (simp only [go_sem, h, bytes_nil, int_bne])) | (first | refine cdq ?_ (hc := hn) | refine cmq ?_ (hc := hn) | refine ctq ?_ (hc := hn)); (simp only [go_sem]) | (first | refine cdq ?_ (hc := ht) | refine cmq ?_ (hc := ht) | refine ctq ?_ (hc := ht)); (simp only [go_sem]) | (first | refine cdq ?_ (hc := ht0) | refine cmq ?_ (hc := ht0) | refine ctq ?_ (hc := ht0)); (simp only [go_sem]) | (first | refine cdq ?_ (hc := hf0) | refine cmq ?_ (hc := hf0) | refine ctq ?_ (hc := hf0)); (simp only [go_sem]))
    all_goals (refine hR _ (rat [] (hK := ⟨?_, rfl⟩)))
    all_goals clear hR hn ht ht0 hf0
    all_goals simp_all
    all_goals (try grind)
end Go.Proofs.Ytchcbfbnffhifaa
/- The plain laws of subtyping. -/
namespace Go.Proofs.Grad

end Go.Proofs.Grad
/- Types: consistency in the reference, on shadows. -/
namespace Go.Proofs.Ytchcbfbnffhifaa
open Go.RowKit Go.Proofs.Sh Go.Proofs.Grad
set_option maxRecDepth 100000
set_option maxHeartbeats 4000000
theorem l1Cons (n : Nat) : ∀ a b : T, a.size < n → AFn Try.prog 149 [.agg (tyC a.ty), .agg (tyC b.ty)] (.one (.sc (.bool (a.cons b)))) := by
  induction n with
  | zero => intro a b h; omega
  | succ n ih =>
    intro a b h
    rcases a with _ | _ | _ | ⟨a1, a2⟩ | ⟨a1, a2⟩ <;> rcases b with _ | _ | _ | ⟨b1, b2⟩ | ⟨b1, b2⟩
    all_goals simp only [T.size] at h
    all_goals
      refine fn_in ?_; refine acl_in Try.func149 rfl isfn_149 (Nat.le_of_ble_eq_true rfl) (fun R hR => ?_); rw [Try.results149] at hR; refine wg_run ?_; (simp only [Try.f149, go_sem])
      repeat' (first | (first | (((first | apply sp1 | apply sp2 | apply sp3 | apply sp4 | apply sp5 | apply sp6 | apply sp7) <;> intro hb) <;> (simp only [go_sem, hb])) | ((first | apply wm_done | apply wt_done | apply wg_run | refine fk ?_ ?_) <;> (simp only [go_sem]))) | (first | (refine wl_next (wg_run ?_); (simp only [go_sem])) | refine wd_rounds 6 ?_) | (first | refine cdq ?_ (hc := ih _ _ (by omega)) | refine cmq ?_ (hc := ih _ _ (by omega)) | refine ctq ?_ (hc := ih _ _ (by omega))); (simp only [go_sem]) | ((first | refine mxq6 [] ?_ | refine mxq5 [] ?_ | refine mxq4 [] ?_ | refine mxq3 [] ?_ | refine mxq2 [] ?_ | refine mxq1 [] ?_ | refine mxq0 [] ?_ | fail); (simp only [go_sem])))
      all_goals (refine hR _ (rat [] (hK := ⟨?_, rfl⟩)))
      all_goals simp_all [T.cons]
end Go.Proofs.Ytchcbfbnffhifaa
