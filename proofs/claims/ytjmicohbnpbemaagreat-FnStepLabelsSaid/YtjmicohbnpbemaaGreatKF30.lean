/- Texts of the proof, one behind another. -/
import Derived.Test.YtjmicohbnpbemaaGreatKF9
import Derived.Test.YtjmicohbnpbemaaGreatKF21
import Derived.Test.YtjmicohbnpbemaaGreatKF28
import Derived.Test.YtjmicohbnpbemaaGreatKF29
set_option linter.unusedSimpArgs false
set_option linter.unusedVariables false
/- The labels of terms' casts, in the program and in the reference. On shadows. -/
namespace Go.Proofs.Grad
/-- the labels of a term's casts -/
def Tm.labs (t : Tm) : List Int := t.castsL.map Tm.label
def labsOf (l : List Tm) : List Int := l.map Tm.label
theorem E.labs_tm (e : E) : e.tm.labs = e.labs := by
  unfold Tm.labs
  induction e <;> simp_all [E.tm, nd, Tm.castsL, Tm.castsLs, ownCast, Tm.kind, Tm.label, E.labs]
theorem lab_neg2 {l : Int} (h : lab l = true) : lab (-l) = true := by
  simp [lab] at *; omega
theorem E.labs_nodes (e : E) (h : e.okC = true) : e.labs.length ≤ 200 := by
  rw [← E.labs_tm]
  have := e.tm.castsL_len
  simp only [E.okC, Bool.and_eq_true, decide_eq_true_eq] at h
  rw [E.tm_nodes] at this
  simp only [Tm.labs, List.length_map]; omega
theorem E.labs_ok (e : E) (h : e.wf = true) : ∀ l ∈ e.labs, lab l = true := by
  induction e <;> simp_all [E.labs, E.wf]
  all_goals (try grind)
/-- the labels and their opposites that are not safe -/
def one1 (p : Int → Bool) (l : Int) : List Int := match p l with | true => [] | false => [l]
def unsL (p : Int → Bool) : List Int → List Int
  | [] => []
  | l :: m => one1 p l ++ (one1 p (-l) ++ unsL p m)
theorem unsL_append (p : Int → Bool) (l m : List Int) : unsL p (l ++ m) = unsL p l ++ unsL p m := by
  induction l with
  | nil => rfl
  | cons x l ih => simp only [List.cons_append, unsL, ih, List.append_assoc]
theorem mem_unsL (p : Int → Bool) (x : Int) : ∀ l : List Int, x ∈ unsL p l ↔ p x = false ∧ (x ∈ l ∨ -x ∈ l)
  | [] => by simp [unsL]
  | y :: l => by
    have hy : ∀ z, x ∈ one1 p z ↔ x = z ∧ p x = false := by
      intro z; unfold one1
      cases h : p z
      · simp only [List.mem_singleton]; exact ⟨fun e => ⟨e, e ▸ h⟩, fun h => h.1⟩
      · simp only [List.not_mem_nil, false_iff, not_and]; intro e; subst e; rw [h]; exact Bool.noConfusion
    simp only [unsL, List.mem_append, hy, mem_unsL p x l, List.mem_cons]
    have e : x = -y ↔ -x = y := by omega
    rw [e]
    grind
theorem unsL_len (p : Int → Bool) (l : List Int) : (unsL p l).length ≤ 2 * l.length := by
  have h1 : ∀ z, (one1 p z).length ≤ 1 := fun z => by unfold one1; split <;> simp
  induction l with
  | nil => simp [unsL]
  | cons x l ih => have := h1 x; have := h1 (-x); simp only [unsL, List.length_append, List.length_cons]; omega
theorem unsL_snoc (p : Int → Bool) {l : List Int} {k : Nat} (h : k < l.length) : unsL p (l.take (k + 1)) = unsL p (l.take k) ++ (one1 p (Sh.num l k) ++ one1 p (-Sh.num l k)) := by
  rw [Sh.numtake h, unsL_append]; simp [unsL]
theorem Sh.num_labs {l : List Tm} {k : Nat} (h : k < l.length) : Sh.num (labsOf l) k = (Sh.teKid l k).label := by
  rw [Sh.num_eq (by simpa [labsOf] using h), Sh.teKid_eq h]; simp [labsOf]
theorem num_mem {l : List Int} {k : Nat} (h : k < l.length) : Sh.num l k ∈ l := by rw [Sh.num_eq h]; exact List.getElem_mem h
noncomputable def Tm.labsV (t : Tm) : List Int := match t.castV with | true => setL t.labs | false => []
noncomputable def Tm.unsV (t : Tm) : List Int := match t.castV with | true => setL (unsL t.safeB t.labs) | false => []
theorem E.wf_ok {e : E} (h : e.okC = true) : e.wf = true := by simp only [E.okC, Bool.and_eq_true] at h; exact h.1
end Go.Proofs.Grad
namespace Go.Proofs.YtjmicohbnpbemaaGreat
open Go.RowKit Go.Proofs.Sh Go.Proofs.Grad
set_option maxRecDepth 100000
set_option maxHeartbeats 8000000
theorem iUnsafeLabels (t : Tm) (h : t.size < 100000000) : AFn Tryz.prog 15 [.agg (teC t)] (.one (.sl (intR t.unsV))) := by
  have hv := iCastV t
  have hca := iCasts 100000000 (by omega) t h
  unfold Tm.unsV
  cases e : t.castV
  · rw [e] at hv
    refine fn_in ?_; refine acl_in Tryz.func15 rfl isfn_15 (Nat.le_of_ble_eq_true rfl) (fun R hR => ?_); rw [Tryz.results15] at hR; refine wg_run ?_; (simp only [Tryz.f15, go_sem])
    repeat' (first | (first | (((first | apply sp1 | apply sp2 | apply sp3 | apply sp4 | apply sp5 | apply sp6 | apply sp7) <;> intro hb) <;> (simp only [go_sem, hb])) | ((first | apply wm_done | apply wt_done | apply wg_run | refine fk ?_ ?_) <;> (simp only [go_sem]))) | (first | refine cdq ?_ (hc := hv) | refine cmq ?_ (hc := hv) | refine ctq ?_ (hc := hv)); (simp only [go_sem]))
    (refine hR _ (rat [] (hK := ⟨rfl, rfl⟩)))
  · rw [e] at hv
    obtain ⟨x, rfl, hx⟩ := Tm.castV_E e
    have hw := E.wf_ok hx
    have hn := x.labs_nodes hx
    have hcl : x.tm.castsL.length = x.labs.length := by rw [← E.labs_tm]; simp [Tm.labs]
    have hok := x.labs_ok hw
    have hlo : labsOf x.tm.castsL = x.labs := by rw [← E.labs_tm]; rfl
    simp only []
    rw [E.labs_tm, ← hlo]
    rw [← hlo] at hok
    have hlab : ∀ k : Nat, k < x.tm.castsL.length → lab (teKid x.tm.castsL k).label = true := fun k hk => by
      rw [← Sh.num_labs hk]; exact hok _ (num_mem (by simpa [labsOf] using hk))
    generalize x.tm.castsL = cs at *
    have hsafe : ∀ l : Int, lab l = true → AFn Tryz.prog 37 [.agg (teC x.tm), .one (.sc (.int .i64 l))] (.one (.sc (.bool (x.tm.safeB l)))) := fun l hl => iSafe x l hw hl (by omega)
    generalize x.tm.safeB = p at *
    refine fn_in ?_; refine acl_in Tryz.func15 rfl isfn_15 (Nat.le_of_ble_eq_true rfl) (fun R hR => ?_); rw [Tryz.results15] at hR; refine wg_run ?_; (simp only [Tryz.f15, go_sem])
    repeat' (first | (first | (((first | apply sp1 | apply sp2 | apply sp3 | apply sp4 | apply sp5 | apply sp6 | apply sp7) <;> intro hb) <;> (simp only [go_sem, hb])) | ((first | apply wm_done | apply wt_done | apply wg_run | refine fk ?_ ?_) <;> (simp only [go_sem]))) | (first | refine cdq ?_ (hc := hv) | refine cmq ?_ (hc := hv) | refine ctq ?_ (hc := hv)); (simp only [go_sem]) | (first | refine cdq ?_ (hc := hca) | refine cmq ?_ (hc := hca) | refine ctq ?_ (hc := hca)); (simp only [go_sem]) | fail)
    refine wd_for [1, 3, 12, 13, 14] (fun (x' : Nat × List Int) => [.one (.ptr 9 0 0 0), .one (match x'.2 with | [] => .sc (.slice none 0 0) | z :: m => .row 1 1 (m.length + 1)), .one (.sl (teR cs)), .one (.sc (.int .i64 cs.length)), .one (.sc (.int .i64 (x'.1 : Nat)))])
      (fun x' => match x'.2 with | [] => [⟨9, 28, .mut, [teC x.tm]⟩] | z :: m => [⟨9, 28, .mut, [teC x.tm]⟩, ⟨1, 3, .mut, intR (z :: m)⟩])
      (fun x' => x'.1 ≤ cs.length ∧ x'.2 = unsL p ((labsOf cs).take x'.1)) (fun x' => cs.length - x'.1) (0, []) ⟨Nat.zero_le _, rfl⟩ (hat [0] (hI := ⟨rfl, rfl⟩)) ?_
    rintro ⟨k, acc⟩ ⟨hk, hacc⟩ G hG
    simp only [] at hk hacc hG
    have hlc : (labsOf cs).length = cs.length := by simp [labsOf]
    have hal : acc.length ≤ 2 * cs.length := by
      have := unsL_len p ((labsOf cs).take k)
      rw [hacc]; simp only [List.length_take] at *; omega
    refine wg_run ?_
    (simp only [go_sem])
    ((first | apply sp1 | apply sp2 | apply sp3 | apply sp4 | apply sp5 | apply sp6 | apply sp7) <;> intro hb) <;> (simp only [go_sem, hb])
    · have hk1 : k < cs.length := by have := of_decide_eq_true hb; omega
      have hw1 := wrap_succ hk1 (by omega)
      have hlk := hlab k hk1
      have hnx := unsL_snoc p (l := labsOf cs) (k := k) (by omega)
      rw [Sh.num_labs hk1, ← hacc] at hnx
      have h1 := hsafe (teKid cs k).label hlk
      have h2 := hsafe (-(teKid cs k).label) (lab_neg2 hlk)
      have hwn : IntKind.i64.wrap (0 - (teKid cs k).label) = -(teKid cs k).label := by have := lab_bd hlk; rw [IntWalk.i64_in _ (by omega)]; omega
      have hcap1 : (acc.length + 1) * 8 ≤ 140737488355328 := by omega
      have hcap2 : (acc.length + 1 + 1) * 8 ≤ 140737488355328 := by omega
      cases e1 : p (teKid cs k).label <;> cases e2 : p (-(teKid cs k).label)
      all_goals
        rw [e1] at h1
        rw [e2] at h2
        simp only [one1, e1, e2, List.append_nil, List.nil_append, List.cons_append] at hnx
      all_goals
        rcases acc with _ | ⟨z, m⟩
      all_goals
        simp only [List.length_cons, List.length_nil, List.nil_append, List.cons_append] at hcap1 hcap2 hnx
      all_goals
        repeat' (first | (first | (simp only [go_sem, hb, hw1, hwn, hcap1, hcap2]) | (((first | apply sp1 | apply sp2 | apply sp3 | apply sp4 | apply sp5 | apply sp6 | apply sp7) <;> intro hb) <;> (simp only [go_sem, hb, hb, hw1, hwn, hcap1, hcap2])) | ((first | apply wm_done | apply wt_done | apply wg_run | refine fk ?_ ?_) <;> (simp only [go_sem, hb, hw1, hwn, hcap1, hcap2]))) | (first | (refine wl_next (wg_run ?_); (simp only [go_sem])) | refine wd_rounds 6 ?_) | (first | refine cdq ?_ (hc := h1) | refine cmq ?_ (hc := h1) | refine ctq ?_ (hc := h1)); (simp only [go_sem]) | (first | refine cdq ?_ (hc := h2) | refine cmq ?_ (hc := h2) | refine ctq ?_ (hc := h2)); (simp only [go_sem]) | ((first | refine mxq6 [] ?_ | refine mxq5 [] ?_ | refine mxq4 [] ?_ | refine mxq3 [] ?_ | refine mxq2 [] ?_ | refine mxq1 [] ?_ | refine mxq0 [] ?_ | fail); (simp only [go_sem, hb, hwn])) | fail)
      all_goals
        first
          | (refine hG (k + 1, _) _ _ ⟨by omega, hnx.symm⟩ (by simp only []; omega) (hat [0] (hI := ⟨?_, ?_⟩)) <;> first | rfl | (simp only [List.length_append, List.length_cons, List.length_nil]; done) | (simp only [intR, intR_append, List.cons_append, List.nil_append, List.append_assoc]; done))
          | (refine hG (k + 1, _) _ _ ⟨by omega, hnx.symm⟩ (by simp only []; omega) (hat [0, 1] (hI := ⟨?_, ?_⟩)) <;> first | rfl | (simp only [List.length_append, List.length_cons, List.length_nil]; done) | (simp only [intR, intR_append, List.cons_append, List.nil_append, List.append_assoc]; done))
          | (refine hG (k + 1, _) _ _ ⟨by omega, hnx.symm⟩ (by simp only []; omega) (hat [0, 4] (hI := ⟨?_, ?_⟩)) <;> first | rfl | (simp only [List.length_append, List.length_cons, List.length_nil]; done) | (simp only [intR, intR_append, List.cons_append, List.nil_append, List.append_assoc]; done))
          | (refine hG (k + 1, _) _ _ ⟨by omega, hnx.symm⟩ (by simp only []; omega) (hat [0, 5] (hI := ⟨?_, ?_⟩)) <;> first | rfl | (simp only [List.length_append, List.length_cons, List.length_nil]; done) | (simp only [intR, intR_append, List.cons_append, List.nil_append, List.append_assoc]; done))
          | (refine hG (k + 1, _) _ _ ⟨by omega, hnx.symm⟩ (by simp only []; omega) (hat [0, 6] (hI := ⟨?_, ?_⟩)) <;> first | rfl | (simp only [List.length_append, List.length_cons, List.length_nil]; done) | (simp only [intR, intR_append, List.cons_append, List.nil_append, List.append_assoc]; done))
          | (refine hG (k + 1, _) _ _ ⟨by omega, hnx.symm⟩ (by simp only []; omega) (hat [0, 7] (hI := ⟨?_, ?_⟩)) <;> first | rfl | (simp only [List.length_append, List.length_cons, List.length_nil]; done) | (simp only [intR, intR_append, List.cons_append, List.nil_append, List.append_assoc]; done))
    · have hk1 : (labsOf cs).take k = labsOf cs := List.take_of_length_le (by have := of_decide_eq_false hb; omega)
      rw [hk1] at hacc
      clear hG
      rcases acc with _ | ⟨z, m⟩
      · have e0 : setL [] = [] := (setL_nil_iff []).2 rfl
        have s1 := sortNil
        have s2 := compNil
        repeat' (first | (first | (((first | apply sp1 | apply sp2 | apply sp3 | apply sp4 | apply sp5 | apply sp6 | apply sp7) <;> intro hb) <;> (simp only [go_sem, hb])) | ((first | apply wm_done | apply wt_done | apply wg_run | refine fk ?_ ?_) <;> (simp only [go_sem]))) | (first | refine cdq ?_ (hc := s1) | refine cmq ?_ (hc := s1) | refine ctq ?_ (hc := s1)); (simp only [go_sem]) | (first | refine cdq ?_ (hc := s2) | refine cmq ?_ (hc := s2) | refine ctq ?_ (hc := s2)); (simp only [go_sem]) | fail)
        (refine hR _ (rat [] (hK := ⟨?_, rfl⟩)))
        rw [← hacc, e0]; rfl
      · simp only [List.length_cons] at hal
        have s1 := sortCall (z :: m) (by simp only [List.length_cons]; omega)
        have s2 := compCall (srt (z :: m)) (by rw [srt_length]; simp only [List.length_cons]; omega)
        rw [srt_length] at s2
        simp only [List.length_cons] at s1 s2
        simp only [show Lib.compact (srt (z :: m)) = setL (z :: m) from rfl] at s2
        repeat' (first | (first | (((first | apply sp1 | apply sp2 | apply sp3 | apply sp4 | apply sp5 | apply sp6 | apply sp7) <;> intro hb) <;> (simp only [go_sem, hb])) | ((first | apply wm_done | apply wt_done | apply wg_run | refine fk ?_ ?_) <;> (simp only [go_sem]))) | ((first | refine kdq [1] ?_ (hc := s1) | refine kmq [1] ?_ (hc := s1) | refine ktq [1] ?_ (hc := s1)); rintro _ _ ⟨rfl, rfl⟩ <;> (simp only [go_sem])) | ((first | refine kdq [1] ?_ (hc := s2) | refine kmq [1] ?_ (hc := s2) | refine ktq [1] ?_ (hc := s2)); rintro _ _ ⟨rfl, rfl⟩ <;> (simp only [go_sem])) | fail)
        (refine hR _ (rat [] (hK := ⟨?_, rfl⟩)))
        rw [← hacc]
noncomputable def safeT (t : Tm) : Bool := t.castV && ((t.unsV.length : Int) == 0)
theorem iSafeTerm (t : Tm) (h : t.size < 100000000) : AFn Tryz.prog 26 [.agg (teC t)] (.one (.sc (.bool (safeT t)))) := by
  have hv := iCastV t
  have hu := iUnsafeLabels t h
  unfold safeT
  cases e : t.castV
  all_goals
    rw [e] at hv
    refine fn_in ?_; refine acl_in Tryz.func26 rfl isfn_26 (Nat.le_of_ble_eq_true rfl) (fun R hR => ?_); rw [Tryz.results26] at hR; refine wg_run ?_; (simp only [Tryz.f26, go_sem])
    repeat' (first | (first | (((first | apply sp1 | apply sp2 | apply sp3 | apply sp4 | apply sp5 | apply sp6 | apply sp7) <;> intro hb) <;> (simp only [go_sem, hb])) | ((first | apply wm_done | apply wt_done | apply wg_run | refine fk ?_ ?_) <;> (simp only [go_sem]))) | (first | refine cdq ?_ (hc := hv) | refine cmq ?_ (hc := hv) | refine ctq ?_ (hc := hv)); (simp only [go_sem]) | (first | refine cdq ?_ (hc := hu) | refine cmq ?_ (hc := hu) | refine ctq ?_ (hc := hu)); (simp only [go_sem]) | ((first | refine mxq6 [] ?_ | refine mxq5 [] ?_ | refine mxq4 [] ?_ | refine mxq3 [] ?_ | refine mxq2 [] ?_ | refine mxq1 [] ?_ | refine mxq0 [] ?_ | fail); (simp only [go_sem])) | fail)
    (refine hR _ (rat [] (hK := ⟨rfl, rfl⟩)))
end Go.Proofs.YtjmicohbnpbemaaGreat
/- Blame: steps keep safety for a label, and a safe label is not blamed. No program, no world. -/
namespace Go.Proofs.Grad
def uns (s t : T) (k l : Int) : Bool := (k == l && !s.pos t) || (k == -l && !s.neg t)
def E.safe : E → Int → Bool
  | .var _, _ | .num _, _ | .tru, _ | .fls, _ => true
  | .lam _ _ a, l | .fst a, l | .snd a, l | .asc _ a, l => a.safe l
  | .app a b, l | .add a b, l | .less a b, l | .pair a b, l => a.safe l && b.safe l
  | .ite a b c, l => a.safe l && (b.safe l && c.safe l)
  | .cast s t k a, l => !uns s t k l && a.safe l
theorem uns_iff {s t : T} {k l : Int} : uns s t k l = false ↔ (k = l → s.pos t = true) ∧ (k = -l → s.neg t = true) := by
  simp only [uns, Bool.or_eq_false_iff, Bool.and_eq_false_iff, beq_eq_false_iff_ne, Bool.not_eq_false', ne_eq]
  constructor
  · rintro ⟨h1, h2⟩; exact ⟨fun h => h1.resolve_left (fun g => g h), fun h => h2.resolve_left (fun g => g h)⟩
  · rintro ⟨h1, h2⟩
    refine ⟨?_, ?_⟩
    · by_cases h : k = l
      · exact .inr (h1 h)
      · exact .inl h
    · by_cases h : k = -l
      · exact .inr (h2 h)
      · exact .inl h
theorem safe_cast {s t : T} {k l : Int} {a : E} : (E.cast s t k a).safe l = true ↔ ((k = l → s.pos t = true) ∧ (k = -l → s.neg t = true)) ∧ a.safe l = true := by
  rw [← uns_iff]
  simp [E.safe]
theorem E.subst_safe {x : UInt8} {v : E} {l : Int} (hv : v.safe l = true) : ∀ e : E, e.safe l = true → (e.subst x v).safe l = true := by
  intro e
  induction e with
  | var y => intro h; simp only [E.subst]; split <;> assumption
  | lam y t a ih => intro h; simp only [E.subst]; split <;> simp_all [E.safe]
  | _ => intro h; simp_all [E.subst, E.safe]
def SR.safe (r : SR) (l : Int) : Prop := match r with | .took e => e.safe l = true | .blame k => k ≠ l | .stuck => True
theorem SR.map_safe {r : SR} {f : E → E} {l : Int} (h : r.safe l) (hf : ∀ e, e.safe l = true → (f e).safe l = true) : (r.map f).safe l := by
  cases r with
  | took e => exact hf e h
  | _ => exact h
theorem T.neg_any (t : T) : T.any.neg t = true := by cases t <;> simp [T.neg]
theorem ruleApp_safe {a b : E} {l : Int} (ha : a.safe l = true) (hb : b.safe l = true) : (ruleApp a b).safe l := by
  cases a with
  | lam x t c => exact E.subst_safe hb _ ha
  | cast s t k f =>
    cases s <;> cases t <;> try trivial
    rename_i s1 s2 t1 t2
    rw [safe_cast] at ha
    obtain ⟨⟨h1, h2⟩, hf⟩ := ha
    simp only [T.pos, T.neg, Bool.and_eq_true] at h1 h2
    show (E.cast s2 t2 k (.app f (.cast t1 s1 (-k) b))).safe l = true
    rw [safe_cast]
    refine ⟨⟨fun h => (h1 h).2, fun h => (h2 h).2⟩, ?_⟩
    have : (E.cast t1 s1 (-k) b).safe l = true := by
      rw [safe_cast]
      exact ⟨⟨fun h => (h2 (by omega)).1, fun h => (h1 (by omega)).1⟩, hb⟩
    simp [E.safe, hf, this] at *
    exact this
  | _ => trivial
theorem ruleFst_safe {a : E} {l : Int} (ha : a.safe l = true) : (ruleFst a).safe l := by
  cases a with
  | pair x y => simp only [E.safe, Bool.and_eq_true] at ha; exact ha.1
  | cast s t k f =>
    cases s <;> cases t <;> try trivial
    rw [safe_cast] at ha
    obtain ⟨⟨h1, h2⟩, hf⟩ := ha
    simp only [T.pos, T.neg, Bool.and_eq_true] at h1 h2
    show (E.cast _ _ k (.fst f)).safe l = true
    rw [safe_cast]
    exact ⟨⟨fun h => (h1 h).1, fun h => (h2 h).1⟩, hf⟩
  | _ => trivial
theorem ruleSnd_safe {a : E} {l : Int} (ha : a.safe l = true) : (ruleSnd a).safe l := by
  cases a with
  | pair x y => simp only [E.safe, Bool.and_eq_true] at ha; exact ha.2
  | cast s t k f =>
    cases s <;> cases t <;> try trivial
    rw [safe_cast] at ha
    obtain ⟨⟨h1, h2⟩, hf⟩ := ha
    simp only [T.pos, T.neg, Bool.and_eq_true] at h1 h2
    show (E.cast _ _ k (.snd f)).safe l = true
    rw [safe_cast]
    exact ⟨⟨fun h => (h1 h).2, fun h => (h2 h).2⟩, hf⟩
  | _ => trivial
theorem pos_ground (s : T) (h : s ≠ .any) : s.pos s.ground = true := by
  cases s <;> first | (exact absurd rfl h) | simp [T.ground, T.pos, T.neg_any, T.pos_any]
theorem neg_ground_any (s : T) (h : s ≠ .any) : s.ground.neg .any = true := by
  cases s <;> first | (exact absurd rfl h) | simp [T.ground, T.neg, T.pos]
theorem neg_to_ground (s : T) (h : s ≠ .any) (hn : s.neg .any = true) : s.neg s.ground = true := by
  cases s <;> first | (exact absurd rfl h) | (simp [T.ground, T.neg] at hn ⊢ <;> exact hn)
theorem ground_neg (s : T) (h : s ≠ .any) : s.ground.neg s = true := by
  cases s <;> first | (exact absurd rfl h) | simp [T.ground, T.neg, T.neg_any, T.pos_any]
theorem kind_any {s : T} : (s.ty.kind == 1) = true ↔ s = .any := by cases s <;> simp [T.ty, Ty.kind]
theorem cons_kinds {s t : T} (h : s.cons t = true) (hk : (s.ty.kind == t.ty.kind) = false) (ht : (t.ty.kind == 1) = false) : s = .any := by
  cases s <;> cases t <;> simp_all [T.cons, T.ty, Ty.kind]
theorem pos_any_l {t : T} (h : (t.ty.kind == 1) = false) : T.any.pos t = false := by
  cases t <;> simp_all [T.pos, T.ty, Ty.kind]
theorem ruleOut_safe {t : T} {k l : Int} {v : E} (hv : v.safe l = true) (hk : k ≠ l) : (ruleOut t k v).safe l := by
  cases v with
  | cast s' t' _ w =>
    rw [safe_cast] at hv
    simp only [ruleOut]
    split
    · split
      · exact hv.2
      · exact hk
    · trivial
  | _ => trivial
theorem ruleCast_safe {s t : T} {k l : Int} {v : E} (hc : s.cons t = true) (h : (E.cast s t k v).safe l = true) : (ruleCast s t k v).safe l := by
  rw [safe_cast] at h
  obtain ⟨⟨h1, h2⟩, hv⟩ := h
  unfold ruleCast
  split
  · exact hv
  · rename_i hk
    split
    · rename_i ht
      obtain rfl := kind_any.1 ht
      have hs : s ≠ .any := by rintro rfl; simp at hk
      show (E.cast s.ground .any k (.cast s s.ground k v)).safe l = true
      rw [safe_cast, safe_cast]
      exact ⟨⟨fun _ => T.pos_any _, fun _ => neg_ground_any s hs⟩, ⟨fun _ => pos_ground s hs, fun h => neg_to_ground s hs (h2 h)⟩, hv⟩
    · rename_i ht
      obtain rfl := cons_kinds hc hk ht
      have hp := pos_any_l ht
      have hkl : k ≠ l := fun h => by have := h1 h; rw [hp] at this; cases this
      have hta : t ≠ .any := by rintro rfl; simp [T.ty, Ty.kind] at ht
      split
      · show (E.cast t.ground t k (.cast .any t.ground k v)).safe l = true
        rw [safe_cast, safe_cast]
        exact ⟨⟨fun h => absurd h hkl, fun _ => ground_neg t hta⟩, ⟨fun h => absurd h hkl, fun _ => T.neg_any _⟩, hv⟩
      · exact ruleOut_safe hv hkl
theorem step_safe (l : Int) (e : E) : e.wf = true → e.val = false → e.safe l = true → e.step.safe l := by
  induction e with
  | app a b iha ihb =>
    intro hw hv hs
    simp only [E.wf, E.safe, Bool.and_eq_true] at hw hs
    simp only [E.step]
    split
    · rename_i h; exact SR.map_safe (iha hw.1 h hs.1) (fun e he => by simp [E.safe, he, hs.2])
    · split
      · rename_i h; exact SR.map_safe (ihb hw.2 h hs.2) (fun e he => by simp [E.safe, he, hs.1])
      · exact ruleApp_safe hs.1 hs.2
  | add a b iha ihb =>
    intro hw hv hs
    simp only [E.wf, E.safe, Bool.and_eq_true] at hw hs
    simp only [E.step]
    split
    · rename_i h; exact SR.map_safe (iha hw.1 h hs.1) (fun e he => by simp [E.safe, he, hs.2])
    · split
      · rename_i h; exact SR.map_safe (ihb hw.2 h hs.2) (fun e he => by simp [E.safe, he, hs.1])
      · cases a <;> cases b <;> first | trivial | rfl
  | less a b iha ihb =>
    intro hw hv hs
    simp only [E.wf, E.safe, Bool.and_eq_true] at hw hs
    simp only [E.step]
    split
    · rename_i h; exact SR.map_safe (iha hw.1 h hs.1) (fun e he => by simp [E.safe, he, hs.2])
    · split
      · rename_i h; exact SR.map_safe (ihb hw.2 h hs.2) (fun e he => by simp [E.safe, he, hs.1])
      · cases a <;> cases b <;> first | trivial | (simp only [ruleLess]; split <;> rfl)
  | ite a b c iha ihb ihc =>
    intro hw hv hs
    simp only [E.wf, E.safe, Bool.and_eq_true] at hw hs
    simp only [E.step]
    split
    · rename_i h; exact SR.map_safe (iha hw.1 h hs.1) (fun e he => by simp [E.safe, he, hs.2])
    · cases a <;> first | trivial | exact hs.2.1 | exact hs.2.2
  | pair a b iha ihb =>
    intro hw hv hs
    simp only [E.wf, E.safe, Bool.and_eq_true] at hw hs
    simp only [E.step]
    split
    · rename_i h; exact SR.map_safe (iha hw.1 h hs.1) (fun e he => by simp [E.safe, he, hs.2])
    · split
      · rename_i h; exact SR.map_safe (ihb hw.2 h hs.2) (fun e he => by simp [E.safe, he, hs.1])
      · trivial
  | fst a ih =>
    intro hw hv hs
    simp only [E.wf, E.safe] at hw hs
    simp only [E.step]
    split
    · rename_i h; exact SR.map_safe (ih hw h hs) (fun e he => by simp [E.safe, he])
    · exact ruleFst_safe hs
  | snd a ih =>
    intro hw hv hs
    simp only [E.wf, E.safe] at hw hs
    simp only [E.step]
    split
    · rename_i h; exact SR.map_safe (ih hw h hs) (fun e he => by simp [E.safe, he])
    · exact ruleSnd_safe hs
  | cast s t k a ih =>
    intro hw hv hs
    have hs0 := hs
    simp only [E.wf, E.safe, Bool.and_eq_true] at hw hs
    simp only [E.step]
    split
    · rename_i h; exact SR.map_safe (ih hw.2.2.2 h hs.2) (fun e he => by simp only [E.safe, he, Bool.and_true]; exact hs.1)
    · exact ruleCast_safe hw.2.1 hs0
  | _ => intro _ _ _; trivial
def SR.from (r : SR) (L : List Int) : Prop := match r with | .took e => ∀ k ∈ e.labs, k ∈ L ∨ -k ∈ L | .blame k => k ∈ L ∨ -k ∈ L | .stuck => True
theorem E.subst_labs {x : UInt8} {v : E} : ∀ e : E, ∀ k ∈ (e.subst x v).labs, k ∈ e.labs ∨ k ∈ v.labs := by
  intro e
  induction e with
  | var y => intro k h; simp only [E.subst] at h; split at h; exact .inr h; exact .inl h
  | lam y t a ih =>
    intro k h; simp only [E.subst] at h
    split at h
    · exact .inl h
    · exact ih k h
  | app a b iha ihb | add a b iha ihb | less a b iha ihb | pair a b iha ihb =>
    intro k h
    simp only [E.subst, E.labs, List.mem_append] at h ⊢
    rcases h with h | h
    · rcases iha k h with h | h
      · exact .inl (.inl h)
      · exact .inr h
    · rcases ihb k h with h | h
      · exact .inl (.inr h)
      · exact .inr h
  | ite a b c iha ihb ihc =>
    intro k h
    simp only [E.subst, E.labs, List.mem_append] at h ⊢
    rcases h with h | h | h
    · rcases iha k h with h | h
      · exact .inl (.inl h)
      · exact .inr h
    · rcases ihb k h with h | h
      · exact .inl (.inr (.inl h))
      · exact .inr h
    · rcases ihc k h with h | h
      · exact .inl (.inr (.inr h))
      · exact .inr h
  | cast s t j a ih =>
    intro k h
    simp only [E.subst, E.labs, List.mem_cons] at h ⊢
    rcases h with h | h
    · exact .inl (.inl h)
    · rcases ih k h with h | h
      · exact .inl (.inr h)
      · exact .inr h
  | fst a ih | snd a ih | asc _ a ih => intro k h; exact ih k h
  | _ => intro k h; exact .inl h
theorem SR.map_from {r : SR} {f : E → E} {L M : List Int} (h : r.from L) (hL : ∀ k ∈ L, k ∈ M) (hf : ∀ e, ∀ k ∈ (f e).labs, k ∈ e.labs ∨ k ∈ M) : (r.map f).from M := by
  cases r with
  | took e =>
    intro k hk
    rcases hf e k hk with h1 | h1
    · rcases h k h1 with h2 | h2
      · exact .inl (hL _ h2)
      · exact .inr (hL _ h2)
    · exact .inl h1
  | blame k => rcases h with h2 | h2; exact .inl (hL _ h2); exact .inr (hL _ h2)
  | stuck => trivial
theorem step_labs (e : E) : e.step.from e.labs := by
  induction e with
  | app a b iha ihb =>
    simp only [E.step, E.labs]
    split
    · exact SR.map_from iha (fun k h => List.mem_append_left _ h) (fun e k h => by simp only [E.labs, List.mem_append] at h ⊢; rcases h with h | h; exact .inl h; exact .inr (.inr h))
    · split
      · exact SR.map_from ihb (fun k h => List.mem_append_right _ h) (fun e k h => by simp only [E.labs, List.mem_append] at h ⊢; rcases h with h | h; exact .inr (.inl h); exact .inl h)
      · cases a with
        | lam x t c => intro k hk; left; simp only [E.labs, List.mem_append]; exact E.subst_labs c k hk
        | cast s t j f =>
          cases s <;> cases t <;> try trivial
          intro k hk
          simp only [E.labs, List.mem_cons, List.mem_append] at hk ⊢
          rcases hk with rfl | hk | rfl | hk
          · exact .inl (.inl (.inl rfl))
          · exact .inl (.inl (.inr hk))
          · right; rw [Int.neg_neg]; exact .inl (.inl rfl)
          · exact .inl (.inr hk)
        | _ => trivial
  | add a b iha ihb =>
    simp only [E.step, E.labs]
    split
    · exact SR.map_from iha (fun k h => List.mem_append_left _ h) (fun e k h => by simp only [E.labs, List.mem_append] at h ⊢; rcases h with h | h; exact .inl h; exact .inr (.inr h))
    · split
      · exact SR.map_from ihb (fun k h => List.mem_append_right _ h) (fun e k h => by simp only [E.labs, List.mem_append] at h ⊢; rcases h with h | h; exact .inr (.inl h); exact .inl h)
      · cases a <;> cases b <;> first | trivial | (intro k hk; simp [E.labs] at hk)
  | less a b iha ihb =>
    simp only [E.step, E.labs]
    split
    · exact SR.map_from iha (fun k h => List.mem_append_left _ h) (fun e k h => by simp only [E.labs, List.mem_append] at h ⊢; rcases h with h | h; exact .inl h; exact .inr (.inr h))
    · split
      · exact SR.map_from ihb (fun k h => List.mem_append_right _ h) (fun e k h => by simp only [E.labs, List.mem_append] at h ⊢; rcases h with h | h; exact .inr (.inl h); exact .inl h)
      · cases a <;> cases b <;> first | trivial | (simp only [ruleLess]; split <;> (intro k hk; simp [E.labs] at hk))
  | ite a b c iha ihb ihc =>
    simp only [E.step, E.labs]
    split
    · exact SR.map_from iha (fun k h => List.mem_append_left _ h) (fun e k h => by simp only [E.labs, List.mem_append] at h ⊢; rcases h with h | h; exact .inl h; exact .inr (.inr h))
    · cases a <;> first | trivial | (intro k hk; left; simp only [List.mem_append]; first | exact .inr (.inl hk) | exact .inr (.inr hk))
  | pair a b iha ihb =>
    simp only [E.step, E.labs]
    split
    · exact SR.map_from iha (fun k h => List.mem_append_left _ h) (fun e k h => by simp only [E.labs, List.mem_append] at h ⊢; rcases h with h | h; exact .inl h; exact .inr (.inr h))
    · split
      · exact SR.map_from ihb (fun k h => List.mem_append_right _ h) (fun e k h => by simp only [E.labs, List.mem_append] at h ⊢; rcases h with h | h; exact .inr (.inl h); exact .inl h)
      · trivial
  | fst a ih =>
    simp only [E.step, E.labs]
    split
    · exact SR.map_from ih (fun k h => h) (fun e k h => .inl h)
    · cases a with
      | pair x y => intro k hk; left; simp only [E.labs, List.mem_append]; exact .inl hk
      | cast s t j f => cases s <;> cases t <;> first | trivial | (intro k hk; left; exact hk)
      | _ => trivial
  | snd a ih =>
    simp only [E.step, E.labs]
    split
    · exact SR.map_from ih (fun k h => h) (fun e k h => .inl h)
    · cases a with
      | pair x y => intro k hk; left; simp only [E.labs, List.mem_append]; exact .inr hk
      | cast s t j f => cases s <;> cases t <;> first | trivial | (intro k hk; left; exact hk)
      | _ => trivial
  | cast s t j a ih =>
    simp only [E.step, E.labs]
    split
    · exact SR.map_from ih (fun k h => List.mem_cons_of_mem _ h) (fun e k h => by simp only [E.labs, List.mem_cons] at h ⊢; rcases h with h | h; exact .inr (.inl h); exact .inl h)
    · unfold ruleCast
      split
      · intro k hk; left; exact List.mem_cons_of_mem _ hk
      · split
        · intro k hk; left; simp only [E.labs, List.mem_cons] at hk ⊢; rcases hk with h | h | h; exact .inl h; exact .inl h; exact .inr h
        · split
          · intro k hk; left; simp only [E.labs, List.mem_cons] at hk ⊢; rcases hk with h | h | h; exact .inl h; exact .inl h; exact .inr h
          · cases a with
            | cast s' t' i w =>
              simp only [ruleOut]
              split
              · split
                · intro k hk; left; simp only [E.labs, List.mem_cons]; exact .inr (.inr hk)
                · left; simp
              · trivial
            | _ => trivial
  | _ => trivial
/-! evaluation -/
end Go.Proofs.Grad
