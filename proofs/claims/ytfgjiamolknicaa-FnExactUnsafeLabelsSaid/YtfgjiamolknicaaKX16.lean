/- Texts of the proof, one behind another. -/
import Derived.Test.YtfgjiamolknicaaKX8
import Derived.Test.YtfgjiamolknicaaKX9
import Derived.Test.YtfgjiamolknicaaKX10
import Derived.Test.YtfgjiamolknicaaKX13
import Derived.Test.YtfgjiamolknicaaKX15
set_option linter.unusedSimpArgs false
set_option linter.unusedVariables false
/- The unsafe labels as the caller's own numbers; numbers compared, marked, read again. On shadows. -/
namespace Go.Proofs.Sh
open Go.RowKit
/-- numbers: none, or a slice of one's own -/
def IntsR (L : List Int) (r : AV) (H' : List Blk) : Prop := (L = [] ∧ r = .one (.sl []) ∧ H' = []) ∨ (r = .one (.row 1 0 L.length) ∧ H' = [⟨1, 3, .mut, intR L⟩])
/-- so many numbers on from k -/
def upI : Nat → Nat → List Int
  | _, 0 => []
  | k, n + 1 => ((k : Nat) : Int) :: upI (k + 1) n
theorem upI_length (k n : Nat) : (upI k n).length = n := by induction n generalizing k with | zero => rfl | succ n ih => simp [upI, ih]
theorem upI_num (n : Nat) : ∀ (k i : Nat), i < n → num (upI k n) i = ((k + i : Nat) : Int) := by
  induction n with
  | zero => intro k i h; omega
  | succ n ih =>
    intro k i h
    cases i with
    | zero => rfl
    | succ i =>
      have h1 := ih (k + 1) i (by omega)
      have h2 : num (upI k (n + 1)) (i + 1) = num (upI (k + 1) n) i := rfl
      rw [h2, h1]; congr 1; omega
/-- the first i numbers overwritten -/
theorem upI_next (k i : Nat) (L : List Int) (h : i < L.length) : (intR (upI k i ++ L.drop i)).set i [.sc (.int .i64 ((k + i : Nat) : Int))] = intR (upI k (i + 1) ++ L.drop (i + 1)) := by
  have snoc : ∀ (i k : Nat), upI k (i + 1) = upI k i ++ [((k + i : Nat) : Int)] := by
    intro i
    induction i with
    | zero => intro k; rfl
    | succ i ih =>
      intro k
      rw [upI, ih (k + 1)]
      simp only [upI, List.cons_append]
      rw [show k + 1 + i = k + (i + 1) by omega]
  have hl : (intR (upI k i)).length = i := by rw [intR_length, upI_length]
  rw [intR_append, List.set_append_right _ _ (by omega), hl, Nat.sub_self, snoc, List.drop_eq_getElem_cons h, intR_append, intR_append]
  simp [intR]
theorem ow_ints {h : List Blk} {b n t : Nat} {L : List Int} (hb : h[b]? = some ⟨1, t, .mut, intR L⟩) (hn : n = L.length) : ow h 1 (.row 1 b n) = some (.sl (intR L), [b]) := by
  refine ow_row_of (k := ⟨1, t, .mut, intR L⟩) hb rfl (by rw [intR_length, hn]) rfl (intR_len L) ?_
  clear hb hn
  induction L with
  | nil => rfl
  | cons z L ih =>
    simp only [intR, fzRows, ih]
    rfl
end Go.Proofs.Sh
namespace Go.Proofs.Ytfgjiamolknicaa
open Go.RowKit Go.Proofs.Sh Go.Proofs.Grad
set_option maxRecDepth 100000
set_option maxHeartbeats 8000000
theorem iUnsafeI (t : Tm) (h : t.size < 100000000) : ACl Try.prog 52 [.agg (teC t)] [] (IntsR t.unsV) := by
  have hv := iCastV t
  have hca := iCasts 100000000 (by omega) t h
  unfold Tm.unsV
  cases e : t.castV
  · rw [e] at hv
    refine acl_in Try.func52 rfl isfn_52 (Nat.le_of_ble_eq_true rfl) (fun R hR => ?_); rw [Try.results52] at hR; refine wg_run ?_; (simp only [Try.f52, go_sem])
    repeat' (first | (first | (((first | apply sp1 | apply sp2 | apply sp3 | apply sp4 | apply sp5 | apply sp6 | apply sp7) <;> intro hb) <;> (simp only [go_sem, hb])) | ((first | apply wm_done | apply wt_done | apply wg_run | refine fk ?_ ?_) <;> (simp only [go_sem]))) | (first | refine cdq ?_ (hc := hv) | refine cmq ?_ (hc := hv) | refine ctq ?_ (hc := hv)); (simp only [go_sem]))
    exact hR _ (rat [] (hK := (.inl ⟨rfl, rfl, rfl⟩)))
  · rw [e] at hv
    obtain ⟨x, rfl, hx⟩ := Tm.castV_E e
    have hw := E.wf_ok hx
    have hn := x.labs_nodes hx
    have hcl : x.tm.castsL.length = x.labs.length := by rw [← E.labs_tm]; simp [Tm.labs]
    have hok := x.labs_ok hw
    have hlo : labsOf x.tm.castsL = x.labs := by rw [← E.labs_tm]; rfl
    simp only []
    rw [E.labs_tm, ← hlo]
    rw [← hlo] at hok
    have hlab : ∀ k : Nat, k < x.tm.castsL.length → lab (teKid x.tm.castsL k).label = true := fun k hk => by
      rw [← Sh.num_labs hk]; exact hok _ (num_mem (by simpa [labsOf] using hk))
    generalize x.tm.castsL = cs at *
    have hsafe : ∀ l : Int, lab l = true → AFn Try.prog 120 [.agg (teC x.tm), .one (.sc (.int .i64 l))] (.one (.sc (.bool (x.tm.safeB l)))) := fun l hl => iSafe x l hw hl (by omega)
    generalize x.tm.safeB = p at *
    refine acl_in Try.func52 rfl isfn_52 (Nat.le_of_ble_eq_true rfl) (fun R hR => ?_); rw [Try.results52] at hR; refine wg_run ?_; (simp only [Try.f52, go_sem])
    repeat' (first | (first | (((first | apply sp1 | apply sp2 | apply sp3 | apply sp4 | apply sp5 | apply sp6 | apply sp7) <;> intro hb) <;> (simp only [go_sem, hb])) | ((first | apply wm_done | apply wt_done | apply wg_run | refine fk ?_ ?_) <;> (simp only [go_sem]))) | (first | refine cdq ?_ (hc := hv) | refine cmq ?_ (hc := hv) | refine ctq ?_ (hc := hv)); (simp only [go_sem]) | (first | refine cdq ?_ (hc := hca) | refine cmq ?_ (hc := hca) | refine ctq ?_ (hc := hca)); (simp only [go_sem]) | fail)
    refine wd_for [1, 3, 12, 13, 14] (fun (x' : Nat × List Int) => [.one (.ptr 9 0 0 0), .one (match x'.2 with | [] => .sc (.slice none 0 0) | z :: m => .row 1 1 (m.length + 1)), .one (.sl (teR cs)), .one (.sc (.int .i64 cs.length)), .one (.sc (.int .i64 (x'.1 : Nat)))])
      (fun x' => match x'.2 with | [] => [⟨9, 28, .mut, [teC x.tm]⟩] | z :: m => [⟨9, 28, .mut, [teC x.tm]⟩, ⟨1, 3, .mut, intR (z :: m)⟩])
      (fun x' => x'.1 ≤ cs.length ∧ x'.2 = unsL p ((labsOf cs).take x'.1)) (fun x' => cs.length - x'.1) (0, []) ⟨Nat.zero_le _, rfl⟩ (hat [0] (hI := ⟨rfl, rfl⟩)) ?_
    rintro ⟨k, acc⟩ ⟨hk, hacc⟩ G hG
    simp only [] at hk hacc hG
    have hlc : (labsOf cs).length = cs.length := by simp [labsOf]
    have hal : acc.length ≤ 2 * cs.length := by
      have := unsL_len p ((labsOf cs).take k)
      rw [hacc]; simp only [List.length_take] at *; omega
    refine wg_run ?_
    (simp only [go_sem])
    ((first | apply sp1 | apply sp2 | apply sp3 | apply sp4 | apply sp5 | apply sp6 | apply sp7) <;> intro hb) <;> (simp only [go_sem, hb])
    · have hk1 : k < cs.length := by have := of_decide_eq_true hb; omega
      have hw1 := wrap_succ hk1 (by omega)
      have hlk := hlab k hk1
      have hnx := unsL_snoc p (l := labsOf cs) (k := k) (by omega)
      rw [Sh.num_labs hk1, ← hacc] at hnx
      have h1 := hsafe (teKid cs k).label hlk
      have h2 := hsafe (-(teKid cs k).label) (lab_neg2 hlk)
      have hwn : IntKind.i64.wrap (0 - (teKid cs k).label) = -(teKid cs k).label := by have := lab_bd hlk; rw [IntWalk.i64_in _ (by omega)]; omega
      have hcap1 : (acc.length + 1) * 8 ≤ 140737488355328 := by omega
      have hcap2 : (acc.length + 1 + 1) * 8 ≤ 140737488355328 := by omega
      cases e1 : p (teKid cs k).label <;> cases e2 : p (-(teKid cs k).label)
      all_goals
        rw [e1] at h1
        rw [e2] at h2
        simp only [Grad.one1, e1, e2, List.append_nil, List.nil_append, List.cons_append] at hnx
      all_goals
        rcases acc with _ | ⟨z, m⟩
      all_goals
        simp only [List.length_cons, List.length_nil, List.nil_append, List.cons_append] at hcap1 hcap2 hnx
      all_goals
        repeat' (first | (first | (simp only [go_sem, hb, hw1, hwn, hcap1, hcap2]) | (((first | apply sp1 | apply sp2 | apply sp3 | apply sp4 | apply sp5 | apply sp6 | apply sp7) <;> intro hb) <;> (simp only [go_sem, hb, hb, hw1, hwn, hcap1, hcap2])) | ((first | apply wm_done | apply wt_done | apply wg_run | refine fk ?_ ?_) <;> (simp only [go_sem, hb, hw1, hwn, hcap1, hcap2]))) | (first | (refine wl_next (wg_run ?_); (simp only [go_sem])) | refine wd_rounds 6 ?_) | (first | refine cdq ?_ (hc := h1) | refine cmq ?_ (hc := h1) | refine ctq ?_ (hc := h1)); (simp only [go_sem]) | (first | refine cdq ?_ (hc := h2) | refine cmq ?_ (hc := h2) | refine ctq ?_ (hc := h2)); (simp only [go_sem]) | ((first | refine mxq6 [] ?_ | refine mxq5 [] ?_ | refine mxq4 [] ?_ | refine mxq3 [] ?_ | refine mxq2 [] ?_ | refine mxq1 [] ?_ | refine mxq0 [] ?_ | fail); (simp only [go_sem, hb, hwn])) | fail)
      all_goals
        first
          | (refine hG (k + 1, _) _ _ ⟨by omega, hnx.symm⟩ (by simp only []; omega) (hat [0] (hI := ⟨?_, ?_⟩)) <;> first | rfl | (simp only [List.length_append, List.length_cons, List.length_nil]; done) | (simp only [intR, intR_append, List.cons_append, List.nil_append, List.append_assoc]; done))
          | (refine hG (k + 1, _) _ _ ⟨by omega, hnx.symm⟩ (by simp only []; omega) (hat [0, 1] (hI := ⟨?_, ?_⟩)) <;> first | rfl | (simp only [List.length_append, List.length_cons, List.length_nil]; done) | (simp only [intR, intR_append, List.cons_append, List.nil_append, List.append_assoc]; done))
          | (refine hG (k + 1, _) _ _ ⟨by omega, hnx.symm⟩ (by simp only []; omega) (hat [0, 4] (hI := ⟨?_, ?_⟩)) <;> first | rfl | (simp only [List.length_append, List.length_cons, List.length_nil]; done) | (simp only [intR, intR_append, List.cons_append, List.nil_append, List.append_assoc]; done))
          | (refine hG (k + 1, _) _ _ ⟨by omega, hnx.symm⟩ (by simp only []; omega) (hat [0, 5] (hI := ⟨?_, ?_⟩)) <;> first | rfl | (simp only [List.length_append, List.length_cons, List.length_nil]; done) | (simp only [intR, intR_append, List.cons_append, List.nil_append, List.append_assoc]; done))
          | (refine hG (k + 1, _) _ _ ⟨by omega, hnx.symm⟩ (by simp only []; omega) (hat [0, 6] (hI := ⟨?_, ?_⟩)) <;> first | rfl | (simp only [List.length_append, List.length_cons, List.length_nil]; done) | (simp only [intR, intR_append, List.cons_append, List.nil_append, List.append_assoc]; done))
          | (refine hG (k + 1, _) _ _ ⟨by omega, hnx.symm⟩ (by simp only []; omega) (hat [0, 7] (hI := ⟨?_, ?_⟩)) <;> first | rfl | (simp only [List.length_append, List.length_cons, List.length_nil]; done) | (simp only [intR, intR_append, List.cons_append, List.nil_append, List.append_assoc]; done))
    · have hk1 : (labsOf cs).take k = labsOf cs := List.take_of_length_le (by have := of_decide_eq_false hb; omega)
      rw [hk1] at hacc
      clear hG
      rcases acc with _ | ⟨z, m⟩
      · have e0 : setL [] = [] := (setL_nil_iff []).2 rfl
        have s1 := sortNil
        have s2 := compNil
        repeat' (first | (first | (((first | apply sp1 | apply sp2 | apply sp3 | apply sp4 | apply sp5 | apply sp6 | apply sp7) <;> intro hb) <;> (simp only [go_sem, hb])) | ((first | apply wm_done | apply wt_done | apply wg_run | refine fk ?_ ?_) <;> (simp only [go_sem]))) | (first | refine cdq ?_ (hc := s1) | refine cmq ?_ (hc := s1) | refine ctq ?_ (hc := s1)); (simp only [go_sem]) | (first | refine cdq ?_ (hc := s2) | refine cmq ?_ (hc := s2) | refine ctq ?_ (hc := s2)); (simp only [go_sem]) | fail)
        exact hR _ (rat [] (hK := (.inl ⟨by rw [← hacc, e0], rfl, rfl⟩)))
      · simp only [List.length_cons] at hal
        have s1 := sortCall (z :: m) (by simp only [List.length_cons]; omega)
        have s2 := compCall (srt (z :: m)) (by rw [srt_length]; simp only [List.length_cons]; omega)
        rw [srt_length] at s2
        simp only [List.length_cons] at s1 s2
        simp only [show Lib.compact (srt (z :: m)) = setL (z :: m) from rfl] at s2
        rw [← hacc] at hR
        repeat' (first | (first | (((first | apply sp1 | apply sp2 | apply sp3 | apply sp4 | apply sp5 | apply sp6 | apply sp7) <;> intro hb) <;> (simp only [go_sem, hb])) | ((first | apply wm_done | apply wt_done | apply wg_run | refine fk ?_ ?_) <;> (simp only [go_sem]))) | ((first | refine kdq [1] ?_ (hc := s1) | refine kmq [1] ?_ (hc := s1) | refine ktq [1] ?_ (hc := s1)); rintro _ _ ⟨rfl, rfl⟩ <;> (simp only [go_sem])) | ((first | refine kdq [1] ?_ (hc := s2) | refine kmq [1] ?_ (hc := s2) | refine ktq [1] ?_ (hc := s2)); rintro _ _ ⟨rfl, rfl⟩ <;> (simp only [go_sem])) | fail)
        exact hR _ (rwn [1] (hK := (.inr ⟨rfl, rfl⟩)))

theorem eqInts (L : List Int) (hL : L.length < 1000000) : AFn Try.prog 53 [.one (.sl (intR L)), .one (.sl (intR L))] (.one (.sc (.bool true))) := by
  have b0 : (((L.length : Nat) : Int) != ((L.length : Nat) : Int)) = false := by simp
  refine fn_in ?_; refine acl_in Try.func53 rfl isfn_53 (Nat.le_of_ble_eq_true rfl) (fun R hR => ?_); rw [Try.results53] at hR; refine wg_run ?_; (simp only [Try.f53, go_sem, b0])
  repeat' (first | (first | (simp only [go_sem, b0]) | (((first | apply sp1 | apply sp2 | apply sp3 | apply sp4 | apply sp5 | apply sp6 | apply sp7) <;> intro hb) <;> (simp only [go_sem, hb, b0])) | ((first | apply wm_done | apply wt_done | apply wg_run | refine fk ?_ ?_) <;> (simp only [go_sem, b0]))) | fail)
  refine wd_for [0, 1, 5] (fun k => [.one (.sl (intR L)), .one (.sl (intR L)), .one (.sc (.int .i64 (k : Nat)))]) (fun _ => []) (fun k => k ≤ L.length) (fun k => L.length - k) 0 (Nat.zero_le _) (hat [] (hI := ⟨rfl, rfl⟩)) ?_
  rintro k hk G hG
  refine wg_run ?_
  (simp only [go_sem])
  ((first | apply sp1 | apply sp2 | apply sp3 | apply sp4 | apply sp5 | apply sp6 | apply sp7) <;> intro hb) <;> (simp only [go_sem, hb])
  · have hk1 : k < L.length := by have := of_decide_eq_true hb; omega
    have hw1 := wrap_succ hk1 (by omega)
    have b2 : decide ((0 : Int) ≤ (k : Int)) = true := decide_eq_true (by omega)
    have b3 : (Sh.num L k != Sh.num L k) = false := by simp
    repeat' (first | (first | (simp only [go_sem, hb, hw1, b2, b3]) | (((first | apply sp1 | apply sp2 | apply sp3 | apply sp4 | apply sp5 | apply sp6 | apply sp7) <;> intro hb) <;> (simp only [go_sem, hb, hb, hw1, b2, b3])) | ((first | apply wm_done | apply wt_done | apply wg_run | refine fk ?_ ?_) <;> (simp only [go_sem, hb, hw1, b2, b3]))) | ((first | refine mxq6 [] ?_ | refine mxq5 [] ?_ | refine mxq4 [] ?_ | refine mxq3 [] ?_ | refine mxq2 [] ?_ | refine mxq1 [] ?_ | refine mxq0 [] ?_ | fail); (simp only [go_sem, hb, hw1, b2, b3])) | fail)
    exact hG (k + 1) _ _ (by omega) (by omega) (hat [] (hI := ⟨rfl, rfl⟩))
  · repeat' (first | (first | (((first | apply sp1 | apply sp2 | apply sp3 | apply sp4 | apply sp5 | apply sp6 | apply sp7) <;> intro hb) <;> (simp only [go_sem, hb])) | ((first | apply wm_done | apply wt_done | apply wg_run | refine fk ?_ ?_) <;> (simp only [go_sem]))) | fail)
    (refine hR _ (rat [] (hK := ⟨rfl, rfl⟩)))
theorem heldInts (n k : Nat) (h : n + k < 1000000) : AFn Try.prog 55 [.one (.sl (intR (upI k n))), .one (.sc (.int .i64 (k : Nat)))] (.one (.sc (.int .i64 ((k + n : Nat) : Int)))) := by
  have hl := upI_length k n
  refine fn_in ?_; refine acl_in Try.func55 rfl isfn_55 (Nat.le_of_ble_eq_true rfl) (fun R hR => ?_); rw [Try.results55] at hR; refine wg_run ?_; (simp only [Try.f55, go_sem])
  refine wd_for [0, 1, 5] (fun i => [.one (.sl (intR (upI k n))), .one (.sc (.int .i64 ((k + i : Nat) : Int))), .one (.sc (.int .i64 (i : Nat)))]) (fun _ => []) (fun i => i ≤ n) (fun i => n - i) 0 (Nat.zero_le _) (hat [] (hI := ⟨rfl, rfl⟩)) ?_
  rintro i hi G hG
  refine wg_run ?_
  (simp only [go_sem, hl])
  ((first | apply sp1 | apply sp2 | apply sp3 | apply sp4 | apply sp5 | apply sp6 | apply sp7) <;> intro hb) <;> (simp only [go_sem, hb, hl])
  · have hi1 : i < n := by have := of_decide_eq_true hb; omega
    have hw1 := wrap_succ hi1 (by omega)
    have b2 : decide ((0 : Int) ≤ (i : Int)) = true := decide_eq_true (by omega)
    have hm := upI_num n k i hi1
    have b3 : (((k + i : Nat) : Int) != ((k + i : Nat) : Int)) = false := by simp
    have hw2 : IntKind.i64.wrap (((k + i : Nat) : Int) + 1) = ((k + (i + 1) : Nat) : Int) := by rw [IntWalk.i64_in _ (by omega)]; omega
    repeat' (first | (first | (simp only [go_sem, hb, hl, hw1, hw2, b2, b3, hm]) | (((first | apply sp1 | apply sp2 | apply sp3 | apply sp4 | apply sp5 | apply sp6 | apply sp7) <;> intro hb) <;> (simp only [go_sem, hb, hb, hl, hw1, hw2, b2, b3, hm])) | ((first | apply wm_done | apply wt_done | apply wg_run | refine fk ?_ ?_) <;> (simp only [go_sem, hb, hl, hw1, hw2, b2, b3, hm]))) | ((first | refine mxq6 [] ?_ | refine mxq5 [] ?_ | refine mxq4 [] ?_ | refine mxq3 [] ?_ | refine mxq2 [] ?_ | refine mxq1 [] ?_ | refine mxq0 [] ?_ | fail); (simp only [go_sem, hb, hl, hw1, b2, b3, hm])) | fail)
    exact hG (i + 1) _ _ (by omega) (by omega) (hat [] (hI := ⟨rfl, rfl⟩))
  · have hi1 : i = n := by have := of_decide_eq_false hb; omega
    subst hi1
    repeat' (first | (first | (((first | apply sp1 | apply sp2 | apply sp3 | apply sp4 | apply sp5 | apply sp6 | apply sp7) <;> intro hb) <;> (simp only [go_sem, hb])) | ((first | apply wm_done | apply wt_done | apply wg_run | refine fk ?_ ?_) <;> (simp only [go_sem]))) | fail)
    (refine hR _ (rat [] (hK := ⟨rfl, rfl⟩)))
theorem markInts (h : List Blk) (b n : Nat) (L : List Int) (hb0 : h[b]? = some ⟨1, 3, .mut, intR L⟩) (hn : n = L.length) (k : Nat) (hk : n + k < 1000000) : ACl Try.prog 54 [.one (.row 1 b n), .one (.sc (.int .i64 (k : Nat)))] h (fun r h' => r = .one (.sc (.int .i64 ((k + n : Nat) : Int))) ∧ h' = h.set b ⟨1, 3, .mut, intR (upI k n)⟩) := by
  subst hn
  have hbl : b < h.length := (List.getElem?_eq_some_iff.1 hb0).1
  have hg : ∀ x : Blk, (h.set b x)[b]? = some x := fun x => by simp [hbl]
  have hs : ∀ x y : Blk, (h.set b x).set b y = h.set b y := fun x y => by simp
  have h0 : h = h.set b ⟨1, 3, .mut, intR L⟩ := by
    apply List.ext_getElem?
    intro i
    by_cases hi : i = b
    · subst hi; rw [hb0, hg]
    · rw [List.getElem?_set_ne (fun e => hi e.symm)]
  refine acl_in Try.func54 rfl isfn_54 (Nat.le_of_ble_eq_true rfl) (fun R hR => ?_); rw [Try.results54] at hR; refine wg_run ?_; (simp only [Try.f54, go_sem])
  refine wd_for [0, 1, 5] (fun i => [.one (.row 1 b L.length), .one (.sc (.int .i64 ((k + i : Nat) : Int))), .one (.sc (.int .i64 (i : Nat)))]) (fun i => h.set b ⟨1, 3, .mut, intR (upI k i ++ L.drop i)⟩) (fun i => i ≤ L.length) (fun i => L.length - i) 0 (Nat.zero_le _) (head_all (by (simp only [go_sem]); first | done | rfl) ⟨rfl, h0⟩) ?_
  rintro i hi G hG
  refine wg_run ?_
  (simp only [go_sem])
  ((first | apply sp1 | apply sp2 | apply sp3 | apply sp4 | apply sp5 | apply sp6 | apply sp7) <;> intro hb) <;> (simp only [go_sem, hb])
  · have hi1 : i < L.length := by have := of_decide_eq_true hb; omega
    have hw1 := wrap_succ hi1 (by omega)
    have b2 : decide ((0 : Int) ≤ (i : Int)) = true := decide_eq_true (by omega)
    have hw2 : IntKind.i64.wrap (((k + i : Nat) : Int) + 1) = ((k + (i + 1) : Nat) : Int) := by rw [IntWalk.i64_in _ (by omega)]; omega
    have b4 : decide (i < L.length) = true := decide_eq_true hi1
    have hnx := upI_next k i L hi1
    have hln : (intR (upI k i ++ L.drop i)).length = L.length := by rw [intR_length, List.length_append, upI_length, List.length_drop]; omega
    have hgt : (intR (upI k i ++ L.drop i))[i]? = some [C.sc (.int .i64 (Sh.num L i))] := by
      rw [intR_append, List.getElem?_append_right (by rw [intR_length, upI_length]; omega), intR_length, upI_length, Nat.sub_self, List.drop_eq_getElem_cons hi1, Sh.num_eq hi1]; rfl
    repeat' (first | (first | (simp only [go_sem, hb, hg, hs, hw1, hw2, b2, b4, hnx, hln, hgt]) | (((first | apply sp1 | apply sp2 | apply sp3 | apply sp4 | apply sp5 | apply sp6 | apply sp7) <;> intro hb) <;> (simp only [go_sem, hb, hb, hg, hs, hw1, hw2, b2, b4, hnx, hln, hgt])) | ((first | apply wm_done | apply wt_done | apply wg_run | refine fk ?_ ?_) <;> (simp only [go_sem, hb, hg, hs, hw1, hw2, b2, b4, hnx, hln, hgt]))) | fail)
    exact hG (i + 1) _ _ (by omega) (by omega) (head_all (by (simp only [go_sem]); first | done | rfl) ⟨rfl, rfl⟩)
  · have hi1 : i = L.length := by have := of_decide_eq_false hb; omega
    subst hi1
    clear hG
    have hfin : upI k L.length ++ L.drop L.length = upI k L.length := by rw [List.drop_length, List.append_nil]
    rw [hfin]
    repeat' (first | (first | (((first | apply sp1 | apply sp2 | apply sp3 | apply sp4 | apply sp5 | apply sp6 | apply sp7) <;> intro hb) <;> (simp only [go_sem, hb])) | ((first | apply wm_done | apply wt_done | apply wg_run | refine fk ?_ ?_) <;> (simp only [go_sem]))) | fail)
    exact hR _ (ret_all (by (simp only [go_sem]); first | done | rfl) ⟨rfl, rfl⟩)
end Go.Proofs.Ytfgjiamolknicaa
/- Trees whose lengths fit into the machine's numbers; their weights. -/
namespace Go.Proofs.Grad
mutual
def Ty.fits : Ty → Prop | .mk _ l => l.length ≤ 9223372036854775807 ∧ Ty.fitss l
def Ty.fitss : List Ty → Prop | [] => True | t :: l => t.fits ∧ Ty.fitss l
end
mutual
def Tm.fits : Tm → Prop | .mk _ n _ t f _ l => n.size ≤ 9223372036854775807 ∧ t.fits ∧ f.fits ∧ l.length ≤ 9223372036854775807 ∧ Tm.fitss l
def Tm.fitss : List Tm → Prop | [] => True | t :: l => t.fits ∧ Tm.fitss l
end
mutual
def Co.fits : Co → Prop | .mk _ _ _ l => l.length ≤ 9223372036854775807 ∧ Co.fitss l
def Co.fitss : List Co → Prop | [] => True | t :: l => t.fits ∧ Co.fitss l
end
theorem Ty.fitss_mem {t : Ty} : ∀ {l : List Ty}, Ty.fitss l → t ∈ l → t.fits
  | x :: l, h, hm => by
    rcases List.mem_cons.1 hm with rfl | hm
    · exact h.1
    · exact Ty.fitss_mem h.2 hm
theorem Tm.fitss_mem {t : Tm} : ∀ {l : List Tm}, Tm.fitss l → t ∈ l → t.fits
  | x :: l, h, hm => by
    rcases List.mem_cons.1 hm with rfl | hm
    · exact h.1
    · exact Tm.fitss_mem h.2 hm
theorem Co.fitss_mem {t : Co} : ∀ {l : List Co}, Co.fitss l → t ∈ l → t.fits
  | x :: l, h, hm => by
    rcases List.mem_cons.1 hm with rfl | hm
    · exact h.1
    · exact Co.fitss_mem h.2 hm
theorem Ty.fitss_of : ∀ {l : List Ty}, (∀ i (h : i < l.length), l[i].fits) → Ty.fitss l
  | [], _ => trivial
  | x :: l, h => ⟨h 0 (by simp), Ty.fitss_of fun i hi => h (i + 1) (by simpa using hi)⟩
theorem Tm.fitss_of : ∀ {l : List Tm}, (∀ i (h : i < l.length), l[i].fits) → Tm.fitss l
  | [], _ => trivial
  | x :: l, h => ⟨h 0 (by simp), Tm.fitss_of fun i hi => h (i + 1) (by simpa using hi)⟩
theorem Co.fitss_of : ∀ {l : List Co}, (∀ i (h : i < l.length), l[i].fits) → Co.fitss l
  | [], _ => trivial
  | x :: l, h => ⟨h 0 (by simp), Co.fitss_of fun i hi => h (i + 1) (by simpa using hi)⟩
mutual
def Ty.wt : Ty → Nat | .mk _ l => Ty.wts l
def Ty.wts : List Ty → Nat | [] => 0 | t :: l => 1 + t.wt + Ty.wts l
end
mutual
def Tm.wt : Tm → Nat | .mk _ n _ t f _ l => n.size + (t.wt + (f.wt + Tm.wts l))
def Tm.wts : List Tm → Nat | [] => 0 | t :: l => 1 + t.wt + Tm.wts l
end
mutual
def Co.wt : Co → Nat | .mk _ _ _ l => Co.wts l
def Co.wts : List Co → Nat | [] => 0 | t :: l => 1 + t.wt + Co.wts l
end
mutual
theorem Ty.size_wt : ∀ t : Ty, t.size = 1 + t.wt
  | .mk _ l => by simp only [Ty.size, Ty.wt, Ty.sizes_wts l]
theorem Ty.sizes_wts : ∀ l : List Ty, Ty.sizes l = Ty.wts l
  | [] => rfl
  | t :: l => by simp only [Ty.sizes, Ty.wts, Ty.size_wt t, Ty.sizes_wts l]
end
mutual
theorem Co.size_wt : ∀ t : Co, t.size = 1 + t.wt
  | .mk _ _ _ l => by simp only [Co.size, Co.wt, Co.sizes_wts l]
theorem Co.sizes_wts : ∀ l : List Co, Co.sizes l = Co.wts l
  | [] => rfl
  | t :: l => by simp only [Co.sizes, Co.wts, Co.size_wt t, Co.sizes_wts l]
end
mutual
theorem Tm.size_wt : ∀ t : Tm, t.size ≤ 3 + 3 * t.wt
  | .mk _ _ _ t f _ l => by
    have := Tm.sizes_wts l
    have := Ty.size_wt t
    have := Ty.size_wt f
    simp only [Tm.size, Tm.wt]; omega
theorem Tm.sizes_wts : ∀ l : List Tm, Tm.sizes l ≤ 3 * Tm.wts l
  | [] => by simp [Tm.sizes, Tm.wts]
  | t :: l => by have := Tm.size_wt t; have := Tm.sizes_wts l; simp only [Tm.sizes, Tm.wts]; omega
end
end Go.Proofs.Grad
/- Types: the helpers of the exact laws, on shadows. -/
namespace Go.Proofs.Sh
open Go.RowKit Go.Proofs.Grad

/-! ### trees from memory: lengths fit -/
def szR (x : Nat) (left : Int) : Int := if (x : Int) ≤ left then left - x else -1
theorem szR_neg {x : Nat} {left : Int} (h : decide (szR x left < 0) = true) : szR x left = -1 := by
  have h := of_decide_eq_true h
  unfold szR at h ⊢
  split <;> rename_i h' <;> simp [h'] at h ⊢
  omega
theorem tyall2_kid {f : Ty → Ty → Bool} {a b : List Ty} {i : Nat} (ha : i < a.length) (hb : i < b.length) : all2 f (a.drop i) (b.drop i) = (f (kid a i) (kid b i) && all2 f (a.drop (i + 1)) (b.drop (i + 1))) := by
  rw [drop_kid ha, drop_kid hb]; rfl
theorem tyall2_end {f : Ty → Ty → Bool} {a b : List Ty} {i : Nat} (ha : ¬ i < a.length) (hb : a.length = b.length) : all2 f (a.drop i) (b.drop i) = true := by
  rw [List.drop_eq_nil_of_le (by omega), List.drop_eq_nil_of_le (by omega)]; rfl

/-! ### sizes -/
theorem tyw_mem {l : List Ty} {k : Nat} (h : k < l.length) : Ty.wts (l.take (k + 1)) = Ty.wts (l.take k) + (1 + (kid l k).wt) := by
  rw [take_kid h]
  induction l.take k with
  | nil => simp [Ty.wts]
  | cons x m ih => simp only [List.cons_append, Ty.wts, ih]; omega
theorem tyw_rest (l : List Ty) : ∀ k, k ≤ l.length → Ty.wts (l.take k) + (l.length - k) ≤ Ty.wts l := by
  induction l with
  | nil => intro k _; simp [Ty.wts]
  | cons x l ih =>
    intro k hk
    cases k with
    | zero => have := ih 0 (by omega); simp [Ty.wts] at this ⊢; omega
    | succ k => have := ih k (by simpa using hk); simp [Ty.wts] at this ⊢; omega
theorem tyw_fit {l : List Ty} (h : Ty.fitss l) {k : Nat} (hk : k < l.length) : (kid l k).fits := by
  rw [kid_eq hk]; exact Ty.fitss_mem h (List.getElem_mem hk)

/-! ### lists filled from the front -/
def tyF (l : List Ty) (k : Nat) : List (List C) := tyR (l.take k) ++ List.replicate (l.length - k) [.sc (.int .i64 0), .sc (.slice none 0 0)]
theorem tyF_0 (l : List Ty) : tyF l 0 = List.replicate l.length [.sc (.int .i64 0), .sc (.slice none 0 0)] := by simp [tyF, tyR]
theorem tyF_get {l : List Ty} {k : Nat} (h : k < l.length) : (tyF l k)[k]? = some [.sc (.int .i64 0), .sc (.slice none 0 0)] := by
  have e : (tyR (l.take k)).length = k := by rw [tyR_length, List.length_take]; omega
  rw [tyF, List.getElem?_append_right (by omega), e, Nat.sub_self, List.getElem?_replicate, if_pos (by omega)]
theorem tyF_set {l : List Ty} {k : Nat} (h : k < l.length) : (tyF l k).set k (tyC (kid l k)) = tyF l (k + 1) := by
  have e : (tyR (l.take k)).length = k := by rw [tyR_length, List.length_take]; omega
  rw [tyF, tyF, List.set_append_right _ _ (by omega), e, Nat.sub_self, show l.length - k = (l.length - (k + 1)) + 1 by omega, List.replicate_succ, List.set_cons_zero, tyR_take h, List.append_assoc]
  rfl
theorem tyF_end (l : List Ty) : tyF l l.length = tyR l := by simp [tyF]
@[go_sem] theorem tyF_pr (h : List Blk) (ks : List Nat) (l : List Ty) (k : Nat) : prRs h ks (tyF l k) = some (tyF l k, []) := by
  have h1 : ∀ n, prRs h ks (List.replicate n [.sc (.int .i64 0), .sc (.slice none 0 0)]) = some (List.replicate n [.sc (.int .i64 0), .sc (.slice none 0 0)], []) := by
    intro n
    induction n with
    | zero => rfl
    | succ n ih => rw [List.replicate_succ, prRs, ih]; rfl
  have h2 : ∀ (m : List Ty) n, prRs h ks (tyR m ++ List.replicate n [.sc (.int .i64 0), .sc (.slice none 0 0)]) = some (tyR m ++ List.replicate n [.sc (.int .i64 0), .sc (.slice none 0 0)], []) := by
    intro m n
    induction m with
    | nil => exact h1 n
    | cons x m ih => rw [tyR, List.cons_append, prRs, ih, prL, if_pos (tyC_treeL x)]; rfl
  exact h2 _ _
@[go_sem] theorem tyF_rows (l : List Ty) (k : Nat) : rowsLen 2 (tyF l k) = true := by
  have : ∀ n, rowsLen 2 (List.replicate n [.sc (.int .i64 0), .sc (.slice none 0 0)]) = true := by
    intro n
    induction n with
    | zero => rfl
    | succ n ih => rw [List.replicate_succ, rowsLen_cons, ih]; rfl
  rw [tyF, rowsLen_append, tyR_len, this]; rfl
end Go.Proofs.Sh
namespace Go.Proofs.Ytfgjiamolknicaa
open Go.RowKit Go.Proofs.Sh Go.Proofs.Grad
set_option maxRecDepth 100000
set_option maxHeartbeats 4000000

theorem szTyS (n : Nat) (ih : ∀ t : Ty, t.size < n → t.fits → ∀ left : Int, 0 ≤ left → left ≤ 1048576 → AFn Try.prog 75 [.agg (tyC t), .one (.sc (.int .i64 left))] (.one (.sc (.int .i64 (szR t.wt left)))))
    (l : List Ty) (hn : Ty.sizes l < n) (hlen : l.length ≤ 9223372036854775807) (hf : Ty.fitss l) (left : Int) (h0 : 0 ≤ left) (h1 : left ≤ 1048576) : AFn Try.prog 140 [.one (.sl (tyR l)), .one (.sc (.int .i64 left))] (.one (.sc (.int .i64 (szR (Ty.wts l) left)))) := by
  have hw0 : IntKind.i64.wrap (left - (l.length : Int)) = left - (l.length : Int) := IntWalk.i64_in _ (by omega)
  have hge := tyw_rest l 0 (Nat.zero_le _)
  simp only [List.take_zero, Ty.wts] at hge
  by_cases hfit : (l.length : Int) ≤ left
  · have d0 : decide (left - (l.length : Int) < 0) = false := by simp; omega
    refine fn_in ?_; refine acl_in Try.func140 rfl isfn_140 (Nat.le_of_ble_eq_true rfl) (fun R hR => ?_); rw [Try.results140] at hR; refine wg_run ?_; (simp only [Try.f140, go_sem, hw0, d0])
    refine wd_for [0, 1, 5] (fun k => [.one (.sl (tyR l)), .one (.sc (.int .i64 (left - (l.length : Int) - ((Ty.wts (l.take k) : Int) - (k : Int))))), .one (.sc (.int .i64 (k : Nat)))]) (fun _ => [])
      (fun k => k ≤ l.length ∧ (Ty.wts (l.take k) : Int) + (l.length : Int) ≤ left + (k : Int)) (fun k => l.length - k) 0 ⟨Nat.zero_le _, by simp [Ty.wts]; omega⟩ (hat [] (hI := ⟨by simp [Ty.wts], rfl⟩)) ?_
    rintro k ⟨hk, hs⟩ G hG
    refine wg_run ?_
    (simp only [go_sem])
    have hr := tyw_rest l k hk
    ((first | apply sp1 | apply sp2 | apply sp3 | apply sp4 | apply sp5 | apply sp6 | apply sp7) <;> intro hb) <;> (simp only [go_sem, hb])
    · have hk1 : k < l.length := by have := of_decide_eq_true hb; omega
      have hw1 := wrap_succ hk1 (by omega)
      have hm := tyw_mem hk1
      have hr1 := tyw_rest l (k + 1) hk1
      have hc := ih (kid l k) (by rw [kid_eq hk1]; have := Ty.sizes_mem (List.getElem_mem hk1); omega) (tyw_fit hf hk1) (left - (l.length : Int) - ((Ty.wts (l.take k) : Int) - (k : Int))) (by omega) (by omega)
      by_cases hfk : ((kid l k).wt : Int) ≤ left - (l.length : Int) - ((Ty.wts (l.take k) : Int) - (k : Int))
      · have he : szR (kid l k).wt (left - (l.length : Int) - ((Ty.wts (l.take k) : Int) - (k : Int))) = left - (l.length : Int) - ((Ty.wts (l.take (k + 1)) : Int) - ((k + 1 : Nat) : Int)) := by
          unfold szR; rw [if_pos hfk, hm]; omega
        rw [he] at hc
        have d1 : decide (left - (l.length : Int) - ((Ty.wts (l.take (k + 1)) : Int) - ((k + 1 : Nat) : Int)) < 0) = false := by simp; omega
        (first | refine cdq ?_ (hc := hc) | refine cmq ?_ (hc := hc) | refine ctq ?_ (hc := hc)); (simp only [go_sem])
        repeat' (first | (simp only [go_sem, hw1, d1]) | (((first | apply sp1 | apply sp2 | apply sp3 | apply sp4 | apply sp5 | apply sp6 | apply sp7) <;> intro hb) <;> (simp only [go_sem, hb, hw1, d1])) | ((first | apply wm_done | apply wt_done | apply wg_run | refine fk ?_ ?_) <;> (simp only [go_sem, hw1, d1])))
        exact hG (k + 1) _ _ ⟨by omega, by omega⟩ (by omega) (hat [] (hI := ⟨rfl, rfl⟩))
      · have he : szR (kid l k).wt (left - (l.length : Int) - ((Ty.wts (l.take k) : Int) - (k : Int))) = -1 := by
          unfold szR; rw [if_neg hfk]
        rw [he] at hc
        have he2 : szR (Ty.wts l) left = -1 := by unfold szR; rw [if_neg (by omega)]
        (first | refine cdq ?_ (hc := hc) | refine cmq ?_ (hc := hc) | refine ctq ?_ (hc := hc)); (simp only [go_sem])
        repeat' (first | (simp only [go_sem, hw1]) | (((first | apply sp1 | apply sp2 | apply sp3 | apply sp4 | apply sp5 | apply sp6 | apply sp7) <;> intro hb) <;> (simp only [go_sem, hb, hw1])) | ((first | apply wm_done | apply wt_done | apply wg_run | refine fk ?_ ?_) <;> (simp only [go_sem, hw1])))
        (refine hR _ (rat [] (hK := ⟨?_, rfl⟩)))
        rw [he2]
    · have hk1 : k = l.length := by have := of_decide_eq_false hb; omega
      subst hk1
      rw [List.take_length] at hs hr
      have he2 : szR (Ty.wts l) left = left - (l.length : Int) - ((Ty.wts l : Int) - (l.length : Int)) := by unfold szR; rw [if_pos (by omega)]; omega
      rw [List.take_length]
      (refine hR _ (rat [] (hK := ⟨?_, rfl⟩)))
      rw [he2]
  · have d0 : decide (left - (l.length : Int) < 0) = true := by simp; omega
    have he2 : szR (Ty.wts l) left = -1 := by unfold szR; rw [if_neg (by omega)]
    refine fn_in ?_; refine acl_in Try.func140 rfl isfn_140 (Nat.le_of_ble_eq_true rfl) (fun R hR => ?_); rw [Try.results140] at hR; refine wg_run ?_; (simp only [Try.f140, go_sem, hw0, d0])
    (refine hR _ (rat [] (hK := ⟨?_, rfl⟩)))
    rw [he2]

/-! ### equality -/
theorem eqTyS (n : Nat) (ih : ∀ a b : Ty, a.size < n → AFn Try.prog 84 [.agg (tyC a), .agg (tyC b)] (.one (.sc (.bool (a.same b))))) (l m : List Ty) (hn : Ty.sizes l < n) (hlen : l.length < 4611686018427387904) :
    AFn Try.prog 146 [.one (.sl (tyR l)), .one (.sl (tyR m))] (.one (.sc (.bool (Ty.sames l m)))) := by
  rw [Ty.sames_all2]
  by_cases hlm : l.length = m.length
  · have hb0 : ((l.length : Int) == (m.length : Int)) = true := by simp; omega
    refine fn_in ?_; refine acl_in Try.func146 rfl isfn_146 (Nat.le_of_ble_eq_true rfl) (fun R hR => ?_); rw [Try.results146] at hR; refine wg_run ?_; (simp only [Try.f146, go_sem, hb0, int_bne])
    refine wd_for [0, 1, 5] (fun k => [.one (.sl (tyR l)), .one (.sl (tyR m)), .one (.sc (.int .i64 (k : Nat)))]) (fun _ => [])
      (fun k => k ≤ l.length ∧ all2 Ty.same (l.drop k) (m.drop k) = all2 Ty.same l m) (fun k => l.length - k) 0 ⟨Nat.zero_le _, rfl⟩ (hat [] (hI := ⟨rfl, rfl⟩)) ?_
    rintro k ⟨hk, hs⟩ G hG
    refine wg_run ?_
    (simp only [go_sem])
    ((first | apply sp1 | apply sp2 | apply sp3 | apply sp4 | apply sp5 | apply sp6 | apply sp7) <;> intro hb) <;> (simp only [go_sem, hb])
    · have hk1 : k < l.length := by have := of_decide_eq_true hb; omega
      have hk2 : decide ((k : Int) < (m.length : Int)) = true := by simp; omega
      have hw1 := wrap_succ hk1 (by omega)
      rw [tyall2_kid hk1 (by omega)] at hs
      have hc := ih (kid l k) (kid m k) (by rw [kid_eq hk1]; have := Ty.sizes_mem (List.getElem_mem hk1); omega)
      repeat' (first | (first | (simp only [go_sem, hb, hk2, hw1]) | (((first | apply sp1 | apply sp2 | apply sp3 | apply sp4 | apply sp5 | apply sp6 | apply sp7) <;> intro hb) <;> (simp only [go_sem, hb, hb, hk2, hw1])) | ((first | apply wm_done | apply wt_done | apply wg_run | refine fk ?_ ?_) <;> (simp only [go_sem, hb, hk2, hw1]))) | ((first | refine mxq6 [] ?_ | refine mxq5 [] ?_ | refine mxq4 [] ?_ | refine mxq3 [] ?_ | refine mxq2 [] ?_ | refine mxq1 [] ?_ | refine mxq0 [] ?_ | fail); (simp only [go_sem, hb, hk2])) | (first | refine cdq ?_ (hc := hc) | refine cmq ?_ (hc := hc) | refine ctq ?_ (hc := hc)); (simp only [go_sem]))
      · exact hG (k + 1) _ _ ⟨by omega, by simpa [hb] using hs⟩ (by omega) (hat [] (hI := ⟨rfl, rfl⟩))
      · (refine hR _ (rat [] (hK := ⟨?_, rfl⟩)))
        simpa [hb] using hs
    · have hk1 : ¬ k < l.length := by have := of_decide_eq_false hb; omega
      rw [tyall2_end hk1 hlm] at hs
      (refine hR _ (rat [] (hK := ⟨?_, rfl⟩)))
      rw [hs]
  · have hb0 : ((l.length : Int) == (m.length : Int)) = false := by simp; omega
    refine fn_in ?_; refine acl_in Try.func146 rfl isfn_146 (Nat.le_of_ble_eq_true rfl) (fun R hR => ?_); rw [Try.results146] at hR; refine wg_run ?_; (simp only [Try.f146, go_sem, hb0, int_bne])
    (refine hR _ (rat [] (hK := ⟨?_, rfl⟩)))
    rw [all2_len hlm]

/-! ### copies from the law's types to the program's -/
theorem toTyS (n : Nat) (ih : ∀ t : Ty, t.size < n → AFn Try.prog 79 [.agg (tyC t)] (.agg (tyC t))) (l : List Ty) (hn : Ty.sizes l < n) (hlen : l.length < 1099511627776) :
    AFn Try.prog 144 [.one (.sl (tyR l))] (.one (.sl (tyR l))) := by
  have hcap : decide ((32 : Int) * (l.length : Int) ≤ 140737488355328 ∧ (l.length : Int) ≤ 140737488355328) = true := by simp; omega
  refine fn_in ?_; refine acl_in Try.func144 rfl isfn_144 (Nat.le_of_ble_eq_true rfl) (fun R hR => ?_); rw [Try.results144] at hR; refine wg_run ?_; (simp only [Try.f144, go_sem, hcap])
  rw [← tyF_0 l]
  refine wd_for [0, 3, 4] (fun k => [.one (.sl (tyR l)), .one (.row 2 0 l.length), .one (.sc (.int .i64 (k : Nat)))]) (fun k => [⟨2, 25, .mut, tyF l k⟩])
    (fun k => k ≤ l.length) (fun k => l.length - k) 0 (Nat.zero_le _) (head_at [0] (by (simp only [go_sem]); first | done | rfl) (by (simp only [go_sem]); generalize treeRows _ = b; cases b <;> rfl) ⟨rfl, rfl⟩) ?_
  rintro k hk G hG
  refine wg_run ?_
  (simp only [go_sem])
  ((first | apply sp1 | apply sp2 | apply sp3 | apply sp4 | apply sp5 | apply sp6 | apply sp7) <;> intro hb) <;> (simp only [go_sem, hb])
  · have hk1 : k < l.length := by have := of_decide_eq_true hb; omega
    have hw1 := wrap_succ hk1 (by omega)
    have hc := ih (kid l k) (by rw [kid_eq hk1]; have := Ty.sizes_mem (List.getElem_mem hk1); omega)
    have hkn : decide (k < l.length) = true := by simpa using hk1
    repeat' (first | (first | (simp only [go_sem, hb, hw1, hkn, tyF_get hk1, tyF_set hk1]) | (((first | apply sp1 | apply sp2 | apply sp3 | apply sp4 | apply sp5 | apply sp6 | apply sp7) <;> intro hb) <;> (simp only [go_sem, hb, hb, hw1, hkn, tyF_get hk1, tyF_set hk1])) | ((first | apply wm_done | apply wt_done | apply wg_run | refine fk ?_ ?_) <;> (simp only [go_sem, hb, hw1, hkn, tyF_get hk1, tyF_set hk1]))) | ((first | refine mxq6 [] ?_ | refine mxq5 [] ?_ | refine mxq4 [] ?_ | refine mxq3 [] ?_ | refine mxq2 [] ?_ | refine mxq1 [] ?_ | refine mxq0 [] ?_ | fail); (simp only [go_sem, hb, hkn, tyF_get hk1, tyF_set hk1])) | (first | refine cdq ?_ (hc := hc) | refine cmq ?_ (hc := hc) | refine ctq ?_ (hc := hc)); (simp only [go_sem]))
    exact hG (k + 1) _ _ (by omega) (by omega) (head_at [0] (by (simp only [go_sem]); first | done | rfl) (by (simp only [go_sem]); generalize treeRows _ = b; cases b <;> rfl) ⟨rfl, rfl⟩)
  · have hk1 : k = l.length := by have := of_decide_eq_false hb; omega
    subst hk1
    rw [tyF_end]
    (refine hR _ (rat [] (hK := ⟨?_, rfl⟩)))
    rfl

theorem szTy (n : Nat) : ∀ t : Ty, t.size < n → t.fits → ∀ left : Int, 0 ≤ left → left ≤ 1048576 → AFn Try.prog 75 [.agg (tyC t), .one (.sc (.int .i64 left))] (.one (.sc (.int .i64 (szR t.wt left)))) := by
  induction n with
  | zero => intro t h; omega
  | succ n ih =>
    intro t h hf left h0 h1
    have hc := szTyS n ih t.kids (by cases t; simp only [Ty.size, Ty.kids] at *; omega) (by cases t; exact hf.1) (by cases t; exact hf.2) left h0 h1
    have e : t.wt = Ty.wts t.kids := by cases t; rfl
    rw [← e] at hc
    refine fn_in ?_; refine acl_in Try.func75 rfl isfn_75 (Nat.le_of_ble_eq_true rfl) (fun R hR => ?_); rw [Try.results75] at hR; refine wg_run ?_; (simp only [Try.f75, go_sem])
    (first | refine cdq ?_ (hc := hc) | refine cmq ?_ (hc := hc) | refine ctq ?_ (hc := hc)); (simp only [go_sem])
    repeat' (first | (((first | apply sp1 | apply sp2 | apply sp3 | apply sp4 | apply sp5 | apply sp6 | apply sp7) <;> intro hb) <;> (simp only [go_sem, hb])) | ((first | apply wm_done | apply wt_done | apply wg_run | refine fk ?_ ?_) <;> (simp only [go_sem])))
    · (refine hR _ (rat [] (hK := ⟨?_, rfl⟩)))
      rw [szR_neg hb]
    · (refine hR _ (rat [] (hK := ⟨rfl, rfl⟩)))
theorem eqTy (n : Nat) (hn : n ≤ 4611686018427387904) : ∀ a b : Ty, a.size < n → AFn Try.prog 84 [.agg (tyC a), .agg (tyC b)] (.one (.sc (.bool (a.same b)))) := by
  induction n with
  | zero => intro a b h; omega
  | succ n ih =>
    intro a b h
    have hc := eqTyS n (ih (by omega)) a.kids b.kids (by cases a; simp only [Ty.size, Ty.kids] at *; omega) (by have := Ty.length_le_sizes a.kids; cases a; simp only [Ty.size, Ty.kids] at *; omega)
    have e : a.same b = (a.kind == b.kind && Ty.sames a.kids b.kids) := by cases a; cases b; rfl
    rw [e]
    refine fn_in ?_; refine acl_in Try.func84 rfl isfn_84 (Nat.le_of_ble_eq_true rfl) (fun R hR => ?_); rw [Try.results84] at hR; refine wg_run ?_; (simp only [Try.f84, go_sem])
    repeat' (first | (first | (simp only [go_sem, int_bne]) | (((first | apply sp1 | apply sp2 | apply sp3 | apply sp4 | apply sp5 | apply sp6 | apply sp7) <;> intro hb) <;> (simp only [go_sem, hb, int_bne])) | ((first | apply wm_done | apply wt_done | apply wg_run | refine fk ?_ ?_) <;> (simp only [go_sem, int_bne]))) | (first | refine cdq ?_ (hc := hc) | refine cmq ?_ (hc := hc) | refine ctq ?_ (hc := hc)); (simp only [go_sem]) | ((first | refine mxq6 [] ?_ | refine mxq5 [] ?_ | refine mxq4 [] ?_ | refine mxq3 [] ?_ | refine mxq2 [] ?_ | refine mxq1 [] ?_ | refine mxq0 [] ?_ | fail); (simp only [go_sem])))
    all_goals (refine hR _ (rat [] (hK := ⟨?_, rfl⟩)))
    all_goals simp_all
theorem toTy (n : Nat) (hn : n ≤ 1099511627776) : ∀ t : Ty, t.size < n → AFn Try.prog 79 [.agg (tyC t)] (.agg (tyC t)) := by
  induction n with
  | zero => intro t h; omega
  | succ n ih =>
    intro t h
    have hc := toTyS n (ih (by omega)) t.kids (by cases t; simp only [Ty.size, Ty.kids] at *; omega) (by have := Ty.length_le_sizes t.kids; cases t; simp only [Ty.size, Ty.kids] at *; omega)
    refine fn_in ?_; refine acl_in Try.func79 rfl isfn_79 (Nat.le_of_ble_eq_true rfl) (fun R hR => ?_); rw [Try.results79] at hR; refine wg_run ?_; (simp only [Try.f79, go_sem])
    repeat' (first | (first | (((first | apply sp1 | apply sp2 | apply sp3 | apply sp4 | apply sp5 | apply sp6 | apply sp7) <;> intro hb) <;> (simp only [go_sem, hb])) | ((first | apply wm_done | apply wt_done | apply wg_run | refine fk ?_ ?_) <;> (simp only [go_sem]))) | (first | refine cdq ?_ (hc := hc) | refine cmq ?_ (hc := hc) | refine ctq ?_ (hc := hc)); (simp only [go_sem]) | ((first | refine mxq6 [] ?_ | refine mxq5 [] ?_ | refine mxq4 [] ?_ | refine mxq3 [] ?_ | refine mxq2 [] ?_ | refine mxq1 [] ?_ | refine mxq0 [] ?_ | fail); (simp only [go_sem])))
    (refine hR _ (rat [] (hK := ⟨?_, rfl⟩)))
    rw [tyC_eq]
end Go.Proofs.Ytfgjiamolknicaa
