/- Texts of the proof, one behind another. -/
import Derived.Test.YtchcbfbnffhifaaKB4
import Derived.Test.YtchcbfbnffhifaaKB5
import Derived.Test.YtchcbfbnffhifaaKB6
set_option linter.unusedSimpArgs false
set_option linter.unusedVariables false
/- Terms: the reference's checks, on shadows. -/
namespace Go.Proofs.Ytchcbfbnffhifaa
open Go.RowKit Go.Proofs.Sh Go.Proofs.Grad
set_option maxRecDepth 100000
set_option maxHeartbeats 8000000
theorem l2Kids (k : Int) : AFn Try.prog 135 [.one (.sc (.int .i64 k))] (.one (.sc (.int .i64 (opN k)))) := by
  by_cases h : 1 ≤ k ∧ k ≤ 14
  · obtain rfl | rfl | rfl | rfl | rfl | rfl | rfl | rfl | rfl | rfl | rfl | rfl | rfl | rfl := kinds h
    all_goals
      refine fn_in ?_; refine acl_in Try.func135 rfl isfn_135 (Nat.le_of_ble_eq_true rfl) (fun R hR => ?_); rw [Try.results135] at hR; refine wg_run ?_; (simp only [Try.f135, go_sem])
      repeat' (first | (((first | refine sp1 ?_ ?_ | refine sp2 ?_ ?_ | refine sp3 ?_ ?_ | refine sp4 ?_ ?_ | refine sp5 ?_ ?_ | refine sp6 ?_ ?_ | refine sp7 ?_ ?_) <;> intro hb) <;> (simp only [go_sem, hb])) | ((first | refine wm_done ?_ | refine wt_done ?_ | refine wg_run ?_ | refine fk ?_ ?_) <;> (simp only [go_sem])))
      (refine hR _ (rat [] (hK := ⟨rfl, rfl⟩)))
  · have e : ∀ n : Int, 1 ≤ n → n ≤ 14 → (k == n) = false := fun n h1 h2 => by rw [beq_eq_false_iff_ne]; omega
    have e1 := e 1 (by omega) (by omega); have e2 := e 2 (by omega) (by omega); have e3 := e 3 (by omega) (by omega); have e4 := e 4 (by omega) (by omega); have e5 := e 5 (by omega) (by omega); have e6 := e 6 (by omega) (by omega); have e7 := e 7 (by omega) (by omega)
    have e8 := e 8 (by omega) (by omega); have e9 := e 9 (by omega) (by omega); have e10 := e 10 (by omega) (by omega); have e11 := e 11 (by omega) (by omega); have e12 := e 12 (by omega) (by omega); have e13 := e 13 (by omega) (by omega); have e14 := e 14 (by omega) (by omega)
    have : opN k = -1 := by
      rcases opN_cases k with h' | h'
      · exact absurd h' h
      · exact h'
    rw [this]
    refine fn_in ?_; refine acl_in Try.func135 rfl isfn_135 (Nat.le_of_ble_eq_true rfl) (fun R hR => ?_); rw [Try.results135] at hR; refine wg_run ?_; (simp only [Try.f135, go_sem, e1, e2, e3, e4, e5, e6, e7, e8, e9, e10, e11, e12, e13, e14])
    repeat' (first | (((first | refine sp1 ?_ ?_ | refine sp2 ?_ ?_ | refine sp3 ?_ ?_ | refine sp4 ?_ ?_ | refine sp5 ?_ ?_ | refine sp6 ?_ ?_ | refine sp7 ?_ ?_) <;> intro hb) <;> (simp only [go_sem, hb])) | ((first | refine wm_done ?_ | refine wt_done ?_ | refine wg_run ?_ | refine fk ?_ ?_) <;> (simp only [go_sem])))
    (refine hR _ (rat [] (hK := ⟨rfl, rfl⟩)))
theorem sName (s : ByteArray) : AFn Try.prog 150 [.one (.sc (.string s))] (.one (.sc (.bool (nmOk s)))) := by
  rw [nm_iff]
  by_cases h : s.size = 1
  · have h0 : s[0]? = some s[0] := getElem?_pos s 0 (by omega)
    have h1 : ((s.size : Int) == 1) = true := by simp; omega
    have h2 : (s.size == 1) = true := by simp; omega
    rw [h0, h2]
    refine fn_in ?_; refine acl_in Try.func150 rfl isfn_150 (Nat.le_of_ble_eq_true rfl) (fun R hR => ?_); rw [Try.results150] at hR; refine wg_run ?_; (simp only [Try.f150, go_sem, h0, h1])
    repeat' (first | (simp only [go_sem, h0]) | (((first | refine sp1 ?_ ?_ | refine sp2 ?_ ?_ | refine sp3 ?_ ?_ | refine sp4 ?_ ?_ | refine sp5 ?_ ?_ | refine sp6 ?_ ?_ | refine sp7 ?_ ?_) <;> intro hb) <;> (simp only [go_sem, hb, h0])) | ((first | refine wm_done ?_ | refine wt_done ?_ | refine wg_run ?_ | refine fk ?_ ?_) <;> (simp only [go_sem, h0])))
    all_goals (refine hR _ (rat [] (hK := ⟨?_, rfl⟩)))
    all_goals simp_all
    all_goals (try (intros; omega))
  · have h1 : ((s.size : Int) == 1) = false := by simp; omega
    have h2 : (s.size == 1) = false := by simp; omega
    rw [h2]
    refine fn_in ?_; refine acl_in Try.func150 rfl isfn_150 (Nat.le_of_ble_eq_true rfl) (fun R hR => ?_); rw [Try.results150] at hR; refine wg_run ?_; (simp only [Try.f150, go_sem, h1])
    repeat' (first | (((first | refine sp1 ?_ ?_ | refine sp2 ?_ ?_ | refine sp3 ?_ ?_ | refine sp4 ?_ ?_ | refine sp5 ?_ ?_ | refine sp6 ?_ ?_ | refine sp7 ?_ ?_) <;> intro hb) <;> (simp only [go_sem, hb])) | ((first | refine wm_done ?_ | refine wt_done ?_ | refine wg_run ?_ | refine fk ?_ ?_) <;> (simp only [go_sem])))
    all_goals (refine hR _ (rat [] (hK := ⟨?_, rfl⟩)))
    all_goals simp_all
theorem sNone (t : Ty) : AFn Try.prog 151 [.agg (tyC t)] (.one (.sc (.bool t.isNo))) := by
  have e : t.isNo = (t.kind == 0 && ((t.kids.length : Int) == 0)) := by
    simp only [Ty.isNo]; congr 1; rw [Bool.eq_iff_iff]; simp
  rw [e]
  refine fn_in ?_; refine acl_in Try.func151 rfl isfn_151 (Nat.le_of_ble_eq_true rfl) (fun R hR => ?_); rw [Try.results151] at hR; refine wg_run ?_; (simp only [Try.f151, go_sem])
  repeat' (first | (((first | refine sp1 ?_ ?_ | refine sp2 ?_ ?_ | refine sp3 ?_ ?_ | refine sp4 ?_ ?_ | refine sp5 ?_ ?_ | refine sp6 ?_ ?_ | refine sp7 ?_ ?_) <;> intro hb) <;> (simp only [go_sem, hb])) | ((first | refine wm_done ?_ | refine wt_done ?_ | refine wg_run ?_ | refine fk ?_ ?_) <;> (simp only [go_sem])))
  all_goals (refine hR _ (rat [] (hK := ⟨?_, rfl⟩)))
  all_goals simp_all
theorem nmOk_nil {s : ByteArray} (h : s.size = 0) : nmOk s = false := by rw [nm_iff, h]; rfl
theorem l2Own (t : Tm) (h1 : 1 ≤ t.kind) (h2 : t.kind ≤ 13) : AFn Try.prog 137 [.agg (teC t)] (.one (.sc (.bool t.ownOk))) := by
  have hn := sName t.name
  have ht := sValid t.type
  have ht0 := sNone t.type
  have hf0 := sNone t.frm
  unfold Tm.ownOk
  have hz : t.name.size = 0 → nmOk t.name = false := nmOk_nil
  obtain h | h | h | h | h | h | h | h | h | h | h | h | h | h := kinds (k := t.kind) ⟨h1, by omega⟩
  all_goals (try (exfalso; omega))
  all_goals rw [h] at ⊢
  all_goals simp only [Int.reduceEq, or_true, true_or, or_false, or_self, if_true, if_false, reduceIte]
  all_goals
    refine fn_in ?_; refine acl_in Try.func137 rfl isfn_137 (Nat.le_of_ble_eq_true rfl) (fun R hR => ?_); rw [Try.results137] at hR; refine wg_run ?_; (simp only [Try.f137, go_sem, h])
    repeat' (first | (first | (simp only [go_sem, h, bytes_nil, int_bne]) | (((first | refine sp1 ?_ ?_ | refine sp2 ?_ ?_ | refine sp3 ?_ ?_ | refine sp4 ?_ ?_ | refine sp5 ?_ ?_ | refine sp6 ?_ ?_ | refine sp7 ?_ ?_) <;> intro hb) <;> (simp only [go_sem, hb, h, bytes_nil, int_bne])) | ((first | refine wm_done ?_ | refine wt_done ?_ | refine wg_run ?_ | refine fk ?_ ?_) <;> (simp only [go_sem, h, bytes_nil, int_bne]))) | ((first | refine mx 6 [] follows ?_ | refine mx 5 [] follows ?_ | refine mx 4 [] follows ?_ | refine mx 3 [] follows ?_ | refine mx 2 [] follows ?_ | refine mx 1 [] follows ?_ | refine mx 0 [] follows ?_ | fail); (simp only [go_sem, h, bytes_nil, int_bne])) | (first | refine cd (hc := hn) (hK := ?_) | refine cm (hc := hn) (hK := ?_) | refine ct (hc := hn) (hK := ?_)); (simp only [go_sem]) | (first | refine cd (hc := ht) (hK := ?_) | refine cm (hc := ht) (hK := ?_) | refine ct (hc := ht) (hK := ?_)); (simp only [go_sem]) | (first | refine cd (hc := ht0) (hK := ?_) | refine cm (hc := ht0) (hK := ?_) | refine ct (hc := ht0) (hK := ?_)); (simp only [go_sem]) | (first | refine cd (hc := hf0) (hK := ?_) | refine cm (hc := hf0) (hK := ?_) | refine ct (hc := hf0) (hK := ?_)); (simp only [go_sem]))
    all_goals (refine hR _ (rat [] (hK := ⟨?_, rfl⟩)))
    all_goals clear hR hn ht ht0 hf0
    all_goals simp_all
    all_goals (try grind)
end Go.Proofs.Ytchcbfbnffhifaa
/- The plain laws of subtyping. -/
namespace Go.Proofs.Grad

theorem T.cons_symm (a : T) : ∀ b : T, a.cons b = b.cons a := by
  induction a with
  | fn a b iha ihb => intro c; cases c <;> simp [T.cons, iha, ihb]
  | pr a b iha ihb => intro c; cases c <;> simp [T.cons, iha, ihb]
  | _ => intro c; cases c <;> simp [T.cons]

theorem T.sub_trans' : ∀ (n : Nat) (a b c : T), a.size + b.size + c.size < n → a.sub b = true → b.sub c = true → a.sub c = true := by
  intro n
  induction n with
  | zero => intro a b c h; omega
  | succ n ih =>
    intro a b c hn h1 h2
    cases a <;> cases b <;> cases c <;> simp [T.sub] at h1 h2 ⊢ <;> simp only [T.size] at hn <;>
      first
      | exact h1
      | exact ⟨ih _ _ _ (by (try simp only [T.size]); omega) h1.1 h2.1, ih _ _ _ (by (try simp only [T.size]); omega) h1.2 h2.2⟩
      | exact ⟨ih _ _ _ (by (try simp only [T.size]); omega) h2.1 h1.1, ih _ _ _ (by (try simp only [T.size]); omega) h1.2 h2.2⟩
theorem T.sub_trans {a b c : T} (h1 : a.sub b = true) (h2 : b.sub c = true) : a.sub c = true := T.sub_trans' _ a b c (Nat.lt_succ_self _) h1 h2

theorem T.sub_cons' : ∀ (n : Nat) (a b : T), a.size + b.size < n → a.sub b = true → a.cons b = true := by
  intro n
  induction n with
  | zero => intro a b h; omega
  | succ n ih =>
    intro a b hn h1
    cases a <;> cases b <;> simp [T.sub, T.cons] at h1 ⊢ <;> simp only [T.size] at hn <;>
      first
      | exact ⟨ih _ _ (by omega) h1.1, ih _ _ (by omega) h1.2⟩
      | exact ⟨by rw [T.cons_symm]; exact ih _ _ (by omega) h1.1, ih _ _ (by omega) h1.2⟩
theorem T.sub_cons {a b : T} (h1 : a.sub b = true) : a.cons b = true := T.sub_cons' _ a b (Nat.lt_succ_self _) h1

theorem T.prec_eq' : ∀ (n : Nat) (a b : T), a.size + b.size < n → a.prec b = (a.pos b && b.neg a) := by
  intro n
  induction n with
  | zero => intro a b h; omega
  | succ n ih =>
    intro a b hn
    cases a <;> cases b <;> simp [T.prec, T.pos, T.neg] <;> simp only [T.size] at hn <;>
      (rw [ih _ _ (by omega), ih _ _ (by omega)]; grind)
theorem T.prec_eq (a b : T) : a.prec b = (a.pos b && b.neg a) := T.prec_eq' _ a b (Nat.lt_succ_self _)

theorem T.sub_pn' : ∀ (n : Nat) (a b : T), a.size + b.size < n → a.sub b = (a.pos b && a.neg b) := by
  intro n
  induction n with
  | zero => intro a b h; omega
  | succ n ih =>
    intro a b hn
    cases a <;> cases b <;> simp [T.sub, T.pos, T.neg] <;> simp only [T.size] at hn <;>
      (rw [ih _ _ (by (try simp only [T.size]); omega), ih _ _ (by (try simp only [T.size]); omega)]; (try simp [T.pos_any, T.any_neg]); try grind)
theorem T.sub_pn (a b : T) : a.sub b = (a.pos b && a.neg b) := T.sub_pn' _ a b (Nat.lt_succ_self _)

theorem T.sub_refl (a : T) : a.sub a = true := by
  induction a <;> simp [T.sub, *]

theorem T.sub_static : ∀ (n : Nat) (a b : T), a.size + b.size < n → a.count = 0 → b.count = 0 → a.sub b = decide (a = b) := by
  intro n
  induction n with
  | zero => intro a b h; omega
  | succ n ih =>
    intro a b hn h1 h2
    cases a <;> cases b <;> simp [T.sub, T.count] at h1 h2 ⊢ <;> simp only [T.size] at hn <;>
      (rw [ih _ _ (by omega) (by omega) (by omega), ih _ _ (by omega) (by omega) (by omega)]; try grind)
end Go.Proofs.Grad
/- Types: consistency in the reference, on shadows. -/
namespace Go.Proofs.Ytchcbfbnffhifaa
open Go.RowKit Go.Proofs.Sh Go.Proofs.Grad
set_option maxRecDepth 100000
set_option maxHeartbeats 4000000
theorem l1Cons (n : Nat) : ∀ a b : T, a.size < n → AFn Try.prog 149 [.agg (tyC a.ty), .agg (tyC b.ty)] (.one (.sc (.bool (a.cons b)))) := by
  induction n with
  | zero => intro a b h; omega
  | succ n ih =>
    intro a b h
    rcases a with _ | _ | _ | ⟨a1, a2⟩ | ⟨a1, a2⟩ <;> rcases b with _ | _ | _ | ⟨b1, b2⟩ | ⟨b1, b2⟩
    all_goals simp only [T.size] at h
    all_goals
      refine fn_in ?_; refine acl_in Try.func149 rfl isfn_149 (Nat.le_of_ble_eq_true rfl) (fun R hR => ?_); rw [Try.results149] at hR; refine wg_run ?_; (simp only [Try.f149, go_sem])
      repeat' (first | (first | (((first | refine sp1 ?_ ?_ | refine sp2 ?_ ?_ | refine sp3 ?_ ?_ | refine sp4 ?_ ?_ | refine sp5 ?_ ?_ | refine sp6 ?_ ?_ | refine sp7 ?_ ?_) <;> intro hb) <;> (simp only [go_sem, hb])) | ((first | refine wm_done ?_ | refine wt_done ?_ | refine wg_run ?_ | refine fk ?_ ?_) <;> (simp only [go_sem]))) | (first | (refine wl_next (wg_run ?_); (simp only [go_sem])) | refine wd_rounds 6 ?_) | (first | refine cd (hc := ih _ _ (by omega)) (hK := ?_) | refine cm (hc := ih _ _ (by omega)) (hK := ?_) | refine ct (hc := ih _ _ (by omega)) (hK := ?_)); (simp only [go_sem]) | ((first | refine mx 6 [] follows ?_ | refine mx 5 [] follows ?_ | refine mx 4 [] follows ?_ | refine mx 3 [] follows ?_ | refine mx 2 [] follows ?_ | refine mx 1 [] follows ?_ | refine mx 0 [] follows ?_ | fail); (simp only [go_sem])))
      all_goals (refine hR _ (rat [] (hK := ⟨?_, rfl⟩)))
      all_goals simp_all [T.cons]
end Go.Proofs.Ytchcbfbnffhifaa
/- Terms: validity in the reference, on shadows. -/
namespace Go.Proofs.Ytchcbfbnffhifaa
open Go.RowKit Go.Proofs.Sh Go.Proofs.Grad
set_option maxRecDepth 100000
set_option maxHeartbeats 8000000
theorem lab_labN (n : Int) : lab n = (decide (labN n ≥ 1) && decide (labN n ≤ 99)) := by
  rw [Bool.eq_iff_iff]; unfold labN lab; simp; split <;> (try split) <;> omega
theorem l4Own (t : Tm) (h : t.kind = 14) : AFn Try.prog 136 [.agg (teC t)] (.one (.sc (.bool t.ownOk))) := by
  have ht := sValid t.type
  have hf := sValid t.frm
  have hl := l1Abs t.label
  unfold Tm.ownOk
  rw [h, lab_labN]
  simp only [Int.reduceEq, or_true, true_or, or_false, or_self, if_true, if_false, reduceIte]
  cases e1 : t.type.valid
  · rw [e1] at ht
    rw [onT_off _ (by simp [e1])]
    refine fn_in ?_; refine acl_in Try.func136 rfl isfn_136 (Nat.le_of_ble_eq_true rfl) (fun R hR => ?_); rw [Try.results136] at hR; refine wg_run ?_; (simp only [Try.f136, go_sem])
    repeat' (first | (first | (simp only [go_sem, bytes_nil]) | (((first | refine sp1 ?_ ?_ | refine sp2 ?_ ?_ | refine sp3 ?_ ?_ | refine sp4 ?_ ?_ | refine sp5 ?_ ?_ | refine sp6 ?_ ?_ | refine sp7 ?_ ?_) <;> intro hb) <;> (simp only [go_sem, hb, bytes_nil])) | ((first | refine wm_done ?_ | refine wt_done ?_ | refine wg_run ?_ | refine fk ?_ ?_) <;> (simp only [go_sem, bytes_nil]))) | (first | refine cd (hc := ht) (hK := ?_) | refine cm (hc := ht) (hK := ?_) | refine ct (hc := ht) (hK := ?_)); (simp only [go_sem]) | (first | refine cd (hc := hl) (hK := ?_) | refine cm (hc := hl) (hK := ?_) | refine ct (hc := hl) (hK := ?_)); (simp only [go_sem]))
    all_goals (refine hR _ (rat [] (hK := ⟨?_, rfl⟩)))
    all_goals clear hR ht hf hl
    all_goals simp_all
  · rw [e1] at ht
    cases e2 : t.frm.valid
    · rw [e2] at hf
      rw [onT_off _ (by simp [e2])]
      refine fn_in ?_; refine acl_in Try.func136 rfl isfn_136 (Nat.le_of_ble_eq_true rfl) (fun R hR => ?_); rw [Try.results136] at hR; refine wg_run ?_; (simp only [Try.f136, go_sem])
      repeat' (first | (first | (simp only [go_sem, bytes_nil]) | (((first | refine sp1 ?_ ?_ | refine sp2 ?_ ?_ | refine sp3 ?_ ?_ | refine sp4 ?_ ?_ | refine sp5 ?_ ?_ | refine sp6 ?_ ?_ | refine sp7 ?_ ?_) <;> intro hb) <;> (simp only [go_sem, hb, bytes_nil])) | ((first | refine wm_done ?_ | refine wt_done ?_ | refine wg_run ?_ | refine fk ?_ ?_) <;> (simp only [go_sem, bytes_nil]))) | (first | refine cd (hc := ht) (hK := ?_) | refine cm (hc := ht) (hK := ?_) | refine ct (hc := ht) (hK := ?_)); (simp only [go_sem]) | (first | refine cd (hc := hf) (hK := ?_) | refine cm (hc := hf) (hK := ?_) | refine ct (hc := hf) (hK := ?_)); (simp only [go_sem]) | (first | refine cd (hc := hl) (hK := ?_) | refine cm (hc := hl) (hK := ?_) | refine ct (hc := hl) (hK := ?_)); (simp only [go_sem]))
      all_goals (refine hR _ (rat [] (hK := ⟨?_, rfl⟩)))
      all_goals clear hR ht hf hl
      all_goals simp_all
    · rw [e2] at hf
      obtain ⟨x, hx, hdx⟩ := (Ty.valid_iff _).1 e1
      obtain ⟨y, hy, hdy⟩ := (Ty.valid_iff _).1 e2
      have hc := l1Cons _ y x (Nat.lt_succ_self _)
      rw [← hx, ← hy, onT_ty _ hdy hdx]
      rw [hx, hy] at hc
      refine fn_in ?_; refine acl_in Try.func136 rfl isfn_136 (Nat.le_of_ble_eq_true rfl) (fun R hR => ?_); rw [Try.results136] at hR; refine wg_run ?_; (simp only [Try.f136, go_sem])
      repeat' (first | (first | (simp only [go_sem, bytes_nil]) | (((first | refine sp1 ?_ ?_ | refine sp2 ?_ ?_ | refine sp3 ?_ ?_ | refine sp4 ?_ ?_ | refine sp5 ?_ ?_ | refine sp6 ?_ ?_ | refine sp7 ?_ ?_) <;> intro hb) <;> (simp only [go_sem, hb, bytes_nil])) | ((first | refine wm_done ?_ | refine wt_done ?_ | refine wg_run ?_ | refine fk ?_ ?_) <;> (simp only [go_sem, bytes_nil]))) | (first | refine cd (hc := ht) (hK := ?_) | refine cm (hc := ht) (hK := ?_) | refine ct (hc := ht) (hK := ?_)); (simp only [go_sem]) | (first | refine cd (hc := hf) (hK := ?_) | refine cm (hc := hf) (hK := ?_) | refine ct (hc := hf) (hK := ?_)); (simp only [go_sem]) | (first | refine cd (hc := hl) (hK := ?_) | refine cm (hc := hl) (hK := ?_) | refine ct (hc := hl) (hK := ?_)); (simp only [go_sem]) | (first | refine cd (hc := hc) (hK := ?_) | refine cm (hc := hc) (hK := ?_) | refine ct (hc := hc) (hK := ?_)); (simp only [go_sem]))
      all_goals (refine hR _ (rat [] (hK := ⟨?_, rfl⟩)))
      all_goals clear hR ht hf hl hc
      all_goals simp_all
      all_goals (try grind)
theorem l2Count (n : Nat) (hn : n ≤ 4611686018427387904) : ∀ (t : Tm) (no : Int) (m : Nat), m ≤ 100 → t.size < n → t.shape no m = true → AFn Try.prog 100 [.agg (teC t), .one (.sc (.int .i64 (m : Nat)))] (.one (.sc (.int .i64 (t.nodes : Nat)))) := by
  induction n with
  | zero => intro t no m _ h; omega
  | succ n ih =>
    intro t no m hm h hs
    obtain ⟨m, rfl⟩ : ∃ k, m = k + 1 := by cases m with | zero => simp [Tm.shape] at hs | succ k => exact ⟨k, rfl⟩
    have hl := telen_lt t
    have hnl := t.nodes_le
    have hne := t.nodes_eq
    have hd : decide (((m + 1 : Nat) : Int) > 0) = true := by simp only [decide_eq_true_eq]; omega
    have hw : IntKind.i64.wrap (((m + 1 : Nat) : Int) - 1) = (m : Int) := by rw [IntWalk.i64_in _ (by omega)]; omega
    simp only [Tm.shape_succ, Bool.and_eq_true, List.all_eq_true] at hs
    refine fn_in ?_; refine acl_in Try.func100 rfl isfn_100 (Nat.le_of_ble_eq_true rfl) (fun R hR => ?_); rw [Try.results100] at hR; refine wg_run ?_; (simp only [Try.f100, go_sem, hd])
    refine wd_for [1, 2, 5, 6] (fun k => [.one (.sc (.int .i64 ((m + 1 : Nat) : Int))), .one (.ptr 9 0 0 0), .one (.sc (.int .i64 ((1 + Tm.nodess (t.kids.take k) : Nat) : Int))), .one (.sc (.int .i64 (k : Nat)))]) (fun k => [⟨9, 35, .mut, [teC t]⟩])
      (fun k => k ≤ t.kids.length) (fun k => t.kids.length - k) 0 (Nat.zero_le _) (hat [0] (hI := ⟨rfl, rfl⟩)) ?_
    rintro k hk G hG
    refine wg_run ?_
    (simp only [go_sem, hd])
    ((first | refine sp1 ?_ ?_ | refine sp2 ?_ ?_ | refine sp3 ?_ ?_ | refine sp4 ?_ ?_ | refine sp5 ?_ ?_ | refine sp6 ?_ ?_ | refine sp7 ?_ ?_) <;> intro hb) <;> (simp only [go_sem, hb, hd])
    · have hk1 : k < t.kids.length := by have := of_decide_eq_true hb; omega
      have hw1 := wrap_succ hk1 (by omega)
      have hle := Tm.nodess_le_take t.kids (k + 1)
      rw [Tm.nodess_take hk1] at hle
      have hw2 : IntKind.i64.wrap (((1 + Tm.nodess (t.kids.take k) : Nat) : Int) + ((teKid t.kids k).nodes : Int)) = ((1 + Tm.nodess (t.kids.take (k + 1)) : Nat) : Int) := by
        rw [Tm.nodess_take hk1, IntWalk.i64_in _ (by omega)]; omega
      have hc := ih (by omega) (teKid t.kids k) no m (by omega) (by have := teKid_lt hk1; omega) (hs.2.2 _ (by rw [teKid_eq hk1]; exact List.getElem_mem hk1))
      repeat' (first | (first | (simp only [go_sem, hd, hw, hw1, hw2, hb]) | (((first | refine sp1 ?_ ?_ | refine sp2 ?_ ?_ | refine sp3 ?_ ?_ | refine sp4 ?_ ?_ | refine sp5 ?_ ?_ | refine sp6 ?_ ?_ | refine sp7 ?_ ?_) <;> intro hb) <;> (simp only [go_sem, hb, hd, hw, hw1, hw2, hb])) | ((first | refine wm_done ?_ | refine wt_done ?_ | refine wg_run ?_ | refine fk ?_ ?_) <;> (simp only [go_sem, hd, hw, hw1, hw2, hb]))) | (first | refine cd (hc := hc) (hK := ?_) | refine cm (hc := hc) (hK := ?_) | refine ct (hc := hc) (hK := ?_)); (simp only [go_sem]) | ((first | refine mx 6 [] follows ?_ | refine mx 5 [] follows ?_ | refine mx 4 [] follows ?_ | refine mx 3 [] follows ?_ | refine mx 2 [] follows ?_ | refine mx 1 [] follows ?_ | refine mx 0 [] follows ?_ | fail); (simp only [go_sem, hb])))
      exact hG (k + 1) _ _ (by omega) (by omega) (hat [0] (hI := ⟨rfl, rfl⟩))
    · have hk1 : t.kids.take k = t.kids := List.take_of_length_le (by have := of_decide_eq_false hb; omega)
      rw [hk1, ← hne]
      (refine hR _ (rat [] (hK := ⟨rfl, rfl⟩)))

theorem l2Shape (n : Nat) (hn : n ≤ 4611686018427387904) : ∀ (t : Tm) (m : Nat), m ≤ 100 → t.size < n → AFn Try.prog 123 [.agg (teC t), .one (.sc (.int .i64 (m : Nat)))] (.one (.sc (.bool (t.shape 14 m)))) := by
  induction n with
  | zero => intro t m _ h; omega
  | succ n ih =>
    intro t m hm h
    cases m with
    | zero =>
      have hd : decide (((0 : Nat) : Int) < 1) = true := rfl
      refine fn_in ?_; refine acl_in Try.func123 rfl isfn_123 (Nat.le_of_ble_eq_true rfl) (fun R hR => ?_); rw [Try.results123] at hR; refine wg_run ?_; (simp only [Try.f123, go_sem, hd])
      repeat' (first | (first | (simp only [go_sem, hd]) | (((first | refine sp1 ?_ ?_ | refine sp2 ?_ ?_ | refine sp3 ?_ ?_ | refine sp4 ?_ ?_ | refine sp5 ?_ ?_ | refine sp6 ?_ ?_ | refine sp7 ?_ ?_) <;> intro hb) <;> (simp only [go_sem, hb, hd])) | ((first | refine wm_done ?_ | refine wt_done ?_ | refine wg_run ?_ | refine fk ?_ ?_) <;> (simp only [go_sem, hd]))) | ((first | refine mx 6 [] follows ?_ | refine mx 5 [] follows ?_ | refine mx 4 [] follows ?_ | refine mx 3 [] follows ?_ | refine mx 2 [] follows ?_ | refine mx 1 [] follows ?_ | refine mx 0 [] follows ?_ | fail); (simp only [go_sem, hd])))
      (refine hR _ (rat [] (hK := ⟨rfl, rfl⟩)))
    | succ m =>
      have hl := telen_lt t
      have hd : decide (((m + 1 : Nat) : Int) < 1) = false := by simp only [decide_eq_false_iff_not]; omega
      have hw : IntKind.i64.wrap (((m + 1 : Nat) : Int) - 1) = (m : Int) := by rw [IntWalk.i64_in _ (by omega)]; omega
      have hk := l2Kids t.kind
      by_cases hlen : opN t.kind = (t.kids.length : Int)
      · have hb0 : (opN t.kind == (t.kids.length : Int)) = true := by simp [hlen]
        have hkd : 1 ≤ t.kind ∧ t.kind ≤ 14 := by
          rcases opN_cases t.kind with h | h
          · exact h
          · rw [h] at hlen; omega
        cases hc14 : (t.kind == 14)
        · have hk13 : t.kind ≤ 13 := by rw [beq_eq_false_iff_ne] at hc14; omega
          have ho := l2Own t hkd.1 hk13
          cases hok : t.ownOk
          · rw [hok] at ho
            have he : t.shape 14 (m + 1) = false := by rw [Tm.shape_succ, Tm.nodeOk_own, hok]; simp
            rw [he]
            refine fn_in ?_; refine acl_in Try.func123 rfl isfn_123 (Nat.le_of_ble_eq_true rfl) (fun R hR => ?_); rw [Try.results123] at hR; refine wg_run ?_; (simp only [Try.f123, go_sem, hd])
            repeat' (first | (first | (simp only [go_sem, hd, hb0, hc14, int_bne]) | (((first | refine sp1 ?_ ?_ | refine sp2 ?_ ?_ | refine sp3 ?_ ?_ | refine sp4 ?_ ?_ | refine sp5 ?_ ?_ | refine sp6 ?_ ?_ | refine sp7 ?_ ?_) <;> intro hb) <;> (simp only [go_sem, hb, hd, hb0, hc14, int_bne])) | ((first | refine wm_done ?_ | refine wt_done ?_ | refine wg_run ?_ | refine fk ?_ ?_) <;> (simp only [go_sem, hd, hb0, hc14, int_bne]))) | ((first | refine mx 6 [] follows ?_ | refine mx 5 [] follows ?_ | refine mx 4 [] follows ?_ | refine mx 3 [] follows ?_ | refine mx 2 [] follows ?_ | refine mx 1 [] follows ?_ | refine mx 0 [] follows ?_ | fail); (simp only [go_sem, hd, hb0, hc14, int_bne])) | (first | refine cd (hc := hk) (hK := ?_) | refine cm (hc := hk) (hK := ?_) | refine ct (hc := hk) (hK := ?_)); (simp only [go_sem]) | (first | refine cd (hc := ho) (hK := ?_) | refine cm (hc := ho) (hK := ?_) | refine ct (hc := ho) (hK := ?_)); (simp only [go_sem]))
            (refine hR _ (rat [] (hK := ⟨rfl, rfl⟩)))
          · rw [hok] at ho
            have he : t.shape 14 (m + 1) = t.kids.all (Tm.shape 14 m) := by rw [Tm.shape_succ, Tm.nodeOk_own, hok, hb0, hc14]; simp
            rw [he]
            refine fn_in ?_; refine acl_in Try.func123 rfl isfn_123 (Nat.le_of_ble_eq_true rfl) (fun R hR => ?_); rw [Try.results123] at hR; refine wg_run ?_; (simp only [Try.f123, go_sem, hd])
            repeat' (first | (first | (simp only [go_sem, hd, hb0, hc14, int_bne]) | (((first | refine sp1 ?_ ?_ | refine sp2 ?_ ?_ | refine sp3 ?_ ?_ | refine sp4 ?_ ?_ | refine sp5 ?_ ?_ | refine sp6 ?_ ?_ | refine sp7 ?_ ?_) <;> intro hb) <;> (simp only [go_sem, hb, hd, hb0, hc14, int_bne])) | ((first | refine wm_done ?_ | refine wt_done ?_ | refine wg_run ?_ | refine fk ?_ ?_) <;> (simp only [go_sem, hd, hb0, hc14, int_bne]))) | ((first | refine mx 6 [] follows ?_ | refine mx 5 [] follows ?_ | refine mx 4 [] follows ?_ | refine mx 3 [] follows ?_ | refine mx 2 [] follows ?_ | refine mx 1 [] follows ?_ | refine mx 0 [] follows ?_ | fail); (simp only [go_sem, hd, hb0, hc14, int_bne])) | (first | refine cd (hc := hk) (hK := ?_) | refine cm (hc := hk) (hK := ?_) | refine ct (hc := hk) (hK := ?_)); (simp only [go_sem]) | (first | refine cd (hc := ho) (hK := ?_) | refine cm (hc := ho) (hK := ?_) | refine ct (hc := ho) (hK := ?_)); (simp only [go_sem]))
            refine wd_for [1, 2, 5] (fun k => [.one (.sc (.int .i64 ((m + 1 : Nat) : Int))), .one (.ptr 9 0 0 0), .one (.sc (.int .i64 (k : Nat)))]) (fun k => [⟨9, 35, .mut, [teC t]⟩])
              (fun k => k ≤ t.kids.length ∧ (t.kids.drop k).all (Tm.shape 14 m) = t.kids.all (Tm.shape 14 m)) (fun k => t.kids.length - k) 0 ⟨Nat.zero_le _, rfl⟩ (hat [0] (hI := ⟨rfl, rfl⟩)) ?_
            rintro k ⟨hk0, hs⟩ G hG
            refine wg_run ?_
            (simp only [go_sem])
            ((first | refine sp1 ?_ ?_ | refine sp2 ?_ ?_ | refine sp3 ?_ ?_ | refine sp4 ?_ ?_ | refine sp5 ?_ ?_ | refine sp6 ?_ ?_ | refine sp7 ?_ ?_) <;> intro hb) <;> (simp only [go_sem, hb, hw])
            · have hk1 : k < t.kids.length := by have := of_decide_eq_true hb; omega
              have hw1 := wrap_succ hk1 (by omega)
              rw [tedrop_kid hk1, List.all_cons] at hs
              have hc := ih (by omega) (teKid t.kids k) m (by omega) (by have := teKid_lt hk1; omega)
              repeat' (first | (first | (simp only [go_sem, hw1, hw, hb]) | (((first | refine sp1 ?_ ?_ | refine sp2 ?_ ?_ | refine sp3 ?_ ?_ | refine sp4 ?_ ?_ | refine sp5 ?_ ?_ | refine sp6 ?_ ?_ | refine sp7 ?_ ?_) <;> intro hb) <;> (simp only [go_sem, hb, hw1, hw, hb])) | ((first | refine wm_done ?_ | refine wt_done ?_ | refine wg_run ?_ | refine fk ?_ ?_) <;> (simp only [go_sem, hw1, hw, hb]))) | (first | refine cd (hc := hc) (hK := ?_) | refine cm (hc := hc) (hK := ?_) | refine ct (hc := hc) (hK := ?_)); (simp only [go_sem]))
              · exact hG (k + 1) _ _ ⟨by omega, by simpa [hb] using hs⟩ (by omega) (hat [0] (hI := ⟨rfl, rfl⟩))
              · (refine hR _ (rat [] (hK := ⟨?_, rfl⟩)))
                simpa [hb] using hs
            · have hk1 : ¬ k < t.kids.length := by have := of_decide_eq_false hb; omega
              rw [List.drop_eq_nil_of_le (by omega)] at hs
              (refine hR _ (rat [] (hK := ⟨?_, rfl⟩)))
              simpa using hs
        · have he : t.shape 14 (m + 1) = false := by rw [Tm.shape_succ, hc14]; simp
          rw [he]
          refine fn_in ?_; refine acl_in Try.func123 rfl isfn_123 (Nat.le_of_ble_eq_true rfl) (fun R hR => ?_); rw [Try.results123] at hR; refine wg_run ?_; (simp only [Try.f123, go_sem, hd])
          repeat' (first | (first | (simp only [go_sem, hd, hb0, hc14, int_bne]) | (((first | refine sp1 ?_ ?_ | refine sp2 ?_ ?_ | refine sp3 ?_ ?_ | refine sp4 ?_ ?_ | refine sp5 ?_ ?_ | refine sp6 ?_ ?_ | refine sp7 ?_ ?_) <;> intro hb) <;> (simp only [go_sem, hb, hd, hb0, hc14, int_bne])) | ((first | refine wm_done ?_ | refine wt_done ?_ | refine wg_run ?_ | refine fk ?_ ?_) <;> (simp only [go_sem, hd, hb0, hc14, int_bne]))) | ((first | refine mx 6 [] follows ?_ | refine mx 5 [] follows ?_ | refine mx 4 [] follows ?_ | refine mx 3 [] follows ?_ | refine mx 2 [] follows ?_ | refine mx 1 [] follows ?_ | refine mx 0 [] follows ?_ | fail); (simp only [go_sem, hd, hb0, hc14, int_bne])) | (first | refine cd (hc := hk) (hK := ?_) | refine cm (hc := hk) (hK := ?_) | refine ct (hc := hk) (hK := ?_)); (simp only [go_sem]))
          (refine hR _ (rat [] (hK := ⟨rfl, rfl⟩)))
      · have hb0 : (opN t.kind == (t.kids.length : Int)) = false := by simp [hlen]
        have he : t.shape 14 (m + 1) = false := by rw [Tm.shape_succ, Tm.nodeOk_own, hb0]; simp
        rw [he]
        refine fn_in ?_; refine acl_in Try.func123 rfl isfn_123 (Nat.le_of_ble_eq_true rfl) (fun R hR => ?_); rw [Try.results123] at hR; refine wg_run ?_; (simp only [Try.f123, go_sem, hd])
        repeat' (first | (first | (simp only [go_sem, hd, hb0, int_bne]) | (((first | refine sp1 ?_ ?_ | refine sp2 ?_ ?_ | refine sp3 ?_ ?_ | refine sp4 ?_ ?_ | refine sp5 ?_ ?_ | refine sp6 ?_ ?_ | refine sp7 ?_ ?_) <;> intro hb) <;> (simp only [go_sem, hb, hd, hb0, int_bne])) | ((first | refine wm_done ?_ | refine wt_done ?_ | refine wg_run ?_ | refine fk ?_ ?_) <;> (simp only [go_sem, hd, hb0, int_bne]))) | ((first | refine mx 6 [] follows ?_ | refine mx 5 [] follows ?_ | refine mx 4 [] follows ?_ | refine mx 3 [] follows ?_ | refine mx 2 [] follows ?_ | refine mx 1 [] follows ?_ | refine mx 0 [] follows ?_ | fail); (simp only [go_sem, hd, hb0, int_bne])) | (first | refine cd (hc := hk) (hK := ?_) | refine cm (hc := hk) (hK := ?_) | refine ct (hc := hk) (hK := ?_)); (simp only [go_sem]))
        (refine hR _ (rat [] (hK := ⟨rfl, rfl⟩)))
theorem l4Shape (n : Nat) (hn : n ≤ 4611686018427387904) : ∀ (t : Tm) (m : Nat), m ≤ 100 → t.size < n → AFn Try.prog 99 [.agg (teC t), .one (.sc (.int .i64 (m : Nat)))] (.one (.sc (.bool (t.shape 13 m)))) := by
  induction n with
  | zero => intro t m _ h; omega
  | succ n ih =>
    intro t m hm h
    cases m with
    | zero =>
      have hd : decide (((0 : Nat) : Int) < 1) = true := rfl
      refine fn_in ?_; refine acl_in Try.func99 rfl isfn_99 (Nat.le_of_ble_eq_true rfl) (fun R hR => ?_); rw [Try.results99] at hR; refine wg_run ?_; (simp only [Try.f99, go_sem, hd])
      repeat' (first | (first | (simp only [go_sem, hd]) | (((first | refine sp1 ?_ ?_ | refine sp2 ?_ ?_ | refine sp3 ?_ ?_ | refine sp4 ?_ ?_ | refine sp5 ?_ ?_ | refine sp6 ?_ ?_ | refine sp7 ?_ ?_) <;> intro hb) <;> (simp only [go_sem, hb, hd])) | ((first | refine wm_done ?_ | refine wt_done ?_ | refine wg_run ?_ | refine fk ?_ ?_) <;> (simp only [go_sem, hd]))) | ((first | refine mx 6 [] follows ?_ | refine mx 5 [] follows ?_ | refine mx 4 [] follows ?_ | refine mx 3 [] follows ?_ | refine mx 2 [] follows ?_ | refine mx 1 [] follows ?_ | refine mx 0 [] follows ?_ | fail); (simp only [go_sem, hd])))
      (refine hR _ (rat [] (hK := ⟨rfl, rfl⟩)))
    | succ m =>
      have hl := telen_lt t
      have hd : decide (((m + 1 : Nat) : Int) < 1) = false := by simp only [decide_eq_false_iff_not]; omega
      have hw : IntKind.i64.wrap (((m + 1 : Nat) : Int) - 1) = (m : Int) := by rw [IntWalk.i64_in _ (by omega)]; omega
      have hk := l2Kids t.kind
      by_cases hlen : opN t.kind = (t.kids.length : Int)
      · have hb0 : (opN t.kind == (t.kids.length : Int)) = true := by simp [hlen]
        have hkd : 1 ≤ t.kind ∧ t.kind ≤ 14 := by
          rcases opN_cases t.kind with h | h
          · exact h
          · rw [h] at hlen; omega
        cases hc13 : (t.kind == 13)
        · obtain ⟨f, hf14, ho⟩ : ∃ b : Bool, (t.kind == 14) = b ∧ (match b with | true => AFn Try.prog 136 [.agg (teC t)] (.one (.sc (.bool t.ownOk))) | false => AFn Try.prog 137 [.agg (teC t)] (.one (.sc (.bool t.ownOk)))) := by
            cases hc14 : (t.kind == 14)
            · exact ⟨false, rfl, l2Own t hkd.1 (by rw [beq_eq_false_iff_ne] at hc14; omega)⟩
            · exact ⟨true, rfl, l4Own t (by simpa using hc14)⟩
          cases hok : t.ownOk
          · rw [hok] at ho
            have he : t.shape 13 (m + 1) = false := by rw [Tm.shape_succ, Tm.nodeOk_own, hok]; simp
            rw [he]
            cases f
            all_goals
              simp only [] at ho
              refine fn_in ?_; refine acl_in Try.func99 rfl isfn_99 (Nat.le_of_ble_eq_true rfl) (fun R hR => ?_); rw [Try.results99] at hR; refine wg_run ?_; (simp only [Try.f99, go_sem, hd])
              repeat' (first | (first | (simp only [go_sem, hd, hb0, hc13, hf14, int_bne]) | (((first | refine sp1 ?_ ?_ | refine sp2 ?_ ?_ | refine sp3 ?_ ?_ | refine sp4 ?_ ?_ | refine sp5 ?_ ?_ | refine sp6 ?_ ?_ | refine sp7 ?_ ?_) <;> intro hb) <;> (simp only [go_sem, hb, hd, hb0, hc13, hf14, int_bne])) | ((first | refine wm_done ?_ | refine wt_done ?_ | refine wg_run ?_ | refine fk ?_ ?_) <;> (simp only [go_sem, hd, hb0, hc13, hf14, int_bne]))) | ((first | refine mx 6 [] follows ?_ | refine mx 5 [] follows ?_ | refine mx 4 [] follows ?_ | refine mx 3 [] follows ?_ | refine mx 2 [] follows ?_ | refine mx 1 [] follows ?_ | refine mx 0 [] follows ?_ | fail); (simp only [go_sem, hd, hb0, hc13, hf14, int_bne])) | (first | refine cd (hc := hk) (hK := ?_) | refine cm (hc := hk) (hK := ?_) | refine ct (hc := hk) (hK := ?_)); (simp only [go_sem]) | (first | refine cd (hc := ho) (hK := ?_) | refine cm (hc := ho) (hK := ?_) | refine ct (hc := ho) (hK := ?_)); (simp only [go_sem]))
              (refine hR _ (rat [] (hK := ⟨rfl, rfl⟩)))
          · rw [hok] at ho
            have he : t.shape 13 (m + 1) = t.kids.all (Tm.shape 13 m) := by rw [Tm.shape_succ, Tm.nodeOk_own, hok, hb0, hc13]; simp
            rw [he]
            cases f
            all_goals
              simp only [] at ho
              refine fn_in ?_; refine acl_in Try.func99 rfl isfn_99 (Nat.le_of_ble_eq_true rfl) (fun R hR => ?_); rw [Try.results99] at hR; refine wg_run ?_; (simp only [Try.f99, go_sem, hd])
              repeat' (first | (first | (simp only [go_sem, hd, hb0, hc13, hf14, int_bne]) | (((first | refine sp1 ?_ ?_ | refine sp2 ?_ ?_ | refine sp3 ?_ ?_ | refine sp4 ?_ ?_ | refine sp5 ?_ ?_ | refine sp6 ?_ ?_ | refine sp7 ?_ ?_) <;> intro hb) <;> (simp only [go_sem, hb, hd, hb0, hc13, hf14, int_bne])) | ((first | refine wm_done ?_ | refine wt_done ?_ | refine wg_run ?_ | refine fk ?_ ?_) <;> (simp only [go_sem, hd, hb0, hc13, hf14, int_bne]))) | ((first | refine mx 6 [] follows ?_ | refine mx 5 [] follows ?_ | refine mx 4 [] follows ?_ | refine mx 3 [] follows ?_ | refine mx 2 [] follows ?_ | refine mx 1 [] follows ?_ | refine mx 0 [] follows ?_ | fail); (simp only [go_sem, hd, hb0, hc13, hf14, int_bne])) | (first | refine cd (hc := hk) (hK := ?_) | refine cm (hc := hk) (hK := ?_) | refine ct (hc := hk) (hK := ?_)); (simp only [go_sem]) | (first | refine cd (hc := ho) (hK := ?_) | refine cm (hc := ho) (hK := ?_) | refine ct (hc := ho) (hK := ?_)); (simp only [go_sem]))
              refine wd_for [1, 2, 5] (fun k => [.one (.sc (.int .i64 ((m + 1 : Nat) : Int))), .one (.ptr 9 0 0 0), .one (.sc (.int .i64 (k : Nat)))]) (fun k => [⟨9, 35, .mut, [teC t]⟩])
                (fun k => k ≤ t.kids.length ∧ (t.kids.drop k).all (Tm.shape 13 m) = t.kids.all (Tm.shape 13 m)) (fun k => t.kids.length - k) 0 ⟨Nat.zero_le _, rfl⟩ (hat [0] (hI := ⟨rfl, rfl⟩)) ?_
              rintro k ⟨hk0, hs⟩ G hG
              refine wg_run ?_
              (simp only [go_sem])
              ((first | refine sp1 ?_ ?_ | refine sp2 ?_ ?_ | refine sp3 ?_ ?_ | refine sp4 ?_ ?_ | refine sp5 ?_ ?_ | refine sp6 ?_ ?_ | refine sp7 ?_ ?_) <;> intro hb) <;> (simp only [go_sem, hb, hw])
              · have hk1 : k < t.kids.length := by have := of_decide_eq_true hb; omega
                have hw1 := wrap_succ hk1 (by omega)
                rw [tedrop_kid hk1, List.all_cons] at hs
                have hc := ih (by omega) (teKid t.kids k) m (by omega) (by have := teKid_lt hk1; omega)
                repeat' (first | (first | (simp only [go_sem, hw1, hw, hb]) | (((first | refine sp1 ?_ ?_ | refine sp2 ?_ ?_ | refine sp3 ?_ ?_ | refine sp4 ?_ ?_ | refine sp5 ?_ ?_ | refine sp6 ?_ ?_ | refine sp7 ?_ ?_) <;> intro hb) <;> (simp only [go_sem, hb, hw1, hw, hb])) | ((first | refine wm_done ?_ | refine wt_done ?_ | refine wg_run ?_ | refine fk ?_ ?_) <;> (simp only [go_sem, hw1, hw, hb]))) | (first | refine cd (hc := hc) (hK := ?_) | refine cm (hc := hc) (hK := ?_) | refine ct (hc := hc) (hK := ?_)); (simp only [go_sem]))
                · exact hG (k + 1) _ _ ⟨by omega, by simpa [hb] using hs⟩ (by omega) (hat [0] (hI := ⟨rfl, rfl⟩))
                · (refine hR _ (rat [] (hK := ⟨?_, rfl⟩)))
                  simpa [hb] using hs
              · have hk1 : ¬ k < t.kids.length := by have := of_decide_eq_false hb; omega
                rw [List.drop_eq_nil_of_le (by omega)] at hs
                (refine hR _ (rat [] (hK := ⟨?_, rfl⟩)))
                simpa using hs
        · have he : t.shape 13 (m + 1) = false := by rw [Tm.shape_succ, hc13]; simp
          rw [he]
          refine fn_in ?_; refine acl_in Try.func99 rfl isfn_99 (Nat.le_of_ble_eq_true rfl) (fun R hR => ?_); rw [Try.results99] at hR; refine wg_run ?_; (simp only [Try.f99, go_sem, hd])
          repeat' (first | (first | (simp only [go_sem, hd, hb0, hc13, int_bne]) | (((first | refine sp1 ?_ ?_ | refine sp2 ?_ ?_ | refine sp3 ?_ ?_ | refine sp4 ?_ ?_ | refine sp5 ?_ ?_ | refine sp6 ?_ ?_ | refine sp7 ?_ ?_) <;> intro hb) <;> (simp only [go_sem, hb, hd, hb0, hc13, int_bne])) | ((first | refine wm_done ?_ | refine wt_done ?_ | refine wg_run ?_ | refine fk ?_ ?_) <;> (simp only [go_sem, hd, hb0, hc13, int_bne]))) | ((first | refine mx 6 [] follows ?_ | refine mx 5 [] follows ?_ | refine mx 4 [] follows ?_ | refine mx 3 [] follows ?_ | refine mx 2 [] follows ?_ | refine mx 1 [] follows ?_ | refine mx 0 [] follows ?_ | fail); (simp only [go_sem, hd, hb0, hc13, int_bne])) | (first | refine cd (hc := hk) (hK := ?_) | refine cm (hc := hk) (hK := ?_) | refine ct (hc := hk) (hK := ?_)); (simp only [go_sem]))
          (refine hR _ (rat [] (hK := ⟨rfl, rfl⟩)))
      · have hb0 : (opN t.kind == (t.kids.length : Int)) = false := by simp [hlen]
        have he : t.shape 13 (m + 1) = false := by rw [Tm.shape_succ, Tm.nodeOk_own, hb0]; simp
        rw [he]
        refine fn_in ?_; refine acl_in Try.func99 rfl isfn_99 (Nat.le_of_ble_eq_true rfl) (fun R hR => ?_); rw [Try.results99] at hR; refine wg_run ?_; (simp only [Try.f99, go_sem, hd])
        repeat' (first | (first | (simp only [go_sem, hd, hb0, int_bne]) | (((first | refine sp1 ?_ ?_ | refine sp2 ?_ ?_ | refine sp3 ?_ ?_ | refine sp4 ?_ ?_ | refine sp5 ?_ ?_ | refine sp6 ?_ ?_ | refine sp7 ?_ ?_) <;> intro hb) <;> (simp only [go_sem, hb, hd, hb0, int_bne])) | ((first | refine wm_done ?_ | refine wt_done ?_ | refine wg_run ?_ | refine fk ?_ ?_) <;> (simp only [go_sem, hd, hb0, int_bne]))) | ((first | refine mx 6 [] follows ?_ | refine mx 5 [] follows ?_ | refine mx 4 [] follows ?_ | refine mx 3 [] follows ?_ | refine mx 2 [] follows ?_ | refine mx 1 [] follows ?_ | refine mx 0 [] follows ?_ | fail); (simp only [go_sem, hd, hb0, int_bne])) | (first | refine cd (hc := hk) (hK := ?_) | refine cm (hc := hk) (hK := ?_) | refine ct (hc := hk) (hK := ?_)); (simp only [go_sem]))
        (refine hR _ (rat [] (hK := ⟨rfl, rfl⟩)))
theorem sTermV (t : Tm) (h : t.size < 4611686018427387904) : AFn Try.prog 71 [.agg (teC t)] (.one (.sc (.bool t.termV))) := by
  have h1 := l2Shape _ (Nat.le_refl _) t 12 (by omega) h
  unfold Tm.termV
  cases hs : t.shape 14 12
  · rw [hs] at h1
    refine fn_in ?_; refine acl_in Try.func71 rfl isfn_71 (Nat.le_of_ble_eq_true rfl) (fun R hR => ?_); rw [Try.results71] at hR; refine wg_run ?_; (simp only [Try.f71, go_sem])
    repeat' (first | (first | (((first | refine sp1 ?_ ?_ | refine sp2 ?_ ?_ | refine sp3 ?_ ?_ | refine sp4 ?_ ?_ | refine sp5 ?_ ?_ | refine sp6 ?_ ?_ | refine sp7 ?_ ?_) <;> intro hb) <;> (simp only [go_sem, hb])) | ((first | refine wm_done ?_ | refine wt_done ?_ | refine wg_run ?_ | refine fk ?_ ?_) <;> (simp only [go_sem]))) | (first | refine cd (hc := h1) (hK := ?_) | refine cm (hc := h1) (hK := ?_) | refine ct (hc := h1) (hK := ?_)); (simp only [go_sem]))
    (refine hR _ (rat [] (hK := ⟨rfl, rfl⟩)))
  · rw [hs] at h1
    have h2 := l2Count _ (Nat.le_refl _) t 14 12 (by omega) h hs
    refine fn_in ?_; refine acl_in Try.func71 rfl isfn_71 (Nat.le_of_ble_eq_true rfl) (fun R hR => ?_); rw [Try.results71] at hR; refine wg_run ?_; (simp only [Try.f71, go_sem])
    repeat' (first | (first | (((first | refine sp1 ?_ ?_ | refine sp2 ?_ ?_ | refine sp3 ?_ ?_ | refine sp4 ?_ ?_ | refine sp5 ?_ ?_ | refine sp6 ?_ ?_ | refine sp7 ?_ ?_) <;> intro hb) <;> (simp only [go_sem, hb])) | ((first | refine wm_done ?_ | refine wt_done ?_ | refine wg_run ?_ | refine fk ?_ ?_) <;> (simp only [go_sem]))) | (first | refine cd (hc := h1) (hK := ?_) | refine cm (hc := h1) (hK := ?_) | refine ct (hc := h1) (hK := ?_)); (simp only [go_sem]) | (first | refine cd (hc := h2) (hK := ?_) | refine cm (hc := h2) (hK := ?_) | refine ct (hc := h2) (hK := ?_)); (simp only [go_sem]))
    (refine hR _ (rat [] (hK := ⟨?_, rfl⟩)))
    rw [Bool.true_and]
    have : decide ((t.nodes : Int) ≤ 30) = decide (t.nodes ≤ 30) := by rw [Bool.eq_iff_iff]; simp; omega
    rw [this]
theorem sCastV (t : Tm) (h : t.size < 4611686018427387904) : AFn Try.prog 52 [.agg (teC t)] (.one (.sc (.bool t.castV))) := by
  have h1 := l4Shape _ (Nat.le_refl _) t 40 (by omega) h
  unfold Tm.castV
  cases hs : t.shape 13 40
  · rw [hs] at h1
    refine fn_in ?_; refine acl_in Try.func52 rfl isfn_52 (Nat.le_of_ble_eq_true rfl) (fun R hR => ?_); rw [Try.results52] at hR; refine wg_run ?_; (simp only [Try.f52, go_sem])
    repeat' (first | (first | (((first | refine sp1 ?_ ?_ | refine sp2 ?_ ?_ | refine sp3 ?_ ?_ | refine sp4 ?_ ?_ | refine sp5 ?_ ?_ | refine sp6 ?_ ?_ | refine sp7 ?_ ?_) <;> intro hb) <;> (simp only [go_sem, hb])) | ((first | refine wm_done ?_ | refine wt_done ?_ | refine wg_run ?_ | refine fk ?_ ?_) <;> (simp only [go_sem]))) | (first | refine cd (hc := h1) (hK := ?_) | refine cm (hc := h1) (hK := ?_) | refine ct (hc := h1) (hK := ?_)); (simp only [go_sem]))
    (refine hR _ (rat [] (hK := ⟨rfl, rfl⟩)))
  · rw [hs] at h1
    have h2 := l2Count _ (Nat.le_refl _) t 13 40 (by omega) h hs
    refine fn_in ?_; refine acl_in Try.func52 rfl isfn_52 (Nat.le_of_ble_eq_true rfl) (fun R hR => ?_); rw [Try.results52] at hR; refine wg_run ?_; (simp only [Try.f52, go_sem])
    repeat' (first | (first | (((first | refine sp1 ?_ ?_ | refine sp2 ?_ ?_ | refine sp3 ?_ ?_ | refine sp4 ?_ ?_ | refine sp5 ?_ ?_ | refine sp6 ?_ ?_ | refine sp7 ?_ ?_) <;> intro hb) <;> (simp only [go_sem, hb])) | ((first | refine wm_done ?_ | refine wt_done ?_ | refine wg_run ?_ | refine fk ?_ ?_) <;> (simp only [go_sem]))) | (first | refine cd (hc := h1) (hK := ?_) | refine cm (hc := h1) (hK := ?_) | refine ct (hc := h1) (hK := ?_)); (simp only [go_sem]) | (first | refine cd (hc := h2) (hK := ?_) | refine cm (hc := h2) (hK := ?_) | refine ct (hc := h2) (hK := ?_)); (simp only [go_sem]))
    (refine hR _ (rat [] (hK := ⟨?_, rfl⟩)))
    rw [Bool.true_and]
    have : decide ((t.nodes : Int) ≤ 200) = decide (t.nodes ≤ 200) := by rw [Bool.eq_iff_iff]; simp; omega
    rw [this]
end Go.Proofs.Ytchcbfbnffhifaa
/- Terms: copies, and terms mapped; on shadows. -/
namespace Go.Proofs.Sh
open Go.Proofs.Grad
@[go_sem] theorem teC_apps (t : Tm) (l : List C) : teC t ++ l = .sc (.int .i64 (t.kind)) :: .sc (.string (t.name)) :: .sc (.int .i64 (t.num)) :: .sc (.int .i64 (t.type).kind) :: .sl (tyR (t.type).kids) :: .sc (.int .i64 (t.frm).kind) :: .sl (tyR (t.frm).kids) :: .sc (.int .i64 (t.label)) :: .sl (teR (t.kids)) :: l := by rw [teC_eq]; rfl
attribute [go_sem] List.getD_cons_zero List.getD_cons_succ List.getD_nil
/-- the cells of a node whose operands' slice is c -/
def teK (t : Tm) (c : C) : List C := [.sc (.int .i64 (t.kind)), .sc (.string (t.name)), .sc (.int .i64 (t.num)), .sc (.int .i64 (t.type).kind), .sl (tyR (t.type).kids), .sc (.int .i64 (t.frm).kind), .sl (tyR (t.frm).kids), .sc (.int .i64 (t.label)), c]
theorem teK_sl (t : Tm) : teK t (.sl (teR t.kids)) = teC t := by rw [teC_eq]; rfl
end Go.Proofs.Sh
namespace Go.Proofs.Ytchcbfbnffhifaa
open Go.RowKit Go.Proofs.Sh Go.Proofs.Grad
set_option maxRecDepth 100000
set_option maxHeartbeats 8000000
theorem l2Copy (n : Nat) (hn : n ≤ 274877906944) : ∀ t : Tm, t.size < n → AFn Try.prog 73 [.agg (teC t)] (.agg (teC t)) := by
  induction n with
  | zero => intro t h; omega
  | succ n ih =>
    intro t h
    have hl := telen_lt t
    have h1 := l1Copy 274877906944 (by omega) t.type (Nat.lt_trans (by cases t; simp only [Tm.size, Tm.type]; omega : t.type.size < t.size) (by omega))
    have h2 := l1Copy 274877906944 (by omega) t.frm (Nat.lt_trans (by cases t; simp only [Tm.size, Tm.frm]; omega : t.frm.size < t.size) (by omega))
    refine fn_in ?_; refine acl_in Try.func73 rfl isfn_73 (Nat.le_of_ble_eq_true rfl) (fun R hR => ?_); rw [Try.results73] at hR; refine wg_run ?_; (simp only [Try.f73, go_sem])
    repeat' (first | (first | (((first | refine sp1 ?_ ?_ | refine sp2 ?_ ?_ | refine sp3 ?_ ?_ | refine sp4 ?_ ?_ | refine sp5 ?_ ?_ | refine sp6 ?_ ?_ | refine sp7 ?_ ?_) <;> intro hb) <;> (simp only [go_sem, hb])) | ((first | refine wm_done ?_ | refine wt_done ?_ | refine wg_run ?_ | refine fk ?_ ?_) <;> (simp only [go_sem]))) | (first | refine cd (hc := h1) (hK := ?_) | refine cm (hc := h1) (hK := ?_) | refine ct (hc := h1) (hK := ?_)); (simp only [go_sem]) | (first | refine cd (hc := h2) (hK := ?_) | refine cm (hc := h2) (hK := ?_) | refine ct (hc := h2) (hK := ?_)); (simp only [go_sem]))
    refine wd_for [1, 2, 3, 4] (fun k => [.one (.ptr 9 0 0 0), .one (.ptr 9 1 0 0), .one (.ptr 9 2 0 0), .one (.sc (.int .i64 (k : Nat)))])
      (fun k => [⟨9, 35, .mut, [teC t]⟩, ⟨9, 35, .mut, [[.sc (.int .i64 0), .sc (.string { data := { toList := [] } }), .sc (.int .i64 0), .sc (.int .i64 0), .sc (.slice none 0 0), .sc (.int .i64 0), .sc (.slice none 0 0), .sc (.int .i64 0), .sc (.slice none 0 0)]]⟩] ++ (match k with | 0 => [⟨9, 35, .mut, [teK t (.sc (.slice none 0 0))]⟩] | k + 1 => [⟨9, 35, .mut, [teK t (.row 9 3 (k + 1))]⟩, ⟨9, 35, .mut, teR (t.kids.take (k + 1))⟩]))
      (fun k => k ≤ t.kids.length) (fun k => t.kids.length - k) 0 (Nat.zero_le _) (hat [0, 1, 2] (hI := ⟨rfl, rfl⟩)) ?_
    rintro (_ | k) hk G hG
    · refine wg_run ?_
      simp only [teK] at hG ⊢
      (simp only [go_sem])
      ((first | refine sp1 ?_ ?_ | refine sp2 ?_ ?_ | refine sp3 ?_ ?_ | refine sp4 ?_ ?_ | refine sp5 ?_ ?_ | refine sp6 ?_ ?_ | refine sp7 ?_ ?_) <;> intro hb) <;> (simp only [go_sem, hb])
      · have hk1 : 0 < t.kids.length := by have := of_decide_eq_true hb; omega
        have hc := ih (by omega) (teKid t.kids 0) (by have := teKid_lt hk1; omega)
        repeat' (first | (first | (simp only [go_sem, hb]) | (((first | refine sp1 ?_ ?_ | refine sp2 ?_ ?_ | refine sp3 ?_ ?_ | refine sp4 ?_ ?_ | refine sp5 ?_ ?_ | refine sp6 ?_ ?_ | refine sp7 ?_ ?_) <;> intro hb) <;> (simp only [go_sem, hb, hb])) | ((first | refine wm_done ?_ | refine wt_done ?_ | refine wg_run ?_ | refine fk ?_ ?_) <;> (simp only [go_sem, hb]))) | ((first | refine mx 6 [] follows ?_ | refine mx 5 [] follows ?_ | refine mx 4 [] follows ?_ | refine mx 3 [] follows ?_ | refine mx 2 [] follows ?_ | refine mx 1 [] follows ?_ | refine mx 0 [] follows ?_ | fail); (simp only [go_sem, hb])) | (first | refine cd (hc := hc) (hK := ?_) | refine cm (hc := hc) (hK := ?_) | refine ct (hc := hc) (hK := ?_)); (simp only [go_sem]))
        refine hG 1 _ _ (by omega) (by omega) (hat [0, 1, 2, 4] (hI := ⟨rfl, ?_⟩))
        simp only [teR_take hk1, List.take_zero, teR, List.nil_append, List.cons_append]
      · have hk1 : t.kids = [] := by have := of_decide_eq_false hb; exact List.eq_nil_of_length_eq_zero (by omega)
        (refine hR _ (rat [] (hK := ⟨?_, rfl⟩)))
        rw [teC_eq, hk1]; rfl
    · refine wg_run ?_
      simp only [teK] at hG ⊢
      have hw1 : k + 1 < t.kids.length → IntKind.i64.wrap (((k + 1 : Nat) : Int) + 1) = ((k + 1 + 1 : Nat) : Int) := fun h => wrap_succ h (by omega)
      (simp only [go_sem])
      ((first | refine sp1 ?_ ?_ | refine sp2 ?_ ?_ | refine sp3 ?_ ?_ | refine sp4 ?_ ?_ | refine sp5 ?_ ?_ | refine sp6 ?_ ?_ | refine sp7 ?_ ?_) <;> intro hb) <;> (simp only [go_sem, hb])
      · have hk1 : k + 1 < t.kids.length := by have := of_decide_eq_true hb; omega
        have hw1 := hw1 hk1
        have hlen : (t.kids.take (k + 1)).length = k + 1 := by rw [List.length_take]; omega
        have hcap : (k + 1 + 1) * 128 ≤ 140737488355328 := by omega
        have hc := ih (by omega) (teKid t.kids (k + 1)) (by have := teKid_lt hk1; omega)
        repeat' (first | (first | (simp only [go_sem, hb, hlen, hcap, hw1]) | (((first | refine sp1 ?_ ?_ | refine sp2 ?_ ?_ | refine sp3 ?_ ?_ | refine sp4 ?_ ?_ | refine sp5 ?_ ?_ | refine sp6 ?_ ?_ | refine sp7 ?_ ?_) <;> intro hb) <;> (simp only [go_sem, hb, hb, hlen, hcap, hw1])) | ((first | refine wm_done ?_ | refine wt_done ?_ | refine wg_run ?_ | refine fk ?_ ?_) <;> (simp only [go_sem, hb, hlen, hcap, hw1]))) | ((first | refine mx 6 [] follows ?_ | refine mx 5 [] follows ?_ | refine mx 4 [] follows ?_ | refine mx 3 [] follows ?_ | refine mx 2 [] follows ?_ | refine mx 1 [] follows ?_ | refine mx 0 [] follows ?_ | fail); (simp only [go_sem, hb, hlen, hcap, hw1])) | (first | refine cd (hc := hc) (hK := ?_) | refine cm (hc := hc) (hK := ?_) | refine ct (hc := hc) (hK := ?_)); (simp only [go_sem]))
        refine hG (k + 2) _ _ (by omega) (by omega) (hat [0, 1, 2, 5] (hI := ⟨rfl, ?_⟩))
        rw [← teR_take hk1]
        rfl
      · have hk1 : t.kids.take (k + 1) = t.kids := by have := of_decide_eq_false hb; exact List.take_of_length_le (by omega)
        have hlen : t.kids.length = k + 1 := by have := of_decide_eq_false hb; omega
        rw [hk1]
        (refine hR _ (ret_at [] (by (simp only [go_sem, hlen]); first | done | rfl) (by (simp only [go_sem, hlen]); first | done | rfl) ⟨?_, rfl⟩))
        rw [teC_eq]
/-- a copy, its uppermost slice its own -/
def OwnTm (t : Tm) (r : AV) (H' : List Blk) : Prop := (t.kids = [] ∧ r = .agg (teK t (.sc (.slice none 0 0))) ∧ H' = []) ∨ (0 < t.kids.length ∧ r = .agg (teK t (.row 9 0 t.kids.length)) ∧ H' = [⟨9, 35, .mut, teR t.kids⟩])
theorem l2CopyO (n : Nat) (hn : n ≤ 274877906944) (t : Tm) (h : t.size < n) : ACl Try.prog 73 [.agg (teC t)] [] (OwnTm t) := by
  have ih := l2Copy n hn
  have hl := telen_lt t
  have h1 := l1Copy 274877906944 (by omega) t.type (Nat.lt_trans (by cases t; simp only [Tm.size, Tm.type]; omega : t.type.size < t.size) (by omega))
  have h2 := l1Copy 274877906944 (by omega) t.frm (Nat.lt_trans (by cases t; simp only [Tm.size, Tm.frm]; omega : t.frm.size < t.size) (by omega))
  refine acl_in Try.func73 rfl isfn_73 (Nat.le_of_ble_eq_true rfl) (fun R hR => ?_); rw [Try.results73] at hR; refine wg_run ?_; (simp only [Try.f73, go_sem])
  repeat' (first | (first | (((first | refine sp1 ?_ ?_ | refine sp2 ?_ ?_ | refine sp3 ?_ ?_ | refine sp4 ?_ ?_ | refine sp5 ?_ ?_ | refine sp6 ?_ ?_ | refine sp7 ?_ ?_) <;> intro hb) <;> (simp only [go_sem, hb])) | ((first | refine wm_done ?_ | refine wt_done ?_ | refine wg_run ?_ | refine fk ?_ ?_) <;> (simp only [go_sem]))) | (first | refine cd (hc := h1) (hK := ?_) | refine cm (hc := h1) (hK := ?_) | refine ct (hc := h1) (hK := ?_)); (simp only [go_sem]) | (first | refine cd (hc := h2) (hK := ?_) | refine cm (hc := h2) (hK := ?_) | refine ct (hc := h2) (hK := ?_)); (simp only [go_sem]))
  refine wd_for [1, 2, 3, 4] (fun k => [.one (.ptr 9 0 0 0), .one (.ptr 9 1 0 0), .one (.ptr 9 2 0 0), .one (.sc (.int .i64 (k : Nat)))])
    (fun k => [⟨9, 35, .mut, [teC t]⟩, ⟨9, 35, .mut, [[.sc (.int .i64 0), .sc (.string { data := { toList := [] } }), .sc (.int .i64 0), .sc (.int .i64 0), .sc (.slice none 0 0), .sc (.int .i64 0), .sc (.slice none 0 0), .sc (.int .i64 0), .sc (.slice none 0 0)]]⟩] ++ (match k with | 0 => [⟨9, 35, .mut, [teK t (.sc (.slice none 0 0))]⟩] | k + 1 => [⟨9, 35, .mut, [teK t (.row 9 3 (k + 1))]⟩, ⟨9, 35, .mut, teR (t.kids.take (k + 1))⟩]))
    (fun k => k ≤ t.kids.length) (fun k => t.kids.length - k) 0 (Nat.zero_le _) (hat [0, 1, 2] (hI := ⟨rfl, rfl⟩)) ?_
  rintro (_ | k) hk G hG
  · refine wg_run ?_
    simp only [teK] at hG ⊢
    (simp only [go_sem])
    ((first | refine sp1 ?_ ?_ | refine sp2 ?_ ?_ | refine sp3 ?_ ?_ | refine sp4 ?_ ?_ | refine sp5 ?_ ?_ | refine sp6 ?_ ?_ | refine sp7 ?_ ?_) <;> intro hb) <;> (simp only [go_sem, hb])
    · have hk1 : 0 < t.kids.length := by have := of_decide_eq_true hb; omega
      have hc := ih (teKid t.kids 0) (by have := teKid_lt hk1; omega)
      repeat' (first | (first | (simp only [go_sem, hb]) | (((first | refine sp1 ?_ ?_ | refine sp2 ?_ ?_ | refine sp3 ?_ ?_ | refine sp4 ?_ ?_ | refine sp5 ?_ ?_ | refine sp6 ?_ ?_ | refine sp7 ?_ ?_) <;> intro hb) <;> (simp only [go_sem, hb, hb])) | ((first | refine wm_done ?_ | refine wt_done ?_ | refine wg_run ?_ | refine fk ?_ ?_) <;> (simp only [go_sem, hb]))) | ((first | refine mx 6 [] follows ?_ | refine mx 5 [] follows ?_ | refine mx 4 [] follows ?_ | refine mx 3 [] follows ?_ | refine mx 2 [] follows ?_ | refine mx 1 [] follows ?_ | refine mx 0 [] follows ?_ | fail); (simp only [go_sem, hb])) | (first | refine cd (hc := hc) (hK := ?_) | refine cm (hc := hc) (hK := ?_) | refine ct (hc := hc) (hK := ?_)); (simp only [go_sem]))
      refine hG 1 _ _ (by omega) (by omega) (hat [0, 1, 2, 4] (hI := ⟨rfl, ?_⟩))
      simp only [teR_take hk1, List.take_zero, teR, List.nil_append, List.cons_append]
    · have hk1 : t.kids = [] := by have := of_decide_eq_false hb; exact List.eq_nil_of_length_eq_zero (by omega)
      exact hR _ (rwn [] (hK := (.inl ⟨hk1, rfl, rfl⟩)))
  · refine wg_run ?_
    simp only [teK] at hG ⊢
    have hw1 : k + 1 < t.kids.length → IntKind.i64.wrap (((k + 1 : Nat) : Int) + 1) = ((k + 1 + 1 : Nat) : Int) := fun h => wrap_succ h (by omega)
    (simp only [go_sem])
    ((first | refine sp1 ?_ ?_ | refine sp2 ?_ ?_ | refine sp3 ?_ ?_ | refine sp4 ?_ ?_ | refine sp5 ?_ ?_ | refine sp6 ?_ ?_ | refine sp7 ?_ ?_) <;> intro hb) <;> (simp only [go_sem, hb])
    · have hk1 : k + 1 < t.kids.length := by have := of_decide_eq_true hb; omega
      have hw1 := hw1 hk1
      have hlen : (t.kids.take (k + 1)).length = k + 1 := by rw [List.length_take]; omega
      have hcap : (k + 1 + 1) * 128 ≤ 140737488355328 := by omega
      have hc := ih (teKid t.kids (k + 1)) (by have := teKid_lt hk1; omega)
      repeat' (first | (first | (simp only [go_sem, hb, hlen, hcap, hw1]) | (((first | refine sp1 ?_ ?_ | refine sp2 ?_ ?_ | refine sp3 ?_ ?_ | refine sp4 ?_ ?_ | refine sp5 ?_ ?_ | refine sp6 ?_ ?_ | refine sp7 ?_ ?_) <;> intro hb) <;> (simp only [go_sem, hb, hb, hlen, hcap, hw1])) | ((first | refine wm_done ?_ | refine wt_done ?_ | refine wg_run ?_ | refine fk ?_ ?_) <;> (simp only [go_sem, hb, hlen, hcap, hw1]))) | ((first | refine mx 6 [] follows ?_ | refine mx 5 [] follows ?_ | refine mx 4 [] follows ?_ | refine mx 3 [] follows ?_ | refine mx 2 [] follows ?_ | refine mx 1 [] follows ?_ | refine mx 0 [] follows ?_ | fail); (simp only [go_sem, hb, hlen, hcap, hw1])) | (first | refine cd (hc := hc) (hK := ?_) | refine cm (hc := hc) (hK := ?_) | refine ct (hc := hc) (hK := ?_)); (simp only [go_sem]))
      refine hG (k + 2) _ _ (by omega) (by omega) (hat [0, 1, 2, 5] (hI := ⟨rfl, ?_⟩))
      rw [← teR_take hk1]
      rfl
    · have hk1 : t.kids.take (k + 1) = t.kids := by have := of_decide_eq_false hb; exact List.take_of_length_le (by omega)
      have hlen : t.kids.length = k + 1 := by have := of_decide_eq_false hb; omega
      rw [hk1]
      exact hR _ (ret_own [3] (by (simp only [go_sem, hlen]); first | done | rfl) (by (simp only [go_sem, hlen]); first | done | rfl) (.inr ⟨by omega, by rw [hlen]; rfl, rfl⟩))
end Go.Proofs.Ytchcbfbnffhifaa
/- Owned trees: rows changed where they lie. -/
namespace Go.Proofs.Sh
def dgs (k : Nat) (out : ByteArray) : ByteArray := if h : k = 0 then out else dgs (k / 10) (bytesOf [((48 + k % 10 : Nat) : Int)] ++ out)
termination_by k
decreasing_by omega
theorem dgs_zero (out : ByteArray) : dgs 0 out = out := by rw [dgs]; simp
theorem dgs_pos {k : Nat} (h : 0 < k) (out : ByteArray) : dgs k out = dgs (k / 10) (bytesOf [((48 + k % 10 : Nat) : Int)] ++ out) := by
  rw [dgs, dif_neg (by omega)]
def mkT (k : Nat) : ByteArray := ⟨#[109]⟩ ++ dgs k ByteArray.empty
end Go.Proofs.Sh
namespace Go.Proofs.Sh
open Go.RowKit Go.Proofs.Grad

/-- a row of an owned slice, and what is so when it has been changed -/
theorem row_upd {h : List Blk} {d s b n i : Nat} {R : List (List C)} {js : List Nat} (h0 : ow h (d + 1) (.row s b n) = some (.sl R, b :: js)) (hn : (b :: js).Nodup) (hi : i < R.length) :
    ∃ ty rows r E pre is post, h[b]? = some ⟨s, ty, .mut, rows⟩ ∧ rows.length = n ∧ R.length = n ∧ rows[i]? = some r ∧ R[i]? = some E ∧ r.length = s ∧ fzL (ow h d) r = some (E, is) ∧ js = pre ++ (is ++ post) ∧ is.Nodup ∧ b ∉ is ∧ (∀ x ∈ pre ++ post, x ∉ is ∧ x ≠ b) ∧
      (∀ h2 r' E', r'.length = s → h2[b]? = some ⟨s, ty, .mut, rows.set i r'⟩ → fzL (ow h2 d) r' = some (E', is) → (∀ x ∈ pre ++ post, h2[x]? = h[x]?) → ow h2 (d + 1) (.row s b n) = some (.sl (R.set i E'), b :: js)) := by
  obtain ⟨d', k, R', js', e, h1, h2, h3, h4, h5, h6, h7, h8⟩ := ow_row h0
  cases e; cases h7; cases h8
  obtain ⟨ks, kty, kst, rows⟩ := k
  simp only at h2 h3 h4 h5 h6
  have hst : kst = .mut := by cases kst <;> simp [St.isMut] at h2 ⊢
  subst hst h4
  have hl := fzRows_len h6
  have hir : i < rows.length := by omega
  obtain ⟨E, pre, is, post, q1, q2, q3, q4, q5⟩ := fzRows_split h6 (List.getElem?_eq_getElem hir)
  obtain ⟨hb, hjs⟩ := List.nodup_cons.1 hn
  have hjs' := hjs
  rw [q3] at hjs' hb
  obtain ⟨a1, a2, a3⟩ := List.nodup_append.1 hjs'
  obtain ⟨a4, a5, a6⟩ := List.nodup_append.1 a2
  refine ⟨kty, rows, rows[i], E, pre, is, post, h1, h3, by omega, List.getElem?_eq_getElem hir, q1, rowsLen_spec h5 _ (List.getElem_mem hir), q2, q3, a4, fun hm => hb (by simp [hm]), fun x hx => ⟨fun hm => ?_, fun e => hb (by subst e; rcases List.mem_append.1 hx with hx | hx <;> simp [hx])⟩, fun h2' r' E' hr hb he hx => ?_⟩
  · rcases List.mem_append.1 hx with hx | hx
    · exact a3 x hx x (by simp [hm]) rfl
    · exact a6 x hm x hx rfl
  · refine ow_row_of hb rfl (by simp [h3]) rfl ?_ ?_
    · simp only [rowsLen, List.all_eq_true, beq_iff_eq]
      intro x hx
      rcases List.mem_or_eq_of_mem_set hx with hx | rfl
      · exact rowsLen_spec h5 x hx
      · exact hr
    · rw [q3]
      exact fzRows_set hir hl (owR_frame q4 (fun x hx' => hx x (by simp [hx']))) he (owR_frame q5 (fun x hx' => hx x (by simp [hx'])))
theorem owR_lt {h : List Blk} {d s b n : Nat} {c' : C} {js : List Nat} (h0 : ow h d (.row s b n) = some (c', b :: js)) (x : Nat) (hx : x ∈ js) : x < h.length := (ow_mut h0 x (by simp [hx])).lt
end Go.Proofs.Sh
namespace Go.Proofs.Grad
mutual
def Ty.mark : Ty → Nat → Ty
  | .mk _ l, k => .mk (k : Int) (Ty.marks l (k + 1))
def Ty.marks : List Ty → Nat → List Ty
  | [], _ => []
  | t :: l, k => t.mark k :: Ty.marks l (k + t.size)
end
theorem Ty.mark_eq (t : Ty) (k : Nat) : t.mark k = .mk (k : Int) (Ty.marks t.kids (k + 1)) := by cases t; rfl
theorem Ty.marks_append : ∀ (l m : List Ty) (k : Nat), Ty.marks (l ++ m) k = Ty.marks l k ++ Ty.marks m (k + Ty.sizes l)
  | [], m, k => by simp [Ty.marks, Ty.sizes]
  | t :: l, m, k => by simp only [List.cons_append, Ty.marks, Ty.sizes, Ty.marks_append l m, Nat.add_assoc]
theorem Ty.marks_length : ∀ (l : List Ty) (k : Nat), (Ty.marks l k).length = l.length
  | [], _ => rfl
  | t :: l, k => by simp [Ty.marks, Ty.marks_length l]
theorem Ty.sizes_append : ∀ (l m : List Ty), Ty.sizes (l ++ m) = Ty.sizes l + Ty.sizes m
  | [], m => by simp [Ty.sizes]
  | t :: l, m => by simp only [List.cons_append, Ty.sizes, Ty.sizes_append l m, Nat.add_assoc]
/-- a list of which the first i are marked -/
def Ty.part (l : List Ty) (k i : Nat) : List Ty := Ty.marks (l.take i) k ++ l.drop i
theorem Ty.part_length (l : List Ty) (k i : Nat) : (Ty.part l k i).length = l.length := by
  simp only [Ty.part, List.length_append, Ty.marks_length, List.length_take, List.length_drop]; omega
end Go.Proofs.Grad
namespace Go.Proofs.Sh
open Go.RowKit Go.Proofs.Grad
theorem Ty.part_get {l : List Ty} {k i : Nat} (h : i < l.length) : (Ty.part l k i)[i]? = some (kid l i) := by
  have hl : (Ty.marks (l.take i) k).length = i := by rw [Ty.marks_length, List.length_take]; omega
  rw [Ty.part, List.getElem?_append_right (by omega), hl, Nat.sub_self, drop_kid h]; rfl
theorem Ty.part_set {l : List Ty} {k i : Nat} (h : i < l.length) : (Ty.part l k i).set i ((kid l i).mark (k + Ty.sizes (l.take i))) = Ty.part l k (i + 1) := by
  have hl : (Ty.marks (l.take i) k).length = i := by rw [Ty.marks_length, List.length_take]; omega
  rw [Ty.part, List.set_append_right _ _ (by omega), hl, Nat.sub_self, drop_kid h, Ty.part, take_kid h, Ty.marks_append]
  simp [Ty.marks]
theorem Ty.sizes_take {l : List Ty} {i : Nat} (h : i < l.length) : Ty.sizes (l.take (i + 1)) = Ty.sizes (l.take i) + (kid l i).size := by
  rw [take_kid h, Ty.sizes_append]; simp [Ty.sizes]
theorem tyR_set (l : List Ty) (i : Nat) (t : Ty) : (tyR l).set i (tyC t) = tyR (l.set i t) := by
  induction l generalizing i with
  | nil => rfl
  | cons x l ih => cases i <;> simp [tyR, ih]
theorem Ty.sizes_take_le (l : List Ty) (i : Nat) : Ty.sizes (l.take i) ≤ Ty.sizes l := by
  have := Ty.sizes_append (l.take i) (l.drop i)
  rw [List.take_append_drop] at this; omega
end Go.Proofs.Sh
namespace Go.Proofs.Grad
open Go.Proofs.Sh
theorem Ty.marks_nodes : ∀ (l : List Ty) (k : Nat), Ty.sizes (Ty.marks l k) = Ty.sizes l
  | [], _ => rfl
  | .mk _ a :: l, k => by simp only [Ty.marks, Ty.mark, Ty.sizes, Ty.size, Ty.marks_nodes a, Ty.marks_nodes l]
mutual
/-- how many marks a term takes -/
def Tm.mw : Tm → Nat
  | .mk _ _ _ t f _ l => 6 + (Ty.sizes t.kids + (Ty.sizes f.kids + Tm.mws l))
def Tm.mws : List Tm → Nat
  | [] => 0
  | t :: l => t.mw + Tm.mws l
end
mutual
def Tm.mark : Tm → Nat → Tm
  | .mk _ _ _ t f _ l, k => .mk (k : Int) (mkT (k + 1)) ((k + 2 : Nat) : Int) (.mk ((k + 3 : Nat) : Int) (Ty.marks t.kids (k + 4))) (.mk ((k + 4 + Ty.sizes t.kids : Nat) : Int) (Ty.marks f.kids (k + 4 + Ty.sizes t.kids + 1)))
      ((k + 4 + Ty.sizes t.kids + 1 + Ty.sizes f.kids : Nat) : Int) (Tm.marks l (k + 4 + Ty.sizes t.kids + 1 + Ty.sizes f.kids + 1))
def Tm.marks : List Tm → Nat → List Tm
  | [], _ => []
  | t :: l, k => t.mark k :: Tm.marks l (k + t.mw)
end
theorem Tm.mark_eq (t : Tm) (k : Nat) : t.mark k = .mk (k : Int) (mkT (k + 1)) ((k + 2 : Nat) : Int) (.mk ((k + 3 : Nat) : Int) (Ty.marks t.type.kids (k + 4))) (.mk ((k + 4 + Ty.sizes t.type.kids : Nat) : Int) (Ty.marks t.frm.kids (k + 4 + Ty.sizes t.type.kids + 1)))
      ((k + 4 + Ty.sizes t.type.kids + 1 + Ty.sizes t.frm.kids : Nat) : Int) (Tm.marks t.kids (k + 4 + Ty.sizes t.type.kids + 1 + Ty.sizes t.frm.kids + 1)) := by cases t; rfl
theorem Tm.mw_eq (t : Tm) : t.mw = 6 + (Ty.sizes t.type.kids + (Ty.sizes t.frm.kids + Tm.mws t.kids)) := by cases t; rfl
theorem Tm.marks_append : ∀ (l m : List Tm) (k : Nat), Tm.marks (l ++ m) k = Tm.marks l k ++ Tm.marks m (k + Tm.mws l)
  | [], m, k => by simp [Tm.marks, Tm.mws]
  | t :: l, m, k => by simp only [List.cons_append, Tm.marks, Tm.mws, Tm.marks_append l m, Nat.add_assoc]
theorem Tm.marks_length : ∀ (l : List Tm) (k : Nat), (Tm.marks l k).length = l.length
  | [], _ => rfl
  | t :: l, k => by simp [Tm.marks, Tm.marks_length l]
theorem Tm.mws_append : ∀ (l m : List Tm), Tm.mws (l ++ m) = Tm.mws l + Tm.mws m
  | [], m => by simp [Tm.mws]
  | t :: l, m => by simp only [List.cons_append, Tm.mws, Tm.mws_append l m, Nat.add_assoc]
def Tm.part (l : List Tm) (k i : Nat) : List Tm := Tm.marks (l.take i) k ++ l.drop i
theorem Tm.part_length (l : List Tm) (k i : Nat) : (Tm.part l k i).length = l.length := by
  simp only [Tm.part, List.length_append, Tm.marks_length, List.length_take, List.length_drop]; omega
theorem Tm.part_get {l : List Tm} {k i : Nat} (h : i < l.length) : (Tm.part l k i)[i]? = some (teKid l i) := by
  have hl : (Tm.marks (l.take i) k).length = i := by rw [Tm.marks_length, List.length_take]; omega
  rw [Tm.part, List.getElem?_append_right (by omega), hl, Nat.sub_self, tedrop_kid h]; rfl
theorem Tm.part_set {l : List Tm} {k i : Nat} (h : i < l.length) : (Tm.part l k i).set i ((teKid l i).mark (k + Tm.mws (l.take i))) = Tm.part l k (i + 1) := by
  have hl : (Tm.marks (l.take i) k).length = i := by rw [Tm.marks_length, List.length_take]; omega
  rw [Tm.part, List.set_append_right _ _ (by omega), hl, Nat.sub_self, tedrop_kid h, Tm.part, tetake_kid h, Tm.marks_append]
  simp [Tm.marks]
theorem Tm.mws_take {l : List Tm} {i : Nat} (h : i < l.length) : Tm.mws (l.take (i + 1)) = Tm.mws (l.take i) + (teKid l i).mw := by
  rw [tetake_kid h, Tm.mws_append]; simp [Tm.mws]
theorem Tm.mws_take_le (l : List Tm) (i : Nat) : Tm.mws (l.take i) ≤ Tm.mws l := by
  have := Tm.mws_append (l.take i) (l.drop i)
  rw [List.take_append_drop] at this; omega
theorem Tm.len_mws : ∀ l : List Tm, l.length ≤ Tm.mws l
  | [] => Nat.le_refl _
  | t :: l => by have := Tm.len_mws l; have := t.mw_eq; simp only [List.length_cons, Tm.mws]; omega
end Go.Proofs.Grad
namespace Go.Proofs.Sh
open Go.RowKit Go.Proofs.Grad
theorem teR_set (l : List Tm) (i : Nat) (t : Tm) : (teR l).set i (teC t) = teR (l.set i t) := by
  induction l generalizing i with
  | nil => rfl
  | cons x l ih => cases i <;> simp [teR, ih]
end Go.Proofs.Sh
/- Owned trees behind known blocks: calls that make, read and mark them. -/
namespace Go.Proofs.Sh
open Go.RowKit Go.Proofs.Grad

/-- a struct's cells, a tree owned in T, which lies behind p blocks -/
structure OwnT (p : Nat) (T : List Blk) (cs enc : List C) (ids : List Nat) : Prop where
  nodup : ids.Nodup
  ge : ∀ b ∈ ids, p ≤ b
  own : ∃ d, ∀ pre : List Blk, pre.length = p → fzL (ow (pre ++ T) d) cs = some (enc, ids)
theorem OwnT.lt {p : Nat} {T : List Blk} {cs enc : List C} {ids : List Nat} (h : OwnT p T cs enc ids) : ∀ b ∈ ids, b < T.length + p := fun b hb => by
  obtain ⟨d, hd⟩ := h.own
  have := (owL_mut (hd (List.replicate p ⟨0, 0, .dead, []⟩) (by simp)) b hb).lt
  simp only [List.length_append, List.length_replicate] at this; omega
theorem OwnT.len {p : Nat} {T : List Blk} {cs enc : List C} {ids : List Nat} (h : OwnT p T cs enc ids) : cs.length = enc.length := by
  obtain ⟨d, hd⟩ := h.own
  exact (fzL_len (hd (List.replicate p ⟨0, 0, .dead, []⟩) (by simp))).symm
theorem OwnT.ext {p : Nat} {T T' : List Blk} {cs enc : List C} {ids : List Nat} (h : OwnT p T cs enc ids) (hf : ∀ i, i < T.length → i + p ∈ ids → T'[i]? = T[i]?) : OwnT p T' cs enc ids := by
  refine ⟨h.nodup, h.ge, ?_⟩
  obtain ⟨d, hd⟩ := h.own
  refine ⟨d, fun pre hp => owL_frame (hd pre hp) (fun b hb => ?_)⟩
  have h1 := h.ge b hb
  have h2 := h.lt b hb
  rw [List.getElem?_append_right (by omega), List.getElem?_append_right (by omega), hp]
  exact hf _ (by omega) (by rw [Nat.sub_add_cancel h1]; exact hb)
theorem OwnT.app {p : Nat} {T : List Blk} {cs enc : List C} {ids : List Nat} (h : OwnT p T cs enc ids) (X : List Blk) : OwnT p (T ++ X) cs enc ids := h.ext (fun i hi _ => List.getElem?_append_left hi)
theorem OwnT.lent {p : Nat} {T pre : List Blk} {cs enc : List C} {ids : List Nat} (h : OwnT p T cs enc ids) (hp : pre.length = p) : Lent (pre ++ T) (.agg cs) (.agg enc) ids := by
  obtain ⟨d, hd⟩ := h.own
  exact .agg (hd pre hp)

/-- a call that yields an owned tree -/
theorem acalls_ownT {P : Program} {f : FuncId} {args args' : List AV} {p : Nat} {pre T : List Blk} {is : List Nat} {enc : List C} {F : List C → AV} (hp : pre.length = p) (hz : Lents (pre ++ T) args args' is) (hc : ACl P f args' [] (OwnK enc F)) (hF : ∀ cs, cs.all C.flat = true → (F cs).flat = true) (hR : ∀ cs g, (F cs).ren g = F (cs.map (C.ren g))) :
    ACalls P f args (pre ++ T) [] (fun r h' => ∃ cs T' ids, r = F cs ∧ h' = pre ++ T' ∧ T.length ≤ T'.length ∧ (∀ i, i < T.length → T'[i]? = T[i]?) ∧ OwnT p T' cs enc ids ∧ ∀ b ∈ ids, T.length + p ≤ b) := by
  refine (acalls_own hz hc hF hR).mono ?_
  rintro r h' ⟨cs, d, ids, rfl, e1, e2, e3, e4, e5⟩
  obtain ⟨T', rfl, f1, f2⟩ := pre_split pre e4 e5
  have hge : ∀ b ∈ ids, T.length + p ≤ b := fun b hb => by have := (e3 b hb).1; simp only [List.length_append] at this; omega
  refine ⟨cs, T', ids, rfl, rfl, f1, f2, ⟨e2, fun b hb => by have := hge b hb; omega, d, fun pre' hp' => ?_⟩, hge⟩
  exact owL_pre (by omega) (fun _ _ => rfl) e1 (fun b hb => by have := hge b hb; omega)
/-- a call that reads owned trees -/
theorem acalls_readT {P : Program} {f : FuncId} {args args' : List AV} {h : List Blk} {is : List Nat} {v : Value} (hz : Lents h args args' is) (hc : AFn P f args' (.one (.sc v))) : ACalls P f args h [] (fun r' h' => r' = .one (.sc v) ∧ h' = h) :=
  acalls_read hz hc rfl (fun _ => rfl)
/-- a call that changes an owned tree -/
theorem acalls_changeT {P : Program} {f : FuncId} {args : List AV} {p : Nat} {pre T : List Blk} {cs enc : List C} {ids : List Nat} {v : Value} (hp : pre.length = p) (hge : ∀ b ∈ ids, p ≤ b) (hn : ids.Nodup)
    (hc : ∃ d, ACl P f args (pre ++ T) (fun r h' => r = .one (.sc v) ∧ fzL (ow h' d) cs = some (enc, ids) ∧ (pre ++ T).length ≤ h'.length ∧ ∀ b, b < (pre ++ T).length → b ∉ ids → h'[b]? = (pre ++ T)[b]?)) :
    ∃ ks, ACalls P f args (pre ++ T) ks (fun r h' => ∃ T', r = .one (.sc v) ∧ h' = pre ++ T' ∧ T.length ≤ T'.length ∧ (∀ i, i < T.length → i + p ∉ ids → T'[i]? = T[i]?) ∧ OwnT p T' cs enc ids) := by
  obtain ⟨d, hc⟩ := hc
  refine ⟨_, (acalls_full hc).mono ?_⟩
  rintro r h' ⟨rfl, e1, e2, e3⟩
  have hh : h' = pre ++ h'.drop pre.length := by
    apply List.ext_getElem?
    intro i
    by_cases hi : i < pre.length
    · rw [e3 i (by simp only [List.length_append]; omega) (fun hm => by have := hge i hm; omega), List.getElem?_append_left hi, List.getElem?_append_left hi]
    · rw [List.getElem?_append_right (by omega), List.getElem?_drop]; congr 1; omega
  refine ⟨h'.drop pre.length, rfl, hh, by simp only [List.length_append, List.length_drop] at *; omega, fun i hi hm => ?_, hn, hge, d, fun pre' hp' => ?_⟩
  · rw [List.getElem?_drop, e3 _ (by simp only [List.length_append]; omega) (by rw [hp, Nat.add_comm]; exact hm), List.getElem?_append_right (by omega)]
    congr 1; omega
  · rw [hh] at e1
    exact owL_pre (by omega) (fun _ _ => rfl) e1 (fun b hb => by have := hge b hb; omega)
theorem wm_at {P : Program} {N : Nat} {R : ASt → Prop} {c : MC} {k : List Item} {f : FuncId} {args : List AV} {o : Oper} {l : List Oper} {U : List Nat} {ok : Bool} {s : ASt} {ks : List Nat} {K' : AV → List Blk → Prop} {h0 : List Blk} (hc : ACalls P f args h0 ks K') (hok : ((ok && ks.all c.ms.contains) || decide (l.length < c.f)) = true)
    (hmut : c.ms.all (fun b => match c.h0[b]? with | some k => k.st.isMut | none => false) = true) (hs : h0 = s.h)
    (hK : ∀ r h', K' r h' → WM P N c R k (mrun P c l (addU o.dst U) (ok && ks.all c.ms.contains) (ASt.put ⟨s.n, s.t, h'⟩ o.dst r))) : WM P N c R k (.call f args o l U ok s) := by
  subst hs
  exact wm_any hc hok hmut hK
/-- a list of terms' marks are few -/
theorem _root_.Go.Proofs.Grad.Ty.sizes_kids (t : Ty) : Ty.sizes t.kids < t.size := by cases t; simp only [Ty.size, Ty.kids]; omega
end Go.Proofs.Sh
namespace Go.Proofs.Grad
mutual
theorem Tm.mw_le : ∀ t : Tm, t.mw ≤ 6 * t.size
  | .mk k n m t f l a => by
    have h1 := Ty.sizes_kids t; have h2 := Ty.sizes_kids f; have h3 := Tm.mws_le a
    simp only [Tm.mw, Tm.size]; omega
theorem Tm.mws_le : ∀ l : List Tm, Tm.mws l ≤ 6 * Tm.sizes l
  | [] => Nat.le_refl _
  | t :: l => by have h1 := Tm.mw_le t; have h2 := Tm.mws_le l; simp only [Tm.mws, Tm.sizes]; omega
end
end Go.Proofs.Grad
/- Owned results, and the same seen as frozen ones. -/
namespace Go.Proofs.Sh
open Go.RowKit Go.Proofs.Grad

@[go_sem] theorem app3a {α : Type} (T : List α) (x y z : α) : (T ++ [x] ++ [y] ++ [z])[T.length]? = some x := by simp
@[go_sem] theorem app3b {α : Type} (T : List α) (x y z : α) : (T ++ [x] ++ [y] ++ [z])[T.length + 1]? = some y := by simp
@[go_sem] theorem app3c {α : Type} (T : List α) (x y z : α) : (T ++ [x] ++ [y] ++ [z])[T.length + 1 + 1]? = some z := by
  rw [List.append_assoc, List.append_assoc, List.getElem?_append_right (by omega), show T.length + 1 + 1 - T.length = 2 from by omega]; rfl
@[go_sem] theorem set3a {α : Type} (T : List α) (x y z u : α) : (T ++ [x] ++ [y] ++ [z]).set T.length u = T ++ [u] ++ [y] ++ [z] := by simp
@[go_sem] theorem set3b {α : Type} (T : List α) (x y z u : α) : (T ++ [x] ++ [y] ++ [z]).set (T.length + 1) u = T ++ [x] ++ [u] ++ [z] := by simp
@[go_sem] theorem set3c {α : Type} (T : List α) (x y z u : α) : (T ++ [x] ++ [y] ++ [z]).set (T.length + 1 + 1) u = T ++ [x] ++ [y] ++ [u] := by
  rw [List.append_assoc, List.append_assoc, List.set_append_right _ _ (by omega), show T.length + 1 + 1 - T.length = 2 from by omega]; simp
/-- a slice of one row, owned -/
theorem ow_kid1 {h : List Blk} {d : Nat} {c : C} {E : List C} {ids : List Nat} (e : ow h d c = some (.sl [E], ids)) : ∃ d' s b ty r js, c = .row s b 1 ∧ h[b]? = some ⟨s, ty, .mut, [r]⟩ ∧ r.length = s ∧ fzL (ow h d') r = some (E, js) ∧ ids = b :: js := by
  cases c with
  | row s b n =>
    obtain ⟨d', k, R, js, rfl, h1, h2, h3, h4, h5, h6, h7, rfl⟩ := ow_row e
    cases h7
    obtain ⟨ks, kty, kst, rows⟩ := k
    simp only at h2 h3 h4 h5 h6
    have hst : kst = .mut := by cases kst <;> simp [St.isMut] at h2 ⊢
    subst hst h4
    have hl := fzRows_len h6
    match rows, hl with
    | [r], _ =>
      simp only [fzRows] at h6
      split at h6
      · rename_i c1 i c2 j g1 g2
        simp only [Option.some.injEq, Prod.mk.injEq, List.cons.injEq] at g2 h6
        obtain ⟨⟨rfl, _⟩, rfl⟩ := h6
        obtain ⟨rfl, rfl⟩ := g2
        simp only [rowsLen, List.all_cons, List.all_nil, Bool.and_true, beq_iff_eq] at h5
        simp only [List.length_cons, List.length_nil] at h3
        subst h3
        exact ⟨d', s, b, kty, r, i, rfl, h1, h5, g1, by simp⟩
      · cases h6
  | _ =>
    rw [ow_leaf (by simp)] at e
    obtain ⟨rfl, ⟨h1, h2⟩ | ⟨v, h1, hv, h2⟩ | ⟨h1, h2⟩⟩ := leaf_cases e <;> cases h2

/-- what stands about a struct's cells in a result -/
structure WF (F : List C → AV) : Prop where
  flat : ∀ cs, cs.all C.flat = true → (F cs).flat = true
  ren : ∀ cs g, (F cs).ren g = F (cs.map (C.ren g))
  pr : ∀ {h : List Blk} {ids : List Nat} {cs cs' : List C}, prL false h ids cs = some (cs', []) → prVs false h ids [F cs] = some ([F cs'], [])
  frz : ∀ {L L' μ : List Nat} {w : World} {cs enc : List C} {v : Value}, (∀ us, C.repl L μ w cs us → C.repl L' [] w enc us) → AV.rep L μ w (F cs) v → AV.rep L' [] w (F enc) v
theorem WF.agg : WF .agg := ⟨fun _ h => h, ren_agg, prVs_agg, fun h hr => by
  simp only [AV.rep] at hr ⊢
  obtain ⟨arr, rfl, h2⟩ := hr
  exact ⟨arr, rfl, h _ h2⟩⟩
def boolF (b : Bool) (cs : List C) : AV := .tup [.agg cs, .one (.sc (.bool b))]
theorem WF.bool (b : Bool) : WF (boolF b) :=
  ⟨fun cs h => by simp only [boolF, AV.flat, AV.flats, h, C.flat, Bool.and_true], fun cs g => by simp only [boolF, AV.ren, AV.renL, renA_map, C.ren],
   fun e => by simp only [boolF, prVs, prV, e, prC, List.append_nil], fun h hr => by
    simp only [boolF, AV.rep, AV.repl] at hr ⊢
    obtain ⟨arr, rfl, u, us', e1, ⟨a2, rfl, h2⟩, h3⟩ := hr
    exact ⟨arr, rfl, .agg a2, us', e1, ⟨a2, rfl, h _ h2⟩, by simpa only [C.rep] using h3⟩⟩
/-- a function that yields an owned tree yields a tree -/
theorem own_frz {P : Program} {f : FuncId} {args : List AV} {enc : List C} {F : List C → AV} (hF : WF F) (h : ACl P f args [] (OwnK enc F)) : AFn P f args (F enc) := by
  obtain ⟨⟨hfn, hcall⟩⟩ := h
  refine ⟨⟨hfn, fun X μ w vs hS hr => (hcall X μ w vs hS hr).mono ?_⟩⟩
  rintro e w' ⟨r, H', μ', v, he, ⟨cs, d, ids, rfl, e1, e2, e3⟩, s1, s2, s3⟩
  have hX : ∀ x ∈ X, x ∈ X ++ alive μ' H' := fun x hx => List.mem_append.2 (.inl hx)
  refine ⟨F enc, [], [], v, he, ⟨rfl, rfl⟩, ⟨rfl, fun _ h => by simp at h, s1.xlt, fun i b g h => by simp at h, fun i j b b' g _ h => by simp at h, fun i b g h => by simp at h⟩, ⟨?_, fun b g hb => ?_, fun g hg => by simp [alive] at hg⟩, ?_⟩
  · exact s2.keep
  · have := hS.len; simp at this; subst this; simp at hb
  · simp only [alive, List.append_nil]
    refine hF.frz (fun us hu => ?_) s3
    exact fzL_rep s1 hX (owL_fz e1) (fun b hb g hg hx => by
      obtain ⟨k, hk, hm⟩ := owL_mut e1 b hb
      exact s1.out b k g hk (known_of_mut hm) hg hx) hu
/-- the end of a function whose result is an owned tree -/
theorem ret_ownT {P : Program} {rs : List ResultVar} {s : ASt} {p : Nat} {pre T : List Blk} {cs enc : List C} {ids : List Nat} {F : List C → AV} (hF : WF F) (O : OwnT p T cs enc ids) (hs : s.h = pre ++ T) (hp : pre.length = p) (h : aresult P s rs = some (F cs)) : ARet P rs 0 (OwnK enc F) s := by
  obtain ⟨d, hd⟩ := O.own
  exact ret_ownK (d := d) h (by rw [hs]; exact hd pre hp) O.nodup (fun _ => hF.pr)
end Go.Proofs.Sh
/- Steps of terms with casts. No program, no world. -/
namespace Go.Proofs.Grad
/-- v in place of x -/
def E.subst : E → UInt8 → E → E
  | .var y, x, v => match y == x with | true => v | false => .var y
  | .lam y t a, x, v => match y == x with | true => .lam y t a | false => .lam y t (a.subst x v)
  | .num n, x, v => .num n
  | .tru, x, v => .tru
  | .fls, x, v => .fls
  | .app a b, x, v => .app (a.subst x v) (b.subst x v)
  | .add a b, x, v => .add (a.subst x v) (b.subst x v)
  | .less a b, x, v => .less (a.subst x v) (b.subst x v)
  | .ite a b c, x, v => .ite (a.subst x v) (b.subst x v) (c.subst x v)
  | .pair a b, x, v => .pair (a.subst x v) (b.subst x v)
  | .fst a, x, v => .fst (a.subst x v)
  | .snd a, x, v => .snd (a.subst x v)
  | .asc t a, x, v => .asc t (a.subst x v)
  | .cast s t l a, x, v => .cast s t l (a.subst x v)
def T.isFn : T → Bool | .fn _ _ => true | _ => false
def T.isPr : T → Bool | .pr _ _ => true | _ => false
/-- a ground type -/
def T.isG : T → Bool | .any => false | .fn .any .any => true | .fn _ _ => false | .pr .any .any => true | .pr _ _ => false | _ => true
def proxyT (s t : T) : Bool := (s.isFn && t.isFn) || (s.isPr && t.isPr)
def injT (s t : T) : Bool := (t.ty.kind == 1) && s.isG
def E.val : E → Bool
  | .num _ | .tru | .fls | .lam _ _ _ => true
  | .pair a b => a.val && b.val
  | .cast s t _ a => (proxyT s t || injT s t) && a.val
  | _ => false
/-- what a step makes -/
inductive SR where
  | took (e : E) | blame (l : Int) | stuck
def SR.code : SR → Int | .took _ => 1 | .blame _ => 2 | .stuck => 3
def SR.lab : SR → Int | .blame l => l | _ => 0
def SR.map (f : E → E) : SR → SR | .took e => .took (f e) | .blame l => .blame l | .stuck => .stuck
def ruleApp : E → E → SR
  | .lam x _ b, v => .took (b.subst x v)
  | .cast (.fn s1 s2) (.fn t1 t2) l f, v => .took (.cast s2 t2 l (.app f (.cast t1 s1 (-l) v)))
  | _, _ => .stuck
def ruleAdd : E → E → SR
  | .num n, .num m => .took (.num ((n + m).tmod 1000))
  | _, _ => .stuck
def ruleLess : E → E → SR
  | .num n, .num m => match decide (n < m) with | true => .took .tru | false => .took .fls
  | _, _ => .stuck
def ruleIte : E → E → E → SR
  | .tru, b, _ => .took b
  | .fls, _, c => .took c
  | _, _, _ => .stuck
def ruleFst : E → SR
  | .pair a _ => .took a
  | .cast (.pr s1 _) (.pr t1 _) l v => .took (.cast s1 t1 l (.fst v))
  | _ => .stuck
def ruleSnd : E → SR
  | .pair _ b => .took b
  | .cast (.pr _ s2) (.pr _ t2) l v => .took (.cast s2 t2 l (.snd v))
  | _ => .stuck
/-- the type g, of which there is an injection below, and the type t: the same, or not -/
def ruleOut (t : T) (l : Int) : E → SR
  | .cast s' t' _ w => match injT s' t' with | true => (match s'.ty.kind == t.ty.kind with | true => .took w | false => .blame l) | false => .stuck
  | _ => .stuck
def ruleCast (s t : T) (l : Int) (v : E) : SR :=
  match s.ty.kind == t.ty.kind with
  | true => .took v
  | false => match t.ty.kind == 1 with
    | true => .took (.cast s.ground .any l (.cast s s.ground l v))
    | false => match t.isG with
      | false => .took (.cast t.ground t l (.cast s t.ground l v))
      | true => ruleOut t l v
/-- a step of a term with casts that is no value -/
def E.step : E → SR
  | .app a b => match a.val with | false => a.step.map (.app · b) | true => (match b.val with | false => b.step.map (.app a ·) | true => ruleApp a b)
  | .add a b => match a.val with | false => a.step.map (.add · b) | true => (match b.val with | false => b.step.map (.add a ·) | true => ruleAdd a b)
  | .less a b => match a.val with | false => a.step.map (.less · b) | true => (match b.val with | false => b.step.map (.less a ·) | true => ruleLess a b)
  | .ite a b c => match a.val with | false => a.step.map (.ite · b c) | true => ruleIte a b c
  | .pair a b => match a.val with | false => a.step.map (.pair · b) | true => (match b.val with | false => b.step.map (.pair a ·) | true => .stuck)
  | .fst a => match a.val with | false => a.step.map .fst | true => ruleFst a
  | .snd a => match a.val with | false => a.step.map .snd | true => ruleSnd a
  | .cast s t l a => match a.val with | false => a.step.map (.cast s t l) | true => ruleCast s t l a
  | _ => .stuck
/-! what steps keep -/
theorem E.subst_wf {x : UInt8} {v : E} (hv : v.wf = true) : ∀ e : E, e.wf = true → (e.subst x v).wf = true := by
  intro e
  induction e with
  | var y => intro h; simp only [E.subst]; split <;> assumption
  | lam y t a ih => intro h; simp only [E.subst]; split <;> simp_all [E.wf]
  | _ => intro h; simp_all [E.subst, E.wf]
theorem E.subst_noA {x : UInt8} {v : E} (hv : v.noA = true) : ∀ e : E, e.noA = true → (e.subst x v).noA = true := by
  intro e
  induction e with
  | var y => intro h; simp only [E.subst]; split <;> assumption
  | lam y t a ih => intro h; simp only [E.subst]; split <;> simp_all [E.noA]
  | _ => intro h; simp_all [E.subst, E.noA]
theorem T.cons_any' (a : T) : a.cons .any = true := by cases a <;> rfl
theorem T.cons_comm (a : T) : ∀ b : T, a.cons b = b.cons a := by
  induction a with
  | fn a1 a2 ih1 ih2 | pr a1 a2 ih1 ih2 => intro b; cases b <;> simp [T.cons, *]
  | _ => intro b; cases b <;> rfl
theorem lab_neg' {l : Int} (h : lab l = true) : lab (-l) = true := by
  simp [lab] at *; omega
theorem lab_bd2 {l : Int} (h : lab l = true) : -99 ≤ l ∧ l ≤ 99 := by simp [lab] at h; omega
theorem T.ground_cons (t : T) : t.cons t.ground = true := by cases t <;> simp [T.ground, T.cons, T.cons_any']
theorem T.ground_depth (t : T) : t.ground.depth ≤ t.depth := by
  have hp : ∀ x : T, 1 ≤ x.depth := fun x => by cases x <;> simp [T.depth]
  cases t with
  | fn a b | pr a b => have := hp a; simp only [T.ground, T.depth]; omega
  | _ => exact Nat.le_refl _
def SR.ok : SR → Bool | .took e => e.wf && e.noA | .blame l => Grad.lab l | .stuck => true
theorem SR.map_ok {r : SR} {f : E → E} (h : r.ok = true) (hf : ∀ e, e.wf = true → e.noA = true → (f e).wf = true ∧ (f e).noA = true) : (r.map f).ok = true := by
  cases r with
  | took e => simp only [SR.ok, Bool.and_eq_true, SR.map] at h ⊢; exact hf e h.1 h.2
  | _ => exact h
theorem ruleApp_ok {a b : E} (ha : a.wf = true) (na : a.noA = true) (hb : b.wf = true) (nb : b.noA = true) : (ruleApp a b).ok = true := by
  cases a with
  | lam x t c =>
    simp only [E.wf, E.noA, Bool.and_eq_true] at ha na
    simp only [ruleApp, SR.ok, Bool.and_eq_true]
    exact ⟨E.subst_wf hb _ ha.2.2, E.subst_noA nb _ na⟩
  | cast s t l f =>
    cases s <;> cases t <;> try rfl
    rename_i s1 s2 t1 t2
    simp only [E.wf, E.noA, T.cons, Bool.and_eq_true, decide_eq_true_eq] at ha na
    obtain ⟨⟨d1, d2⟩, ⟨c1, c2⟩, hl, hf⟩ := ha
    simp only [T.depth] at d1 d2
    simp only [ruleApp, SR.ok, E.wf, E.noA, Bool.and_eq_true, decide_eq_true_eq]
    exact ⟨⟨⟨by omega, by omega⟩, c2, hl, hf, ⟨by omega, by omega⟩, by rw [T.cons_comm]; exact c1, lab_neg' hl, hb⟩, na, nb⟩
  | _ => rfl
theorem ruleAdd_ok {a b : E} (ha : a.wf = true) (hb : b.wf = true) : (ruleAdd a b).ok = true := by
  cases a with
  | num n =>
    cases b with
    | num m =>
      simp only [E.wf, Bool.and_eq_true, decide_eq_true_eq] at ha hb
      simp only [ruleAdd, SR.ok, E.wf, E.noA, Bool.and_eq_true, decide_eq_true_eq]
      have := Int.tmod_lt_of_pos (n + m) (b := 1000) (by omega)
      have := Int.tmod_nonneg 1000 (a := n + m) (by omega)
      exact ⟨⟨by omega, by omega⟩, trivial⟩
    | _ => rfl
  | _ => rfl
theorem ruleLess_ok (a b : E) : (ruleLess a b).ok = true := by
  cases a with
  | num n =>
    cases b with
    | num m => simp only [ruleLess]; split <;> rfl
    | _ => rfl
  | _ => rfl
theorem ruleIte_ok {a b c : E} (hb : b.wf = true) (nb : b.noA = true) (hc : c.wf = true) (nc : c.noA = true) : (ruleIte a b c).ok = true := by
  cases a <;> simp [ruleIte, SR.ok, *]
theorem ruleFst_ok {a : E} (ha : a.wf = true) (na : a.noA = true) : (ruleFst a).ok = true := by
  cases a with
  | pair x y => simp only [E.wf, E.noA, Bool.and_eq_true] at ha na; simp [ruleFst, SR.ok, *]
  | cast s t l f =>
    cases s <;> cases t <;> try rfl
    rename_i s1 s2 t1 t2
    simp only [E.wf, E.noA, T.cons, Bool.and_eq_true, decide_eq_true_eq] at ha na
    obtain ⟨⟨d1, d2⟩, ⟨c1, c2⟩, hl, hf⟩ := ha
    simp only [T.depth] at d1 d2
    simp only [ruleFst, SR.ok, E.wf, E.noA, Bool.and_eq_true, decide_eq_true_eq]
    exact ⟨⟨⟨by omega, by omega⟩, c1, hl, hf⟩, na⟩
  | _ => rfl
theorem ruleSnd_ok {a : E} (ha : a.wf = true) (na : a.noA = true) : (ruleSnd a).ok = true := by
  cases a with
  | pair x y => simp only [E.wf, E.noA, Bool.and_eq_true] at ha na; simp [ruleSnd, SR.ok, *]
  | cast s t l f =>
    cases s <;> cases t <;> try rfl
    rename_i s1 s2 t1 t2
    simp only [E.wf, E.noA, T.cons, Bool.and_eq_true, decide_eq_true_eq] at ha na
    obtain ⟨⟨d1, d2⟩, ⟨c1, c2⟩, hl, hf⟩ := ha
    simp only [T.depth] at d1 d2
    simp only [ruleSnd, SR.ok, E.wf, E.noA, Bool.and_eq_true, decide_eq_true_eq]
    exact ⟨⟨⟨by omega, by omega⟩, c2, hl, hf⟩, na⟩
  | _ => rfl
theorem cons_kind {s t : T} (h1 : (s.ty.kind == t.ty.kind) = false) (h2 : (t.ty.kind == 1) = false) (hc : s.cons t = true) : s = .any := by
  cases s <;> cases t <;> simp_all [T.ty, Ty.kind, T.cons]
theorem kind_one {t : T} (h : (t.ty.kind == 1) = true) : t = .any := by
  cases t <;> simp_all [T.ty, Ty.kind]
theorem ruleCast_ok {s t : T} {l : Int} {a : E} (h1 : (E.cast s t l a).wf = true) (h2 : a.noA = true) : (ruleCast s t l a).ok = true := by
  simp only [E.wf, Bool.and_eq_true, decide_eq_true_eq] at h1
  obtain ⟨⟨ds, dt⟩, hc, hl, ha⟩ := h1
  unfold ruleCast
  cases e1 : (s.ty.kind == t.ty.kind)
  · cases e2 : (t.ty.kind == 1)
    · have hs := cons_kind e1 e2 hc
      subst hs
      cases e3 : t.isG
      · have hg := T.ground_cons t
        have hd := T.ground_depth t
        simp only [SR.ok, E.wf, E.noA, Bool.and_eq_true, decide_eq_true_eq]
        exact ⟨⟨⟨by omega, by omega⟩, by rw [T.cons_comm]; exact hg, hl, ⟨by omega, by omega⟩, by rw [T.cons_comm]; exact T.cons_any' _, hl, ha⟩, h2⟩
      · simp only []
        unfold ruleOut
        cases a with
        | cast s' t' l' w =>
          simp only [E.wf, E.noA, Bool.and_eq_true, decide_eq_true_eq] at ha h2
          simp only []
          cases injT s' t'
          · rfl
          · simp only []
            cases (s'.ty.kind == t.ty.kind)
            · exact hl
            · simp only [SR.ok, Bool.and_eq_true]; exact ⟨ha.2.2.2, h2⟩
        | _ => rfl
    · have hg := T.ground_cons s
      have hd := T.ground_depth s
      simp only [SR.ok, E.wf, E.noA, Bool.and_eq_true, decide_eq_true_eq]
      exact ⟨⟨⟨by omega, by simp [T.depth]⟩, T.cons_any' _, hl, ⟨by omega, by omega⟩, hg, hl, ha⟩, h2⟩
  · simp only [SR.ok, Bool.and_eq_true]; exact ⟨ha, h2⟩
theorem E.step_ok (e : E) : e.wf = true → e.noA = true → e.step.ok = true := by
  induction e with
  | app a b iha ihb =>
    intro h1 h2
    simp only [E.wf, E.noA, Bool.and_eq_true] at h1 h2
    simp only [E.step]
    split
    · exact SR.map_ok (iha h1.1 h2.1) fun e a1 a2 => by simp [E.wf, E.noA, *]
    · split
      · exact SR.map_ok (ihb h1.2 h2.2) fun e a1 a2 => by simp [E.wf, E.noA, *]
      · exact ruleApp_ok h1.1 h2.1 h1.2 h2.2
  | add a b iha ihb =>
    intro h1 h2
    simp only [E.wf, E.noA, Bool.and_eq_true] at h1 h2
    simp only [E.step]
    split
    · exact SR.map_ok (iha h1.1 h2.1) fun e a1 a2 => by simp [E.wf, E.noA, *]
    · split
      · exact SR.map_ok (ihb h1.2 h2.2) fun e a1 a2 => by simp [E.wf, E.noA, *]
      · exact ruleAdd_ok h1.1 h1.2
  | less a b iha ihb =>
    intro h1 h2
    simp only [E.wf, E.noA, Bool.and_eq_true] at h1 h2
    simp only [E.step]
    split
    · exact SR.map_ok (iha h1.1 h2.1) fun e a1 a2 => by simp [E.wf, E.noA, *]
    · split
      · exact SR.map_ok (ihb h1.2 h2.2) fun e a1 a2 => by simp [E.wf, E.noA, *]
      · exact ruleLess_ok _ _
  | pair a b iha ihb =>
    intro h1 h2
    simp only [E.wf, E.noA, Bool.and_eq_true] at h1 h2
    simp only [E.step]
    split
    · exact SR.map_ok (iha h1.1 h2.1) fun e a1 a2 => by simp [E.wf, E.noA, *]
    · split
      · exact SR.map_ok (ihb h1.2 h2.2) fun e a1 a2 => by simp [E.wf, E.noA, *]
      · rfl
  | ite a b c iha ihb ihc =>
    intro h1 h2
    simp only [E.wf, E.noA, Bool.and_eq_true] at h1 h2
    simp only [E.step]
    split
    · exact SR.map_ok (iha h1.1 h2.1) fun e a1 a2 => by simp [E.wf, E.noA, *]
    · exact ruleIte_ok h1.2.1 h2.2.1 h1.2.2 h2.2.2
  | fst a ih =>
    intro h1 h2
    simp only [E.wf, E.noA] at h1 h2
    simp only [E.step]
    split
    · exact SR.map_ok (ih h1 h2) fun e a1 a2 => by simp [E.wf, E.noA, *]
    · exact ruleFst_ok h1 h2
  | snd a ih =>
    intro h1 h2
    simp only [E.wf, E.noA] at h1 h2
    simp only [E.step]
    split
    · exact SR.map_ok (ih h1 h2) fun e a1 a2 => by simp [E.wf, E.noA, *]
    · exact ruleSnd_ok h1 h2
  | cast s t l a ih =>
    intro h1 h2
    have h1' := h1
    simp only [E.wf, E.noA, Bool.and_eq_true, decide_eq_true_eq] at h1 h2
    simp only [E.step]
    split
    · exact SR.map_ok (ih h1.2.2.2 h2) fun e a1 a2 => by simp [E.wf, E.noA, *]
    · exact ruleCast_ok h1' h2
  | _ => intro _ _; rfl
/-! the rules, as the program has them -/
def E.ruleI : E → Option E
  | .app (.lam x _ b) v => some (b.subst x v)
  | .add (.num n) (.num m) => some (.num ((n + m).tmod 1000))
  | .less (.num n) (.num m) => some (match decide (n < m) with | true => .tru | false => .fls)
  | .ite .tru b _ => some b
  | .ite .fls _ c => some c
  | .fst (.pair a _) => some a
  | .snd (.pair _ b) => some b
  | _ => none
def E.castR : E → SR
  | .app (.cast (.fn s1 s2) (.fn t1 t2) l f) v => .took (.cast s2 t2 l (.app f (.cast t1 s1 (-l) v)))
  | .fst (.cast (.pr s1 _) (.pr t1 _) l v) => .took (.cast s1 t1 l (.fst v))
  | .snd (.cast (.pr _ s2) (.pr _ t2) l v) => .took (.cast s2 t2 l (.snd v))
  | .cast s t l v => ruleCast s t l v
  | _ => .stuck
def E.red (e : E) : SR := match e.ruleI with | some x => .took x | none => e.castR
theorem red_app (a b : E) : (E.app a b).red = ruleApp a b := by
  cases a with
  | cast s t l f => cases s <;> cases t <;> rfl
  | _ => rfl
theorem red_add (a b : E) : (E.add a b).red = ruleAdd a b := by
  cases a <;> cases b <;> rfl
theorem red_less (a b : E) : (E.less a b).red = ruleLess a b := by
  cases a <;> cases b <;> first | rfl | (simp only [E.red, E.ruleI, ruleLess]; split <;> rfl)
theorem red_ite (a b c : E) : (E.ite a b c).red = ruleIte a b c := by cases a <;> rfl
theorem red_fst (a : E) : (E.fst a).red = ruleFst a := by
  cases a with
  | cast s t l f => cases s <;> cases t <;> rfl
  | _ => rfl
theorem red_snd (a : E) : (E.snd a).red = ruleSnd a := by
  cases a with
  | cast s t l f => cases s <;> cases t <;> rfl
  | _ => rfl
theorem red_cast (s t : T) (l : Int) (a : E) : (E.cast s t l a).red = ruleCast s t l a := rfl
/-- the zero term -/
def tm0 : Tm := .mk 0 ByteArray.empty 0 noTy noTy 0 []
def SR.tm : SR → Tm | .took e => e.tm | _ => tm0
end Go.Proofs.Grad
/- Owned results: none at all. -/
namespace Go.Proofs.Sh
open Go.RowKit Go.Proofs.Grad
theorem tm0_ow (h : List Blk) (d : Nat) : fzL (ow h d) (teC tm0) = some (teC tm0, []) := by
  simp only [tm0, noTy, teC, tyR, teR, Ty.kind, Ty.kids, fzL, ow_int, ow_str]
  rw [ow_leaf (by simp)]
  rfl
theorem own_none {P : Program} {f : FuncId} {args : List AV} {F : List C → AV} (h : AFn P f args (F (teC tm0))) : ACl P f args [] (OwnK (teC tm0) F) :=
  h.cl.mono fun r H' ⟨e1, e2⟩ => by subst e1 e2; exact ⟨teC tm0, 0, [], rfl, tm0_ow _ _, List.nodup_nil, by simp⟩
theorem tm0_size : tm0.size < 100 := by simp [tm0, noTy, Tm.size, Ty.size, Ty.sizes, Tm.sizes]
end Go.Proofs.Sh
/- Terms wrapped. On shadows. -/
namespace Go.Proofs.Grad
def asAnyT (t : Tm) : Tm := .mk 13 ByteArray.empty 0 (.mk 1 []) noTy 0 [t]
/-- a term, if it is valid -/
noncomputable def Tm.chkT (t : Tm) : Tm := match t.termV with | true => t | false => tm0
noncomputable def Tm.chkC (t : Tm) : Tm := match t.castV with | true => t | false => tm0
theorem Tm.chkT_size (t : Tm) (h : t.size < 100000000) : t.chkT.size < 100000000 := by
  unfold Tm.chkT; split
  · exact h
  · have := Sh.tm0_size; omega
theorem Tm.chkC_size (t : Tm) (h : t.size < 100000000) : t.chkC.size < 100000000 := by
  unfold Tm.chkC; split
  · exact h
  · have := Sh.tm0_size; omega
end Go.Proofs.Grad
namespace Go.Proofs.Ytchcbfbnffhifaa
open Go.RowKit Go.Proofs.Sh Go.Proofs.Grad
set_option maxRecDepth 100000
set_option maxHeartbeats 8000000
theorem iAsAny (t : Tm) : AFn Try.prog 76 [.agg (teC t)] (.agg (teC (asAnyT t))) := by
  have hb := base 1
  simp only [asAnyT, noTy]
  refine fn_in ?_; refine acl_in Try.func76 rfl isfn_76 (Nat.le_of_ble_eq_true rfl) (fun R hR => ?_); rw [Try.results76] at hR; refine wg_run ?_; (simp only [Try.f76, go_sem])
  repeat' (first | (first | (((first | refine sp1 ?_ ?_ | refine sp2 ?_ ?_ | refine sp3 ?_ ?_ | refine sp4 ?_ ?_ | refine sp5 ?_ ?_ | refine sp6 ?_ ?_ | refine sp7 ?_ ?_) <;> intro hb) <;> (simp only [go_sem, hb])) | ((first | refine wm_done ?_ | refine wt_done ?_ | refine wg_run ?_ | refine fk ?_ ?_) <;> (simp only [go_sem]))) | (first | refine cd (hc := hb) (hK := ?_) | refine cm (hc := hb) (hK := ?_) | refine ct (hc := hb) (hK := ?_)); (simp only [go_sem]) | (first | (refine tr (.op 1 false (.fork 0 false (.op 2 true (.op 3 false (.op 4 true .nil))) (.op 2 true (.op 0 false (.op 3 false (.op 4 true .nil)))))) [] follows ?_; (simp only [go_sem])) | fail) | ((first | refine mx 6 [] follows ?_ | refine mx 5 [] follows ?_ | refine mx 4 [] follows ?_ | refine mx 3 [] follows ?_ | refine mx 2 [] follows ?_ | refine mx 1 [] follows ?_ | refine mx 0 [] follows ?_ | fail); (simp only [go_sem])) | fail)
  all_goals (refine hR _ ?_; refine rat [] (hK := ⟨rfl, rfl⟩))
theorem sAs9 (t : Tm) : AFn Try.prog 72 [.agg (teC t)] (.agg (teC (asAnyT t))) := by
  have hb := l1Any
  simp only [asAnyT, noTy]
  refine fn_in ?_; refine acl_in Try.func72 rfl isfn_72 (Nat.le_of_ble_eq_true rfl) (fun R hR => ?_); rw [Try.results72] at hR; refine wg_run ?_; (simp only [Try.f72, go_sem])
  repeat' (first | (first | (((first | refine sp1 ?_ ?_ | refine sp2 ?_ ?_ | refine sp3 ?_ ?_ | refine sp4 ?_ ?_ | refine sp5 ?_ ?_ | refine sp6 ?_ ?_ | refine sp7 ?_ ?_) <;> intro hb) <;> (simp only [go_sem, hb])) | ((first | refine wm_done ?_ | refine wt_done ?_ | refine wg_run ?_ | refine fk ?_ ?_) <;> (simp only [go_sem]))) | (first | refine cd (hc := hb) (hK := ?_) | refine cm (hc := hb) (hK := ?_) | refine ct (hc := hb) (hK := ?_)); (simp only [go_sem]) | (first | (refine tr (.op 1 false (.fork 0 false (.op 2 true (.op 3 false (.op 4 true .nil))) (.op 2 true (.op 0 false (.op 3 false (.op 4 true .nil)))))) [] follows ?_; (simp only [go_sem])) | fail) | ((first | refine mx 6 [] follows ?_ | refine mx 5 [] follows ?_ | refine mx 4 [] follows ?_ | refine mx 3 [] follows ?_ | refine mx 2 [] follows ?_ | refine mx 1 [] follows ?_ | refine mx 0 [] follows ?_ | fail); (simp only [go_sem])) | fail)
  all_goals (refine hR _ ?_; refine rat [] (hK := ⟨rfl, rfl⟩))
theorem iCheckedT (t : Tm) (ht : t.size < 1000000000) : ACl Try.prog 75 [.agg (teC t)] [] (OwnK (teC t.chkT) (boolF t.termV)) := by
  have hv := iTermV t
  unfold Tm.chkT
  cases h : t.termV
  · rw [h] at hv
    refine own_none ?_
    simp only [boolF]
    simp only [tm0, noTy]
    refine fn_in ?_; refine acl_in Try.func75 rfl isfn_75 (Nat.le_of_ble_eq_true rfl) (fun R hR => ?_); rw [Try.results75] at hR; refine wg_run ?_; (simp only [Try.f75, go_sem])
    repeat' (first | (first | (((first | refine sp1 ?_ ?_ | refine sp2 ?_ ?_ | refine sp3 ?_ ?_ | refine sp4 ?_ ?_ | refine sp5 ?_ ?_ | refine sp6 ?_ ?_ | refine sp7 ?_ ?_) <;> intro hb) <;> (simp only [go_sem, hb])) | ((first | refine wm_done ?_ | refine wt_done ?_ | refine wg_run ?_ | refine fk ?_ ?_) <;> (simp only [go_sem]))) | (first | refine cd (hc := hv) (hK := ?_) | refine cm (hc := hv) (hK := ?_) | refine ct (hc := hv) (hK := ?_)); (simp only [go_sem]) | fail)
    (refine hR _ ?_; refine rat [] (hK := ⟨rfl, rfl⟩))
  · rw [h] at hv
    have ho := iOwnO t ht
    refine acl_in Try.func75 rfl isfn_75 (Nat.le_of_ble_eq_true rfl) (fun R hR => ?_); rw [Try.results75] at hR; refine wg_run ?_; (simp only [Try.f75, go_sem])
    repeat' (first | (first | (((first | refine sp1 ?_ ?_ | refine sp2 ?_ ?_ | refine sp3 ?_ ?_ | refine sp4 ?_ ?_ | refine sp5 ?_ ?_ | refine sp6 ?_ ?_ | refine sp7 ?_ ?_) <;> intro hb) <;> (simp only [go_sem, hb])) | ((first | refine wm_done ?_ | refine wt_done ?_ | refine wg_run ?_ | refine fk ?_ ?_) <;> (simp only [go_sem]))) | (first | refine cd (hc := hv) (hK := ?_) | refine cm (hc := hv) (hK := ?_) | refine ct (hc := hv) (hK := ?_)); (simp only [go_sem]) | fail)
    refine wd_any (acalls_ownT (p := 2) (pre := [_, _]) (T := []) rfl (.cons (.same (by (simp only [go_sem]); first | done | rfl)) .nil) ho WF.agg.flat WF.agg.ren) ?_
    rintro _ _ ⟨cs, T, ids, rfl, rfl, -, -, O, -⟩
    have hcs : cs.length = 9 := by rw [O.len, teC_length]
    have htk : cs.take 9 = cs := List.take_of_length_le (by omega)
    (simp only [go_sem, hcs])
    repeat' (first | (first | (simp only [go_sem, hcs, htk]) | (((first | refine sp1 ?_ ?_ | refine sp2 ?_ ?_ | refine sp3 ?_ ?_ | refine sp4 ?_ ?_ | refine sp5 ?_ ?_ | refine sp6 ?_ ?_ | refine sp7 ?_ ?_) <;> intro hb) <;> (simp only [go_sem, hb, hcs, htk])) | ((first | refine wm_done ?_ | refine wt_done ?_ | refine wg_run ?_ | refine fk ?_ ?_) <;> (simp only [go_sem, hcs, htk]))) | fail)
    exact hR _ (ret_ownT (pre := [_, _]) (cs := cs) (WF.bool true) O rfl rfl (by (simp only [go_sem, hcs, htk]); first | done | rfl))
theorem iCheckedC (t : Tm) (ht : t.size < 1000000000) : ACl Try.prog 85 [.agg (teC t)] [] (OwnK (teC t.chkC) (boolF t.castV)) := by
  have hv := iCastV t
  unfold Tm.chkC
  cases h : t.castV
  · rw [h] at hv
    refine own_none ?_
    simp only [boolF]
    simp only [tm0, noTy]
    refine fn_in ?_; refine acl_in Try.func85 rfl isfn_85 (Nat.le_of_ble_eq_true rfl) (fun R hR => ?_); rw [Try.results85] at hR; refine wg_run ?_; (simp only [Try.f85, go_sem])
    repeat' (first | (first | (((first | refine sp1 ?_ ?_ | refine sp2 ?_ ?_ | refine sp3 ?_ ?_ | refine sp4 ?_ ?_ | refine sp5 ?_ ?_ | refine sp6 ?_ ?_ | refine sp7 ?_ ?_) <;> intro hb) <;> (simp only [go_sem, hb])) | ((first | refine wm_done ?_ | refine wt_done ?_ | refine wg_run ?_ | refine fk ?_ ?_) <;> (simp only [go_sem]))) | (first | refine cd (hc := hv) (hK := ?_) | refine cm (hc := hv) (hK := ?_) | refine ct (hc := hv) (hK := ?_)); (simp only [go_sem]) | fail)
    (refine hR _ ?_; refine rat [] (hK := ⟨rfl, rfl⟩))
  · rw [h] at hv
    have ho := iOwnO t ht
    refine acl_in Try.func85 rfl isfn_85 (Nat.le_of_ble_eq_true rfl) (fun R hR => ?_); rw [Try.results85] at hR; refine wg_run ?_; (simp only [Try.f85, go_sem])
    repeat' (first | (first | (((first | refine sp1 ?_ ?_ | refine sp2 ?_ ?_ | refine sp3 ?_ ?_ | refine sp4 ?_ ?_ | refine sp5 ?_ ?_ | refine sp6 ?_ ?_ | refine sp7 ?_ ?_) <;> intro hb) <;> (simp only [go_sem, hb])) | ((first | refine wm_done ?_ | refine wt_done ?_ | refine wg_run ?_ | refine fk ?_ ?_) <;> (simp only [go_sem]))) | (first | refine cd (hc := hv) (hK := ?_) | refine cm (hc := hv) (hK := ?_) | refine ct (hc := hv) (hK := ?_)); (simp only [go_sem]) | fail)
    refine wd_any (acalls_ownT (p := 2) (pre := [_, _]) (T := []) rfl (.cons (.same (by (simp only [go_sem]); first | done | rfl)) .nil) ho WF.agg.flat WF.agg.ren) ?_
    rintro _ _ ⟨cs, T, ids, rfl, rfl, -, -, O, -⟩
    have hcs : cs.length = 9 := by rw [O.len, teC_length]
    have htk : cs.take 9 = cs := List.take_of_length_le (by omega)
    (simp only [go_sem, hcs])
    repeat' (first | (first | (simp only [go_sem, hcs, htk]) | (((first | refine sp1 ?_ ?_ | refine sp2 ?_ ?_ | refine sp3 ?_ ?_ | refine sp4 ?_ ?_ | refine sp5 ?_ ?_ | refine sp6 ?_ ?_ | refine sp7 ?_ ?_) <;> intro hb) <;> (simp only [go_sem, hb, hcs, htk])) | ((first | refine wm_done ?_ | refine wt_done ?_ | refine wg_run ?_ | refine fk ?_ ?_) <;> (simp only [go_sem, hcs, htk]))) | fail)
    exact hR _ (ret_ownT (pre := [_, _]) (cs := cs) (WF.bool true) O rfl rfl (by (simp only [go_sem, hcs, htk]); first | done | rfl))
/-- what WrapTerm yields -/
noncomputable def wrapB (t : Tm) : Bool := t.termV && (asAnyT t).termV
noncomputable def wrapT (t : Tm) : Tm := match t.termV with | true => (asAnyT t).chkT | false => tm0
theorem asAny_size (t : Tm) : (asAnyT t).size = 3 + t.size := by simp only [asAnyT, noTy, Tm.size, Ty.size, Ty.sizes, Tm.sizes]; omega
theorem wrapT_size (t : Tm) (ht : t.size < 90000000) : (wrapT t).size < 100000000 := by
  unfold wrapT; split
  · exact Tm.chkT_size _ (by rw [asAny_size]; omega)
  · have := Sh.tm0_size; omega
theorem iWrap (t : Tm) (ht : t.size < 100000000) : ACl Try.prog 33 [.agg (teC t)] [] (OwnK (teC (wrapT t)) (boolF (wrapB t))) := by
  have hv := iTermV t
  unfold wrapT wrapB
  cases h : t.termV
  · rw [h] at hv
    refine own_none ?_
    simp only [boolF]
    simp only [tm0, noTy]
    refine fn_in ?_; refine acl_in Try.func33 rfl isfn_33 (Nat.le_of_ble_eq_true rfl) (fun R hR => ?_); rw [Try.results33] at hR; refine wg_run ?_; (simp only [Try.f33, go_sem])
    repeat' (first | (first | (((first | refine sp1 ?_ ?_ | refine sp2 ?_ ?_ | refine sp3 ?_ ?_ | refine sp4 ?_ ?_ | refine sp5 ?_ ?_ | refine sp6 ?_ ?_ | refine sp7 ?_ ?_) <;> intro hb) <;> (simp only [go_sem, hb])) | ((first | refine wm_done ?_ | refine wt_done ?_ | refine wg_run ?_ | refine fk ?_ ?_) <;> (simp only [go_sem]))) | (first | refine cd (hc := hv) (hK := ?_) | refine cm (hc := hv) (hK := ?_) | refine ct (hc := hv) (hK := ?_)); (simp only [go_sem]) | fail)
    (refine hR _ ?_; refine rat [] (hK := ⟨rfl, rfl⟩))
  · rw [h] at hv
    have ha := iAsAny t
    have hc := iCheckedT (asAnyT t) (by rw [asAny_size]; omega)
    rw [Bool.true_and]
    refine acl_in Try.func33 rfl isfn_33 (Nat.le_of_ble_eq_true rfl) (fun R hR => ?_); rw [Try.results33] at hR; refine wg_run ?_; (simp only [Try.f33, go_sem])
    repeat' (first | (first | (((first | refine sp1 ?_ ?_ | refine sp2 ?_ ?_ | refine sp3 ?_ ?_ | refine sp4 ?_ ?_ | refine sp5 ?_ ?_ | refine sp6 ?_ ?_ | refine sp7 ?_ ?_) <;> intro hb) <;> (simp only [go_sem, hb])) | ((first | refine wm_done ?_ | refine wt_done ?_ | refine wg_run ?_ | refine fk ?_ ?_) <;> (simp only [go_sem]))) | (first | refine cd (hc := hv) (hK := ?_) | refine cm (hc := hv) (hK := ?_) | refine ct (hc := hv) (hK := ?_)); (simp only [go_sem]) | (first | refine cd (hc := ha) (hK := ?_) | refine cm (hc := ha) (hK := ?_) | refine ct (hc := ha) (hK := ?_)); (simp only [go_sem]) | fail)
    refine wd_any (acalls_ownT (p := 2) (pre := [_, _]) (T := []) rfl (.cons (.same (by (simp only [go_sem]); first | done | rfl)) .nil) hc (WF.bool _).flat (WF.bool _).ren) ?_
    rintro _ _ ⟨cs, T, ids, rfl, rfl, -, -, O, -⟩
    have hcs : cs.length = 9 := by rw [O.len, teC_length]
    have htk : cs.take 9 = cs := List.take_of_length_le (by omega)
    simp only [boolF]
    (simp only [go_sem, hcs])
    repeat' (first | (first | (simp only [go_sem, hcs, htk]) | (((first | refine sp1 ?_ ?_ | refine sp2 ?_ ?_ | refine sp3 ?_ ?_ | refine sp4 ?_ ?_ | refine sp5 ?_ ?_ | refine sp6 ?_ ?_ | refine sp7 ?_ ?_) <;> intro hb) <;> (simp only [go_sem, hb, hcs, htk])) | ((first | refine wm_done ?_ | refine wt_done ?_ | refine wg_run ?_ | refine fk ?_ ?_) <;> (simp only [go_sem, hcs, htk]))) | fail)
    exact hR _ (ret_ownT (pre := [_, _]) (cs := cs) (WF.bool _) O rfl rfl (by (simp only [go_sem, hcs, htk]); first | done | rfl))
theorem sWrap (t : Tm) (ht : t.size < 100000000) : AFn Try.prog 32 [.agg (teC t)] (boolF (wrapB t) (teC (wrapT t))) := by
  have hv := sTermV t (by omega)
  unfold wrapT wrapB
  have h2 := l2Copy 274877906944 (by omega) t (by omega)
  have h3 := sAs9 t
  have hv2 := sTermV (asAnyT t) (by rw [asAny_size]; omega)
  unfold Tm.chkT
  cases h : t.termV <;> cases hb : (asAnyT t).termV
  all_goals
    rw [h] at hv
    rw [hb] at hv2
    simp only [boolF, Bool.and_false, Bool.and_true]
    (try simp only [tm0, noTy])
    refine fn_in ?_; refine acl_in Try.func32 rfl isfn_32 (Nat.le_of_ble_eq_true rfl) (fun R hR => ?_); rw [Try.results32] at hR; refine wg_run ?_; (simp only [Try.f32, go_sem])
    repeat' (first | (first | (((first | refine sp1 ?_ ?_ | refine sp2 ?_ ?_ | refine sp3 ?_ ?_ | refine sp4 ?_ ?_ | refine sp5 ?_ ?_ | refine sp6 ?_ ?_ | refine sp7 ?_ ?_) <;> intro hb) <;> (simp only [go_sem, hb])) | ((first | refine wm_done ?_ | refine wt_done ?_ | refine wg_run ?_ | refine fk ?_ ?_) <;> (simp only [go_sem]))) | (first | refine cd (hc := hv) (hK := ?_) | refine cm (hc := hv) (hK := ?_) | refine ct (hc := hv) (hK := ?_)); (simp only [go_sem]) | (first | refine cd (hc := h2) (hK := ?_) | refine cm (hc := h2) (hK := ?_) | refine ct (hc := h2) (hK := ?_)); (simp only [go_sem]) | (first | refine cd (hc := h3) (hK := ?_) | refine cm (hc := h3) (hK := ?_) | refine ct (hc := h3) (hK := ?_)); (simp only [go_sem]) | (first | refine cd (hc := hv2) (hK := ?_) | refine cm (hc := hv2) (hK := ?_) | refine ct (hc := hv2) (hK := ?_)); (simp only [go_sem]) | fail)
    (refine hR _ ?_; refine rat [] (hK := ⟨rfl, rfl⟩))
end Go.Proofs.Ytchcbfbnffhifaa
/- Trees whose lengths fit into the machine's numbers; their weights. -/
namespace Go.Proofs.Grad
mutual
def Ty.fits : Ty → Prop | .mk _ l => l.length ≤ 9223372036854775807 ∧ Ty.fitss l
def Ty.fitss : List Ty → Prop | [] => True | t :: l => t.fits ∧ Ty.fitss l
end
mutual
def Tm.fits : Tm → Prop | .mk _ n _ t f _ l => n.size ≤ 9223372036854775807 ∧ t.fits ∧ f.fits ∧ l.length ≤ 9223372036854775807 ∧ Tm.fitss l
def Tm.fitss : List Tm → Prop | [] => True | t :: l => t.fits ∧ Tm.fitss l
end
mutual
def Co.fits : Co → Prop | .mk _ _ _ l => l.length ≤ 9223372036854775807 ∧ Co.fitss l
def Co.fitss : List Co → Prop | [] => True | t :: l => t.fits ∧ Co.fitss l
end
theorem Ty.fitss_mem {t : Ty} : ∀ {l : List Ty}, Ty.fitss l → t ∈ l → t.fits
  | x :: l, h, hm => by
    rcases List.mem_cons.1 hm with rfl | hm
    · exact h.1
    · exact Ty.fitss_mem h.2 hm
theorem Tm.fitss_mem {t : Tm} : ∀ {l : List Tm}, Tm.fitss l → t ∈ l → t.fits
  | x :: l, h, hm => by
    rcases List.mem_cons.1 hm with rfl | hm
    · exact h.1
    · exact Tm.fitss_mem h.2 hm
theorem Co.fitss_mem {t : Co} : ∀ {l : List Co}, Co.fitss l → t ∈ l → t.fits
  | x :: l, h, hm => by
    rcases List.mem_cons.1 hm with rfl | hm
    · exact h.1
    · exact Co.fitss_mem h.2 hm
theorem Ty.fitss_of : ∀ {l : List Ty}, (∀ i (h : i < l.length), l[i].fits) → Ty.fitss l
  | [], _ => trivial
  | x :: l, h => ⟨h 0 (by simp), Ty.fitss_of fun i hi => h (i + 1) (by simpa using hi)⟩
theorem Tm.fitss_of : ∀ {l : List Tm}, (∀ i (h : i < l.length), l[i].fits) → Tm.fitss l
  | [], _ => trivial
  | x :: l, h => ⟨h 0 (by simp), Tm.fitss_of fun i hi => h (i + 1) (by simpa using hi)⟩
theorem Co.fitss_of : ∀ {l : List Co}, (∀ i (h : i < l.length), l[i].fits) → Co.fitss l
  | [], _ => trivial
  | x :: l, h => ⟨h 0 (by simp), Co.fitss_of fun i hi => h (i + 1) (by simpa using hi)⟩
mutual
def Ty.wt : Ty → Nat | .mk _ l => Ty.wts l
def Ty.wts : List Ty → Nat | [] => 0 | t :: l => 1 + t.wt + Ty.wts l
end
mutual
def Tm.wt : Tm → Nat | .mk _ n _ t f _ l => n.size + (t.wt + (f.wt + Tm.wts l))
def Tm.wts : List Tm → Nat | [] => 0 | t :: l => 1 + t.wt + Tm.wts l
end
mutual
def Co.wt : Co → Nat | .mk _ _ _ l => Co.wts l
def Co.wts : List Co → Nat | [] => 0 | t :: l => 1 + t.wt + Co.wts l
end
mutual
theorem Ty.size_wt : ∀ t : Ty, t.size = 1 + t.wt
  | .mk _ l => by simp only [Ty.size, Ty.wt, Ty.sizes_wts l]
theorem Ty.sizes_wts : ∀ l : List Ty, Ty.sizes l = Ty.wts l
  | [] => rfl
  | t :: l => by simp only [Ty.sizes, Ty.wts, Ty.size_wt t, Ty.sizes_wts l]
end
mutual
theorem Co.size_wt : ∀ t : Co, t.size = 1 + t.wt
  | .mk _ _ _ l => by simp only [Co.size, Co.wt, Co.sizes_wts l]
theorem Co.sizes_wts : ∀ l : List Co, Co.sizes l = Co.wts l
  | [] => rfl
  | t :: l => by simp only [Co.sizes, Co.wts, Co.size_wt t, Co.sizes_wts l]
end
mutual
theorem Tm.size_wt : ∀ t : Tm, t.size ≤ 3 + 3 * t.wt
  | .mk _ _ _ t f _ l => by
    have := Tm.sizes_wts l
    have := Ty.size_wt t
    have := Ty.size_wt f
    simp only [Tm.size, Tm.wt]; omega
theorem Tm.sizes_wts : ∀ l : List Tm, Tm.sizes l ≤ 3 * Tm.wts l
  | [] => by simp [Tm.sizes, Tm.wts]
  | t :: l => by have := Tm.size_wt t; have := Tm.sizes_wts l; simp only [Tm.sizes, Tm.wts]; omega
end
end Go.Proofs.Grad
