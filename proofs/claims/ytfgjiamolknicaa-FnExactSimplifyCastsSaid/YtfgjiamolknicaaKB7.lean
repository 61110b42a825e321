/- Texts of the proof, one behind another. -/
import Derived.Test.YtfgjiamolknicaaKB4
import Derived.Test.YtfgjiamolknicaaKB5
import Derived.Test.YtfgjiamolknicaaKB6
set_option linter.unusedSimpArgs false
set_option linter.unusedVariables false
/- Terms: the reference's checks, on shadows. -/
namespace Go.Proofs.Ytfgjiamolknicaa
open Go.RowKit Go.Proofs.Sh Go.Proofs.Grad
set_option maxRecDepth 100000
set_option maxHeartbeats 8000000
theorem l2Kids (k : Int) : AFn Try.prog 126 [.one (.sc (.int .i64 k))] (.one (.sc (.int .i64 (opN k)))) := by
  by_cases h : 1 ≤ k ∧ k ≤ 14
  · obtain rfl | rfl | rfl | rfl | rfl | rfl | rfl | rfl | rfl | rfl | rfl | rfl | rfl | rfl := kinds h
    all_goals
      refine fn_in ?_; refine acl_in Try.func126 rfl isfn_126 (Nat.le_of_ble_eq_true rfl) (fun R hR => ?_); rw [Try.results126] at hR; refine wg_run ?_; (simp only [Try.f126, go_sem])
      repeat' (first | (((first | refine sp1 ?_ ?_ | refine sp2 ?_ ?_ | refine sp3 ?_ ?_ | refine sp4 ?_ ?_ | refine sp5 ?_ ?_ | refine sp6 ?_ ?_ | refine sp7 ?_ ?_) <;> intro hb) <;> (simp only [go_sem, hb])) | ((first | refine wm_done ?_ | refine wt_done ?_ | refine wg_run ?_ | refine fk ?_ ?_) <;> (simp only [go_sem])))
      (refine hR _ (rat [] (hK := ⟨rfl, rfl⟩)))
  · have e : ∀ n : Int, 1 ≤ n → n ≤ 14 → (k == n) = false := fun n h1 h2 => by rw [beq_eq_false_iff_ne]; omega
    have e1 := e 1 (by omega) (by omega); have e2 := e 2 (by omega) (by omega); have e3 := e 3 (by omega) (by omega); have e4 := e 4 (by omega) (by omega); have e5 := e 5 (by omega) (by omega); have e6 := e 6 (by omega) (by omega); have e7 := e 7 (by omega) (by omega)
    have e8 := e 8 (by omega) (by omega); have e9 := e 9 (by omega) (by omega); have e10 := e 10 (by omega) (by omega); have e11 := e 11 (by omega) (by omega); have e12 := e 12 (by omega) (by omega); have e13 := e 13 (by omega) (by omega); have e14 := e 14 (by omega) (by omega)
    have : opN k = -1 := by
      rcases opN_cases k with h' | h'
      · exact absurd h' h
      · exact h'
    rw [this]
    refine fn_in ?_; refine acl_in Try.func126 rfl isfn_126 (Nat.le_of_ble_eq_true rfl) (fun R hR => ?_); rw [Try.results126] at hR; refine wg_run ?_; (simp only [Try.f126, go_sem, e1, e2, e3, e4, e5, e6, e7, e8, e9, e10, e11, e12, e13, e14])
    repeat' (first | (((first | refine sp1 ?_ ?_ | refine sp2 ?_ ?_ | refine sp3 ?_ ?_ | refine sp4 ?_ ?_ | refine sp5 ?_ ?_ | refine sp6 ?_ ?_ | refine sp7 ?_ ?_) <;> intro hb) <;> (simp only [go_sem, hb])) | ((first | refine wm_done ?_ | refine wt_done ?_ | refine wg_run ?_ | refine fk ?_ ?_) <;> (simp only [go_sem])))
    (refine hR _ (rat [] (hK := ⟨rfl, rfl⟩)))
theorem sName (s : ByteArray) : AFn Try.prog 73 [.one (.sc (.string s))] (.one (.sc (.bool (nmOk s)))) := by
  rw [nm_iff]
  by_cases h : s.size = 1
  · have h0 : s[0]? = some s[0] := getElem?_pos s 0 (by omega)
    have h1 : ((s.size : Int) == 1) = true := by simp; omega
    have h2 : (s.size == 1) = true := by simp; omega
    rw [h0, h2]
    refine fn_in ?_; refine acl_in Try.func73 rfl isfn_73 (Nat.le_of_ble_eq_true rfl) (fun R hR => ?_); rw [Try.results73] at hR; refine wg_run ?_; (simp only [Try.f73, go_sem, h0, h1])
    repeat' (first | (simp only [go_sem, h0]) | (((first | refine sp1 ?_ ?_ | refine sp2 ?_ ?_ | refine sp3 ?_ ?_ | refine sp4 ?_ ?_ | refine sp5 ?_ ?_ | refine sp6 ?_ ?_ | refine sp7 ?_ ?_) <;> intro hb) <;> (simp only [go_sem, hb, h0])) | ((first | refine wm_done ?_ | refine wt_done ?_ | refine wg_run ?_ | refine fk ?_ ?_) <;> (simp only [go_sem, h0])))
    all_goals (refine hR _ (rat [] (hK := ⟨?_, rfl⟩)))
    all_goals simp_all
    all_goals (try (intros; omega))
  · have h1 : ((s.size : Int) == 1) = false := by simp; omega
    have h2 : (s.size == 1) = false := by simp; omega
    rw [h2]
    refine fn_in ?_; refine acl_in Try.func73 rfl isfn_73 (Nat.le_of_ble_eq_true rfl) (fun R hR => ?_); rw [Try.results73] at hR; refine wg_run ?_; (simp only [Try.f73, go_sem, h1])
    repeat' (first | (((first | refine sp1 ?_ ?_ | refine sp2 ?_ ?_ | refine sp3 ?_ ?_ | refine sp4 ?_ ?_ | refine sp5 ?_ ?_ | refine sp6 ?_ ?_ | refine sp7 ?_ ?_) <;> intro hb) <;> (simp only [go_sem, hb])) | ((first | refine wm_done ?_ | refine wt_done ?_ | refine wg_run ?_ | refine fk ?_ ?_) <;> (simp only [go_sem])))
    all_goals (refine hR _ (rat [] (hK := ⟨?_, rfl⟩)))
    all_goals simp_all
theorem sNone (t : Ty) : AFn Try.prog 201 [.agg (tyC t)] (.one (.sc (.bool t.isNo))) := by
  have e : t.isNo = (t.kind == 0 && ((t.kids.length : Int) == 0)) := by
    simp only [Ty.isNo]; congr 1; rw [Bool.eq_iff_iff]; simp
  rw [e]
  refine fn_in ?_; refine acl_in Try.func201 rfl isfn_201 (Nat.le_of_ble_eq_true rfl) (fun R hR => ?_); rw [Try.results201] at hR; refine wg_run ?_; (simp only [Try.f201, go_sem])
  repeat' (first | (((first | refine sp1 ?_ ?_ | refine sp2 ?_ ?_ | refine sp3 ?_ ?_ | refine sp4 ?_ ?_ | refine sp5 ?_ ?_ | refine sp6 ?_ ?_ | refine sp7 ?_ ?_) <;> intro hb) <;> (simp only [go_sem, hb])) | ((first | refine wm_done ?_ | refine wt_done ?_ | refine wg_run ?_ | refine fk ?_ ?_) <;> (simp only [go_sem])))
  all_goals (refine hR _ (rat [] (hK := ⟨?_, rfl⟩)))
  all_goals simp_all
theorem nmOk_nil {s : ByteArray} (h : s.size = 0) : nmOk s = false := by rw [nm_iff, h]; rfl
theorem l2Own (t : Tm) (h1 : 1 ≤ t.kind) (h2 : t.kind ≤ 13) : AFn Try.prog 170 [.agg (teC t)] (.one (.sc (.bool t.ownOk))) := by
  have hn := sName t.name
  have ht := sValid t.type
  have ht0 := sNone t.type
  have hf0 := sNone t.frm
  unfold Tm.ownOk
  have hz : t.name.size = 0 → nmOk t.name = false := nmOk_nil
  obtain h | h | h | h | h | h | h | h | h | h | h | h | h | h := kinds (k := t.kind) ⟨h1, by omega⟩
  all_goals (try (exfalso; omega))
  all_goals rw [h] at ⊢
  all_goals simp only [Int.reduceEq, or_true, true_or, or_false, or_self, if_true, if_false, reduceIte]
  all_goals
    refine fn_in ?_; refine acl_in Try.func170 rfl isfn_170 (Nat.le_of_ble_eq_true rfl) (fun R hR => ?_); rw [Try.results170] at hR; refine wg_run ?_; (simp only [Try.f170, go_sem, h])
    repeat' (first | (first | (simp only [go_sem, h, bytes_nil, int_bne]) | (((first | refine sp1 ?_ ?_ | refine sp2 ?_ ?_ | refine sp3 ?_ ?_ | refine sp4 ?_ ?_ | refine sp5 ?_ ?_ | refine sp6 ?_ ?_ | refine sp7 ?_ ?_) <;> intro hb) <;> (simp only [go_sem, hb, h, bytes_nil, int_bne])) | ((first | refine wm_done ?_ | refine wt_done ?_ | refine wg_run ?_ | refine fk ?_ ?_) <;> (simp only [go_sem, h, bytes_nil, int_bne]))) | ((first | refine mx 6 [] follows ?_ | refine mx 5 [] follows ?_ | refine mx 4 [] follows ?_ | refine mx 3 [] follows ?_ | refine mx 2 [] follows ?_ | refine mx 1 [] follows ?_ | refine mx 0 [] follows ?_ | fail); (simp only [go_sem, h, bytes_nil, int_bne])) | (first | refine cd (hc := hn) (hK := ?_) | refine cm (hc := hn) (hK := ?_) | refine ct (hc := hn) (hK := ?_)); (simp only [go_sem]) | (first | refine cd (hc := ht) (hK := ?_) | refine cm (hc := ht) (hK := ?_) | refine ct (hc := ht) (hK := ?_)); (simp only [go_sem]) | (first | refine cd (hc := ht0) (hK := ?_) | refine cm (hc := ht0) (hK := ?_) | refine ct (hc := ht0) (hK := ?_)); (simp only [go_sem]) | (first | refine cd (hc := hf0) (hK := ?_) | refine cm (hc := hf0) (hK := ?_) | refine ct (hc := hf0) (hK := ?_)); (simp only [go_sem]))
    all_goals (refine hR _ (rat [] (hK := ⟨?_, rfl⟩)))
    all_goals clear hR hn ht ht0 hf0
    all_goals simp_all
    all_goals (try grind)
end Go.Proofs.Ytfgjiamolknicaa
/- The plain laws of subtyping. -/
namespace Go.Proofs.Grad

theorem T.cons_symm (a : T) : ∀ b : T, a.cons b = b.cons a := by
  induction a with
  | fn a b iha ihb => intro c; cases c <;> simp [T.cons, iha, ihb]
  | pr a b iha ihb => intro c; cases c <;> simp [T.cons, iha, ihb]
  | _ => intro c; cases c <;> simp [T.cons]

theorem T.sub_trans' : ∀ (n : Nat) (a b c : T), a.size + b.size + c.size < n → a.sub b = true → b.sub c = true → a.sub c = true := by
  intro n
  induction n with
  | zero => intro a b c h; omega
  | succ n ih =>
    intro a b c hn h1 h2
    cases a <;> cases b <;> cases c <;> simp [T.sub] at h1 h2 ⊢ <;> simp only [T.size] at hn <;>
      first
      | exact h1
      | exact ⟨ih _ _ _ (by (try simp only [T.size]); omega) h1.1 h2.1, ih _ _ _ (by (try simp only [T.size]); omega) h1.2 h2.2⟩
      | exact ⟨ih _ _ _ (by (try simp only [T.size]); omega) h2.1 h1.1, ih _ _ _ (by (try simp only [T.size]); omega) h1.2 h2.2⟩
theorem T.sub_trans {a b c : T} (h1 : a.sub b = true) (h2 : b.sub c = true) : a.sub c = true := T.sub_trans' _ a b c (Nat.lt_succ_self _) h1 h2

theorem T.sub_cons' : ∀ (n : Nat) (a b : T), a.size + b.size < n → a.sub b = true → a.cons b = true := by
  intro n
  induction n with
  | zero => intro a b h; omega
  | succ n ih =>
    intro a b hn h1
    cases a <;> cases b <;> simp [T.sub, T.cons] at h1 ⊢ <;> simp only [T.size] at hn <;>
      first
      | exact ⟨ih _ _ (by omega) h1.1, ih _ _ (by omega) h1.2⟩
      | exact ⟨by rw [T.cons_symm]; exact ih _ _ (by omega) h1.1, ih _ _ (by omega) h1.2⟩
theorem T.sub_cons {a b : T} (h1 : a.sub b = true) : a.cons b = true := T.sub_cons' _ a b (Nat.lt_succ_self _) h1

theorem T.prec_eq' : ∀ (n : Nat) (a b : T), a.size + b.size < n → a.prec b = (a.pos b && b.neg a) := by
  intro n
  induction n with
  | zero => intro a b h; omega
  | succ n ih =>
    intro a b hn
    cases a <;> cases b <;> simp [T.prec, T.pos, T.neg] <;> simp only [T.size] at hn <;>
      (rw [ih _ _ (by omega), ih _ _ (by omega)]; grind)
theorem T.prec_eq (a b : T) : a.prec b = (a.pos b && b.neg a) := T.prec_eq' _ a b (Nat.lt_succ_self _)

theorem T.sub_pn' : ∀ (n : Nat) (a b : T), a.size + b.size < n → a.sub b = (a.pos b && a.neg b) := by
  intro n
  induction n with
  | zero => intro a b h; omega
  | succ n ih =>
    intro a b hn
    cases a <;> cases b <;> simp [T.sub, T.pos, T.neg] <;> simp only [T.size] at hn <;>
      (rw [ih _ _ (by (try simp only [T.size]); omega), ih _ _ (by (try simp only [T.size]); omega)]; (try simp [T.pos_any, T.any_neg]); try grind)
theorem T.sub_pn (a b : T) : a.sub b = (a.pos b && a.neg b) := T.sub_pn' _ a b (Nat.lt_succ_self _)

theorem T.sub_refl (a : T) : a.sub a = true := by
  induction a <;> simp [T.sub, *]

theorem T.sub_static : ∀ (n : Nat) (a b : T), a.size + b.size < n → a.count = 0 → b.count = 0 → a.sub b = decide (a = b) := by
  intro n
  induction n with
  | zero => intro a b h; omega
  | succ n ih =>
    intro a b hn h1 h2
    cases a <;> cases b <;> simp [T.sub, T.count] at h1 h2 ⊢ <;> simp only [T.size] at hn <;>
      (rw [ih _ _ (by omega) (by omega) (by omega), ih _ _ (by omega) (by omega) (by omega)]; try grind)
end Go.Proofs.Grad
/- Types: consistency in the reference, on shadows. -/
namespace Go.Proofs.Ytfgjiamolknicaa
open Go.RowKit Go.Proofs.Sh Go.Proofs.Grad
set_option maxRecDepth 100000
set_option maxHeartbeats 4000000
theorem l1Cons (n : Nat) : ∀ a b : T, a.size < n → AFn Try.prog 105 [.agg (tyC a.ty), .agg (tyC b.ty)] (.one (.sc (.bool (a.cons b)))) := by
  induction n with
  | zero => intro a b h; omega
  | succ n ih =>
    intro a b h
    rcases a with _ | _ | _ | ⟨a1, a2⟩ | ⟨a1, a2⟩ <;> rcases b with _ | _ | _ | ⟨b1, b2⟩ | ⟨b1, b2⟩
    all_goals simp only [T.size] at h
    all_goals
      refine fn_in ?_; refine acl_in Try.func105 rfl isfn_105 (Nat.le_of_ble_eq_true rfl) (fun R hR => ?_); rw [Try.results105] at hR; refine wg_run ?_; (simp only [Try.f105, go_sem])
      repeat' (first | (first | (((first | refine sp1 ?_ ?_ | refine sp2 ?_ ?_ | refine sp3 ?_ ?_ | refine sp4 ?_ ?_ | refine sp5 ?_ ?_ | refine sp6 ?_ ?_ | refine sp7 ?_ ?_) <;> intro hb) <;> (simp only [go_sem, hb])) | ((first | refine wm_done ?_ | refine wt_done ?_ | refine wg_run ?_ | refine fk ?_ ?_) <;> (simp only [go_sem]))) | (first | (refine wl_next (wg_run ?_); (simp only [go_sem])) | refine wd_rounds 6 ?_) | (first | refine cd (hc := ih _ _ (by omega)) (hK := ?_) | refine cm (hc := ih _ _ (by omega)) (hK := ?_) | refine ct (hc := ih _ _ (by omega)) (hK := ?_)); (simp only [go_sem]) | ((first | refine mx 6 [] follows ?_ | refine mx 5 [] follows ?_ | refine mx 4 [] follows ?_ | refine mx 3 [] follows ?_ | refine mx 2 [] follows ?_ | refine mx 1 [] follows ?_ | refine mx 0 [] follows ?_ | fail); (simp only [go_sem])))
      all_goals (refine hR _ (rat [] (hK := ⟨?_, rfl⟩)))
      all_goals simp_all [T.cons]
end Go.Proofs.Ytfgjiamolknicaa
/- Terms: validity in the reference, on shadows. -/
namespace Go.Proofs.Ytfgjiamolknicaa
open Go.RowKit Go.Proofs.Sh Go.Proofs.Grad
set_option maxRecDepth 100000
set_option maxHeartbeats 8000000
theorem lab_labN (n : Int) : lab n = (decide (labN n ≥ 1) && decide (labN n ≤ 99)) := by
  rw [Bool.eq_iff_iff]; unfold labN lab; simp; split <;> (try split) <;> omega
theorem l4Own (t : Tm) (h : t.kind = 14) : AFn Try.prog 175 [.agg (teC t)] (.one (.sc (.bool t.ownOk))) := by
  have ht := sValid t.type
  have hf := sValid t.frm
  have hl := l1Abs t.label
  unfold Tm.ownOk
  rw [h, lab_labN]
  simp only [Int.reduceEq, or_true, true_or, or_false, or_self, if_true, if_false, reduceIte]
  cases e1 : t.type.valid
  · rw [e1] at ht
    rw [onT_off _ (by simp [e1])]
    refine fn_in ?_; refine acl_in Try.func175 rfl isfn_175 (Nat.le_of_ble_eq_true rfl) (fun R hR => ?_); rw [Try.results175] at hR; refine wg_run ?_; (simp only [Try.f175, go_sem])
    repeat' (first | (first | (simp only [go_sem, bytes_nil]) | (((first | refine sp1 ?_ ?_ | refine sp2 ?_ ?_ | refine sp3 ?_ ?_ | refine sp4 ?_ ?_ | refine sp5 ?_ ?_ | refine sp6 ?_ ?_ | refine sp7 ?_ ?_) <;> intro hb) <;> (simp only [go_sem, hb, bytes_nil])) | ((first | refine wm_done ?_ | refine wt_done ?_ | refine wg_run ?_ | refine fk ?_ ?_) <;> (simp only [go_sem, bytes_nil]))) | (first | refine cd (hc := ht) (hK := ?_) | refine cm (hc := ht) (hK := ?_) | refine ct (hc := ht) (hK := ?_)); (simp only [go_sem]) | (first | refine cd (hc := hl) (hK := ?_) | refine cm (hc := hl) (hK := ?_) | refine ct (hc := hl) (hK := ?_)); (simp only [go_sem]))
    all_goals (refine hR _ (rat [] (hK := ⟨?_, rfl⟩)))
    all_goals clear hR ht hf hl
    all_goals simp_all
  · rw [e1] at ht
    cases e2 : t.frm.valid
    · rw [e2] at hf
      rw [onT_off _ (by simp [e2])]
      refine fn_in ?_; refine acl_in Try.func175 rfl isfn_175 (Nat.le_of_ble_eq_true rfl) (fun R hR => ?_); rw [Try.results175] at hR; refine wg_run ?_; (simp only [Try.f175, go_sem])
      repeat' (first | (first | (simp only [go_sem, bytes_nil]) | (((first | refine sp1 ?_ ?_ | refine sp2 ?_ ?_ | refine sp3 ?_ ?_ | refine sp4 ?_ ?_ | refine sp5 ?_ ?_ | refine sp6 ?_ ?_ | refine sp7 ?_ ?_) <;> intro hb) <;> (simp only [go_sem, hb, bytes_nil])) | ((first | refine wm_done ?_ | refine wt_done ?_ | refine wg_run ?_ | refine fk ?_ ?_) <;> (simp only [go_sem, bytes_nil]))) | (first | refine cd (hc := ht) (hK := ?_) | refine cm (hc := ht) (hK := ?_) | refine ct (hc := ht) (hK := ?_)); (simp only [go_sem]) | (first | refine cd (hc := hf) (hK := ?_) | refine cm (hc := hf) (hK := ?_) | refine ct (hc := hf) (hK := ?_)); (simp only [go_sem]) | (first | refine cd (hc := hl) (hK := ?_) | refine cm (hc := hl) (hK := ?_) | refine ct (hc := hl) (hK := ?_)); (simp only [go_sem]))
      all_goals (refine hR _ (rat [] (hK := ⟨?_, rfl⟩)))
      all_goals clear hR ht hf hl
      all_goals simp_all
    · rw [e2] at hf
      obtain ⟨x, hx, hdx⟩ := (Ty.valid_iff _).1 e1
      obtain ⟨y, hy, hdy⟩ := (Ty.valid_iff _).1 e2
      have hc := l1Cons _ y x (Nat.lt_succ_self _)
      rw [← hx, ← hy, onT_ty _ hdy hdx]
      rw [hx, hy] at hc
      refine fn_in ?_; refine acl_in Try.func175 rfl isfn_175 (Nat.le_of_ble_eq_true rfl) (fun R hR => ?_); rw [Try.results175] at hR; refine wg_run ?_; (simp only [Try.f175, go_sem])
      repeat' (first | (first | (simp only [go_sem, bytes_nil]) | (((first | refine sp1 ?_ ?_ | refine sp2 ?_ ?_ | refine sp3 ?_ ?_ | refine sp4 ?_ ?_ | refine sp5 ?_ ?_ | refine sp6 ?_ ?_ | refine sp7 ?_ ?_) <;> intro hb) <;> (simp only [go_sem, hb, bytes_nil])) | ((first | refine wm_done ?_ | refine wt_done ?_ | refine wg_run ?_ | refine fk ?_ ?_) <;> (simp only [go_sem, bytes_nil]))) | (first | refine cd (hc := ht) (hK := ?_) | refine cm (hc := ht) (hK := ?_) | refine ct (hc := ht) (hK := ?_)); (simp only [go_sem]) | (first | refine cd (hc := hf) (hK := ?_) | refine cm (hc := hf) (hK := ?_) | refine ct (hc := hf) (hK := ?_)); (simp only [go_sem]) | (first | refine cd (hc := hl) (hK := ?_) | refine cm (hc := hl) (hK := ?_) | refine ct (hc := hl) (hK := ?_)); (simp only [go_sem]) | (first | refine cd (hc := hc) (hK := ?_) | refine cm (hc := hc) (hK := ?_) | refine ct (hc := hc) (hK := ?_)); (simp only [go_sem]))
      all_goals (refine hR _ (rat [] (hK := ⟨?_, rfl⟩)))
      all_goals clear hR ht hf hl hc
      all_goals simp_all
      all_goals (try grind)
theorem l2Count (n : Nat) (hn : n ≤ 4611686018427387904) : ∀ (t : Tm) (no : Int) (m : Nat), m ≤ 100 → t.size < n → t.shape no m = true → AFn Try.prog 134 [.agg (teC t), .one (.sc (.int .i64 (m : Nat)))] (.one (.sc (.int .i64 (t.nodes : Nat)))) := by
  induction n with
  | zero => intro t no m _ h; omega
  | succ n ih =>
    intro t no m hm h hs
    obtain ⟨m, rfl⟩ : ∃ k, m = k + 1 := by cases m with | zero => simp [Tm.shape] at hs | succ k => exact ⟨k, rfl⟩
    have hl := telen_lt t
    have hnl := t.nodes_le
    have hne := t.nodes_eq
    have hd : decide (((m + 1 : Nat) : Int) > 0) = true := by simp only [decide_eq_true_eq]; omega
    have hw : IntKind.i64.wrap (((m + 1 : Nat) : Int) - 1) = (m : Int) := by rw [IntWalk.i64_in _ (by omega)]; omega
    simp only [Tm.shape_succ, Bool.and_eq_true, List.all_eq_true] at hs
    refine fn_in ?_; refine acl_in Try.func134 rfl isfn_134 (Nat.le_of_ble_eq_true rfl) (fun R hR => ?_); rw [Try.results134] at hR; refine wg_run ?_; (simp only [Try.f134, go_sem, hd])
    refine wd_for [1, 2, 5, 6] (fun k => [.one (.sc (.int .i64 ((m + 1 : Nat) : Int))), .one (.ptr 9 0 0 0), .one (.sc (.int .i64 ((1 + Tm.nodess (t.kids.take k) : Nat) : Int))), .one (.sc (.int .i64 (k : Nat)))]) (fun k => [⟨9, 28, .mut, [teC t]⟩])
      (fun k => k ≤ t.kids.length) (fun k => t.kids.length - k) 0 (Nat.zero_le _) (hat [0] (hI := ⟨rfl, rfl⟩)) ?_
    rintro k hk G hG
    refine wg_run ?_
    (simp only [go_sem, hd])
    ((first | refine sp1 ?_ ?_ | refine sp2 ?_ ?_ | refine sp3 ?_ ?_ | refine sp4 ?_ ?_ | refine sp5 ?_ ?_ | refine sp6 ?_ ?_ | refine sp7 ?_ ?_) <;> intro hb) <;> (simp only [go_sem, hb, hd])
    · have hk1 : k < t.kids.length := by have := of_decide_eq_true hb; omega
      have hw1 := wrap_succ hk1 (by omega)
      have hle := Tm.nodess_le_take t.kids (k + 1)
      rw [Tm.nodess_take hk1] at hle
      have hw2 : IntKind.i64.wrap (((1 + Tm.nodess (t.kids.take k) : Nat) : Int) + ((teKid t.kids k).nodes : Int)) = ((1 + Tm.nodess (t.kids.take (k + 1)) : Nat) : Int) := by
        rw [Tm.nodess_take hk1, IntWalk.i64_in _ (by omega)]; omega
      have hc := ih (by omega) (teKid t.kids k) no m (by omega) (by have := teKid_lt hk1; omega) (hs.2.2 _ (by rw [teKid_eq hk1]; exact List.getElem_mem hk1))
      repeat' (first | (first | (simp only [go_sem, hd, hw, hw1, hw2, hb]) | (((first | refine sp1 ?_ ?_ | refine sp2 ?_ ?_ | refine sp3 ?_ ?_ | refine sp4 ?_ ?_ | refine sp5 ?_ ?_ | refine sp6 ?_ ?_ | refine sp7 ?_ ?_) <;> intro hb) <;> (simp only [go_sem, hb, hd, hw, hw1, hw2, hb])) | ((first | refine wm_done ?_ | refine wt_done ?_ | refine wg_run ?_ | refine fk ?_ ?_) <;> (simp only [go_sem, hd, hw, hw1, hw2, hb]))) | (first | refine cd (hc := hc) (hK := ?_) | refine cm (hc := hc) (hK := ?_) | refine ct (hc := hc) (hK := ?_)); (simp only [go_sem]) | ((first | refine mx 6 [] follows ?_ | refine mx 5 [] follows ?_ | refine mx 4 [] follows ?_ | refine mx 3 [] follows ?_ | refine mx 2 [] follows ?_ | refine mx 1 [] follows ?_ | refine mx 0 [] follows ?_ | fail); (simp only [go_sem, hb])))
      exact hG (k + 1) _ _ (by omega) (by omega) (hat [0] (hI := ⟨rfl, rfl⟩))
    · have hk1 : t.kids.take k = t.kids := List.take_of_length_le (by have := of_decide_eq_false hb; omega)
      rw [hk1, ← hne]
      (refine hR _ (rat [] (hK := ⟨rfl, rfl⟩)))

theorem l2Shape (n : Nat) (hn : n ≤ 4611686018427387904) : ∀ (t : Tm) (m : Nat), m ≤ 100 → t.size < n → AFn Try.prog 133 [.agg (teC t), .one (.sc (.int .i64 (m : Nat)))] (.one (.sc (.bool (t.shape 14 m)))) := by
  induction n with
  | zero => intro t m _ h; omega
  | succ n ih =>
    intro t m hm h
    cases m with
    | zero =>
      have hd : decide (((0 : Nat) : Int) < 1) = true := rfl
      refine fn_in ?_; refine acl_in Try.func133 rfl isfn_133 (Nat.le_of_ble_eq_true rfl) (fun R hR => ?_); rw [Try.results133] at hR; refine wg_run ?_; (simp only [Try.f133, go_sem, hd])
      repeat' (first | (first | (simp only [go_sem, hd]) | (((first | refine sp1 ?_ ?_ | refine sp2 ?_ ?_ | refine sp3 ?_ ?_ | refine sp4 ?_ ?_ | refine sp5 ?_ ?_ | refine sp6 ?_ ?_ | refine sp7 ?_ ?_) <;> intro hb) <;> (simp only [go_sem, hb, hd])) | ((first | refine wm_done ?_ | refine wt_done ?_ | refine wg_run ?_ | refine fk ?_ ?_) <;> (simp only [go_sem, hd]))) | ((first | refine mx 6 [] follows ?_ | refine mx 5 [] follows ?_ | refine mx 4 [] follows ?_ | refine mx 3 [] follows ?_ | refine mx 2 [] follows ?_ | refine mx 1 [] follows ?_ | refine mx 0 [] follows ?_ | fail); (simp only [go_sem, hd])))
      (refine hR _ (rat [] (hK := ⟨rfl, rfl⟩)))
    | succ m =>
      have hl := telen_lt t
      have hd : decide (((m + 1 : Nat) : Int) < 1) = false := by simp only [decide_eq_false_iff_not]; omega
      have hw : IntKind.i64.wrap (((m + 1 : Nat) : Int) - 1) = (m : Int) := by rw [IntWalk.i64_in _ (by omega)]; omega
      have hk := l2Kids t.kind
      by_cases hlen : opN t.kind = (t.kids.length : Int)
      · have hb0 : (opN t.kind == (t.kids.length : Int)) = true := by simp [hlen]
        have hkd : 1 ≤ t.kind ∧ t.kind ≤ 14 := by
          rcases opN_cases t.kind with h | h
          · exact h
          · rw [h] at hlen; omega
        cases hc14 : (t.kind == 14)
        · have hk13 : t.kind ≤ 13 := by rw [beq_eq_false_iff_ne] at hc14; omega
          have ho := l2Own t hkd.1 hk13
          cases hok : t.ownOk
          · rw [hok] at ho
            have he : t.shape 14 (m + 1) = false := by rw [Tm.shape_succ, Tm.nodeOk_own, hok]; simp
            rw [he]
            refine fn_in ?_; refine acl_in Try.func133 rfl isfn_133 (Nat.le_of_ble_eq_true rfl) (fun R hR => ?_); rw [Try.results133] at hR; refine wg_run ?_; (simp only [Try.f133, go_sem, hd])
            repeat' (first | (first | (simp only [go_sem, hd, hb0, hc14, int_bne]) | (((first | refine sp1 ?_ ?_ | refine sp2 ?_ ?_ | refine sp3 ?_ ?_ | refine sp4 ?_ ?_ | refine sp5 ?_ ?_ | refine sp6 ?_ ?_ | refine sp7 ?_ ?_) <;> intro hb) <;> (simp only [go_sem, hb, hd, hb0, hc14, int_bne])) | ((first | refine wm_done ?_ | refine wt_done ?_ | refine wg_run ?_ | refine fk ?_ ?_) <;> (simp only [go_sem, hd, hb0, hc14, int_bne]))) | ((first | refine mx 6 [] follows ?_ | refine mx 5 [] follows ?_ | refine mx 4 [] follows ?_ | refine mx 3 [] follows ?_ | refine mx 2 [] follows ?_ | refine mx 1 [] follows ?_ | refine mx 0 [] follows ?_ | fail); (simp only [go_sem, hd, hb0, hc14, int_bne])) | (first | refine cd (hc := hk) (hK := ?_) | refine cm (hc := hk) (hK := ?_) | refine ct (hc := hk) (hK := ?_)); (simp only [go_sem]) | (first | refine cd (hc := ho) (hK := ?_) | refine cm (hc := ho) (hK := ?_) | refine ct (hc := ho) (hK := ?_)); (simp only [go_sem]))
            (refine hR _ (rat [] (hK := ⟨rfl, rfl⟩)))
          · rw [hok] at ho
            have he : t.shape 14 (m + 1) = t.kids.all (Tm.shape 14 m) := by rw [Tm.shape_succ, Tm.nodeOk_own, hok, hb0, hc14]; simp
            rw [he]
            refine fn_in ?_; refine acl_in Try.func133 rfl isfn_133 (Nat.le_of_ble_eq_true rfl) (fun R hR => ?_); rw [Try.results133] at hR; refine wg_run ?_; (simp only [Try.f133, go_sem, hd])
            repeat' (first | (first | (simp only [go_sem, hd, hb0, hc14, int_bne]) | (((first | refine sp1 ?_ ?_ | refine sp2 ?_ ?_ | refine sp3 ?_ ?_ | refine sp4 ?_ ?_ | refine sp5 ?_ ?_ | refine sp6 ?_ ?_ | refine sp7 ?_ ?_) <;> intro hb) <;> (simp only [go_sem, hb, hd, hb0, hc14, int_bne])) | ((first | refine wm_done ?_ | refine wt_done ?_ | refine wg_run ?_ | refine fk ?_ ?_) <;> (simp only [go_sem, hd, hb0, hc14, int_bne]))) | ((first | refine mx 6 [] follows ?_ | refine mx 5 [] follows ?_ | refine mx 4 [] follows ?_ | refine mx 3 [] follows ?_ | refine mx 2 [] follows ?_ | refine mx 1 [] follows ?_ | refine mx 0 [] follows ?_ | fail); (simp only [go_sem, hd, hb0, hc14, int_bne])) | (first | refine cd (hc := hk) (hK := ?_) | refine cm (hc := hk) (hK := ?_) | refine ct (hc := hk) (hK := ?_)); (simp only [go_sem]) | (first | refine cd (hc := ho) (hK := ?_) | refine cm (hc := ho) (hK := ?_) | refine ct (hc := ho) (hK := ?_)); (simp only [go_sem]))
            refine wd_for [1, 2, 5] (fun k => [.one (.sc (.int .i64 ((m + 1 : Nat) : Int))), .one (.ptr 9 0 0 0), .one (.sc (.int .i64 (k : Nat)))]) (fun k => [⟨9, 28, .mut, [teC t]⟩])
              (fun k => k ≤ t.kids.length ∧ (t.kids.drop k).all (Tm.shape 14 m) = t.kids.all (Tm.shape 14 m)) (fun k => t.kids.length - k) 0 ⟨Nat.zero_le _, rfl⟩ (hat [0] (hI := ⟨rfl, rfl⟩)) ?_
            rintro k ⟨hk0, hs⟩ G hG
            refine wg_run ?_
            (simp only [go_sem])
            ((first | refine sp1 ?_ ?_ | refine sp2 ?_ ?_ | refine sp3 ?_ ?_ | refine sp4 ?_ ?_ | refine sp5 ?_ ?_ | refine sp6 ?_ ?_ | refine sp7 ?_ ?_) <;> intro hb) <;> (simp only [go_sem, hb, hw])
            · have hk1 : k < t.kids.length := by have := of_decide_eq_true hb; omega
              have hw1 := wrap_succ hk1 (by omega)
              rw [tedrop_kid hk1, List.all_cons] at hs
              have hc := ih (by omega) (teKid t.kids k) m (by omega) (by have := teKid_lt hk1; omega)
              repeat' (first | (first | (simp only [go_sem, hw1, hw, hb]) | (((first | refine sp1 ?_ ?_ | refine sp2 ?_ ?_ | refine sp3 ?_ ?_ | refine sp4 ?_ ?_ | refine sp5 ?_ ?_ | refine sp6 ?_ ?_ | refine sp7 ?_ ?_) <;> intro hb) <;> (simp only [go_sem, hb, hw1, hw, hb])) | ((first | refine wm_done ?_ | refine wt_done ?_ | refine wg_run ?_ | refine fk ?_ ?_) <;> (simp only [go_sem, hw1, hw, hb]))) | (first | refine cd (hc := hc) (hK := ?_) | refine cm (hc := hc) (hK := ?_) | refine ct (hc := hc) (hK := ?_)); (simp only [go_sem]))
              · exact hG (k + 1) _ _ ⟨by omega, by simpa [hb] using hs⟩ (by omega) (hat [0] (hI := ⟨rfl, rfl⟩))
              · (refine hR _ (rat [] (hK := ⟨?_, rfl⟩)))
                simpa [hb] using hs
            · have hk1 : ¬ k < t.kids.length := by have := of_decide_eq_false hb; omega
              rw [List.drop_eq_nil_of_le (by omega)] at hs
              (refine hR _ (rat [] (hK := ⟨?_, rfl⟩)))
              simpa using hs
        · have he : t.shape 14 (m + 1) = false := by rw [Tm.shape_succ, hc14]; simp
          rw [he]
          refine fn_in ?_; refine acl_in Try.func133 rfl isfn_133 (Nat.le_of_ble_eq_true rfl) (fun R hR => ?_); rw [Try.results133] at hR; refine wg_run ?_; (simp only [Try.f133, go_sem, hd])
          repeat' (first | (first | (simp only [go_sem, hd, hb0, hc14, int_bne]) | (((first | refine sp1 ?_ ?_ | refine sp2 ?_ ?_ | refine sp3 ?_ ?_ | refine sp4 ?_ ?_ | refine sp5 ?_ ?_ | refine sp6 ?_ ?_ | refine sp7 ?_ ?_) <;> intro hb) <;> (simp only [go_sem, hb, hd, hb0, hc14, int_bne])) | ((first | refine wm_done ?_ | refine wt_done ?_ | refine wg_run ?_ | refine fk ?_ ?_) <;> (simp only [go_sem, hd, hb0, hc14, int_bne]))) | ((first | refine mx 6 [] follows ?_ | refine mx 5 [] follows ?_ | refine mx 4 [] follows ?_ | refine mx 3 [] follows ?_ | refine mx 2 [] follows ?_ | refine mx 1 [] follows ?_ | refine mx 0 [] follows ?_ | fail); (simp only [go_sem, hd, hb0, hc14, int_bne])) | (first | refine cd (hc := hk) (hK := ?_) | refine cm (hc := hk) (hK := ?_) | refine ct (hc := hk) (hK := ?_)); (simp only [go_sem]))
          (refine hR _ (rat [] (hK := ⟨rfl, rfl⟩)))
      · have hb0 : (opN t.kind == (t.kids.length : Int)) = false := by simp [hlen]
        have he : t.shape 14 (m + 1) = false := by rw [Tm.shape_succ, Tm.nodeOk_own, hb0]; simp
        rw [he]
        refine fn_in ?_; refine acl_in Try.func133 rfl isfn_133 (Nat.le_of_ble_eq_true rfl) (fun R hR => ?_); rw [Try.results133] at hR; refine wg_run ?_; (simp only [Try.f133, go_sem, hd])
        repeat' (first | (first | (simp only [go_sem, hd, hb0, int_bne]) | (((first | refine sp1 ?_ ?_ | refine sp2 ?_ ?_ | refine sp3 ?_ ?_ | refine sp4 ?_ ?_ | refine sp5 ?_ ?_ | refine sp6 ?_ ?_ | refine sp7 ?_ ?_) <;> intro hb) <;> (simp only [go_sem, hb, hd, hb0, int_bne])) | ((first | refine wm_done ?_ | refine wt_done ?_ | refine wg_run ?_ | refine fk ?_ ?_) <;> (simp only [go_sem, hd, hb0, int_bne]))) | ((first | refine mx 6 [] follows ?_ | refine mx 5 [] follows ?_ | refine mx 4 [] follows ?_ | refine mx 3 [] follows ?_ | refine mx 2 [] follows ?_ | refine mx 1 [] follows ?_ | refine mx 0 [] follows ?_ | fail); (simp only [go_sem, hd, hb0, int_bne])) | (first | refine cd (hc := hk) (hK := ?_) | refine cm (hc := hk) (hK := ?_) | refine ct (hc := hk) (hK := ?_)); (simp only [go_sem]))
        (refine hR _ (rat [] (hK := ⟨rfl, rfl⟩)))
theorem l4Shape (n : Nat) (hn : n ≤ 4611686018427387904) : ∀ (t : Tm) (m : Nat), m ≤ 100 → t.size < n → AFn Try.prog 141 [.agg (teC t), .one (.sc (.int .i64 (m : Nat)))] (.one (.sc (.bool (t.shape 13 m)))) := by
  induction n with
  | zero => intro t m _ h; omega
  | succ n ih =>
    intro t m hm h
    cases m with
    | zero =>
      have hd : decide (((0 : Nat) : Int) < 1) = true := rfl
      refine fn_in ?_; refine acl_in Try.func141 rfl isfn_141 (Nat.le_of_ble_eq_true rfl) (fun R hR => ?_); rw [Try.results141] at hR; refine wg_run ?_; (simp only [Try.f141, go_sem, hd])
      repeat' (first | (first | (simp only [go_sem, hd]) | (((first | refine sp1 ?_ ?_ | refine sp2 ?_ ?_ | refine sp3 ?_ ?_ | refine sp4 ?_ ?_ | refine sp5 ?_ ?_ | refine sp6 ?_ ?_ | refine sp7 ?_ ?_) <;> intro hb) <;> (simp only [go_sem, hb, hd])) | ((first | refine wm_done ?_ | refine wt_done ?_ | refine wg_run ?_ | refine fk ?_ ?_) <;> (simp only [go_sem, hd]))) | ((first | refine mx 6 [] follows ?_ | refine mx 5 [] follows ?_ | refine mx 4 [] follows ?_ | refine mx 3 [] follows ?_ | refine mx 2 [] follows ?_ | refine mx 1 [] follows ?_ | refine mx 0 [] follows ?_ | fail); (simp only [go_sem, hd])))
      (refine hR _ (rat [] (hK := ⟨rfl, rfl⟩)))
    | succ m =>
      have hl := telen_lt t
      have hd : decide (((m + 1 : Nat) : Int) < 1) = false := by simp only [decide_eq_false_iff_not]; omega
      have hw : IntKind.i64.wrap (((m + 1 : Nat) : Int) - 1) = (m : Int) := by rw [IntWalk.i64_in _ (by omega)]; omega
      have hk := l2Kids t.kind
      by_cases hlen : opN t.kind = (t.kids.length : Int)
      · have hb0 : (opN t.kind == (t.kids.length : Int)) = true := by simp [hlen]
        have hkd : 1 ≤ t.kind ∧ t.kind ≤ 14 := by
          rcases opN_cases t.kind with h | h
          · exact h
          · rw [h] at hlen; omega
        cases hc13 : (t.kind == 13)
        · obtain ⟨f, hf14, ho⟩ : ∃ b : Bool, (t.kind == 14) = b ∧ (match b with | true => AFn Try.prog 175 [.agg (teC t)] (.one (.sc (.bool t.ownOk))) | false => AFn Try.prog 170 [.agg (teC t)] (.one (.sc (.bool t.ownOk)))) := by
            cases hc14 : (t.kind == 14)
            · exact ⟨false, rfl, l2Own t hkd.1 (by rw [beq_eq_false_iff_ne] at hc14; omega)⟩
            · exact ⟨true, rfl, l4Own t (by simpa using hc14)⟩
          cases hok : t.ownOk
          · rw [hok] at ho
            have he : t.shape 13 (m + 1) = false := by rw [Tm.shape_succ, Tm.nodeOk_own, hok]; simp
            rw [he]
            cases f
            all_goals
              simp only [] at ho
              refine fn_in ?_; refine acl_in Try.func141 rfl isfn_141 (Nat.le_of_ble_eq_true rfl) (fun R hR => ?_); rw [Try.results141] at hR; refine wg_run ?_; (simp only [Try.f141, go_sem, hd])
              repeat' (first | (first | (simp only [go_sem, hd, hb0, hc13, hf14, int_bne]) | (((first | refine sp1 ?_ ?_ | refine sp2 ?_ ?_ | refine sp3 ?_ ?_ | refine sp4 ?_ ?_ | refine sp5 ?_ ?_ | refine sp6 ?_ ?_ | refine sp7 ?_ ?_) <;> intro hb) <;> (simp only [go_sem, hb, hd, hb0, hc13, hf14, int_bne])) | ((first | refine wm_done ?_ | refine wt_done ?_ | refine wg_run ?_ | refine fk ?_ ?_) <;> (simp only [go_sem, hd, hb0, hc13, hf14, int_bne]))) | ((first | refine mx 6 [] follows ?_ | refine mx 5 [] follows ?_ | refine mx 4 [] follows ?_ | refine mx 3 [] follows ?_ | refine mx 2 [] follows ?_ | refine mx 1 [] follows ?_ | refine mx 0 [] follows ?_ | fail); (simp only [go_sem, hd, hb0, hc13, hf14, int_bne])) | (first | refine cd (hc := hk) (hK := ?_) | refine cm (hc := hk) (hK := ?_) | refine ct (hc := hk) (hK := ?_)); (simp only [go_sem]) | (first | refine cd (hc := ho) (hK := ?_) | refine cm (hc := ho) (hK := ?_) | refine ct (hc := ho) (hK := ?_)); (simp only [go_sem]))
              (refine hR _ (rat [] (hK := ⟨rfl, rfl⟩)))
          · rw [hok] at ho
            have he : t.shape 13 (m + 1) = t.kids.all (Tm.shape 13 m) := by rw [Tm.shape_succ, Tm.nodeOk_own, hok, hb0, hc13]; simp
            rw [he]
            cases f
            all_goals
              simp only [] at ho
              refine fn_in ?_; refine acl_in Try.func141 rfl isfn_141 (Nat.le_of_ble_eq_true rfl) (fun R hR => ?_); rw [Try.results141] at hR; refine wg_run ?_; (simp only [Try.f141, go_sem, hd])
              repeat' (first | (first | (simp only [go_sem, hd, hb0, hc13, hf14, int_bne]) | (((first | refine sp1 ?_ ?_ | refine sp2 ?_ ?_ | refine sp3 ?_ ?_ | refine sp4 ?_ ?_ | refine sp5 ?_ ?_ | refine sp6 ?_ ?_ | refine sp7 ?_ ?_) <;> intro hb) <;> (simp only [go_sem, hb, hd, hb0, hc13, hf14, int_bne])) | ((first | refine wm_done ?_ | refine wt_done ?_ | refine wg_run ?_ | refine fk ?_ ?_) <;> (simp only [go_sem, hd, hb0, hc13, hf14, int_bne]))) | ((first | refine mx 6 [] follows ?_ | refine mx 5 [] follows ?_ | refine mx 4 [] follows ?_ | refine mx 3 [] follows ?_ | refine mx 2 [] follows ?_ | refine mx 1 [] follows ?_ | refine mx 0 [] follows ?_ | fail); (simp only [go_sem, hd, hb0, hc13, hf14, int_bne])) | (first | refine cd (hc := hk) (hK := ?_) | refine cm (hc := hk) (hK := ?_) | refine ct (hc := hk) (hK := ?_)); (simp only [go_sem]) | (first | refine cd (hc := ho) (hK := ?_) | refine cm (hc := ho) (hK := ?_) | refine ct (hc := ho) (hK := ?_)); (simp only [go_sem]))
              refine wd_for [1, 2, 5] (fun k => [.one (.sc (.int .i64 ((m + 1 : Nat) : Int))), .one (.ptr 9 0 0 0), .one (.sc (.int .i64 (k : Nat)))]) (fun k => [⟨9, 28, .mut, [teC t]⟩])
                (fun k => k ≤ t.kids.length ∧ (t.kids.drop k).all (Tm.shape 13 m) = t.kids.all (Tm.shape 13 m)) (fun k => t.kids.length - k) 0 ⟨Nat.zero_le _, rfl⟩ (hat [0] (hI := ⟨rfl, rfl⟩)) ?_
              rintro k ⟨hk0, hs⟩ G hG
              refine wg_run ?_
              (simp only [go_sem])
              ((first | refine sp1 ?_ ?_ | refine sp2 ?_ ?_ | refine sp3 ?_ ?_ | refine sp4 ?_ ?_ | refine sp5 ?_ ?_ | refine sp6 ?_ ?_ | refine sp7 ?_ ?_) <;> intro hb) <;> (simp only [go_sem, hb, hw])
              · have hk1 : k < t.kids.length := by have := of_decide_eq_true hb; omega
                have hw1 := wrap_succ hk1 (by omega)
                rw [tedrop_kid hk1, List.all_cons] at hs
                have hc := ih (by omega) (teKid t.kids k) m (by omega) (by have := teKid_lt hk1; omega)
                repeat' (first | (first | (simp only [go_sem, hw1, hw, hb]) | (((first | refine sp1 ?_ ?_ | refine sp2 ?_ ?_ | refine sp3 ?_ ?_ | refine sp4 ?_ ?_ | refine sp5 ?_ ?_ | refine sp6 ?_ ?_ | refine sp7 ?_ ?_) <;> intro hb) <;> (simp only [go_sem, hb, hw1, hw, hb])) | ((first | refine wm_done ?_ | refine wt_done ?_ | refine wg_run ?_ | refine fk ?_ ?_) <;> (simp only [go_sem, hw1, hw, hb]))) | (first | refine cd (hc := hc) (hK := ?_) | refine cm (hc := hc) (hK := ?_) | refine ct (hc := hc) (hK := ?_)); (simp only [go_sem]))
                · exact hG (k + 1) _ _ ⟨by omega, by simpa [hb] using hs⟩ (by omega) (hat [0] (hI := ⟨rfl, rfl⟩))
                · (refine hR _ (rat [] (hK := ⟨?_, rfl⟩)))
                  simpa [hb] using hs
              · have hk1 : ¬ k < t.kids.length := by have := of_decide_eq_false hb; omega
                rw [List.drop_eq_nil_of_le (by omega)] at hs
                (refine hR _ (rat [] (hK := ⟨?_, rfl⟩)))
                simpa using hs
        · have he : t.shape 13 (m + 1) = false := by rw [Tm.shape_succ, hc13]; simp
          rw [he]
          refine fn_in ?_; refine acl_in Try.func141 rfl isfn_141 (Nat.le_of_ble_eq_true rfl) (fun R hR => ?_); rw [Try.results141] at hR; refine wg_run ?_; (simp only [Try.f141, go_sem, hd])
          repeat' (first | (first | (simp only [go_sem, hd, hb0, hc13, int_bne]) | (((first | refine sp1 ?_ ?_ | refine sp2 ?_ ?_ | refine sp3 ?_ ?_ | refine sp4 ?_ ?_ | refine sp5 ?_ ?_ | refine sp6 ?_ ?_ | refine sp7 ?_ ?_) <;> intro hb) <;> (simp only [go_sem, hb, hd, hb0, hc13, int_bne])) | ((first | refine wm_done ?_ | refine wt_done ?_ | refine wg_run ?_ | refine fk ?_ ?_) <;> (simp only [go_sem, hd, hb0, hc13, int_bne]))) | ((first | refine mx 6 [] follows ?_ | refine mx 5 [] follows ?_ | refine mx 4 [] follows ?_ | refine mx 3 [] follows ?_ | refine mx 2 [] follows ?_ | refine mx 1 [] follows ?_ | refine mx 0 [] follows ?_ | fail); (simp only [go_sem, hd, hb0, hc13, int_bne])) | (first | refine cd (hc := hk) (hK := ?_) | refine cm (hc := hk) (hK := ?_) | refine ct (hc := hk) (hK := ?_)); (simp only [go_sem]))
          (refine hR _ (rat [] (hK := ⟨rfl, rfl⟩)))
      · have hb0 : (opN t.kind == (t.kids.length : Int)) = false := by simp [hlen]
        have he : t.shape 13 (m + 1) = false := by rw [Tm.shape_succ, Tm.nodeOk_own, hb0]; simp
        rw [he]
        refine fn_in ?_; refine acl_in Try.func141 rfl isfn_141 (Nat.le_of_ble_eq_true rfl) (fun R hR => ?_); rw [Try.results141] at hR; refine wg_run ?_; (simp only [Try.f141, go_sem, hd])
        repeat' (first | (first | (simp only [go_sem, hd, hb0, int_bne]) | (((first | refine sp1 ?_ ?_ | refine sp2 ?_ ?_ | refine sp3 ?_ ?_ | refine sp4 ?_ ?_ | refine sp5 ?_ ?_ | refine sp6 ?_ ?_ | refine sp7 ?_ ?_) <;> intro hb) <;> (simp only [go_sem, hb, hd, hb0, int_bne])) | ((first | refine wm_done ?_ | refine wt_done ?_ | refine wg_run ?_ | refine fk ?_ ?_) <;> (simp only [go_sem, hd, hb0, int_bne]))) | ((first | refine mx 6 [] follows ?_ | refine mx 5 [] follows ?_ | refine mx 4 [] follows ?_ | refine mx 3 [] follows ?_ | refine mx 2 [] follows ?_ | refine mx 1 [] follows ?_ | refine mx 0 [] follows ?_ | fail); (simp only [go_sem, hd, hb0, int_bne])) | (first | refine cd (hc := hk) (hK := ?_) | refine cm (hc := hk) (hK := ?_) | refine ct (hc := hk) (hK := ?_)); (simp only [go_sem]))
        (refine hR _ (rat [] (hK := ⟨rfl, rfl⟩)))
theorem sTermV (t : Tm) (h : t.size < 4611686018427387904) : AFn Try.prog 65 [.agg (teC t)] (.one (.sc (.bool t.termV))) := by
  have h1 := l2Shape _ (Nat.le_refl _) t 12 (by omega) h
  unfold Tm.termV
  cases hs : t.shape 14 12
  · rw [hs] at h1
    refine fn_in ?_; refine acl_in Try.func65 rfl isfn_65 (Nat.le_of_ble_eq_true rfl) (fun R hR => ?_); rw [Try.results65] at hR; refine wg_run ?_; (simp only [Try.f65, go_sem])
    repeat' (first | (first | (((first | refine sp1 ?_ ?_ | refine sp2 ?_ ?_ | refine sp3 ?_ ?_ | refine sp4 ?_ ?_ | refine sp5 ?_ ?_ | refine sp6 ?_ ?_ | refine sp7 ?_ ?_) <;> intro hb) <;> (simp only [go_sem, hb])) | ((first | refine wm_done ?_ | refine wt_done ?_ | refine wg_run ?_ | refine fk ?_ ?_) <;> (simp only [go_sem]))) | (first | refine cd (hc := h1) (hK := ?_) | refine cm (hc := h1) (hK := ?_) | refine ct (hc := h1) (hK := ?_)); (simp only [go_sem]))
    (refine hR _ (rat [] (hK := ⟨rfl, rfl⟩)))
  · rw [hs] at h1
    have h2 := l2Count _ (Nat.le_refl _) t 14 12 (by omega) h hs
    refine fn_in ?_; refine acl_in Try.func65 rfl isfn_65 (Nat.le_of_ble_eq_true rfl) (fun R hR => ?_); rw [Try.results65] at hR; refine wg_run ?_; (simp only [Try.f65, go_sem])
    repeat' (first | (first | (((first | refine sp1 ?_ ?_ | refine sp2 ?_ ?_ | refine sp3 ?_ ?_ | refine sp4 ?_ ?_ | refine sp5 ?_ ?_ | refine sp6 ?_ ?_ | refine sp7 ?_ ?_) <;> intro hb) <;> (simp only [go_sem, hb])) | ((first | refine wm_done ?_ | refine wt_done ?_ | refine wg_run ?_ | refine fk ?_ ?_) <;> (simp only [go_sem]))) | (first | refine cd (hc := h1) (hK := ?_) | refine cm (hc := h1) (hK := ?_) | refine ct (hc := h1) (hK := ?_)); (simp only [go_sem]) | (first | refine cd (hc := h2) (hK := ?_) | refine cm (hc := h2) (hK := ?_) | refine ct (hc := h2) (hK := ?_)); (simp only [go_sem]))
    (refine hR _ (rat [] (hK := ⟨?_, rfl⟩)))
    rw [Bool.true_and]
    have : decide ((t.nodes : Int) ≤ 30) = decide (t.nodes ≤ 30) := by rw [Bool.eq_iff_iff]; simp; omega
    rw [this]
theorem sCastV (t : Tm) (h : t.size < 4611686018427387904) : AFn Try.prog 77 [.agg (teC t)] (.one (.sc (.bool t.castV))) := by
  have h1 := l4Shape _ (Nat.le_refl _) t 40 (by omega) h
  unfold Tm.castV
  cases hs : t.shape 13 40
  · rw [hs] at h1
    refine fn_in ?_; refine acl_in Try.func77 rfl isfn_77 (Nat.le_of_ble_eq_true rfl) (fun R hR => ?_); rw [Try.results77] at hR; refine wg_run ?_; (simp only [Try.f77, go_sem])
    repeat' (first | (first | (((first | refine sp1 ?_ ?_ | refine sp2 ?_ ?_ | refine sp3 ?_ ?_ | refine sp4 ?_ ?_ | refine sp5 ?_ ?_ | refine sp6 ?_ ?_ | refine sp7 ?_ ?_) <;> intro hb) <;> (simp only [go_sem, hb])) | ((first | refine wm_done ?_ | refine wt_done ?_ | refine wg_run ?_ | refine fk ?_ ?_) <;> (simp only [go_sem]))) | (first | refine cd (hc := h1) (hK := ?_) | refine cm (hc := h1) (hK := ?_) | refine ct (hc := h1) (hK := ?_)); (simp only [go_sem]))
    (refine hR _ (rat [] (hK := ⟨rfl, rfl⟩)))
  · rw [hs] at h1
    have h2 := l2Count _ (Nat.le_refl _) t 13 40 (by omega) h hs
    refine fn_in ?_; refine acl_in Try.func77 rfl isfn_77 (Nat.le_of_ble_eq_true rfl) (fun R hR => ?_); rw [Try.results77] at hR; refine wg_run ?_; (simp only [Try.f77, go_sem])
    repeat' (first | (first | (((first | refine sp1 ?_ ?_ | refine sp2 ?_ ?_ | refine sp3 ?_ ?_ | refine sp4 ?_ ?_ | refine sp5 ?_ ?_ | refine sp6 ?_ ?_ | refine sp7 ?_ ?_) <;> intro hb) <;> (simp only [go_sem, hb])) | ((first | refine wm_done ?_ | refine wt_done ?_ | refine wg_run ?_ | refine fk ?_ ?_) <;> (simp only [go_sem]))) | (first | refine cd (hc := h1) (hK := ?_) | refine cm (hc := h1) (hK := ?_) | refine ct (hc := h1) (hK := ?_)); (simp only [go_sem]) | (first | refine cd (hc := h2) (hK := ?_) | refine cm (hc := h2) (hK := ?_) | refine ct (hc := h2) (hK := ?_)); (simp only [go_sem]))
    (refine hR _ (rat [] (hK := ⟨?_, rfl⟩)))
    rw [Bool.true_and]
    have : decide ((t.nodes : Int) ≤ 200) = decide (t.nodes ≤ 200) := by rw [Bool.eq_iff_iff]; simp; omega
    rw [this]
end Go.Proofs.Ytfgjiamolknicaa
/- Terms: copies, and terms mapped; on shadows. -/
namespace Go.Proofs.Sh
open Go.Proofs.Grad
@[go_sem] theorem teC_apps (t : Tm) (l : List C) : teC t ++ l = .sc (.int .i64 (t.kind)) :: .sc (.string (t.name)) :: .sc (.int .i64 (t.num)) :: .sc (.int .i64 (t.type).kind) :: .sl (tyR (t.type).kids) :: .sc (.int .i64 (t.frm).kind) :: .sl (tyR (t.frm).kids) :: .sc (.int .i64 (t.label)) :: .sl (teR (t.kids)) :: l := by rw [teC_eq]; rfl
attribute [go_sem] List.getD_cons_zero List.getD_cons_succ List.getD_nil
/-- the cells of a node whose operands' slice is c -/
def teK (t : Tm) (c : C) : List C := [.sc (.int .i64 (t.kind)), .sc (.string (t.name)), .sc (.int .i64 (t.num)), .sc (.int .i64 (t.type).kind), .sl (tyR (t.type).kids), .sc (.int .i64 (t.frm).kind), .sl (tyR (t.frm).kids), .sc (.int .i64 (t.label)), c]
theorem teK_sl (t : Tm) : teK t (.sl (teR t.kids)) = teC t := by rw [teC_eq]; rfl
end Go.Proofs.Sh
namespace Go.Proofs.Ytfgjiamolknicaa
open Go.RowKit Go.Proofs.Sh Go.Proofs.Grad
set_option maxRecDepth 100000
set_option maxHeartbeats 8000000
theorem l2Copy (n : Nat) (hn : n ≤ 274877906944) : ∀ t : Tm, t.size < n → AFn Try.prog 129 [.agg (teC t)] (.agg (teC t)) := by
  induction n with
  | zero => intro t h; omega
  | succ n ih =>
    intro t h
    have hl := telen_lt t
    have h1 := l1Copy 274877906944 (by omega) t.type (Nat.lt_trans (by cases t; simp only [Tm.size, Tm.type]; omega : t.type.size < t.size) (by omega))
    have h2 := l1Copy 274877906944 (by omega) t.frm (Nat.lt_trans (by cases t; simp only [Tm.size, Tm.frm]; omega : t.frm.size < t.size) (by omega))
    refine fn_in ?_; refine acl_in Try.func129 rfl isfn_129 (Nat.le_of_ble_eq_true rfl) (fun R hR => ?_); rw [Try.results129] at hR; refine wg_run ?_; (simp only [Try.f129, go_sem])
    repeat' (first | (first | (((first | refine sp1 ?_ ?_ | refine sp2 ?_ ?_ | refine sp3 ?_ ?_ | refine sp4 ?_ ?_ | refine sp5 ?_ ?_ | refine sp6 ?_ ?_ | refine sp7 ?_ ?_) <;> intro hb) <;> (simp only [go_sem, hb])) | ((first | refine wm_done ?_ | refine wt_done ?_ | refine wg_run ?_ | refine fk ?_ ?_) <;> (simp only [go_sem]))) | (first | refine cd (hc := h1) (hK := ?_) | refine cm (hc := h1) (hK := ?_) | refine ct (hc := h1) (hK := ?_)); (simp only [go_sem]) | (first | refine cd (hc := h2) (hK := ?_) | refine cm (hc := h2) (hK := ?_) | refine ct (hc := h2) (hK := ?_)); (simp only [go_sem]))
    refine wd_for [1, 2, 3, 4] (fun k => [.one (.ptr 9 0 0 0), .one (.ptr 9 1 0 0), .one (.ptr 9 2 0 0), .one (.sc (.int .i64 (k : Nat)))])
      (fun k => [⟨9, 28, .mut, [teC t]⟩, ⟨9, 28, .mut, [[.sc (.int .i64 0), .sc (.string { data := { toList := [] } }), .sc (.int .i64 0), .sc (.int .i64 0), .sc (.slice none 0 0), .sc (.int .i64 0), .sc (.slice none 0 0), .sc (.int .i64 0), .sc (.slice none 0 0)]]⟩] ++ (match k with | 0 => [⟨9, 28, .mut, [teK t (.sc (.slice none 0 0))]⟩] | k + 1 => [⟨9, 28, .mut, [teK t (.row 9 3 (k + 1))]⟩, ⟨9, 28, .mut, teR (t.kids.take (k + 1))⟩]))
      (fun k => k ≤ t.kids.length) (fun k => t.kids.length - k) 0 (Nat.zero_le _) (hat [0, 1, 2] (hI := ⟨rfl, rfl⟩)) ?_
    rintro (_ | k) hk G hG
    · refine wg_run ?_
      simp only [teK] at hG ⊢
      (simp only [go_sem])
      ((first | refine sp1 ?_ ?_ | refine sp2 ?_ ?_ | refine sp3 ?_ ?_ | refine sp4 ?_ ?_ | refine sp5 ?_ ?_ | refine sp6 ?_ ?_ | refine sp7 ?_ ?_) <;> intro hb) <;> (simp only [go_sem, hb])
      · have hk1 : 0 < t.kids.length := by have := of_decide_eq_true hb; omega
        have hc := ih (by omega) (teKid t.kids 0) (by have := teKid_lt hk1; omega)
        repeat' (first | (first | (simp only [go_sem, hb]) | (((first | refine sp1 ?_ ?_ | refine sp2 ?_ ?_ | refine sp3 ?_ ?_ | refine sp4 ?_ ?_ | refine sp5 ?_ ?_ | refine sp6 ?_ ?_ | refine sp7 ?_ ?_) <;> intro hb) <;> (simp only [go_sem, hb, hb])) | ((first | refine wm_done ?_ | refine wt_done ?_ | refine wg_run ?_ | refine fk ?_ ?_) <;> (simp only [go_sem, hb]))) | ((first | refine mx 6 [] follows ?_ | refine mx 5 [] follows ?_ | refine mx 4 [] follows ?_ | refine mx 3 [] follows ?_ | refine mx 2 [] follows ?_ | refine mx 1 [] follows ?_ | refine mx 0 [] follows ?_ | fail); (simp only [go_sem, hb])) | (first | refine cd (hc := hc) (hK := ?_) | refine cm (hc := hc) (hK := ?_) | refine ct (hc := hc) (hK := ?_)); (simp only [go_sem]))
        refine hG 1 _ _ (by omega) (by omega) (hat [0, 1, 2, 4] (hI := ⟨rfl, ?_⟩))
        simp only [teR_take hk1, List.take_zero, teR, List.nil_append, List.cons_append]
      · have hk1 : t.kids = [] := by have := of_decide_eq_false hb; exact List.eq_nil_of_length_eq_zero (by omega)
        (refine hR _ (rat [] (hK := ⟨?_, rfl⟩)))
        rw [teC_eq, hk1]; rfl
    · refine wg_run ?_
      simp only [teK] at hG ⊢
      have hw1 : k + 1 < t.kids.length → IntKind.i64.wrap (((k + 1 : Nat) : Int) + 1) = ((k + 1 + 1 : Nat) : Int) := fun h => wrap_succ h (by omega)
      (simp only [go_sem])
      ((first | refine sp1 ?_ ?_ | refine sp2 ?_ ?_ | refine sp3 ?_ ?_ | refine sp4 ?_ ?_ | refine sp5 ?_ ?_ | refine sp6 ?_ ?_ | refine sp7 ?_ ?_) <;> intro hb) <;> (simp only [go_sem, hb])
      · have hk1 : k + 1 < t.kids.length := by have := of_decide_eq_true hb; omega
        have hw1 := hw1 hk1
        have hlen : (t.kids.take (k + 1)).length = k + 1 := by rw [List.length_take]; omega
        have hcap : (k + 1 + 1) * 128 ≤ 140737488355328 := by omega
        have hc := ih (by omega) (teKid t.kids (k + 1)) (by have := teKid_lt hk1; omega)
        repeat' (first | (first | (simp only [go_sem, hb, hlen, hcap, hw1]) | (((first | refine sp1 ?_ ?_ | refine sp2 ?_ ?_ | refine sp3 ?_ ?_ | refine sp4 ?_ ?_ | refine sp5 ?_ ?_ | refine sp6 ?_ ?_ | refine sp7 ?_ ?_) <;> intro hb) <;> (simp only [go_sem, hb, hb, hlen, hcap, hw1])) | ((first | refine wm_done ?_ | refine wt_done ?_ | refine wg_run ?_ | refine fk ?_ ?_) <;> (simp only [go_sem, hb, hlen, hcap, hw1]))) | ((first | refine mx 6 [] follows ?_ | refine mx 5 [] follows ?_ | refine mx 4 [] follows ?_ | refine mx 3 [] follows ?_ | refine mx 2 [] follows ?_ | refine mx 1 [] follows ?_ | refine mx 0 [] follows ?_ | fail); (simp only [go_sem, hb, hlen, hcap, hw1])) | (first | refine cd (hc := hc) (hK := ?_) | refine cm (hc := hc) (hK := ?_) | refine ct (hc := hc) (hK := ?_)); (simp only [go_sem]))
        refine hG (k + 2) _ _ (by omega) (by omega) (hat [0, 1, 2, 5] (hI := ⟨rfl, ?_⟩))
        rw [← teR_take hk1]
        rfl
      · have hk1 : t.kids.take (k + 1) = t.kids := by have := of_decide_eq_false hb; exact List.take_of_length_le (by omega)
        have hlen : t.kids.length = k + 1 := by have := of_decide_eq_false hb; omega
        rw [hk1]
        (refine hR _ (ret_at [] (by (simp only [go_sem, hlen]); first | done | rfl) (by (simp only [go_sem, hlen]); first | done | rfl) ⟨?_, rfl⟩))
        rw [teC_eq]
/-- a copy, its uppermost slice its own -/
def OwnTm (t : Tm) (r : AV) (H' : List Blk) : Prop := (t.kids = [] ∧ r = .agg (teK t (.sc (.slice none 0 0))) ∧ H' = []) ∨ (0 < t.kids.length ∧ r = .agg (teK t (.row 9 0 t.kids.length)) ∧ H' = [⟨9, 28, .mut, teR t.kids⟩])
theorem l2CopyO (n : Nat) (hn : n ≤ 274877906944) (t : Tm) (h : t.size < n) : ACl Try.prog 129 [.agg (teC t)] [] (OwnTm t) := by
  have ih := l2Copy n hn
  have hl := telen_lt t
  have h1 := l1Copy 274877906944 (by omega) t.type (Nat.lt_trans (by cases t; simp only [Tm.size, Tm.type]; omega : t.type.size < t.size) (by omega))
  have h2 := l1Copy 274877906944 (by omega) t.frm (Nat.lt_trans (by cases t; simp only [Tm.size, Tm.frm]; omega : t.frm.size < t.size) (by omega))
  refine acl_in Try.func129 rfl isfn_129 (Nat.le_of_ble_eq_true rfl) (fun R hR => ?_); rw [Try.results129] at hR; refine wg_run ?_; (simp only [Try.f129, go_sem])
  repeat' (first | (first | (((first | refine sp1 ?_ ?_ | refine sp2 ?_ ?_ | refine sp3 ?_ ?_ | refine sp4 ?_ ?_ | refine sp5 ?_ ?_ | refine sp6 ?_ ?_ | refine sp7 ?_ ?_) <;> intro hb) <;> (simp only [go_sem, hb])) | ((first | refine wm_done ?_ | refine wt_done ?_ | refine wg_run ?_ | refine fk ?_ ?_) <;> (simp only [go_sem]))) | (first | refine cd (hc := h1) (hK := ?_) | refine cm (hc := h1) (hK := ?_) | refine ct (hc := h1) (hK := ?_)); (simp only [go_sem]) | (first | refine cd (hc := h2) (hK := ?_) | refine cm (hc := h2) (hK := ?_) | refine ct (hc := h2) (hK := ?_)); (simp only [go_sem]))
  refine wd_for [1, 2, 3, 4] (fun k => [.one (.ptr 9 0 0 0), .one (.ptr 9 1 0 0), .one (.ptr 9 2 0 0), .one (.sc (.int .i64 (k : Nat)))])
    (fun k => [⟨9, 28, .mut, [teC t]⟩, ⟨9, 28, .mut, [[.sc (.int .i64 0), .sc (.string { data := { toList := [] } }), .sc (.int .i64 0), .sc (.int .i64 0), .sc (.slice none 0 0), .sc (.int .i64 0), .sc (.slice none 0 0), .sc (.int .i64 0), .sc (.slice none 0 0)]]⟩] ++ (match k with | 0 => [⟨9, 28, .mut, [teK t (.sc (.slice none 0 0))]⟩] | k + 1 => [⟨9, 28, .mut, [teK t (.row 9 3 (k + 1))]⟩, ⟨9, 28, .mut, teR (t.kids.take (k + 1))⟩]))
    (fun k => k ≤ t.kids.length) (fun k => t.kids.length - k) 0 (Nat.zero_le _) (hat [0, 1, 2] (hI := ⟨rfl, rfl⟩)) ?_
  rintro (_ | k) hk G hG
  · refine wg_run ?_
    simp only [teK] at hG ⊢
    (simp only [go_sem])
    ((first | refine sp1 ?_ ?_ | refine sp2 ?_ ?_ | refine sp3 ?_ ?_ | refine sp4 ?_ ?_ | refine sp5 ?_ ?_ | refine sp6 ?_ ?_ | refine sp7 ?_ ?_) <;> intro hb) <;> (simp only [go_sem, hb])
    · have hk1 : 0 < t.kids.length := by have := of_decide_eq_true hb; omega
      have hc := ih (teKid t.kids 0) (by have := teKid_lt hk1; omega)
      repeat' (first | (first | (simp only [go_sem, hb]) | (((first | refine sp1 ?_ ?_ | refine sp2 ?_ ?_ | refine sp3 ?_ ?_ | refine sp4 ?_ ?_ | refine sp5 ?_ ?_ | refine sp6 ?_ ?_ | refine sp7 ?_ ?_) <;> intro hb) <;> (simp only [go_sem, hb, hb])) | ((first | refine wm_done ?_ | refine wt_done ?_ | refine wg_run ?_ | refine fk ?_ ?_) <;> (simp only [go_sem, hb]))) | ((first | refine mx 6 [] follows ?_ | refine mx 5 [] follows ?_ | refine mx 4 [] follows ?_ | refine mx 3 [] follows ?_ | refine mx 2 [] follows ?_ | refine mx 1 [] follows ?_ | refine mx 0 [] follows ?_ | fail); (simp only [go_sem, hb])) | (first | refine cd (hc := hc) (hK := ?_) | refine cm (hc := hc) (hK := ?_) | refine ct (hc := hc) (hK := ?_)); (simp only [go_sem]))
      refine hG 1 _ _ (by omega) (by omega) (hat [0, 1, 2, 4] (hI := ⟨rfl, ?_⟩))
      simp only [teR_take hk1, List.take_zero, teR, List.nil_append, List.cons_append]
    · have hk1 : t.kids = [] := by have := of_decide_eq_false hb; exact List.eq_nil_of_length_eq_zero (by omega)
      exact hR _ (rwn [] (hK := (.inl ⟨hk1, rfl, rfl⟩)))
  · refine wg_run ?_
    simp only [teK] at hG ⊢
    have hw1 : k + 1 < t.kids.length → IntKind.i64.wrap (((k + 1 : Nat) : Int) + 1) = ((k + 1 + 1 : Nat) : Int) := fun h => wrap_succ h (by omega)
    (simp only [go_sem])
    ((first | refine sp1 ?_ ?_ | refine sp2 ?_ ?_ | refine sp3 ?_ ?_ | refine sp4 ?_ ?_ | refine sp5 ?_ ?_ | refine sp6 ?_ ?_ | refine sp7 ?_ ?_) <;> intro hb) <;> (simp only [go_sem, hb])
    · have hk1 : k + 1 < t.kids.length := by have := of_decide_eq_true hb; omega
      have hw1 := hw1 hk1
      have hlen : (t.kids.take (k + 1)).length = k + 1 := by rw [List.length_take]; omega
      have hcap : (k + 1 + 1) * 128 ≤ 140737488355328 := by omega
      have hc := ih (teKid t.kids (k + 1)) (by have := teKid_lt hk1; omega)
      repeat' (first | (first | (simp only [go_sem, hb, hlen, hcap, hw1]) | (((first | refine sp1 ?_ ?_ | refine sp2 ?_ ?_ | refine sp3 ?_ ?_ | refine sp4 ?_ ?_ | refine sp5 ?_ ?_ | refine sp6 ?_ ?_ | refine sp7 ?_ ?_) <;> intro hb) <;> (simp only [go_sem, hb, hb, hlen, hcap, hw1])) | ((first | refine wm_done ?_ | refine wt_done ?_ | refine wg_run ?_ | refine fk ?_ ?_) <;> (simp only [go_sem, hb, hlen, hcap, hw1]))) | ((first | refine mx 6 [] follows ?_ | refine mx 5 [] follows ?_ | refine mx 4 [] follows ?_ | refine mx 3 [] follows ?_ | refine mx 2 [] follows ?_ | refine mx 1 [] follows ?_ | refine mx 0 [] follows ?_ | fail); (simp only [go_sem, hb, hlen, hcap, hw1])) | (first | refine cd (hc := hc) (hK := ?_) | refine cm (hc := hc) (hK := ?_) | refine ct (hc := hc) (hK := ?_)); (simp only [go_sem]))
      refine hG (k + 2) _ _ (by omega) (by omega) (hat [0, 1, 2, 5] (hI := ⟨rfl, ?_⟩))
      rw [← teR_take hk1]
      rfl
    · have hk1 : t.kids.take (k + 1) = t.kids := by have := of_decide_eq_false hb; exact List.take_of_length_le (by omega)
      have hlen : t.kids.length = k + 1 := by have := of_decide_eq_false hb; omega
      rw [hk1]
      exact hR _ (ret_own [3] (by (simp only [go_sem, hlen]); first | done | rfl) (by (simp only [go_sem, hlen]); first | done | rfl) (.inr ⟨by omega, by rw [hlen]; rfl, rfl⟩))
end Go.Proofs.Ytfgjiamolknicaa
/- Terms: terms mapped by a function, on shadows. -/
namespace Go.Proofs.Grad
def E.mapE (φ : E → E) : E → E
  | .var x => φ (.var x)
  | .num n => φ (.num n)
  | .tru => φ .tru
  | .fls => φ .fls
  | .lam x t a => φ (.lam x t (a.mapE φ))
  | .app a b => φ (.app (a.mapE φ) (b.mapE φ))
  | .add a b => φ (.add (a.mapE φ) (b.mapE φ))
  | .less a b => φ (.less (a.mapE φ) (b.mapE φ))
  | .ite a b c => φ (.ite (a.mapE φ) (b.mapE φ) (c.mapE φ))
  | .pair a b => φ (.pair (a.mapE φ) (b.mapE φ))
  | .fst a => φ (.fst (a.mapE φ))
  | .snd a => φ (.snd (a.mapE φ))
  | .asc t a => φ (.asc t (a.mapE φ))
  | .cast s t l a => φ (.cast s t l (a.mapE φ))
theorem E.mapE_wf {φ : E → E} (h : ∀ x : E, x.wf = true → (φ x).wf = true) (e : E) : e.wf = true → (e.mapE φ).wf = true := by
  induction e with
  | var _ | num _ | tru | fls => intro hw; exact h _ hw
  | lam _ _ a ih => intro hw; simp only [E.wf, Bool.and_eq_true] at hw; refine h _ ?_; simp only [E.wf, Bool.and_eq_true]; exact ⟨hw.1, hw.2.1, ih hw.2.2⟩
  | app a b iha ihb | add a b iha ihb | less a b iha ihb | pair a b iha ihb =>
    intro hw; simp only [E.wf, Bool.and_eq_true] at hw; refine h _ ?_; simp only [E.wf, Bool.and_eq_true]; exact ⟨iha hw.1, ihb hw.2⟩
  | ite a b c iha ihb ihc =>
    intro hw; simp only [E.wf, Bool.and_eq_true] at hw; refine h _ ?_; simp only [E.wf, Bool.and_eq_true]; exact ⟨iha hw.1, ihb hw.2.1, ihc hw.2.2⟩
  | fst a ih | snd a ih => intro hw; refine h _ ?_; exact ih hw
  | cast s t l a ih => intro hw; simp only [E.wf, Bool.and_eq_true] at hw; refine h _ ?_; simp only [E.wf, Bool.and_eq_true]; exact ⟨hw.1, hw.2.1, hw.2.2.1, ih hw.2.2.2⟩
  | _ => rename_i t a ih; intro hw; simp only [E.wf, Bool.and_eq_true] at hw; refine h _ ?_; simp only [E.wf, Bool.and_eq_true]; exact ⟨hw.1, ih hw.2⟩
theorem E.mapE_id (e : E) : e.mapE id = e := by
  induction e <;> simp [E.mapE, *]
theorem T.ty_small {t : T} (h : t.depth ≤ 4) : t.ty.size < 1000 := by
  have : ∀ (x : T) (d : Nat), x.depth ≤ d → d ≤ 4 → x.size < 2 ^ d := by
    intro x
    induction x with
    | any | int | bool => intro d h1 h2; simp only [T.depth, T.size] at *; exact Nat.one_lt_two_pow (by omega)
    | fn a b iha ihb | pr a b iha ihb =>
      intro d h1 h2
      simp only [T.depth, T.size] at *
      obtain ⟨d, rfl⟩ : ∃ e, d = e + 1 := ⟨d - 1, by omega⟩
      have := iha d (by omega) (by omega); have := ihb d (by omega) (by omega)
      rw [Nat.pow_succ]; omega
  have := this t 4 h (Nat.le_refl _)
  rw [T.ty_size]; omega
end Go.Proofs.Grad
namespace Go.Proofs.Ytfgjiamolknicaa
open Go.RowKit Go.Proofs.Sh Go.Proofs.Grad
set_option maxRecDepth 100000
set_option maxHeartbeats 8000000
theorem iOwnNo : AFn Try.prog 145 [.agg (tyC noTy)] (.agg (tyC noTy)) := iOwnTy 1000 (by omega) noTy (by simp [noTy, Ty.size, Ty.sizes])
theorem iOwnT {t : T} (h : t.depth ≤ 4) : AFn Try.prog 145 [.agg (tyC t.ty)] (.agg (tyC t.ty)) := iOwnTy 1000 (by omega) t.ty (T.ty_small h)
theorem iMapped (g : FuncId) (φ : E → E) (hφ : ∀ x : E, x.wf = true → (φ x).wf = true) (hg : ∀ x : E, x.wf = true → AFn Try.prog g [.agg (teC x.tm)] (.agg (teC (φ x).tm))) (e : E) (h : e.wf = true) :
    AFn Try.prog 82 [.agg (teC e.tm), .one (.fn g [])] (.agg (teC (e.mapE φ).tm)) := by
  have ho := iOwnNo
  induction e with
  | var _ | num _ | tru | fls =>
    have hg := hg _ h
    simp only [E.mapE]
    rw [teC_eq] at hg
    simp only [E.tm, nd] at hg ⊢
    refine fn_in ?_; refine acl_in Try.func82 rfl isfn_82 (Nat.le_of_ble_eq_true rfl) (fun R hR => ?_); rw [Try.results82] at hR; refine wg_run ?_; (simp only [Try.f82, go_sem])
    repeat' (first | (first | (((first | refine sp1 ?_ ?_ | refine sp2 ?_ ?_ | refine sp3 ?_ ?_ | refine sp4 ?_ ?_ | refine sp5 ?_ ?_ | refine sp6 ?_ ?_ | refine sp7 ?_ ?_) <;> intro hb) <;> (simp only [go_sem, hb])) | ((first | refine wm_done ?_ | refine wt_done ?_ | refine wg_run ?_ | refine fk ?_ ?_) <;> (simp only [go_sem]))) | (first | (refine wl_next (wg_run ?_); (simp only [go_sem])) | refine wd_rounds 6 ?_) | (first | refine cd (hc := ho) (hK := ?_) | refine cm (hc := ho) (hK := ?_) | refine ct (hc := ho) (hK := ?_)); (simp only [go_sem]) | ((first | refine mx 6 [] follows ?_ | refine mx 5 [] follows ?_ | refine mx 4 [] follows ?_ | refine mx 3 [] follows ?_ | refine mx 2 [] follows ?_ | refine mx 1 [] follows ?_ | refine mx 0 [] follows ?_ | fail); (simp only [go_sem])) | (first | refine cd (hc := hg) (hK := ?_) | refine cm (hc := hg) (hK := ?_) | refine ct (hc := hg) (hK := ?_)); (simp only [go_sem]))
    (refine hR _ (rat [] (hK := ⟨?_, rfl⟩)))
    rfl
  | app a b iha ihb | add a b iha ihb | less a b iha ihb | pair a b iha ihb =>
    simp only [E.wf, Bool.and_eq_true] at h
    have iha := iha h.1
    have ihb := ihb h.2
    have wa := E.mapE_wf hφ a h.1
    have wb := E.mapE_wf hφ b h.2
    have g1 := hg (.app (a.mapE φ) (b.mapE φ)) (by simp only [E.wf, Bool.and_eq_true]; exact ⟨wa, wb⟩)
    have g2 := hg (.add (a.mapE φ) (b.mapE φ)) (by simp only [E.wf, Bool.and_eq_true]; exact ⟨wa, wb⟩)
    have g3 := hg (.less (a.mapE φ) (b.mapE φ)) (by simp only [E.wf, Bool.and_eq_true]; exact ⟨wa, wb⟩)
    have g4 := hg (.pair (a.mapE φ) (b.mapE φ)) (by simp only [E.wf, Bool.and_eq_true]; exact ⟨wa, wb⟩)
    clear hg
    simp only [E.mapE]
    rw [teC_eq] at g1 g2 g3 g4
    simp only [E.tm, nd, go_sem] at g1 g2 g3 g4 ⊢
    refine fn_in ?_; refine acl_in Try.func82 rfl isfn_82 (Nat.le_of_ble_eq_true rfl) (fun R hR => ?_); rw [Try.results82] at hR; refine wg_run ?_; (simp only [Try.f82, go_sem])
    repeat' (first | (first | (((first | refine sp1 ?_ ?_ | refine sp2 ?_ ?_ | refine sp3 ?_ ?_ | refine sp4 ?_ ?_ | refine sp5 ?_ ?_ | refine sp6 ?_ ?_ | refine sp7 ?_ ?_) <;> intro hb) <;> (simp only [go_sem, hb])) | ((first | refine wm_done ?_ | refine wt_done ?_ | refine wg_run ?_ | refine fk ?_ ?_) <;> (simp only [go_sem]))) | (first | (refine wl_next (wg_run ?_); (simp only [go_sem])) | refine wd_rounds 6 ?_) | (first | refine cd (hc := iha) (hK := ?_) | refine cm (hc := iha) (hK := ?_) | refine ct (hc := iha) (hK := ?_)); (simp only [go_sem]) | (first | refine cd (hc := ihb) (hK := ?_) | refine cm (hc := ihb) (hK := ?_) | refine ct (hc := ihb) (hK := ?_)); (simp only [go_sem]) | (first | refine cd (hc := ho) (hK := ?_) | refine cm (hc := ho) (hK := ?_) | refine ct (hc := ho) (hK := ?_)); (simp only [go_sem]) | ((first | refine mx 6 [] follows ?_ | refine mx 5 [] follows ?_ | refine mx 4 [] follows ?_ | refine mx 3 [] follows ?_ | refine mx 2 [] follows ?_ | refine mx 1 [] follows ?_ | refine mx 0 [] follows ?_ | fail); (simp only [go_sem])) | (first | refine cd (hc := g1) (hK := ?_) | refine cm (hc := g1) (hK := ?_) | refine ct (hc := g1) (hK := ?_)); (simp only [go_sem]) | (first | refine cd (hc := g2) (hK := ?_) | refine cm (hc := g2) (hK := ?_) | refine ct (hc := g2) (hK := ?_)); (simp only [go_sem]) | (first | refine cd (hc := g3) (hK := ?_) | refine cm (hc := g3) (hK := ?_) | refine ct (hc := g3) (hK := ?_)); (simp only [go_sem]) | (first | refine cd (hc := g4) (hK := ?_) | refine cm (hc := g4) (hK := ?_) | refine ct (hc := g4) (hK := ?_)); (simp only [go_sem]))
    (refine hR _ (rat [] (hK := ⟨?_, rfl⟩)))
    rfl
  | ite a b c iha ihb ihc =>
    simp only [E.wf, Bool.and_eq_true] at h
    have iha := iha h.1
    have ihb := ihb h.2.1
    have ihc := ihc h.2.2
    have g1 := hg (.ite (a.mapE φ) (b.mapE φ) (c.mapE φ)) (by simp only [E.wf, Bool.and_eq_true]; exact ⟨E.mapE_wf hφ a h.1, E.mapE_wf hφ b h.2.1, E.mapE_wf hφ c h.2.2⟩)
    clear hg
    simp only [E.mapE]
    rw [teC_eq] at g1
    simp only [E.tm, nd, go_sem] at g1 ⊢
    refine fn_in ?_; refine acl_in Try.func82 rfl isfn_82 (Nat.le_of_ble_eq_true rfl) (fun R hR => ?_); rw [Try.results82] at hR; refine wg_run ?_; (simp only [Try.f82, go_sem])
    repeat' (first | (first | (((first | refine sp1 ?_ ?_ | refine sp2 ?_ ?_ | refine sp3 ?_ ?_ | refine sp4 ?_ ?_ | refine sp5 ?_ ?_ | refine sp6 ?_ ?_ | refine sp7 ?_ ?_) <;> intro hb) <;> (simp only [go_sem, hb])) | ((first | refine wm_done ?_ | refine wt_done ?_ | refine wg_run ?_ | refine fk ?_ ?_) <;> (simp only [go_sem]))) | (first | (refine wl_next (wg_run ?_); (simp only [go_sem])) | refine wd_rounds 6 ?_) | (first | refine cd (hc := iha) (hK := ?_) | refine cm (hc := iha) (hK := ?_) | refine ct (hc := iha) (hK := ?_)); (simp only [go_sem]) | (first | refine cd (hc := ihb) (hK := ?_) | refine cm (hc := ihb) (hK := ?_) | refine ct (hc := ihb) (hK := ?_)); (simp only [go_sem]) | (first | refine cd (hc := ihc) (hK := ?_) | refine cm (hc := ihc) (hK := ?_) | refine ct (hc := ihc) (hK := ?_)); (simp only [go_sem]) | (first | refine cd (hc := ho) (hK := ?_) | refine cm (hc := ho) (hK := ?_) | refine ct (hc := ho) (hK := ?_)); (simp only [go_sem]) | ((first | refine mx 6 [] follows ?_ | refine mx 5 [] follows ?_ | refine mx 4 [] follows ?_ | refine mx 3 [] follows ?_ | refine mx 2 [] follows ?_ | refine mx 1 [] follows ?_ | refine mx 0 [] follows ?_ | fail); (simp only [go_sem])) | (first | refine cd (hc := g1) (hK := ?_) | refine cm (hc := g1) (hK := ?_) | refine ct (hc := g1) (hK := ?_)); (simp only [go_sem]))
    (refine hR _ (rat [] (hK := ⟨?_, rfl⟩)))
    rfl
  | lam x t a ih =>
    simp only [E.wf, Bool.and_eq_true, decide_eq_true_eq] at h
    have ih := ih h.2.2
    have hot := iOwnT h.2.1
    have g1 := hg (.lam x t (a.mapE φ)) (by simp only [E.wf, Bool.and_eq_true, decide_eq_true_eq]; exact ⟨h.1, h.2.1, E.mapE_wf hφ a h.2.2⟩)
    clear hg
    simp only [E.mapE]
    rw [teC_eq] at g1
    simp only [E.tm, nd, go_sem] at g1 ⊢
    refine fn_in ?_; refine acl_in Try.func82 rfl isfn_82 (Nat.le_of_ble_eq_true rfl) (fun R hR => ?_); rw [Try.results82] at hR; refine wg_run ?_; (simp only [Try.f82, go_sem])
    repeat' (first | (first | (((first | refine sp1 ?_ ?_ | refine sp2 ?_ ?_ | refine sp3 ?_ ?_ | refine sp4 ?_ ?_ | refine sp5 ?_ ?_ | refine sp6 ?_ ?_ | refine sp7 ?_ ?_) <;> intro hb) <;> (simp only [go_sem, hb])) | ((first | refine wm_done ?_ | refine wt_done ?_ | refine wg_run ?_ | refine fk ?_ ?_) <;> (simp only [go_sem]))) | (first | (refine wl_next (wg_run ?_); (simp only [go_sem])) | refine wd_rounds 6 ?_) | (first | refine cd (hc := ih) (hK := ?_) | refine cm (hc := ih) (hK := ?_) | refine ct (hc := ih) (hK := ?_)); (simp only [go_sem]) | (first | refine cd (hc := hot) (hK := ?_) | refine cm (hc := hot) (hK := ?_) | refine ct (hc := hot) (hK := ?_)); (simp only [go_sem]) | (first | refine cd (hc := ho) (hK := ?_) | refine cm (hc := ho) (hK := ?_) | refine ct (hc := ho) (hK := ?_)); (simp only [go_sem]) | ((first | refine mx 6 [] follows ?_ | refine mx 5 [] follows ?_ | refine mx 4 [] follows ?_ | refine mx 3 [] follows ?_ | refine mx 2 [] follows ?_ | refine mx 1 [] follows ?_ | refine mx 0 [] follows ?_ | fail); (simp only [go_sem])) | (first | refine cd (hc := g1) (hK := ?_) | refine cm (hc := g1) (hK := ?_) | refine ct (hc := g1) (hK := ?_)); (simp only [go_sem]))
    (refine hR _ (rat [] (hK := ⟨?_, rfl⟩)))
    rfl
  | fst a ih | snd a ih =>
    simp only [E.wf] at h
    have ih := ih h
    have g1 := hg (.fst (a.mapE φ)) (E.mapE_wf hφ a h)
    have g2 := hg (.snd (a.mapE φ)) (E.mapE_wf hφ a h)
    clear hg
    simp only [E.mapE]
    rw [teC_eq] at g1 g2
    simp only [E.tm, nd, go_sem] at g1 g2 ⊢
    refine fn_in ?_; refine acl_in Try.func82 rfl isfn_82 (Nat.le_of_ble_eq_true rfl) (fun R hR => ?_); rw [Try.results82] at hR; refine wg_run ?_; (simp only [Try.f82, go_sem])
    repeat' (first | (first | (((first | refine sp1 ?_ ?_ | refine sp2 ?_ ?_ | refine sp3 ?_ ?_ | refine sp4 ?_ ?_ | refine sp5 ?_ ?_ | refine sp6 ?_ ?_ | refine sp7 ?_ ?_) <;> intro hb) <;> (simp only [go_sem, hb])) | ((first | refine wm_done ?_ | refine wt_done ?_ | refine wg_run ?_ | refine fk ?_ ?_) <;> (simp only [go_sem]))) | (first | (refine wl_next (wg_run ?_); (simp only [go_sem])) | refine wd_rounds 6 ?_) | (first | refine cd (hc := ih) (hK := ?_) | refine cm (hc := ih) (hK := ?_) | refine ct (hc := ih) (hK := ?_)); (simp only [go_sem]) | (first | refine cd (hc := ho) (hK := ?_) | refine cm (hc := ho) (hK := ?_) | refine ct (hc := ho) (hK := ?_)); (simp only [go_sem]) | ((first | refine mx 6 [] follows ?_ | refine mx 5 [] follows ?_ | refine mx 4 [] follows ?_ | refine mx 3 [] follows ?_ | refine mx 2 [] follows ?_ | refine mx 1 [] follows ?_ | refine mx 0 [] follows ?_ | fail); (simp only [go_sem])) | (first | refine cd (hc := g1) (hK := ?_) | refine cm (hc := g1) (hK := ?_) | refine ct (hc := g1) (hK := ?_)); (simp only [go_sem]) | (first | refine cd (hc := g2) (hK := ?_) | refine cm (hc := g2) (hK := ?_) | refine ct (hc := g2) (hK := ?_)); (simp only [go_sem]))
    (refine hR _ (rat [] (hK := ⟨?_, rfl⟩)))
    rfl
  | cast s t l a ih =>
    simp only [E.wf, Bool.and_eq_true, decide_eq_true_eq] at h
    have ih := ih h.2.2.2
    have hos := iOwnT h.1.1
    have hot := iOwnT h.1.2
    have g1 := hg (.cast s t l (a.mapE φ)) (by simp only [E.wf, Bool.and_eq_true, decide_eq_true_eq]; exact ⟨h.1, h.2.1, h.2.2.1, E.mapE_wf hφ a h.2.2.2⟩)
    clear hg
    simp only [E.mapE]
    rw [teC_eq] at g1
    simp only [E.tm, nd, go_sem] at g1 ⊢
    refine fn_in ?_; refine acl_in Try.func82 rfl isfn_82 (Nat.le_of_ble_eq_true rfl) (fun R hR => ?_); rw [Try.results82] at hR; refine wg_run ?_; (simp only [Try.f82, go_sem])
    repeat' (first | (first | (((first | refine sp1 ?_ ?_ | refine sp2 ?_ ?_ | refine sp3 ?_ ?_ | refine sp4 ?_ ?_ | refine sp5 ?_ ?_ | refine sp6 ?_ ?_ | refine sp7 ?_ ?_) <;> intro hb) <;> (simp only [go_sem, hb])) | ((first | refine wm_done ?_ | refine wt_done ?_ | refine wg_run ?_ | refine fk ?_ ?_) <;> (simp only [go_sem]))) | (first | (refine wl_next (wg_run ?_); (simp only [go_sem])) | refine wd_rounds 6 ?_) | (first | refine cd (hc := ih) (hK := ?_) | refine cm (hc := ih) (hK := ?_) | refine ct (hc := ih) (hK := ?_)); (simp only [go_sem]) | (first | refine cd (hc := hot) (hK := ?_) | refine cm (hc := hot) (hK := ?_) | refine ct (hc := hot) (hK := ?_)); (simp only [go_sem]) | (first | refine cd (hc := hos) (hK := ?_) | refine cm (hc := hos) (hK := ?_) | refine ct (hc := hos) (hK := ?_)); (simp only [go_sem]) | ((first | refine mx 6 [] follows ?_ | refine mx 5 [] follows ?_ | refine mx 4 [] follows ?_ | refine mx 3 [] follows ?_ | refine mx 2 [] follows ?_ | refine mx 1 [] follows ?_ | refine mx 0 [] follows ?_ | fail); (simp only [go_sem])) | (first | refine cd (hc := g1) (hK := ?_) | refine cm (hc := g1) (hK := ?_) | refine ct (hc := g1) (hK := ?_)); (simp only [go_sem]))
    (refine hR _ (rat [] (hK := ⟨?_, rfl⟩)))
    rfl
  | _ =>
    rename_i t a ih
    simp only [E.wf, Bool.and_eq_true, decide_eq_true_eq] at h
    have ih := ih h.2
    have hot := iOwnT h.1
    have g1 := hg (E.asc t (a.mapE φ)) (by simp only [E.wf, Bool.and_eq_true, decide_eq_true_eq]; exact ⟨h.1, E.mapE_wf hφ a h.2⟩)
    clear hg
    simp only [E.mapE]
    rw [teC_eq] at g1
    simp only [E.tm, nd, go_sem] at g1 ⊢
    refine fn_in ?_; refine acl_in Try.func82 rfl isfn_82 (Nat.le_of_ble_eq_true rfl) (fun R hR => ?_); rw [Try.results82] at hR; refine wg_run ?_; (simp only [Try.f82, go_sem])
    repeat' (first | (first | (((first | refine sp1 ?_ ?_ | refine sp2 ?_ ?_ | refine sp3 ?_ ?_ | refine sp4 ?_ ?_ | refine sp5 ?_ ?_ | refine sp6 ?_ ?_ | refine sp7 ?_ ?_) <;> intro hb) <;> (simp only [go_sem, hb])) | ((first | refine wm_done ?_ | refine wt_done ?_ | refine wg_run ?_ | refine fk ?_ ?_) <;> (simp only [go_sem]))) | (first | (refine wl_next (wg_run ?_); (simp only [go_sem])) | refine wd_rounds 6 ?_) | (first | refine cd (hc := ih) (hK := ?_) | refine cm (hc := ih) (hK := ?_) | refine ct (hc := ih) (hK := ?_)); (simp only [go_sem]) | (first | refine cd (hc := hot) (hK := ?_) | refine cm (hc := hot) (hK := ?_) | refine ct (hc := hot) (hK := ?_)); (simp only [go_sem]) | (first | refine cd (hc := ho) (hK := ?_) | refine cm (hc := ho) (hK := ?_) | refine ct (hc := ho) (hK := ?_)); (simp only [go_sem]) | ((first | refine mx 6 [] follows ?_ | refine mx 5 [] follows ?_ | refine mx 4 [] follows ?_ | refine mx 3 [] follows ?_ | refine mx 2 [] follows ?_ | refine mx 1 [] follows ?_ | refine mx 0 [] follows ?_ | fail); (simp only [go_sem])) | (first | refine cd (hc := g1) (hK := ?_) | refine cm (hc := g1) (hK := ?_) | refine ct (hc := g1) (hK := ?_)); (simp only [go_sem]))
    (refine hR _ (rat [] (hK := ⟨?_, rfl⟩)))
    rfl
theorem iOwn1 (t : Tm) : AFn Try.prog 137 [.agg (teC t)] (.agg (teC t)) := by
  refine fn_in ?_; refine acl_in Try.func137 rfl isfn_137 (Nat.le_of_ble_eq_true rfl) (fun R hR => ?_); rw [Try.results137] at hR; refine wg_run ?_; (simp only [Try.f137, go_sem])
  repeat' (first | (((first | refine sp1 ?_ ?_ | refine sp2 ?_ ?_ | refine sp3 ?_ ?_ | refine sp4 ?_ ?_ | refine sp5 ?_ ?_ | refine sp6 ?_ ?_ | refine sp7 ?_ ?_) <;> intro hb) <;> (simp only [go_sem, hb])) | ((first | refine wm_done ?_ | refine wt_done ?_ | refine wg_run ?_ | refine fk ?_ ?_) <;> (simp only [go_sem])))
  (refine hR _ (rat [] (hK := ⟨rfl, rfl⟩)))
theorem iOwn (e : E) (h : e.wf = true) : AFn Try.prog 70 [.agg (teC e.tm)] (.agg (teC e.tm)) := by
  have hm := iMapped 137 id (fun _ h => h) (fun x _ => iOwn1 x.tm) e h
  rw [E.mapE_id] at hm
  refine fn_in ?_; refine acl_in Try.func70 rfl isfn_70 (Nat.le_of_ble_eq_true rfl) (fun R hR => ?_); rw [Try.results70] at hR; refine wg_run ?_; (simp only [Try.f70, go_sem])
  repeat' (first | (first | (((first | refine sp1 ?_ ?_ | refine sp2 ?_ ?_ | refine sp3 ?_ ?_ | refine sp4 ?_ ?_ | refine sp5 ?_ ?_ | refine sp6 ?_ ?_ | refine sp7 ?_ ?_) <;> intro hb) <;> (simp only [go_sem, hb])) | ((first | refine wm_done ?_ | refine wt_done ?_ | refine wg_run ?_ | refine fk ?_ ?_) <;> (simp only [go_sem]))) | (first | refine cd (hc := hm) (hK := ?_) | refine cm (hc := hm) (hK := ?_) | refine ct (hc := hm) (hK := ?_)); (simp only [go_sem]))
  (refine hR _ (rat [] (hK := ⟨rfl, rfl⟩)))
end Go.Proofs.Ytfgjiamolknicaa
/- Terms: the casts of a term, on shadows. -/
namespace Go.Proofs.Grad
def ownCast (t : Tm) : List Tm := match t.kind == 14 with | true => [t] | false => []
mutual
def Tm.castsL : Tm → List Tm | .mk k n m t f b l => ownCast (.mk k n m t f b l) ++ Tm.castsLs l
def Tm.castsLs : List Tm → List Tm | [] => [] | t :: l => t.castsL ++ Tm.castsLs l
end
theorem Tm.castsL_eq (t : Tm) : t.castsL = ownCast t ++ Tm.castsLs t.kids := by cases t; rfl
theorem ownCast_len (t : Tm) : (ownCast t).length ≤ 1 := by unfold ownCast; split <;> simp
mutual
theorem Tm.castsL_len : ∀ t : Tm, t.castsL.length ≤ t.nodes
  | .mk k n m t f b l => by have := Tm.castsLs_len l; have := ownCast_len (.mk k n m t f b l); simp only [Tm.castsL, Tm.nodes, List.length_append]; omega
theorem Tm.castsLs_len : ∀ l : List Tm, (Tm.castsLs l).length ≤ Tm.nodess l
  | [] => by simp [Tm.castsLs]
  | t :: l => by have := Tm.castsL_len t; have := Tm.castsLs_len l; simp only [Tm.castsLs, Tm.nodess, List.length_append]; omega
end
theorem Tm.castsLs_append (l m : List Tm) : Tm.castsLs (l ++ m) = Tm.castsLs l ++ Tm.castsLs m := by
  induction l with
  | nil => rfl
  | cons t l ih => simp [Tm.castsLs, ih]
theorem Tm.castsLs_take {l : List Tm} {k : Nat} (h : k < l.length) : Tm.castsLs (l.take (k + 1)) = Tm.castsLs (l.take k) ++ (Sh.teKid l k).castsL := by
  rw [Sh.tetake_kid h, Tm.castsLs_append]; simp [Tm.castsLs]
theorem Tm.castsLs_take_len (l : List Tm) (k : Nat) : (Tm.castsLs (l.take k)).length ≤ Tm.nodess l := Nat.le_trans (Tm.castsLs_len _) (Tm.nodess_le_take l k)
/-- how many casts a valid term with casts has -/
noncomputable def Tm.castN (t : Tm) : Nat := match t.castV with | true => t.castsL.length | false => 0
end Go.Proofs.Grad
namespace Go.Proofs.Sh
attribute [go_sem] List.getD_cons_zero List.getD_cons_succ List.getD_nil
end Go.Proofs.Sh
namespace Go.Proofs.Ytfgjiamolknicaa
open Go.RowKit Go.Proofs.Sh Go.Proofs.Grad
set_option maxRecDepth 100000
set_option maxHeartbeats 8000000
theorem iCasts (n : Nat) (hn : n ≤ 274877906944) : ∀ t : Tm, t.size < n → AFn Try.prog 119 [.agg (teC t)] (.one (.sl (teR t.castsL))) := by
  induction n with
  | zero => intro t h; omega
  | succ n ih =>
    intro t h
    have hl := telen_lt t
    have hnl := t.nodes_le
    have hne := t.nodes_eq
    have e0 : ownCast t = (match t.kind == 14 with | true => [t] | false => []) := rfl
    cases hty : (t.kind == 14)
    all_goals
      rw [hty] at e0
      simp only [] at e0
      refine fn_in ?_; refine acl_in Try.func119 rfl isfn_119 (Nat.le_of_ble_eq_true rfl) (fun R hR => ?_); rw [Try.results119] at hR; refine wg_run ?_; (simp only [Try.f119, go_sem])
      repeat' (first | (simp only [go_sem, hty]) | (((first | refine sp1 ?_ ?_ | refine sp2 ?_ ?_ | refine sp3 ?_ ?_ | refine sp4 ?_ ?_ | refine sp5 ?_ ?_ | refine sp6 ?_ ?_ | refine sp7 ?_ ?_) <;> intro hb) <;> (simp only [go_sem, hb, hty])) | ((first | refine wm_done ?_ | refine wt_done ?_ | refine wg_run ?_ | refine fk ?_ ?_) <;> (simp only [go_sem, hty])))
      first
        | refine wd_for [3, 14, 15, 16] (fun (x : Nat × List Tm) => [.one (match x.2 with | [] => .sc (.slice none 0 0) | a :: l => .row 9 0 (l.length + 1)), .one (.sl (teR t.kids)), .one (.sc (.int .i64 t.kids.length)), .one (.sc (.int .i64 (x.1 : Nat)))])
            (fun x => match x.2 with | [] => [] | a :: l => [⟨9, 28, .mut, teR (a :: l)⟩])
            (fun x => x.1 ≤ t.kids.length ∧ x.2 = ownCast t ++ Tm.castsLs (t.kids.take x.1)) (fun x => t.kids.length - x.1) (0, []) ⟨Nat.zero_le _, by rw [e0]; rfl⟩ (hat [] (hI := ⟨rfl, rfl⟩)) ?_
        | refine wd_for [3, 14, 15, 16] (fun (x : Nat × List Tm) => [.one (match x.2 with | [] => .sc (.slice none 0 0) | a :: l => .row 9 0 (l.length + 1)), .one (.sl (teR t.kids)), .one (.sc (.int .i64 t.kids.length)), .one (.sc (.int .i64 (x.1 : Nat)))])
            (fun x => match x.2 with | [] => [] | a :: l => [⟨9, 28, .mut, teR (a :: l)⟩])
            (fun x => x.1 ≤ t.kids.length ∧ x.2 = ownCast t ++ Tm.castsLs (t.kids.take x.1)) (fun x => t.kids.length - x.1) (0, [t]) ⟨Nat.zero_le _, by rw [e0]; rfl⟩ (hat [2] (hI := ⟨rfl, rfl⟩)) ?_
      rintro ⟨k, acc⟩ ⟨hk, hacc⟩ G hG
      simp only [] at hk hacc hG
      have hal : acc.length ≤ 1 + Tm.nodess t.kids := by
        have := ownCast_len t; have := Tm.castsLs_take_len t.kids k
        rw [hacc, List.length_append]; omega
      rcases acc with _ | ⟨a, acc⟩
      all_goals
        refine wg_run ?_
        (simp only [go_sem])
        ((first | refine sp1 ?_ ?_ | refine sp2 ?_ ?_ | refine sp3 ?_ ?_ | refine sp4 ?_ ?_ | refine sp5 ?_ ?_ | refine sp6 ?_ ?_ | refine sp7 ?_ ?_) <;> intro hb) <;> (simp only [go_sem, hb])
        · have hk1 : k < t.kids.length := by have := of_decide_eq_true hb; omega
          have hw1 := wrap_succ hk1 (by omega)
          have hc := ih (by omega) (teKid t.kids k) (by have := teKid_lt hk1; omega)
          have hkl := Tm.castsL_len (teKid t.kids k)
          have hkn := Tm.nodess_le_take t.kids (k + 1)
          rw [Tm.nodess_take hk1] at hkn
          have hnx : ownCast t ++ Tm.castsLs (t.kids.take (k + 1)) = ownCast t ++ Tm.castsLs (t.kids.take k) ++ (teKid t.kids k).castsL := by rw [Tm.castsLs_take hk1, List.append_assoc]
          rw [← hacc] at hnx
          cases hkt : (teKid t.kids k).castsL with
          | nil =>
            rw [hkt] at hc hnx
            repeat' (first | (first | (simp only [go_sem, hw1, hb]) | (((first | refine sp1 ?_ ?_ | refine sp2 ?_ ?_ | refine sp3 ?_ ?_ | refine sp4 ?_ ?_ | refine sp5 ?_ ?_ | refine sp6 ?_ ?_ | refine sp7 ?_ ?_) <;> intro hb) <;> (simp only [go_sem, hb, hw1, hb])) | ((first | refine wm_done ?_ | refine wt_done ?_ | refine wg_run ?_ | refine fk ?_ ?_) <;> (simp only [go_sem, hw1, hb]))) | (first | refine cd (hc := hc) (hK := ?_) | refine cm (hc := hc) (hK := ?_) | refine ct (hc := hc) (hK := ?_)); (simp only [go_sem]))
            rw [List.append_nil] at hnx
            first
              | exact hG (k + 1, []) _ _ ⟨by omega, hnx.symm⟩ (by simp only []; omega) (hat [] (hI := ⟨rfl, rfl⟩))
              | exact hG (k + 1, a :: acc) _ _ ⟨by omega, hnx.symm⟩ (by simp only []; omega) (hat [0] (hI := ⟨rfl, rfl⟩))
          | cons b m =>
            rw [hkt] at hc hnx hkl
            simp only [List.length_cons] at hkl hal
            have hcap1 : (m.length + 1) * 128 ≤ 140737488355328 := by omega
            first
              | (have hcap2 : (acc.length + 1 + (m.length + 1)) * 128 ≤ 140737488355328 := by omega
                 repeat' (first | (first | (simp only [go_sem, hw1, hb, hcap1, hcap2]) | (((first | refine sp1 ?_ ?_ | refine sp2 ?_ ?_ | refine sp3 ?_ ?_ | refine sp4 ?_ ?_ | refine sp5 ?_ ?_ | refine sp6 ?_ ?_ | refine sp7 ?_ ?_) <;> intro hb) <;> (simp only [go_sem, hb, hw1, hb, hcap1, hcap2])) | ((first | refine wm_done ?_ | refine wt_done ?_ | refine wg_run ?_ | refine fk ?_ ?_) <;> (simp only [go_sem, hw1, hb, hcap1, hcap2]))) | (first | refine cd (hc := hc) (hK := ?_) | refine cm (hc := hc) (hK := ?_) | refine ct (hc := hc) (hK := ?_)); (simp only [go_sem]))
                 refine hG (k + 1, a :: acc ++ b :: m) _ _ ⟨by omega, hnx.symm⟩ (by simp only []; omega) (hat [2] (hI := ⟨?_, ?_⟩))
                 · simp only [List.cons_append, List.length_append, List.length_cons]
                   rw [show acc.length + 1 + (m.length + 1) = acc.length + (m.length + 1) + 1 by omega]
                 · simp only [List.cons_append, teR, teR_append])
              | (repeat' (first | (first | (simp only [go_sem, hw1, hb, hcap1]) | (((first | refine sp1 ?_ ?_ | refine sp2 ?_ ?_ | refine sp3 ?_ ?_ | refine sp4 ?_ ?_ | refine sp5 ?_ ?_ | refine sp6 ?_ ?_ | refine sp7 ?_ ?_) <;> intro hb) <;> (simp only [go_sem, hb, hw1, hb, hcap1])) | ((first | refine wm_done ?_ | refine wt_done ?_ | refine wg_run ?_ | refine fk ?_ ?_) <;> (simp only [go_sem, hw1, hb, hcap1]))) | (first | refine cd (hc := hc) (hK := ?_) | refine cm (hc := hc) (hK := ?_) | refine ct (hc := hc) (hK := ?_)); (simp only [go_sem]))
                 refine hG (k + 1, b :: m) _ _ ⟨by omega, hnx.symm⟩ (by simp only []; omega) (hat [1] (hI := ⟨rfl, rfl⟩)))
        · have hk1 : t.kids.take k = t.kids := List.take_of_length_le (by have := of_decide_eq_false hb; omega)
          rw [hk1, ← Tm.castsL_eq] at hacc
          (refine hR _ (rat [] (hK := ⟨?_, rfl⟩)))
          rw [← hacc]; rfl

end Go.Proofs.Ytfgjiamolknicaa
/- Terms: values, on shadows. -/
namespace Go.Proofs.Grad
def grTy (k : Int) : Ty := match k == 4 || k == 5 with | true => .mk k [.mk 1 [], .mk 1 []] | false => .mk k []
def Ty.isGr (t : Ty) : Bool := !(t.kind == 1) && t.same (grTy t.kind)
def proxyB (k : Int) (t f : Ty) : Bool := k == 14 && (f.kind == t.kind && (t.kind == 4 || t.kind == 5))
def injB (k : Int) (t f : Ty) : Bool := k == 14 && (t.kind == 1 && f.isGr)
def plainB (k : Int) : Bool := k == 2 || (k == 3 || (k == 4 || k == 5))
mutual
def Tm.isVal : Tm → Bool | .mk k _ _ t f _ ks => match k == 10 || (proxyB k t f || injB k t f) with | true => Tm.isVals ks | false => plainB k
def Tm.isVals : List Tm → Bool | [] => true | t :: l => t.isVal && Tm.isVals l
end
theorem Tm.isVals_all (l : List Tm) : Tm.isVals l = l.all Tm.isVal := by
  induction l with
  | nil => rfl
  | cons t l ih => simp [Tm.isVals, ih]
theorem Tm.isVal_eq (t : Tm) : t.isVal = (match t.kind == 10 || (proxyB t.kind t.type t.frm || injB t.kind t.type t.frm) with | true => Tm.isVals t.kids | false => plainB t.kind) := by cases t; rfl
theorem T.ground_ty (x : T) : x.ground.ty = grTy x.ty.kind := by cases x <;> rfl
end Go.Proofs.Grad
namespace Go.Proofs.Ytfgjiamolknicaa
open Go.RowKit Go.Proofs.Sh Go.Proofs.Grad
set_option maxRecDepth 100000
set_option maxHeartbeats 8000000
theorem iGroundR (k : Int) : AFn Try.prog 188 [.one (.sc (.int .i64 k))] (.agg (tyC (grTy k))) := by
  have hb := both k (.mk 1 []) (.mk 1 [])
  have h1 := base 1
  have h0 := base k
  unfold grTy
  cases h4 : (k == 4)
  · cases h5 : (k == 5)
    all_goals
      refine fn_in ?_; refine acl_in Try.func188 rfl isfn_188 (Nat.le_of_ble_eq_true rfl) (fun R hR => ?_); rw [Try.results188] at hR; refine wg_run ?_; (simp only [Try.f188, go_sem, h4, h5])
      repeat' (first | (first | (simp only [go_sem, h4, h5]) | (((first | refine sp1 ?_ ?_ | refine sp2 ?_ ?_ | refine sp3 ?_ ?_ | refine sp4 ?_ ?_ | refine sp5 ?_ ?_ | refine sp6 ?_ ?_ | refine sp7 ?_ ?_) <;> intro hb) <;> (simp only [go_sem, hb, h4, h5])) | ((first | refine wm_done ?_ | refine wt_done ?_ | refine wg_run ?_ | refine fk ?_ ?_) <;> (simp only [go_sem, h4, h5]))) | ((first | refine mx 6 [] follows ?_ | refine mx 5 [] follows ?_ | refine mx 4 [] follows ?_ | refine mx 3 [] follows ?_ | refine mx 2 [] follows ?_ | refine mx 1 [] follows ?_ | refine mx 0 [] follows ?_ | fail); (simp only [go_sem, h4, h5])) | (first | refine cd (hc := h1) (hK := ?_) | refine cm (hc := h1) (hK := ?_) | refine ct (hc := h1) (hK := ?_)); (simp only [go_sem]) | (first | refine cd (hc := h0) (hK := ?_) | refine cm (hc := h0) (hK := ?_) | refine ct (hc := h0) (hK := ?_)); (simp only [go_sem]) | (first | refine cd (hc := hb) (hK := ?_) | refine cm (hc := hb) (hK := ?_) | refine ct (hc := hb) (hK := ?_)); (simp only [go_sem]))
      (refine hR _ (rat [] (hK := ⟨?_, rfl⟩)))
      rfl
  · refine fn_in ?_; refine acl_in Try.func188 rfl isfn_188 (Nat.le_of_ble_eq_true rfl) (fun R hR => ?_); rw [Try.results188] at hR; refine wg_run ?_; (simp only [Try.f188, go_sem, h4])
    repeat' (first | (first | (simp only [go_sem, h4]) | (((first | refine sp1 ?_ ?_ | refine sp2 ?_ ?_ | refine sp3 ?_ ?_ | refine sp4 ?_ ?_ | refine sp5 ?_ ?_ | refine sp6 ?_ ?_ | refine sp7 ?_ ?_) <;> intro hb) <;> (simp only [go_sem, hb, h4])) | ((first | refine wm_done ?_ | refine wt_done ?_ | refine wg_run ?_ | refine fk ?_ ?_) <;> (simp only [go_sem, h4]))) | ((first | refine mx 6 [] follows ?_ | refine mx 5 [] follows ?_ | refine mx 4 [] follows ?_ | refine mx 3 [] follows ?_ | refine mx 2 [] follows ?_ | refine mx 1 [] follows ?_ | refine mx 0 [] follows ?_ | fail); (simp only [go_sem, h4])) | (first | refine cd (hc := h1) (hK := ?_) | refine cm (hc := h1) (hK := ?_) | refine ct (hc := h1) (hK := ?_)); (simp only [go_sem]) | (first | refine cd (hc := h0) (hK := ?_) | refine cm (hc := h0) (hK := ?_) | refine ct (hc := h0) (hK := ?_)); (simp only [go_sem]) | (first | refine cd (hc := hb) (hK := ?_) | refine cm (hc := hb) (hK := ?_) | refine ct (hc := hb) (hK := ?_)); (simp only [go_sem]))
    (refine hR _ (rat [] (hK := ⟨?_, rfl⟩)))
    rfl
theorem sSame (n : Nat) (hn : n ≤ 4611686018427387904) : ∀ a b : Ty, a.size < n → AFn Try.prog 142 [.agg (tyC a), .agg (tyC b)] (.one (.sc (.bool (a.same b)))) := by
  induction n with
  | zero => intro a b h; omega
  | succ n ih =>
    intro a b h
    have hl : a.kids.length < 4611686018427387904 := by have := Ty.length_le_sizes a.kids; cases a; simp only [Ty.size, Ty.kids] at *; omega
    have e : a.same b = (a.kind == b.kind && all2 Ty.same a.kids b.kids) := by cases a; cases b; simp only [Ty.same, Ty.kind, Ty.kids, Ty.sames_all2]
    rw [e]
    cases hk : (a.kind == b.kind)
    · refine fn_in ?_; refine acl_in Try.func142 rfl isfn_142 (Nat.le_of_ble_eq_true rfl) (fun R hR => ?_); rw [Try.results142] at hR; refine wg_run ?_; (simp only [Try.f142, go_sem, hk, int_bne])
      repeat' (first | (simp only [go_sem, hk, int_bne]) | (((first | refine sp1 ?_ ?_ | refine sp2 ?_ ?_ | refine sp3 ?_ ?_ | refine sp4 ?_ ?_ | refine sp5 ?_ ?_ | refine sp6 ?_ ?_ | refine sp7 ?_ ?_) <;> intro hb) <;> (simp only [go_sem, hb, hk, int_bne])) | ((first | refine wm_done ?_ | refine wt_done ?_ | refine wg_run ?_ | refine fk ?_ ?_) <;> (simp only [go_sem, hk, int_bne])))
      (refine hR _ (rat [] (hK := ⟨rfl, rfl⟩)))
    · by_cases hlm : a.kids.length = b.kids.length
      · have hb0 : ((a.kids.length : Int) == (b.kids.length : Int)) = true := by simp; omega
        refine fn_in ?_; refine acl_in Try.func142 rfl isfn_142 (Nat.le_of_ble_eq_true rfl) (fun R hR => ?_); rw [Try.results142] at hR; refine wg_run ?_; (simp only [Try.f142, go_sem, hk, int_bne, hb0])
        repeat' (first | (simp only [go_sem, hk, int_bne, hb0]) | (((first | refine sp1 ?_ ?_ | refine sp2 ?_ ?_ | refine sp3 ?_ ?_ | refine sp4 ?_ ?_ | refine sp5 ?_ ?_ | refine sp6 ?_ ?_ | refine sp7 ?_ ?_) <;> intro hb) <;> (simp only [go_sem, hb, hk, int_bne, hb0])) | ((first | refine wm_done ?_ | refine wt_done ?_ | refine wg_run ?_ | refine fk ?_ ?_) <;> (simp only [go_sem, hk, int_bne, hb0])))
        refine wd_for [2, 3, 5] (fun k => [.one (.ptr 2 0 0 0), .one (.ptr 2 1 0 0), .one (.sc (.int .i64 (k : Nat)))]) (fun _ => [⟨2, 25, .mut, [tyC a]⟩, ⟨2, 25, .mut, [tyC b]⟩])
          (fun k => k ≤ a.kids.length ∧ all2 Ty.same (a.kids.drop k) (b.kids.drop k) = all2 Ty.same a.kids b.kids) (fun k => a.kids.length - k) 0 ⟨Nat.zero_le _, rfl⟩ (hat [0, 1] (hI := ⟨rfl, rfl⟩)) ?_
        rintro k ⟨hk0, hs⟩ G hG
        refine wg_run ?_
        (simp only [go_sem])
        ((first | refine sp1 ?_ ?_ | refine sp2 ?_ ?_ | refine sp3 ?_ ?_ | refine sp4 ?_ ?_ | refine sp5 ?_ ?_ | refine sp6 ?_ ?_ | refine sp7 ?_ ?_) <;> intro hb) <;> (simp only [go_sem, hb])
        · have hk1 : k < a.kids.length := by have := of_decide_eq_true hb; omega
          have hk2 : decide ((k : Int) < (b.kids.length : Int)) = true := by simp; omega
          have hw1 := wrap_succ hk1 (by omega)
          rw [drop_kid hk1, drop_kid (by omega : k < b.kids.length), all2] at hs
          have hc := ih (by omega) (kid a.kids k) (kid b.kids k) (by have := kid_lt hk1; omega)
          repeat' (first | (first | (simp only [go_sem, hb, hk2, hw1]) | (((first | refine sp1 ?_ ?_ | refine sp2 ?_ ?_ | refine sp3 ?_ ?_ | refine sp4 ?_ ?_ | refine sp5 ?_ ?_ | refine sp6 ?_ ?_ | refine sp7 ?_ ?_) <;> intro hb) <;> (simp only [go_sem, hb, hb, hk2, hw1])) | ((first | refine wm_done ?_ | refine wt_done ?_ | refine wg_run ?_ | refine fk ?_ ?_) <;> (simp only [go_sem, hb, hk2, hw1]))) | ((first | refine mx 6 [] follows ?_ | refine mx 5 [] follows ?_ | refine mx 4 [] follows ?_ | refine mx 3 [] follows ?_ | refine mx 2 [] follows ?_ | refine mx 1 [] follows ?_ | refine mx 0 [] follows ?_ | fail); (simp only [go_sem, hb, hk2])) | (first | refine cd (hc := hc) (hK := ?_) | refine cm (hc := hc) (hK := ?_) | refine ct (hc := hc) (hK := ?_)); (simp only [go_sem]))
          · exact hG (k + 1) _ _ ⟨by omega, by simpa [hb] using hs⟩ (by omega) (hat [0, 1] (hI := ⟨rfl, rfl⟩))
          · (refine hR _ (rat [] (hK := ⟨?_, rfl⟩)))
            simpa [hb] using hs
        · have hk1 : ¬ k < a.kids.length := by have := of_decide_eq_false hb; omega
          rw [List.drop_eq_nil_of_le (by omega), List.drop_eq_nil_of_le (by omega), all2] at hs
          (refine hR _ (rat [] (hK := ⟨?_, rfl⟩)))
          rw [← hs]; rfl
      · have hb0 : ((a.kids.length : Int) == (b.kids.length : Int)) = false := by simp; omega
        refine fn_in ?_; refine acl_in Try.func142 rfl isfn_142 (Nat.le_of_ble_eq_true rfl) (fun R hR => ?_); rw [Try.results142] at hR; refine wg_run ?_; (simp only [Try.f142, go_sem, hk, int_bne, hb0])
        repeat' (first | (simp only [go_sem, hk, int_bne, hb0]) | (((first | refine sp1 ?_ ?_ | refine sp2 ?_ ?_ | refine sp3 ?_ ?_ | refine sp4 ?_ ?_ | refine sp5 ?_ ?_ | refine sp6 ?_ ?_ | refine sp7 ?_ ?_) <;> intro hb) <;> (simp only [go_sem, hb, hk, int_bne, hb0])) | ((first | refine wm_done ?_ | refine wt_done ?_ | refine wg_run ?_ | refine fk ?_ ?_) <;> (simp only [go_sem, hk, int_bne, hb0])))
        (refine hR _ (rat [] (hK := ⟨?_, rfl⟩)))
        rw [all2_len hlm]; rfl
noncomputable def isValV (t : Tm) : Bool := t.castV && t.isVal
end Go.Proofs.Ytfgjiamolknicaa
/- Terms: casts simplified, on shadows. -/
namespace Go.Proofs.Grad
def backB (s t : T) : E → Bool
  | .cast s' t' _ _ => t'.ty.kind == 1 && (s.ty.kind == 1 && s'.ty.same t.ty)
  | _ => false
def E.kid0 : E → E
  | .cast _ _ _ b => b
  | e => e
/-- a cast that does nothing, or that undoes the one below it, away -/
def E.simp1 : E → E
  | .cast s t l a => match s.ty.same t.ty with | true => a | false => (match backB s t a with | true => a.kid0 | false => .cast s t l a)
  | e => e
theorem E.kid0_wf {e : E} (h : e.wf = true) : e.kid0.wf = true := by
  cases e <;> simp only [E.kid0] <;> first | exact h | (simp only [E.wf, Bool.and_eq_true] at h; exact h.2.2.2)
theorem E.simp1_wf (x : E) (h : x.wf = true) : x.simp1.wf = true := by
  cases x <;> simp only [E.simp1] <;> try exact h
  rename_i s t l a
  have ha : a.wf = true := by simp only [E.wf, Bool.and_eq_true] at h; exact h.2.2.2
  split
  · exact ha
  · split
    · exact E.kid0_wf ha
    · exact h
def E.simp (e : E) : E := e.mapE E.simp1
theorem E.simp_wf (e : E) (h : e.wf = true) : e.simp.wf = true := E.mapE_wf E.simp1_wf e h
end Go.Proofs.Grad
namespace Go.Proofs.Ytfgjiamolknicaa
open Go.RowKit Go.Proofs.Sh Go.Proofs.Grad
set_option maxRecDepth 100000
set_option maxHeartbeats 8000000
theorem iSimplified (x : E) (h : x.wf = true) : AFn Try.prog 83 [.agg (teC x.tm)] (.agg (teC x.simp1.tm)) := by
  cases x with
  | cast s t l a =>
    simp only [E.wf, Bool.and_eq_true, decide_eq_true_eq] at h
    have h1 := iSame 1000 (by omega) s.ty t.ty (T.ty_small h.1.1)
    simp only [E.simp1]
    cases e1 : s.ty.same t.ty
    · rw [e1] at h1
      cases a with
      | cast s' t' l' b =>
        have h2 := iSame 1000 (by omega) t.ty s'.ty (T.ty_small h.1.2)
        rw [Ty.same_comm] at h2
        have e2 : backB s t (.cast s' t' l' b) = (t'.ty.kind == 1 && (s.ty.kind == 1 && s'.ty.same t.ty)) := rfl
        rw [e2]
        simp only [E.tm, nd, E.kid0]
        cases e3 : (t'.ty.kind == 1) <;> cases e4 : (s.ty.kind == 1) <;> cases e5 : s'.ty.same t.ty
        all_goals
          rw [e5] at h2
          refine fn_in ?_; refine acl_in Try.func83 rfl isfn_83 (Nat.le_of_ble_eq_true rfl) (fun R hR => ?_); rw [Try.results83] at hR; refine wg_run ?_; (simp only [Try.f83, go_sem])
          repeat' (first | (first | (simp only [go_sem, int_bne, e3, e4]) | (((first | refine sp1 ?_ ?_ | refine sp2 ?_ ?_ | refine sp3 ?_ ?_ | refine sp4 ?_ ?_ | refine sp5 ?_ ?_ | refine sp6 ?_ ?_ | refine sp7 ?_ ?_) <;> intro hb) <;> (simp only [go_sem, hb, int_bne, e3, e4])) | ((first | refine wm_done ?_ | refine wt_done ?_ | refine wg_run ?_ | refine fk ?_ ?_) <;> (simp only [go_sem, int_bne, e3, e4]))) | (first | refine cd (hc := h1) (hK := ?_) | refine cm (hc := h1) (hK := ?_) | refine ct (hc := h1) (hK := ?_)); (simp only [go_sem]) | (first | refine cd (hc := h2) (hK := ?_) | refine cm (hc := h2) (hK := ?_) | refine ct (hc := h2) (hK := ?_)); (simp only [go_sem]))
          (refine hR _ (rat [] (hK := ⟨?_, rfl⟩)))
          simp only [Bool.true_and, Bool.false_and, Bool.and_false, Bool.and_true, E.tm]
          try rfl
      | _ =>
        simp only [backB, E.tm, nd]
        cases e4 : (s.ty.kind == 1)
        all_goals
          refine fn_in ?_; refine acl_in Try.func83 rfl isfn_83 (Nat.le_of_ble_eq_true rfl) (fun R hR => ?_); rw [Try.results83] at hR; refine wg_run ?_; (simp only [Try.f83, go_sem])
          repeat' (first | (first | (simp only [go_sem, int_bne, e4]) | (((first | refine sp1 ?_ ?_ | refine sp2 ?_ ?_ | refine sp3 ?_ ?_ | refine sp4 ?_ ?_ | refine sp5 ?_ ?_ | refine sp6 ?_ ?_ | refine sp7 ?_ ?_) <;> intro hb) <;> (simp only [go_sem, hb, int_bne, e4])) | ((first | refine wm_done ?_ | refine wt_done ?_ | refine wg_run ?_ | refine fk ?_ ?_) <;> (simp only [go_sem, int_bne, e4]))) | (first | refine cd (hc := h1) (hK := ?_) | refine cm (hc := h1) (hK := ?_) | refine ct (hc := h1) (hK := ?_)); (simp only [go_sem]))
          (refine hR _ (rat [] (hK := ⟨rfl, rfl⟩)))
    · rw [e1] at h1
      simp only [E.tm]
      refine fn_in ?_; refine acl_in Try.func83 rfl isfn_83 (Nat.le_of_ble_eq_true rfl) (fun R hR => ?_); rw [Try.results83] at hR; refine wg_run ?_; (simp only [Try.f83, go_sem])
      repeat' (first | (first | (simp only [go_sem, int_bne]) | (((first | refine sp1 ?_ ?_ | refine sp2 ?_ ?_ | refine sp3 ?_ ?_ | refine sp4 ?_ ?_ | refine sp5 ?_ ?_ | refine sp6 ?_ ?_ | refine sp7 ?_ ?_) <;> intro hb) <;> (simp only [go_sem, hb, int_bne])) | ((first | refine wm_done ?_ | refine wt_done ?_ | refine wg_run ?_ | refine fk ?_ ?_) <;> (simp only [go_sem, int_bne]))) | (first | refine cd (hc := h1) (hK := ?_) | refine cm (hc := h1) (hK := ?_) | refine ct (hc := h1) (hK := ?_)); (simp only [go_sem]))
      (refine hR _ (rat [] (hK := ⟨rfl, rfl⟩)))
  | _ =>
    simp only [E.tm, nd, E.simp1]
    refine fn_in ?_; refine acl_in Try.func83 rfl isfn_83 (Nat.le_of_ble_eq_true rfl) (fun R hR => ?_); rw [Try.results83] at hR; refine wg_run ?_; (simp only [Try.f83, go_sem])
    repeat' (first | (simp only [go_sem, int_bne]) | (((first | refine sp1 ?_ ?_ | refine sp2 ?_ ?_ | refine sp3 ?_ ?_ | refine sp4 ?_ ?_ | refine sp5 ?_ ?_ | refine sp6 ?_ ?_ | refine sp7 ?_ ?_) <;> intro hb) <;> (simp only [go_sem, hb, int_bne])) | ((first | refine wm_done ?_ | refine wt_done ?_ | refine wg_run ?_ | refine fk ?_ ?_) <;> (simp only [go_sem, int_bne])))
    (refine hR _ (rat [] (hK := ⟨rfl, rfl⟩)))
theorem iSimp (e : E) (h : e.wf = true) : AFn Try.prog 82 [.agg (teC e.tm), .one (.fn 83 [])] (.agg (teC e.simp.tm)) :=
  iMapped 83 E.simp1 E.simp1_wf iSimplified e h
end Go.Proofs.Ytfgjiamolknicaa
