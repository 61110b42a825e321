/- Texts of the proof, one behind another. -/
import Derived.Laws.BitsLemmas
import Derived.Test.YtchcbfbnffhifaaKV8
import Derived.Test.YtchcbfbnffhifaaKV11
import Derived.Test.YtchcbfbnffhifaaKV15
import Derived.Test.YtchcbfbnffhifaaKV18
set_option linter.unusedSimpArgs false
set_option linter.unusedVariables false
/- Copies from the law's types and terms to the program's, owned. On shadows. -/
namespace Go.Proofs.Ytchcbfbnffhifaa
open Go.RowKit Go.Proofs.Sh Go.Proofs.Grad
set_option maxRecDepth 100000
set_option maxHeartbeats 8000000
theorem toTySO (n : Nat) (ih : ∀ t : Ty, t.size < n → ACl Try.prog 47 [.agg (tyC t)] [] (OwnK (tyC t) .agg)) (l : List Ty) (hn : Ty.sizes l < n) (hlen : l.length < 1099511627776) :
    ACl Try.prog 97 [.one (.sl (tyR l))] [] (OwnK [.sl (tyR l)] Sh.one1) := by
  have hcap : decide ((32 : Int) * (l.length : Int) ≤ 140737488355328 ∧ (l.length : Int) ≤ 140737488355328) = true := by simp; omega
  refine acl_in Try.func97 rfl isfn_97 (Nat.le_of_ble_eq_true rfl) (fun R hR => ?_); rw [Try.results97] at hR; refine wg_run ?_; (simp only [Try.f97, go_sem, hcap])
  refine wd_for (σ := Nat × List (List C) × List Blk) [0, 3, 4] (fun x => [.one (.sl (tyR l)), .one (.row 2 0 l.length), .one (.sc (.int .i64 (x.1 : Nat)))]) (fun x => ⟨2, 32, .mut, x.2.1⟩ :: x.2.2)
    (fun x => x.1 ≤ l.length ∧ Filled 2 1 (tyR (l.take x.1)) (l.length - x.1) [.sc (.int .i64 0), .sc (.slice none 0 0)] x.2.1 x.2.2) (fun x => l.length - x.1) (0, List.replicate l.length [.sc (.int .i64 0), .sc (.slice none 0 0)], []) ⟨Nat.zero_le _, Filled.zero⟩ (head_all (by (simp only [go_sem]); first | done | rfl) ⟨rfl, rfl⟩) ?_
  rintro ⟨k, rows, T⟩ ⟨hk, hI⟩ G hG
  simp only at hk hI hG ⊢
  refine wg_run ?_
  (simp only [go_sem])
  ((first | apply sp1 | apply sp2 | apply sp3 | apply sp4 | apply sp5 | apply sp6 | apply sp7) <;> intro hb) <;> (simp only [go_sem, hb])
  · have hk1 : k < l.length := by have := of_decide_eq_true hb; omega
    have hw1 := wrap_succ hk1 (by omega)
    have hkn : decide (k < l.length) = true := by simpa using hk1
    have hlt : (tyR (l.take k)).length = k := by rw [tyR_length, List.length_take]; omega
    rw [show l.length - k = (l.length - (k + 1)) + 1 from by omega] at hI
    have hrow := hI.get
    rw [hlt] at hrow
    repeat' (first | (first | (simp only [go_sem, hb, hw1, hkn, hrow]) | (((first | apply sp1 | apply sp2 | apply sp3 | apply sp4 | apply sp5 | apply sp6 | apply sp7) <;> intro hb) <;> (simp only [go_sem, hb, hb, hw1, hkn, hrow])) | ((first | apply wm_done | apply wt_done | apply wg_run | refine fk ?_ ?_) <;> (simp only [go_sem, hb, hw1, hkn, hrow]))) | ((first | refine mxq6 [] ?_ | refine mxq5 [] ?_ | refine mxq4 [] ?_ | refine mxq3 [] ?_ | refine mxq2 [] ?_ | refine mxq1 [] ?_ | refine mxq0 [] ?_ | fail); (simp only [go_sem, hb, hkn, hrow])))
    refine wd_any (acalls_own (.cons (.same (by (simp only [go_sem]); first | done | rfl)) .nil) (ih (kid l k) (by rw [kid_eq hk1]; have := Ty.sizes_mem (List.getElem_mem hk1); omega)) (fun _ h => h) ren_agg) ?_
    rintro _ h' ⟨cs, d, ids, rfl, e1, e2, e3, e4, e5⟩
    obtain ⟨T', rfl, f1, f2⟩ := pre1 e4 e5
    have hcs : cs.length = 2 := by rw [← fzL_len e1]; (simp only [go_sem])
    have hx := hI.next (pre := [_]) rfl f2 e1 hcs e2 (fun b hb => by have := (e3 b hb).1; simp only [List.length_cons] at this; omega)
    rw [hlt] at hx
    (simp only [go_sem, hcs, hkn, hrow])
    repeat' (first | (first | (simp only [go_sem, hb, hw1, hkn, hrow, hcs]) | (((first | apply sp1 | apply sp2 | apply sp3 | apply sp4 | apply sp5 | apply sp6 | apply sp7) <;> intro hb) <;> (simp only [go_sem, hb, hb, hw1, hkn, hrow, hcs])) | ((first | apply wm_done | apply wt_done | apply wg_run | refine fk ?_ ?_) <;> (simp only [go_sem, hb, hw1, hkn, hrow, hcs]))))
    refine hG (k + 1, _, _) _ _ ⟨by omega, ?_⟩ (by simp only; omega) (head_all (by (simp only [go_sem]); first | done | rfl) ⟨rfl, rfl⟩)
    simp only [tyR_take hk1]
    exact hx
  · have hk1 : k = l.length := by have := of_decide_eq_false hb; omega
    subst hk1
    rw [List.take_length, Nat.sub_self] at hI
    obtain ⟨d, js, h1, h2⟩ := hI.all (pre := [⟨2, 32, .mut, rows⟩]) (b := 0) (n := l.length) rfl (by omega) rfl rfl rfl rfl (by rw [tyR_length])
    exact hR _ (ret_ownK (F := Sh.one1) (cs := [.row 2 0 l.length]) (d := d) (by (simp only [go_sem]); first | done | rfl) (owL_one h1) h2 (prVs_one1 (owL_one h1)))
theorem toTyO (n : Nat) (hn : n ≤ 1099511627776) : ∀ t : Ty, t.size < n → ACl Try.prog 47 [.agg (tyC t)] [] (OwnK (tyC t) .agg) := by
  induction n with
  | zero => intro t h; omega
  | succ n ih =>
    intro t h
    have hc := toTySO n (ih (by omega)) t.kids (by cases t; simp only [Ty.size, Ty.kids] at *; omega) (by have := Ty.length_le_sizes t.kids; cases t; simp only [Ty.size, Ty.kids] at *; omega)
    refine acl_in Try.func47 rfl isfn_47 (Nat.le_of_ble_eq_true rfl) (fun R hR => ?_); rw [Try.results47] at hR; refine wg_run ?_; (simp only [Try.f47, go_sem])
    repeat' (first | (first | (((first | apply sp1 | apply sp2 | apply sp3 | apply sp4 | apply sp5 | apply sp6 | apply sp7) <;> intro hb) <;> (simp only [go_sem, hb])) | ((first | apply wm_done | apply wt_done | apply wg_run | refine fk ?_ ?_) <;> (simp only [go_sem]))) | ((first | refine mxq6 [] ?_ | refine mxq5 [] ?_ | refine mxq4 [] ?_ | refine mxq3 [] ?_ | refine mxq2 [] ?_ | refine mxq1 [] ?_ | refine mxq0 [] ?_ | fail); (simp only [go_sem])))
    refine wd_any (acalls_own (.cons (.same (by (simp only [go_sem]); first | done | rfl)) .nil) hc one1_flat one1_ren) ?_
    rintro _ h' ⟨cs, d, ids, rfl, e1, e2, e3, e4, e5⟩
    obtain ⟨T', rfl, f1, f2⟩ := pre3 e4 e5
    obtain ⟨c, cs', i, j, rfl, g1, g2, rfl⟩ := fzL_cons e1
    obtain ⟨rfl, rfl⟩ := fzL_nil g2
    rw [List.append_nil] at e2 e3
    simp only [Sh.one1, List.getD_cons_zero]
    (simp only [go_sem])
    repeat' (first | (first | (((first | apply sp1 | apply sp2 | apply sp3 | apply sp4 | apply sp5 | apply sp6 | apply sp7) <;> intro hb) <;> (simp only [go_sem, hb])) | ((first | apply wm_done | apply wt_done | apply wg_run | refine fk ?_ ?_) <;> (simp only [go_sem]))) | ((first | refine mxq6 [] ?_ | refine mxq5 [] ?_ | refine mxq4 [] ?_ | refine mxq3 [] ?_ | refine mxq2 [] ?_ | refine mxq1 [] ?_ | refine mxq0 [] ?_ | fail); (simp only [go_sem])))
    refine hR _ (ret_ownK (d := d) (ids := i) (by (simp only [go_sem]); first | done | rfl) ?_ e2 (fun _ => prVs_agg))
    rw [tyC_eq]
    refine owL_two (ow_frame (h := _ :: _ :: _ :: T') g1 (fun b hb => ?_))
    have hb3 : 3 ≤ b := by have := (e3 b hb).1; simp only [List.length_cons] at this; omega
    obtain ⟨b, rfl⟩ : ∃ x, b = x + 3 := ⟨b - 3, by omega⟩
    rfl
theorem toTmSO (n : Nat) (ih : ∀ t : Tm, t.size < n → ACl Try.prog 17 [.agg (teC t)] [] (OwnK (teC t) .agg)) (l : List Tm) (hn : Tm.sizes l < n) (hlen : l.length < 1099511627776) :
    ACl Try.prog 48 [.one (.sl (teR l))] [] (OwnK [.sl (teR l)] Sh.one1) := by
  have hcap : decide ((128 : Int) * (l.length : Int) ≤ 140737488355328 ∧ (l.length : Int) ≤ 140737488355328) = true := by simp; omega
  refine acl_in Try.func48 rfl isfn_48 (Nat.le_of_ble_eq_true rfl) (fun R hR => ?_); rw [Try.results48] at hR; refine wg_run ?_; (simp only [Try.f48, go_sem, hcap])
  refine wd_for (σ := Nat × List (List C) × List Blk) [0, 3, 4] (fun x => [.one (.sl (teR l)), .one (.row 9 0 l.length), .one (.sc (.int .i64 (x.1 : Nat)))]) (fun x => ⟨9, 35, .mut, x.2.1⟩ :: x.2.2)
    (fun x => x.1 ≤ l.length ∧ Filled 9 1 (teR (l.take x.1)) (l.length - x.1) [.sc (.int .i64 0), .sc (.string ByteArray.empty), .sc (.int .i64 0), .sc (.int .i64 0), .sc (.slice none 0 0), .sc (.int .i64 0), .sc (.slice none 0 0), .sc (.int .i64 0), .sc (.slice none 0 0)] x.2.1 x.2.2) (fun x => l.length - x.1) (0, List.replicate l.length [.sc (.int .i64 0), .sc (.string ByteArray.empty), .sc (.int .i64 0), .sc (.int .i64 0), .sc (.slice none 0 0), .sc (.int .i64 0), .sc (.slice none 0 0), .sc (.int .i64 0), .sc (.slice none 0 0)], []) ⟨Nat.zero_le _, Filled.zero⟩ (head_all (by (simp only [go_sem]); first | done | rfl) ⟨rfl, rfl⟩) ?_
  rintro ⟨k, rows, T⟩ ⟨hk, hI⟩ G hG
  simp only at hk hI hG ⊢
  refine wg_run ?_
  (simp only [go_sem])
  ((first | apply sp1 | apply sp2 | apply sp3 | apply sp4 | apply sp5 | apply sp6 | apply sp7) <;> intro hb) <;> (simp only [go_sem, hb])
  · have hk1 : k < l.length := by have := of_decide_eq_true hb; omega
    have hw1 := wrap_succ hk1 (by omega)
    have hkn : decide (k < l.length) = true := by simpa using hk1
    have hlt : (teR (l.take k)).length = k := by rw [teR_length, List.length_take]; omega
    rw [show l.length - k = (l.length - (k + 1)) + 1 from by omega] at hI
    have hrow := hI.get
    rw [hlt] at hrow
    repeat' (first | (first | (simp only [go_sem, hb, hw1, hkn, hrow]) | (((first | apply sp1 | apply sp2 | apply sp3 | apply sp4 | apply sp5 | apply sp6 | apply sp7) <;> intro hb) <;> (simp only [go_sem, hb, hb, hw1, hkn, hrow])) | ((first | apply wm_done | apply wt_done | apply wg_run | refine fk ?_ ?_) <;> (simp only [go_sem, hb, hw1, hkn, hrow]))) | ((first | refine mxq6 [] ?_ | refine mxq5 [] ?_ | refine mxq4 [] ?_ | refine mxq3 [] ?_ | refine mxq2 [] ?_ | refine mxq1 [] ?_ | refine mxq0 [] ?_ | fail); (simp only [go_sem, hb, hkn, hrow])))
    refine wd_any (acalls_own (.cons (.same (by (simp only [go_sem]); first | done | rfl)) .nil) (ih (teKid l k) (by rw [teKid_eq hk1]; have := tesizes_mem (List.getElem_mem hk1); omega)) (fun _ h => h) ren_agg) ?_
    rintro _ h' ⟨cs, d, ids, rfl, e1, e2, e3, e4, e5⟩
    obtain ⟨T', rfl, f1, f2⟩ := pre1 e4 e5
    have hcs : cs.length = 9 := by rw [← fzL_len e1]; (simp only [go_sem])
    have hx := hI.next (pre := [_]) rfl f2 e1 hcs e2 (fun b hb => by have := (e3 b hb).1; simp only [List.length_cons] at this; omega)
    rw [hlt] at hx
    (simp only [go_sem, hcs, hkn, hrow])
    repeat' (first | (first | (simp only [go_sem, hb, hw1, hkn, hrow, hcs]) | (((first | apply sp1 | apply sp2 | apply sp3 | apply sp4 | apply sp5 | apply sp6 | apply sp7) <;> intro hb) <;> (simp only [go_sem, hb, hb, hw1, hkn, hrow, hcs])) | ((first | apply wm_done | apply wt_done | apply wg_run | refine fk ?_ ?_) <;> (simp only [go_sem, hb, hw1, hkn, hrow, hcs]))))
    refine hG (k + 1, _, _) _ _ ⟨by omega, ?_⟩ (by simp only; omega) (head_all (by (simp only [go_sem]); first | done | rfl) ⟨rfl, rfl⟩)
    simp only [teR_take hk1]
    exact hx
  · have hk1 : k = l.length := by have := of_decide_eq_false hb; omega
    subst hk1
    rw [List.take_length, Nat.sub_self] at hI
    obtain ⟨d, js, h1, h2⟩ := hI.all (pre := [⟨9, 35, .mut, rows⟩]) (b := 0) (n := l.length) rfl (by omega) rfl rfl rfl rfl (by rw [teR_length])
    exact hR _ (ret_ownK (F := Sh.one1) (cs := [.row 9 0 l.length]) (d := d) (by (simp only [go_sem]); first | done | rfl) (owL_one h1) h2 (prVs_one1 (owL_one h1)))
theorem toTmO (n : Nat) (hn : n ≤ 1099511627776) : ∀ t : Tm, t.size < n → ACl Try.prog 17 [.agg (teC t)] [] (OwnK (teC t) .agg) := by
  induction n with
  | zero => intro t h; omega
  | succ n ih =>
    intro t h
    have hc := toTmSO n (ih (by omega)) t.kids (by cases t; simp only [Tm.size, Tm.kids] at *; omega) (by have := telen_lt t; omega)
    have a1 := toTyO (n + 1) hn t.type (by cases t; simp only [Tm.size, Tm.type] at *; omega)
    have a2 := toTyO (n + 1) hn t.frm (by cases t; simp only [Tm.size, Tm.frm] at *; omega)
    refine acl_in Try.func17 rfl isfn_17 (Nat.le_of_ble_eq_true rfl) (fun R hR => ?_); rw [Try.results17] at hR; refine wg_run ?_; (simp only [Try.f17, go_sem])
    repeat' (first | (first | (((first | apply sp1 | apply sp2 | apply sp3 | apply sp4 | apply sp5 | apply sp6 | apply sp7) <;> intro hb) <;> (simp only [go_sem, hb])) | ((first | apply wm_done | apply wt_done | apply wg_run | refine fk ?_ ?_) <;> (simp only [go_sem]))) | ((first | refine mxq6 [] ?_ | refine mxq5 [] ?_ | refine mxq4 [] ?_ | refine mxq3 [] ?_ | refine mxq2 [] ?_ | refine mxq1 [] ?_ | refine mxq0 [] ?_ | fail); (simp only [go_sem])))
    refine wd_any (acalls_own (.cons (.same (by (simp only [go_sem]); first | done | rfl)) .nil) a1 (fun _ h => h) ren_agg) ?_
    rintro _ h' ⟨cs1, d1, ids1, rfl, e1, e2, e3, e4, e5⟩
    obtain ⟨T1, rfl, f1, f2⟩ := pre3 e4 e5
    obtain ⟨x1, rfl, z1⟩ := owL_ty e1
    (simp only [go_sem])
    repeat' (first | (first | (((first | apply sp1 | apply sp2 | apply sp3 | apply sp4 | apply sp5 | apply sp6 | apply sp7) <;> intro hb) <;> (simp only [go_sem, hb])) | ((first | apply wm_done | apply wt_done | apply wg_run | refine fk ?_ ?_) <;> (simp only [go_sem]))) | ((first | refine mxq6 [] ?_ | refine mxq5 [] ?_ | refine mxq4 [] ?_ | refine mxq3 [] ?_ | refine mxq2 [] ?_ | refine mxq1 [] ?_ | refine mxq0 [] ?_ | fail); (simp only [go_sem])))
    refine wd_any (acalls_own (.cons (.same (by (simp only [go_sem]); first | done | rfl)) .nil) a2 (fun _ h => h) ren_agg) ?_
    rintro _ h' ⟨cs2, d2, ids2, rfl, g1, g2, g3, g4, g5⟩
    obtain ⟨T2, rfl, p1, p2⟩ := pre3 g4 g5
    obtain ⟨x2, rfl, z2⟩ := owL_ty g1
    (simp only [go_sem])
    repeat' (first | (first | (((first | apply sp1 | apply sp2 | apply sp3 | apply sp4 | apply sp5 | apply sp6 | apply sp7) <;> intro hb) <;> (simp only [go_sem, hb])) | ((first | apply wm_done | apply wt_done | apply wg_run | refine fk ?_ ?_) <;> (simp only [go_sem]))) | ((first | refine mxq6 [] ?_ | refine mxq5 [] ?_ | refine mxq4 [] ?_ | refine mxq3 [] ?_ | refine mxq2 [] ?_ | refine mxq1 [] ?_ | refine mxq0 [] ?_ | fail); (simp only [go_sem])))
    refine wd_any (acalls_own (.cons (.same (by (simp only [go_sem]); first | done | rfl)) .nil) hc one1_flat one1_ren) ?_
    rintro _ h' ⟨cs3, d3, ids3, rfl, q1, q2, q3, q4, q5⟩
    obtain ⟨T3, rfl, r1, r2⟩ := pre3 q4 q5
    obtain ⟨x3, cs', i, j, rfl, z3, s2, rfl⟩ := fzL_cons q1
    obtain ⟨rfl, rfl⟩ := fzL_nil s2
    rw [List.append_nil] at q2 q3
    simp only [Sh.one1, List.getD_cons_zero]
    (simp only [go_sem])
    repeat' (first | (first | (((first | apply sp1 | apply sp2 | apply sp3 | apply sp4 | apply sp5 | apply sp6 | apply sp7) <;> intro hb) <;> (simp only [go_sem, hb])) | ((first | apply wm_done | apply wt_done | apply wg_run | refine fk ?_ ?_) <;> (simp only [go_sem]))) | ((first | refine mxq6 [] ?_ | refine mxq5 [] ?_ | refine mxq4 [] ?_ | refine mxq3 [] ?_ | refine mxq2 [] ?_ | refine mxq1 [] ?_ | refine mxq0 [] ?_ | fail); (simp only [go_sem])))
    have hx1 : ∀ b ∈ ids1, 3 ≤ b ∧ b < T1.length + 3 := fun b hb => by have := e3 b hb; simp only [List.length_cons, List.length_nil] at this; omega
    have hx2 : ∀ b ∈ ids2, T1.length + 3 ≤ b ∧ b < T2.length + 3 := fun b hb => by have := g3 b hb; simp only [List.length_cons] at this; omega
    have hx3 : ∀ b ∈ i, T2.length + 3 ≤ b := fun b hb => by have := q3 b hb; simp only [List.length_cons] at this; omega
    have hd := fun (pre : List Blk) (hp : pre.length = 3) => owL_te_of (t := t)
      (ow_pre (pre := [_, _, _]) (pre' := pre) (by rw [hp]; rfl) (fun i hi => by rw [r2 i (by omega), p2 i hi]) z1 (fun b hb => by have := hx1 b hb; simp only [List.length_cons, List.length_nil]; omega))
      (ow_pre (pre := [_, _, _]) (pre' := pre) (by rw [hp]; rfl) r2 z2 (fun b hb => by have := hx2 b hb; simp only [List.length_cons, List.length_nil]; omega))
      (ow_pre (pre := [_, _, _]) (pre' := pre) (by rw [hp]; rfl) (fun _ _ => rfl) z3 (fun b hb => by have := hx3 b hb; simp only [List.length_cons, List.length_nil]; omega))
    obtain ⟨d, hd⟩ := hd [_, _, _] rfl
    refine hR _ (ret_ownK (d := d) (by (simp only [go_sem]); first | done | rfl) hd (nodup3' e2 g2 q2 hx1 hx2 hx3 (by omega)) (fun _ => prVs_agg))
end Go.Proofs.Ytchcbfbnffhifaa
/- The law's marks: the text of a mark. On shadows. -/
namespace Go.Proofs.Ytchcbfbnffhifaa
open Go.RowKit Go.Proofs.Sh Go.Proofs.Grad
set_option maxRecDepth 100000
set_option maxHeartbeats 8000000
theorem bytesOf1 (n : Int) : (bytesOf [n]).size = 1 := rfl
theorem markText (k0 : Nat) (h0 : 0 < k0) (hk0 : k0 < 1000000000) : AFn Try.prog 127 [.one (.sc (.int .i64 (k0 : Nat)))] (.one (.sc (.string (mkT k0)))) := by
  have hp : decide ((k0 : Int) ≤ 0) = false := by simp; omega
  refine fn_in ?_; refine acl_in Try.func127 rfl isfn_127 (Nat.le_of_ble_eq_true rfl) (fun R hR => ?_); rw [Try.results127] at hR; refine wg_run ?_; (simp only [Try.f127, go_sem, hp])
  refine wd_for (σ := Nat × ByteArray) [0, 3] (fun x => [.one (.sc (.int .i64 (x.1 : Nat))), .one (.sc (.string x.2))]) (fun _ => [])
    (fun x => x.1 + x.2.size ≤ k0 ∧ dgs x.1 x.2 = dgs k0 ByteArray.empty) (fun x => x.1) (k0, ByteArray.empty) ⟨Nat.le_refl _, rfl⟩ (head_all (by (simp only [go_sem]); first | done | rfl) ⟨rfl, rfl⟩) ?_
  rintro ⟨k, out⟩ ⟨hk, hI⟩ G hG
  simp only at hk hI hG ⊢
  refine wg_run ?_
  (simp only [go_sem])
  ((first | apply sp1 | apply sp2 | apply sp3 | apply sp4 | apply sp5 | apply sp6 | apply sp7) <;> intro hb) <;> (simp only [go_sem, hb])
  · have hk1 : 0 < k := by have := of_decide_eq_true hb; omega
    have hm : (k : Int).tmod 10 = ((k % 10 : Nat) : Int) := by rw [Int.tmod_eq_emod_of_nonneg (by omega)]; omega
    have hq : IntKind.i64.wrap ((k : Int).tdiv 10) = ((k / 10 : Nat) : Int) := by
      have : (k : Int).tdiv 10 = ((k / 10 : Nat) : Int) := by rw [Int.tdiv_eq_ediv_of_nonneg (by omega)]; omega
      rw [this]; exact IntWalk.i64_in _ (by have := Nat.div_le_self k 10; omega)
    have hs : IntKind.i64.wrap (48 + ((k % 10 : Nat) : Int)) = ((48 + k % 10 : Nat) : Int) := by rw [IntWalk.i64_in _ (by omega)]; omega
    have hu : IntKind.u8.wrap ((48 + k % 10 : Nat) : Int) = ((48 + k % 10 : Nat) : Int) := wraps_u8 _ (by omega) (by omega)
    have hz : addOk (bytesOf [((48 + k % 10 : Nat) : Int)]) out = true := Nat.ble_eq_true_of_le (by rw [bytesOf1]; omega)
    repeat' (first | (first | (simp only [go_sem, hb, hm, hq, hs, hu, hz]) | (((first | apply sp1 | apply sp2 | apply sp3 | apply sp4 | apply sp5 | apply sp6 | apply sp7) <;> intro hb) <;> (simp only [go_sem, hb, hb, hm, hq, hs, hu, hz])) | ((first | apply wm_done | apply wt_done | apply wg_run | refine fk ?_ ?_) <;> (simp only [go_sem, hb, hm, hq, hs, hu, hz]))) | ((first | refine mxq6 [] ?_ | refine mxq5 [] ?_ | refine mxq4 [] ?_ | refine mxq3 [] ?_ | refine mxq2 [] ?_ | refine mxq1 [] ?_ | refine mxq0 [] ?_ | fail); (simp only [go_sem, hb])))
    refine hG (k / 10, _) _ _ ⟨?_, ?_⟩ (by simp only; omega) (hat [] (hI := ⟨rfl, rfl⟩))
    · rw [ByteArray.size_append, bytesOf1]; omega
    · rw [← dgs_pos hk1]; exact hI
  · have hk0 : k = 0 := by have := of_decide_eq_false hb; omega
    subst hk0
    rw [dgs_zero] at hI
    have hz : addOk ⟨#[109]⟩ out = true := Nat.ble_eq_true_of_le (by have : (ByteArray.mk #[(109 : UInt8)]).size = 1 := rfl; omega)
    repeat' (first | (first | (simp only [go_sem, hb, hz]) | (((first | apply sp1 | apply sp2 | apply sp3 | apply sp4 | apply sp5 | apply sp6 | apply sp7) <;> intro hb) <;> (simp only [go_sem, hb, hb, hz])) | ((first | apply wm_done | apply wt_done | apply wg_run | refine fk ?_ ?_) <;> (simp only [go_sem, hb, hz]))))
    rw [hI]
    (refine hR _ (rat [] (hK := ⟨rfl, rfl⟩)))
end Go.Proofs.Ytchcbfbnffhifaa
/- The law's marks on owned types and terms. On shadows. -/
namespace Go.Proofs.Ytchcbfbnffhifaa
open Go.RowKit Go.Proofs.Sh Go.Proofs.Grad
set_option maxRecDepth 100000
set_option maxHeartbeats 8000000
/-- what a marking leaves -/
def Marked (h : List Blk) (d : Nat) (c : C) (R : List (List C)) (ids : List Nat) (n : Nat) (r : AV) (h' : List Blk) : Prop :=
  r = .one (.sc (.int .i64 (n : Nat))) ∧ ow h' d c = some (.sl R, ids) ∧ h.length ≤ h'.length ∧ ∀ b, b < h.length → b ∉ ids → h'[b]? = h[b]?
theorem markTyS (n : Nat) (hn : n ≤ 1000000000) : ∀ (l : List Ty), Ty.sizes l < n → ∀ (h : List Blk) (c : C) (d : Nat) (ids : List Nat) (k : Nat), k + Ty.sizes l < 4000000000 → ow h d c = some (.sl (tyR l), ids) → ids.Nodup →
    ACl Try.prog 126 [.one c, .one (.sc (.int .i64 (k : Nat)))] h (Marked h d c (tyR (Ty.marks l k)) ids (k + Ty.sizes l)) := by
  induction n with
  | zero => intro l h; omega
  | succ n ih =>
    intro l hl h c d ids k hk e hnd
    have triv : l = [] → (c = .sc (.slice none 0 0) ∨ c = .sl []) → ACl Try.prog 126 [.one c, .one (.sc (.int .i64 (k : Nat)))] h (Marked h d c (tyR (Ty.marks l k)) ids (k + Ty.sizes l)) := by
      intro hl0 hc
      subst hl0
      rcases hc with rfl | rfl
      all_goals
        refine acl_in Try.func126 rfl isfn_126 (Nat.le_of_ble_eq_true rfl) (fun R hR => ?_); rw [Try.results126] at hR; refine wg_run ?_; (simp only [Try.f126, go_sem])
        refine wd_rounds 2 (wl_next (wg_run ?_))
        (simp only [go_sem])
        exact hR _ (ret_all (by (simp only [go_sem]); first | done | rfl) ⟨by simp [Ty.sizes], by simpa [Ty.marks] using e, Nat.le_refl _, fun _ _ _ => rfl⟩)
    cases c with
    | row s b m =>
      obtain ⟨d, kb, R, js, rfl, hb, hm, hlen, hs, hrs, hrows, hR', rfl⟩ := ow_row e
      cases hR'
      have hml : m = l.length := by rw [← hlen, ← fzRows_len hrows, tyR_length]
      subst hml
      clear hb hm hlen hs hrs hrows kb
      refine acl_in Try.func126 rfl isfn_126 (Nat.le_of_ble_eq_true rfl) (fun R hR => ?_); rw [Try.results126] at hR; refine wg_run ?_; (simp only [Try.f126, go_sem])
      refine wd_for (σ := Nat × List Blk) [0, 1, 5] (fun x => [.one (.row s b l.length), .one (.sc (.int .i64 ((k + Ty.sizes (l.take x.1) : Nat)))), .one (.sc (.int .i64 (x.1 : Nat)))]) (fun x => x.2)
        (fun x => x.1 ≤ l.length ∧ ow x.2 (d + 1) (.row s b l.length) = some (.sl (tyR (Ty.part l k x.1)), b :: js) ∧ h.length ≤ x.2.length ∧ ∀ y, y < h.length → y ∉ b :: js → x.2[y]? = h[y]?) (fun x => l.length - x.1) (0, h) ⟨Nat.zero_le _, e, Nat.le_refl _, fun _ _ _ => rfl⟩ (head_all (by (simp only [go_sem]); first | done | rfl) ⟨rfl, rfl⟩) ?_
      rintro ⟨i, h1⟩ ⟨hi, hI, hle, hfr⟩ G hG
      simp only at hi hI hle hfr hG ⊢
      refine wg_run ?_
      (simp only [go_sem])
      ((first | apply sp1 | apply sp2 | apply sp3 | apply sp4 | apply sp5 | apply sp6 | apply sp7) <;> intro hb) <;> (simp only [go_sem, hb])
      · have hi1 : i < l.length := by have := of_decide_eq_true hb; omega
        have hin : decide (i < l.length) = true := by simpa using hi1
        obtain ⟨ty, rows, r, E, pre, is, post, g1, g2, g3, g4, g5, g6, g7, g8, g9, g10, g11, upd⟩ := row_upd hI hnd (i := i) (by rw [tyR_length, Ty.part_length]; exact hi1)
        rw [tyR_get, Ty.part_get hi1] at g5
        cases g5
        obtain ⟨ci, rfl, hci⟩ := owL_ty g7
        simp only [List.length_cons, List.length_nil] at g6
        subst g6
        have hbl : b < h1.length := (List.getElem?_eq_some_iff.1 g1).1
        have hset : ∀ X, (h1.set b X)[b]? = some X := fun X => List.getElem?_set_self hbl
        have hrs : ∀ X, (rows.set i X)[i]? = some X := fun X => List.getElem?_set_self (by omega)
        have hsz := Ty.sizes_take hi1
        have hszl := Ty.sizes_take_le l (i + 1)
        have hkp : (kid l i).size = 1 + Ty.sizes (kid l i).kids := by cases kid l i; simp only [Ty.size, Ty.kids]
        have hw1 : IntKind.i64.wrap (((i : Nat) : Int) + 1) = ((i + 1 : Nat) : Int) := wrap_succ hi1 (by have := Ty.length_le_sizes l; omega)
        have hw2 : IntKind.i64.wrap (((k + Ty.sizes (l.take i) : Nat) : Int) + 1) = ((k + Ty.sizes (l.take i) + 1 : Nat) : Int) := by rw [IntWalk.i64_in _ (by omega)]; omega
        repeat' (first | (first | (simp only [go_sem, hb, hin, g1, g4, hset, hrs, hw1, hw2]) | (((first | apply sp1 | apply sp2 | apply sp3 | apply sp4 | apply sp5 | apply sp6 | apply sp7) <;> intro hb) <;> (simp only [go_sem, hb, hb, hin, g1, g4, hset, hrs, hw1, hw2])) | ((first | apply wm_done | apply wt_done | apply wg_run | refine fk ?_ ?_) <;> (simp only [go_sem, hb, hin, g1, g4, hset, hrs, hw1, hw2]))))
        refine wd_any (acalls_full (ih (by omega) (kid l i).kids (by omega) _ ci d is (k + Ty.sizes (l.take i) + 1) (by omega) (ow_frame hci (fun x hx => List.getElem?_set_ne (fun e => g10 (by rw [e]; exact hx)))) g9)) ?_
        rintro _ h2 ⟨rfl, u1, u2, u3⟩
        rw [show k + Ty.sizes (l.take i) + 1 + Ty.sizes (kid l i).kids = k + Ty.sizes (l.take (i + 1)) from by omega]
        rw [List.length_set] at u2 u3
        (simp only [go_sem])
        repeat' (first | (first | (simp only [go_sem, hb, hin, hw1]) | (((first | apply sp1 | apply sp2 | apply sp3 | apply sp4 | apply sp5 | apply sp6 | apply sp7) <;> intro hb) <;> (simp only [go_sem, hb, hb, hin, hw1])) | ((first | apply wm_done | apply wt_done | apply wg_run | refine fk ?_ ?_) <;> (simp only [go_sem, hb, hin, hw1]))))
        refine hG (i + 1, h2) _ _ ⟨hi1, ?_, by show h.length ≤ h2.length; omega, fun y hy hyn => ?_⟩ (by simp only; omega) (head_all (by (simp only [go_sem]); first | done | rfl) ⟨rfl, rfl⟩)
        · have := upd h2 _ (tyC (.mk ((k + Ty.sizes (l.take i) : Nat) : Int) (Ty.marks (kid l i).kids (k + Ty.sizes (l.take i) + 1)))) rfl (by rw [u3 b hbl g10]; exact hset _) (by rw [tyC_eq]; exact owL_two u1) (fun x hx => by
            obtain ⟨x1, x2⟩ := g11 x hx
            have hxl := (owR_lt hI x (by rw [g8]; rcases List.mem_append.1 hx with hx | hx <;> simp [hx]))
            rw [u3 x hxl x1, List.getElem?_set_ne (fun e => x2 e.symm)])
          rw [tyR_set, ← Ty.mark_eq, Ty.part_set hi1] at this
          exact this
        · simp only [List.mem_cons, not_or] at hyn
          rw [u3 y (by omega) (fun hm => hyn.2 (by rw [g8]; simp [hm])), List.getElem?_set_ne (fun e => hyn.1 e.symm)]
          exact hfr y hy (by simp only [List.mem_cons, not_or]; exact hyn)
      · have hi1 : i = l.length := by have := of_decide_eq_false hb; omega
        subst hi1
        refine hR _ (ret_all (by (simp only [go_sem]); first | done | rfl) ⟨by rw [List.take_length], ?_, hle, hfr⟩)
        rw [hI, Ty.part, List.take_length, List.drop_length, List.append_nil]
    | _ =>
      rw [ow_leaf (by simp)] at e
      obtain ⟨rfl, ⟨h1, h2⟩ | ⟨v, h1, hv, h2⟩ | ⟨h1, h2⟩⟩ := leaf_cases e
      · exact triv (by cases l with | nil => rfl | cons => simp [tyR] at h2) (.inl h1)
      · cases h2
      · exact triv (by cases l with | nil => rfl | cons => simp [tyR] at h2) (.inr h1)
theorem markTmS (n : Nat) (hn : n ≤ 1000000000) : ∀ (l : List Tm), Tm.mws l < n → ∀ (h : List Blk) (c : C) (d : Nat) (ids : List Nat) (k : Nat), 0 < k → k + Tm.mws l < 1000000000 → ow h d c = some (.sl (teR l), ids) → ids.Nodup →
    ACl Try.prog 78 [.one c, .one (.sc (.int .i64 (k : Nat)))] h (Marked h d c (teR (Tm.marks l k)) ids (k + Tm.mws l)) := by
  induction n with
  | zero => intro l h; omega
  | succ n ih =>
    intro l hl h c d ids k hk0 hk e hnd
    have triv : l = [] → (c = .sc (.slice none 0 0) ∨ c = .sl []) → ACl Try.prog 78 [.one c, .one (.sc (.int .i64 (k : Nat)))] h (Marked h d c (teR (Tm.marks l k)) ids (k + Tm.mws l)) := by
      intro hl0 hc
      subst hl0
      rcases hc with rfl | rfl
      all_goals
        refine acl_in Try.func78 rfl isfn_78 (Nat.le_of_ble_eq_true rfl) (fun R hR => ?_); rw [Try.results78] at hR; refine wg_run ?_; (simp only [Try.f78, go_sem])
        refine wd_rounds 2 (wl_next (wg_run ?_))
        (simp only [go_sem])
        exact hR _ (ret_all (by (simp only [go_sem]); first | done | rfl) ⟨by simp [Tm.mws], by simpa [Tm.marks] using e, Nat.le_refl _, fun _ _ _ => rfl⟩)
    cases c with
    | row s b m =>
      obtain ⟨d, kb, R, js, rfl, hb, hm, hlen, hs, hrs, hrows, hR', rfl⟩ := ow_row e
      cases hR'
      have hml : m = l.length := by rw [← hlen, ← fzRows_len hrows, teR_length]
      subst hml
      clear hb hm hlen hs hrs hrows kb
      refine acl_in Try.func78 rfl isfn_78 (Nat.le_of_ble_eq_true rfl) (fun R hR => ?_); rw [Try.results78] at hR; refine wg_run ?_; (simp only [Try.f78, go_sem])
      refine wd_for (σ := Nat × List Blk) [0, 1, 5] (fun x => [.one (.row s b l.length), .one (.sc (.int .i64 ((k + Tm.mws (l.take x.1) : Nat)))), .one (.sc (.int .i64 (x.1 : Nat)))]) (fun x => x.2)
        (fun x => x.1 ≤ l.length ∧ ow x.2 (d + 1) (.row s b l.length) = some (.sl (teR (Tm.part l k x.1)), b :: js) ∧ h.length ≤ x.2.length ∧ ∀ y, y < h.length → y ∉ b :: js → x.2[y]? = h[y]?) (fun x => l.length - x.1) (0, h) ⟨Nat.zero_le _, e, Nat.le_refl _, fun _ _ _ => rfl⟩ (head_all (by (simp only [go_sem]); first | done | rfl) ⟨rfl, rfl⟩) ?_
      rintro ⟨i, h1⟩ ⟨hi, hI, hle, hfr⟩ G hG
      simp only at hi hI hle hfr hG ⊢
      refine wg_run ?_
      (simp only [go_sem])
      ((first | apply sp1 | apply sp2 | apply sp3 | apply sp4 | apply sp5 | apply sp6 | apply sp7) <;> intro hb) <;> (simp only [go_sem, hb])
      · have hi1 : i < l.length := by have := of_decide_eq_true hb; omega
        have hin : decide (i < l.length) = true := by simpa using hi1
        obtain ⟨ty, rows, r, E, pre, is, post, g1, g2, g3, g4, g5, g6, g7, g8, g9, g10, g11, upd⟩ := row_upd hI hnd (i := i) (by rw [teR_length, Tm.part_length]; exact hi1)
        rw [teR_get, Tm.part_get hi1] at g5
        cases g5
        obtain ⟨c1, c2, c3, i1, i2, i3, rfl, rfl, hc1, hc2, hc3⟩ := owL_te g7
        have g6 : 9 = s := g6
        subst g6
        simp only [teO] at g4
        have hbl : b < h1.length := (List.getElem?_eq_some_iff.1 g1).1
        have hset : ∀ X, (h1.set b X)[b]? = some X := fun X => List.getElem?_set_self hbl
        have hrs : ∀ X, (rows.set i X)[i]? = some X := fun X => List.getElem?_set_self (by omega)
        have hsz := Tm.mws_take hi1
        have hszl := Tm.mws_take_le l (i + 1)
        have hkp := (teKid l i).mw_eq
        have hw1 : IntKind.i64.wrap (((i : Nat) : Int) + 1) = ((i + 1 : Nat) : Int) := wrap_succ hi1 (by have := Tm.len_mws l; omega)
        obtain ⟨K, hK⟩ : ∃ K, K = k + Tm.mws (l.take i) := ⟨_, rfl⟩
        rw [← hK]
        have hw2 : ∀ j : Nat, j < 1000000000 → IntKind.i64.wrap (((j : Nat) : Int) + 1) = ((j + 1 : Nat) : Int) := fun j hj => by rw [IntWalk.i64_in _ (by omega)]; omega
        have w1 := hw2 K (by omega)
        have w2 := hw2 (K + 1) (by omega)
        have w3 := hw2 (K + 2) (by omega)
        have w4 := hw2 (K + 3) (by omega)
        have hmt := markText (K + 1) (by omega) (by omega)
        repeat' (first | (first | (simp only [go_sem, hb, hin, g1, g4, hset, hrs, hw1, w1, w2, w3, w4, List.set_set]) | (((first | apply sp1 | apply sp2 | apply sp3 | apply sp4 | apply sp5 | apply sp6 | apply sp7) <;> intro hb) <;> (simp only [go_sem, hb, hb, hin, g1, g4, hset, hrs, hw1, w1, w2, w3, w4, List.set_set])) | ((first | apply wm_done | apply wt_done | apply wg_run | refine fk ?_ ?_) <;> (simp only [go_sem, hb, hin, g1, g4, hset, hrs, hw1, w1, w2, w3, w4, List.set_set]))) | (first | refine cdq ?_ (hc := hmt) | refine cmq ?_ (hc := hmt) | refine ctq ?_ (hc := hmt)); (simp only [go_sem]))
        obtain ⟨n1, n23, n123⟩ := List.nodup_append.1 g9
        obtain ⟨n2, n3, n23'⟩ := List.nodup_append.1 n23
        have hb1 : b ∉ i1 := fun hm => g10 (by simp [hm])
        have hb2 : b ∉ i2 := fun hm => g10 (by simp [hm])
        have hb3 : b ∉ i3 := fun hm => g10 (by simp [hm])
        have ne1 : ∀ x, x ∈ i1 → x ∉ i2 ∧ x ∉ i3 := fun x hx => ⟨fun hm => n123 x hx x (by simp [hm]) rfl, fun hm => n123 x hx x (by simp [hm]) rfl⟩
        have ne2 : ∀ x, x ∈ i2 → x ∉ i1 ∧ x ∉ i3 := fun x hx => ⟨fun hm => (ne1 x hm).1 hx, fun hm => n23' x hx x hm rfl⟩
        have ne3 : ∀ x, x ∈ i3 → x ∉ i1 ∧ x ∉ i2 := fun x hx => ⟨fun hm => (ne1 x hm).2 hx, fun hm => (ne2 x hm).2 hx⟩
        have set_ne : ∀ (g : List Blk) (X : Blk) (x : Nat), x ≠ b → (g.set b X)[x]? = g[x]? := fun g X x hx => List.getElem?_set_ne (fun e => hx e.symm)
        have lt1 : ∀ x, x ∈ i1 ++ (i2 ++ i3) → x < h1.length := fun x hx => owR_lt hI x (by rw [g8]; exact List.mem_append.2 (.inr (List.mem_append.2 (.inl hx))))
        have l1 : ∀ x, x ∈ i1 → x < h1.length := fun x hx => lt1 x (by simp [hx])
        have l2 : ∀ x, x ∈ i2 → x < h1.length := fun x hx => lt1 x (by simp [hx])
        have l3 : ∀ x, x ∈ i3 → x < h1.length := fun x hx => lt1 x (by simp [hx])
        refine wd_any (acalls_full (markTyS 1000000000 (by omega) (teKid l i).type.kids (by omega) _ c1 d i1 (K + 3 + 1) (by omega) (ow_frame hc1 (fun x hx => set_ne _ _ x (fun e => hb1 (e ▸ hx)))) n1)) ?_
        rintro _ h2 ⟨rfl, u1, u2, u3⟩
        rw [List.length_set] at u2 u3
        have h2b := (u3 b hbl hb1).trans (hset _)
        have hbl2 : b < h2.length := by omega
        have hset2 : ∀ X, (h2.set b X)[b]? = some X := fun X => List.getElem?_set_self hbl2
        have w5 := hw2 (K + 3 + 1 + Ty.sizes (teKid l i).type.kids) (by omega)
        (simp only [go_sem])
        repeat' (first | (first | (simp only [go_sem, hb, hin, h2b, hset2, hrs, hw1, w5, List.set_set]) | (((first | apply sp1 | apply sp2 | apply sp3 | apply sp4 | apply sp5 | apply sp6 | apply sp7) <;> intro hb) <;> (simp only [go_sem, hb, hb, hin, h2b, hset2, hrs, hw1, w5, List.set_set])) | ((first | apply wm_done | apply wt_done | apply wg_run | refine fk ?_ ?_) <;> (simp only [go_sem, hb, hin, h2b, hset2, hrs, hw1, w5, List.set_set]))))
        refine wd_any (acalls_full (markTyS 1000000000 (by omega) (teKid l i).frm.kids (by omega) _ c2 d i2 (K + 3 + 1 + Ty.sizes (teKid l i).type.kids + 1) (by omega) (ow_frame hc2 (fun x hx => by
          have hxb : x ≠ b := fun e => hb2 (e ▸ hx)
          rw [set_ne _ _ x hxb, u3 x (l2 x hx) (ne2 x hx).1, set_ne _ _ x hxb])) n2)) ?_
        rintro _ h3 ⟨rfl, v1, v2, v3⟩
        rw [List.length_set] at v2 v3
        have h3b := (v3 b hbl2 hb2).trans (hset2 _)
        have hbl3 : b < h3.length := by omega
        have hset3 : ∀ X, (h3.set b X)[b]? = some X := fun X => List.getElem?_set_self hbl3
        have w6 := hw2 (K + 3 + 1 + Ty.sizes (teKid l i).type.kids + 1 + Ty.sizes (teKid l i).frm.kids) (by omega)
        (simp only [go_sem])
        repeat' (first | (first | (simp only [go_sem, hb, hin, h3b, hset3, hrs, hw1, w6, List.set_set]) | (((first | apply sp1 | apply sp2 | apply sp3 | apply sp4 | apply sp5 | apply sp6 | apply sp7) <;> intro hb) <;> (simp only [go_sem, hb, hb, hin, h3b, hset3, hrs, hw1, w6, List.set_set])) | ((first | apply wm_done | apply wt_done | apply wg_run | refine fk ?_ ?_) <;> (simp only [go_sem, hb, hin, h3b, hset3, hrs, hw1, w6, List.set_set]))))
        refine wd_any (acalls_full (ih (by omega) (teKid l i).kids (by omega) _ c3 d i3 (K + 3 + 1 + Ty.sizes (teKid l i).type.kids + 1 + Ty.sizes (teKid l i).frm.kids + 1) (by omega) (by omega) (ow_frame hc3 (fun x hx => by
          have hxb : x ≠ b := fun e => hb3 (e ▸ hx)
          rw [set_ne _ _ x hxb, v3 x (by have := l3 x hx; omega) (ne3 x hx).2, set_ne _ _ x hxb, u3 x (l3 x hx) (ne3 x hx).1, set_ne _ _ x hxb])) n3)) ?_
        rintro _ h4 ⟨rfl, q1, q2, q3⟩
        rw [List.length_set] at q2 q3
        have h4b := (q3 b hbl3 hb3).trans (hset3 _)
        rw [show K + 3 + 1 + Ty.sizes (teKid l i).type.kids + 1 + Ty.sizes (teKid l i).frm.kids + 1 + Tm.mws (teKid l i).kids = k + Tm.mws (l.take (i + 1)) from by omega]
        (simp only [go_sem])
        repeat' (first | (first | (simp only [go_sem, hb, hin, hw1]) | (((first | apply sp1 | apply sp2 | apply sp3 | apply sp4 | apply sp5 | apply sp6 | apply sp7) <;> intro hb) <;> (simp only [go_sem, hb, hb, hin, hw1])) | ((first | apply wm_done | apply wt_done | apply wg_run | refine fk ?_ ?_) <;> (simp only [go_sem, hb, hin, hw1]))))
        have hother : ∀ x, x ≠ b → x < h1.length → x ∉ i1 → x ∉ i2 → x ∉ i3 → h4[x]? = h1[x]? := fun x hxb hxl m1 m2 m3 => by
          rw [q3 x (by omega) m3, set_ne _ _ x hxb, v3 x (by omega) m2, set_ne _ _ x hxb, u3 x hxl m1, set_ne _ _ x hxb]
        refine hG (i + 1, h4) _ _ ⟨hi1, ?_, by show h.length ≤ h4.length; omega, fun y hy hyn => ?_⟩ (by simp only; omega) (head_all (by (simp only [go_sem]); first | done | rfl) ⟨rfl, rfl⟩)
        · have z1 : ow h4 d c1 = some (.sl (tyR (Ty.marks (teKid l i).type.kids (K + 4))), i1) := ow_frame u1 (fun x hx => by
            have hxb : x ≠ b := fun e => hb1 (e ▸ hx)
            have := l1 x hx
            rw [q3 x (by omega) (ne1 x hx).2, set_ne _ _ x hxb, v3 x (by omega) (ne1 x hx).1, set_ne _ _ x hxb])
          have z2 : ow h4 d c2 = some (.sl (tyR (Ty.marks (teKid l i).frm.kids (K + 4 + Ty.sizes (teKid l i).type.kids + 1))), i2) := ow_frame v1 (fun x hx => by
            have hxb : x ≠ b := fun e => hb2 (e ▸ hx)
            have := l2 x hx
            rw [q3 x (by omega) (ne2 x hx).2, set_ne _ _ x hxb])
          have := upd h4 _ (teC ((teKid l i).mark K)) rfl h4b (by
            rw [Tm.mark_eq, teC_eq]
            simp only [fzL, ow_int, ow_str, z1, z2, q1, List.nil_append, List.append_nil]
            rfl) (fun x hx => by
            obtain ⟨x1, x2⟩ := g11 x hx
            simp only [List.mem_append, not_or] at x1
            exact hother x x2 (owR_lt hI x (by rw [g8]; rcases List.mem_append.1 hx with hx | hx <;> simp [hx])) x1.1 x1.2.1 x1.2.2)
          rw [teR_set, hK, Tm.part_set hi1] at this
          exact this
        · simp only [List.mem_cons, not_or] at hyn
          have hyj := hyn.2
          rw [g8] at hyj
          simp only [List.mem_append, not_or] at hyj
          rw [hother y hyn.1 (by omega) hyj.2.1.1 hyj.2.1.2.1 hyj.2.1.2.2]
          exact hfr y hy (by simp only [List.mem_cons, not_or]; exact hyn)
      · have hi1 : i = l.length := by have := of_decide_eq_false hb; omega
        subst hi1
        refine hR _ (ret_all (by (simp only [go_sem]); first | done | rfl) ⟨by rw [List.take_length], ?_, hle, hfr⟩)
        rw [hI, Tm.part, List.take_length, List.drop_length, List.append_nil]
    | _ =>
      rw [ow_leaf (by simp)] at e
      obtain ⟨rfl, ⟨h1, h2⟩ | ⟨v, h1, hv, h2⟩ | ⟨h1, h2⟩⟩ := leaf_cases e
      · exact triv (by cases l with | nil => rfl | cons => simp [teR] at h2) (.inl h1)
      · cases h2
      · exact triv (by cases l with | nil => rfl | cons => simp [teR] at h2) (.inr h1)
theorem markTy (t : Ty) (ht : Ty.sizes t.kids < 1000000000) (h : List Blk) (c : C) (d : Nat) (ids : List Nat) (k : Nat) (hk : k + Ty.sizes t.kids < 4000000000) (kd : Int) (e : ow h d c = some (.sl (tyR t.kids), ids)) (hnd : ids.Nodup) :
    ACl Try.prog 77 [.agg [.sc (.int .i64 kd), c], .one (.sc (.int .i64 (k : Nat)))] h (Marked h d c (tyR (Ty.marks t.kids k)) ids (k + Ty.sizes t.kids)) := by
  refine acl_in Try.func77 rfl isfn_77 (Nat.le_of_ble_eq_true rfl) (fun R hR => ?_); rw [Try.results77] at hR; refine wg_run ?_; (simp only [Try.f77, go_sem])
  repeat' (first | (((first | apply sp1 | apply sp2 | apply sp3 | apply sp4 | apply sp5 | apply sp6 | apply sp7) <;> intro hb) <;> (simp only [go_sem, hb])) | ((first | apply wm_done | apply wt_done | apply wg_run | refine fk ?_ ?_) <;> (simp only [go_sem])))
  refine wd_any (acalls_full (markTyS 1000000000 (by omega) t.kids ht _ c d ids k hk (ow_frame e (fun x hx => List.getElem?_append_left (ow_mut e x hx).lt)) hnd)) ?_
  rintro _ h2 ⟨rfl, u1, u2, u3⟩
  (simp only [go_sem])
  repeat' (first | (((first | apply sp1 | apply sp2 | apply sp3 | apply sp4 | apply sp5 | apply sp6 | apply sp7) <;> intro hb) <;> (simp only [go_sem, hb])) | ((first | apply wm_done | apply wt_done | apply wg_run | refine fk ?_ ?_) <;> (simp only [go_sem])))
  simp only [List.length_append, List.length_cons, List.length_nil] at u2 u3
  exact hR _ (ret_all (by (simp only [go_sem]); first | done | rfl) ⟨rfl, u1, by simp only; omega, fun b hb hm => by simp only; rw [u3 b (by omega) hm, List.getElem?_append_left hb]⟩)
/-- a term whose operands and types are marked -/
def _root_.Go.Proofs.Grad.Tm.markT (t : Tm) (k : Nat) : Tm := .mk t.kind t.name t.num (.mk t.type.kind (Ty.marks t.type.kids k)) (.mk t.frm.kind (Ty.marks t.frm.kids (k + Ty.sizes t.type.kids))) t.label (Tm.marks t.kids (k + Ty.sizes t.type.kids + Ty.sizes t.frm.kids))
def _root_.Go.Proofs.Grad.Tm.mwT (t : Tm) : Nat := Ty.sizes t.type.kids + Ty.sizes t.frm.kids + Tm.mws t.kids
/-- what a marking leaves of a struct -/
def MarkedL (h : List Blk) (d : Nat) (cs enc : List C) (ids : List Nat) (n : Nat) (r : AV) (h' : List Blk) : Prop :=
  r = .one (.sc (.int .i64 (n : Nat))) ∧ fzL (ow h' d) cs = some (enc, ids) ∧ h.length ≤ h'.length ∧ ∀ b, b < h.length → b ∉ ids → h'[b]? = h[b]?
theorem markTm (t : Tm) (h : List Blk) (cs : List C) (d : Nat) (ids : List Nat) (k : Nat) (hk0 : 0 < k) (hk : k + t.mwT < 1000000000) (e : fzL (ow h d) cs = some (teC t, ids)) (hnd : ids.Nodup) :
    ACl Try.prog 34 [.agg cs, .one (.sc (.int .i64 (k : Nat)))] h (MarkedL h d cs (teC (t.markT k)) ids (k + t.mwT)) := by
  have hm : t.mwT = Ty.sizes t.type.kids + Ty.sizes t.frm.kids + Tm.mws t.kids := rfl
  have hlt : ∀ x ∈ ids, x < h.length := fun x hx => (owL_mut e x hx).lt
  obtain ⟨c1, c2, c3, i1, i2, i3, rfl, rfl, hc1, hc2, hc3⟩ := owL_te e
  obtain ⟨n1, n23, n123⟩ := List.nodup_append.1 hnd
  obtain ⟨n2, n3, n23'⟩ := List.nodup_append.1 n23
  have ne1 : ∀ x, x ∈ i1 → x ∉ i2 ∧ x ∉ i3 := fun x hx => ⟨fun hm => n123 x hx x (by simp [hm]) rfl, fun hm => n123 x hx x (by simp [hm]) rfl⟩
  have ne2 : ∀ x, x ∈ i2 → x ∉ i1 ∧ x ∉ i3 := fun x hx => ⟨fun hm => (ne1 x hm).1 hx, fun hm => n23' x hx x hm rfl⟩
  have ne3 : ∀ x, x ∈ i3 → x ∉ i1 ∧ x ∉ i2 := fun x hx => ⟨fun hm => (ne1 x hm).2 hx, fun hm => (ne2 x hm).2 hx⟩
  have l1 : ∀ x, x ∈ i1 → x < h.length := fun x hx => hlt x (by simp [hx])
  have l2 : ∀ x, x ∈ i2 → x < h.length := fun x hx => hlt x (by simp [hx])
  have l3 : ∀ x, x ∈ i3 → x < h.length := fun x hx => hlt x (by simp [hx])
  unfold teO
  refine acl_in Try.func34 rfl isfn_34 (Nat.le_of_ble_eq_true rfl) (fun R hR => ?_); rw [Try.results34] at hR; refine wg_run ?_; (simp only [Try.f34, go_sem])
  repeat' (first | (((first | apply sp1 | apply sp2 | apply sp3 | apply sp4 | apply sp5 | apply sp6 | apply sp7) <;> intro hb) <;> (simp only [go_sem, hb])) | ((first | apply wm_done | apply wt_done | apply wg_run | refine fk ?_ ?_) <;> (simp only [go_sem])))
  have hA : ∀ x, x < h.length → ∀ X : Blk, (h ++ [X])[x]? = h[x]? := fun x hx X => List.getElem?_append_left hx
  refine wd_any (acalls_full (markTy t.type (by omega) _ c1 d i1 k (by omega) t.type.kind (ow_frame hc1 (fun x hx => hA x (l1 x hx) _)) n1)) ?_
  rintro _ h2 ⟨rfl, u1, u2, u3⟩
  simp only [List.length_append, List.length_cons, List.length_nil] at u2 u3
  have hb2 := (u3 h.length (by omega) (fun hm => by have := l1 _ hm; omega)).trans (app_len h _)
  (simp only [go_sem])
  repeat' (first | (first | (simp only [go_sem, hb2]) | (((first | apply sp1 | apply sp2 | apply sp3 | apply sp4 | apply sp5 | apply sp6 | apply sp7) <;> intro hb) <;> (simp only [go_sem, hb, hb2])) | ((first | apply wm_done | apply wt_done | apply wg_run | refine fk ?_ ?_) <;> (simp only [go_sem, hb2]))))
  refine wd_any (acalls_full (markTy t.frm (by omega) _ c2 d i2 (k + Ty.sizes t.type.kids) (by omega) t.frm.kind (ow_frame hc2 (fun x hx => by
    have := l2 x hx
    rw [u3 x (by omega) (ne2 x hx).1, hA x this])) n2)) ?_
  rintro _ h3 ⟨rfl, v1, v2, v3⟩
  have hb3 := (v3 h.length (by omega) (fun hm => by have := l2 _ hm; omega)).trans hb2
  (simp only [go_sem])
  repeat' (first | (first | (simp only [go_sem, hb3]) | (((first | apply sp1 | apply sp2 | apply sp3 | apply sp4 | apply sp5 | apply sp6 | apply sp7) <;> intro hb) <;> (simp only [go_sem, hb, hb3])) | ((first | apply wm_done | apply wt_done | apply wg_run | refine fk ?_ ?_) <;> (simp only [go_sem, hb3]))))
  refine wd_any (acalls_full (markTmS 1000000000 (by omega) t.kids (by omega) _ c3 d i3 (k + Ty.sizes t.type.kids + Ty.sizes t.frm.kids) (by omega) (by omega) (ow_frame hc3 (fun x hx => by
    have := l3 x hx
    rw [v3 x (by omega) (ne3 x hx).2, u3 x (by omega) (ne3 x hx).1, hA x this])) n3)) ?_
  rintro _ h4 ⟨rfl, q1, q2, q3⟩
  rw [show k + Ty.sizes t.type.kids + Ty.sizes t.frm.kids + Tm.mws t.kids = k + t.mwT from by omega]
  (simp only [go_sem])
  repeat' (first | (((first | apply sp1 | apply sp2 | apply sp3 | apply sp4 | apply sp5 | apply sp6 | apply sp7) <;> intro hb) <;> (simp only [go_sem, hb])) | ((first | apply wm_done | apply wt_done | apply wg_run | refine fk ?_ ?_) <;> (simp only [go_sem])))
  refine hR _ (ret_all (by (simp only [go_sem]); first | done | rfl) ⟨rfl, ?_, by simp only; omega, fun b hb hn => ?_⟩)
  · have z1 := ow_frame (h' := h4) u1 (fun x hx => by have := l1 x hx; rw [q3 x (by omega) (ne1 x hx).2, v3 x (by omega) (ne1 x hx).1])
    have z2 := ow_frame (h' := h4) v1 (fun x hx => by have := l2 x hx; rw [q3 x (by omega) (ne2 x hx).2])
    rw [teC_eq]
    simp only [fzL, ow_int, ow_str, z1, z2, q1, List.nil_append, List.append_nil, Tm.markT]
    rfl
  · simp only [List.mem_append, not_or] at hn
    simp only
    rw [q3 b (by omega) hn.2.2, v3 b (by omega) hn.2.1, u3 b (by omega) hn.1, hA b hb]
end Go.Proofs.Ytchcbfbnffhifaa
