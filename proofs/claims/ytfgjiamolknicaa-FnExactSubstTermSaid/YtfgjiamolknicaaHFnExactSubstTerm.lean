/- FnExactSubstTerm: for all terms and names the law returns true, and its arguments read afterwards as they read before. No conditions. -/
import Derived.Test.YtfgjiamolknicaaKW25
import Derived.Test.YtfgjiamolknicaaKW26
import Derived.Test.YtfgjiamolknicaaKW27
set_option linter.unusedSimpArgs false
set_option linter.unusedVariables false
namespace Go.Proofs.Ytfgjiamolknicaa
open Go.RowKit Go.Proofs.Sh Go.Proofs.Grad
open Go.ChangeShapes Go.WideShapes Go.ChangeAt

set_option maxRecDepth 100000
set_option maxHeartbeats 16000000
theorem fnExactSubstTerm_walk (a : Tm) (hfa : a.fits) (s : ByteArray) (b : Tm) (hfb : b.fits) : AFn Try.prog 12 [.agg (teC a), .one (.sc (.string s)), .agg (teC b)] (.one (.sc (.bool true))) := by
  have hs := szTm _ a (Nat.lt_succ_self _) hfa 1048576 (by omega) (by omega)
  by_cases hsz : 1048576 < s.size
  · have hg0 : decide (((s.size : Nat) : Int) > 1048576) = true := by simp; omega
    refine fn_in ?_; refine acl_in Try.func12 rfl isfn_12 (Nat.le_of_ble_eq_true rfl) (fun R hR => ?_); rw [Try.results12] at hR; refine wg_run ?_; (simp only [Try.f12, go_sem])
    repeat' (first | (first | (simp only [go_sem, hg0]) | (((first | apply sp1 | apply sp2 | apply sp3 | apply sp4 | apply sp5 | apply sp6 | apply sp7) <;> intro hb) <;> (simp only [go_sem, hb, hg0])) | ((first | apply wm_done | apply wt_done | apply wg_run | refine fk ?_ ?_) <;> (simp only [go_sem, hg0]))) | fail)
    (refine hR _ (rat [] (hK := ⟨rfl, rfl⟩)))
  have hg0 : decide (((s.size : Nat) : Int) > 1048576) = false := by simp; omega
  by_cases hw : (a.wt : Int) ≤ 1048576
  · have e1 : szR a.wt 1048576 = 1048576 - (a.wt : Int) := by unfold szR; rw [if_pos hw]
    rw [e1] at hs
    have d1 : decide (1048576 - (a.wt : Int) < 0) = false := by simp; omega
    have hsb := szTm _ b (Nat.lt_succ_self _) hfb (1048576 - (a.wt : Int)) (by omega) (by omega)
    by_cases hw2 : (b.wt : Int) ≤ 1048576 - (a.wt : Int)
    · have e2 : szR b.wt (1048576 - (a.wt : Int)) = 1048576 - (a.wt : Int) - (b.wt : Int) := by unfold szR; rw [if_pos hw2]
      rw [e2] at hsb
      have d2 : decide (1048576 - (a.wt : Int) - (b.wt : Int) < 0) = false := by simp; omega
      have h9a : a.size < 100000000 := by have := a.size_wt; omega
      have h9b : b.size < 100000000 := by have := b.size_wt; omega
      have ht := toTm 100000000 (by omega) a h9a
      have hto := toTmO 100000000 (by omega) a h9a
      have hea := eqTm 100000000 (by omega) a a h9a
      have htb := toTm 100000000 (by omega) b h9b
      have htbo := toTmO 100000000 (by omega) b h9b
      have heb := eqTm 100000000 (by omega) b b h9b
      rw [Tm.same_refl] at hea heb
      obtain ⟨hi, hs2⟩ := subBoth a (by omega) s b (by omega)
      have hg9 := subTt_size a s b
      generalize subTt a s b = g at *
      generalize subTb a s b = c1 at *
      have hfr := own_frz (WF.bool _) hi
      simp only [boolF] at hs2 hfr
      have heg := eqTm 100000000 (by omega) g g hg9
      rw [Tm.same_refl] at heg
      have h8a : a.size < 80000000 := by have := a.size_wt; omega
      have h8b : b.size < 80000000 := by have := b.size_wt; omega
      have hma := mwT_le a
      have hmb := mwT_le b
      have hmg := mwT_le g
      have hh := heldTm g 1 (by omega) (by omega)
      have hne : ∀ j : Int, (j != j) = false := fun j => by simp
      have hneB : ∀ j : Bool, (j != j) = false := fun j => by simp
      have hnn : ∀ j : Nat, decide ((j : Int) < 0) = false := fun j => by simp
      refine fn_in ?_; refine acl_in Try.func12 rfl isfn_12 (Nat.le_of_ble_eq_true rfl) (fun R hR => ?_); rw [Try.results12] at hR; refine wg_run ?_; (simp only [Try.f12, go_sem])
      repeat' (first | (first | (simp only [go_sem, hg0, d1, d2, int_bne]) | (((first | apply sp1 | apply sp2 | apply sp3 | apply sp4 | apply sp5 | apply sp6 | apply sp7) <;> intro hb) <;> (simp only [go_sem, hb, hg0, d1, d2, int_bne])) | ((first | apply wm_done | apply wt_done | apply wg_run | refine fk ?_ ?_) <;> (simp only [go_sem, hg0, d1, d2, int_bne]))) | (first | refine cdq ?_ (hc := hs) | refine cmq ?_ (hc := hs) | refine ctq ?_ (hc := hs)); (simp only [go_sem]) | (first | refine cdq ?_ (hc := hsb) | refine cmq ?_ (hc := hsb) | refine ctq ?_ (hc := hsb)); (simp only [go_sem]) | (first | refine cdq ?_ (hc := ht) | refine cmq ?_ (hc := ht) | refine ctq ?_ (hc := ht)); (simp only [go_sem]) | (first | refine cdq ?_ (hc := htb) | refine cmq ?_ (hc := htb) | refine ctq ?_ (hc := htb)); (simp only [go_sem]) | (first | refine cdq ?_ (hc := hs2) | refine cmq ?_ (hc := hs2) | refine ctq ?_ (hc := hs2)); (simp only [go_sem]) | fail)
      apply wd_mid [1, 3, 5, 8, 9]
      case ht =>
        intro hgo
        (first | (refine tr (.op 0 false (.op 2 false (.op 3 false (.fork 1 false (.fork 4 true (.fork 5 true (.op 6 false (.op 7 false (.op 8 false (.op 9 false (.op 10 true (.op 11 false .nil)))))) (.op 9 false (.op 5 true (.op 6 false (.op 7 false (.op 8 false (.op 10 true (.op 11 false .nil)))))))) (.op 9 false (.op 4 true (.op 5 true (.op 6 false (.op 7 false (.op 8 false (.op 10 true (.op 11 false .nil))))))))) (.op 9 false (.op 1 false (.op 4 true (.op 5 true (.op 6 false (.op 7 false (.op 8 false (.op 10 true (.op 11 false .nil))))))))))))) [] follows ?_; (simp only [go_sem])) | (refine tr (.op 0 false (.op 2 false (.op 3 false (.fork 1 false (.fork 4 true (.fork 5 true (.op 6 false (.op 7 false (.op 8 false (.op 9 false (.op 10 true (.op 11 false .nil)))))) (.op 9 false (.op 5 true (.op 6 false (.op 7 false (.op 8 false (.op 10 true (.op 11 false .nil)))))))) (.op 9 false (.op 4 true (.op 5 true (.op 6 false (.op 7 false (.op 8 false (.op 10 true (.op 11 false .nil))))))))) (.op 9 false (.op 1 false (.op 4 true (.op 5 true (.op 6 false (.op 7 false (.op 8 false (.op 10 true (.op 11 false .nil))))))))))))) [] follows ?_; (simp only [go_sem])) | fail)
        repeat' (first | (first | (((first | apply sp1 | apply sp2 | apply sp3 | apply sp4 | apply sp5 | apply sp6 | apply sp7) <;> intro hb) <;> (simp only [go_sem, hb])) | (refine fk ?_ ?_ <;> (simp only [go_sem]))) | (first | refine cdq ?_ (hc := ht) | refine cmq ?_ (hc := ht) | refine ctq ?_ (hc := ht)); (simp only [go_sem]) | (first | refine cdq ?_ (hc := htb) | refine cmq ?_ (hc := htb) | refine ctq ?_ (hc := htb)); (simp only [go_sem]) | (first | refine cdq ?_ (hc := hs2) | refine cmq ?_ (hc := hs2) | refine ctq ?_ (hc := hs2)); (simp only [go_sem]) | fail)
        all_goals exact wt_leaf (hgo _ rfl (head_all (by (simp only [go_sem]); first | done | rfl) ⟨rfl, rfl⟩))
      refine wg_run ?_
      (simp only [go_sem])
      repeat' (first | (first | (simp only [go_sem, hg0, d1, d2, int_bne]) | (((first | apply sp1 | apply sp2 | apply sp3 | apply sp4 | apply sp5 | apply sp6 | apply sp7) <;> intro hb) <;> (simp only [go_sem, hb, hg0, d1, d2, int_bne])) | ((first | apply wm_done | apply wt_done | apply wg_run | refine fk ?_ ?_) <;> (simp only [go_sem, hg0, d1, d2, int_bne]))) | fail)
      -- the arguments, owned
      refine wd_any (acalls_ownT (p := 3) (pre := [_, _, _]) (T := []) rfl (.cons (.same (by (simp only [go_sem]); first | done | rfl)) .nil) hto (fun _ h => h) ren_agg) ?_
      rintro _ _ ⟨cs0, T, ids0, rfl, rfl, -, -, O0, -⟩
      have hcs0 : cs0.length = 9 := by rw [O0.len, teC_length]
      have htk0 : cs0.take 9 = cs0 := List.take_of_length_le (by omega)
      (simp only [go_sem, hcs0])
      repeat' (first | (first | (simp only [go_sem, hcs0, htk0]) | (((first | apply sp1 | apply sp2 | apply sp3 | apply sp4 | apply sp5 | apply sp6 | apply sp7) <;> intro hb) <;> (simp only [go_sem, hb, hcs0, htk0])) | ((first | apply wm_done | apply wt_done | apply wg_run | refine fk ?_ ?_) <;> (simp only [go_sem, hcs0, htk0]))) | fail)
      refine wd_any (acalls_ownT (p := 3) (pre := [_, _, _]) (T := T ++ [_]) rfl (.cons (.same (by (simp only [go_sem]); first | done | rfl)) .nil) htbo (fun _ h => h) ren_agg) ?_
      rintro _ _ ⟨cs1, T1, ids1, rfl, rfl, f1, f2, O1, hid1⟩
      have hcs1 : cs1.length = 9 := by rw [O1.len, teC_length]
      have htk1 : cs1.take 9 = cs1 := List.take_of_length_le (by omega)
      have l0 := O0.lt
      have l1 := O1.lt
      have hx0 := (f2 T.length (by simp)).trans (app_len T _)
      have hx0a := fun U => get_app hx0 U
      have O0 := (O0.app [_]).ext (T' := T1) (fun i hi _ => f2 i hi)
      simp only [List.length_append, List.length_cons, List.length_nil] at f1 hid1
      (simp only [go_sem, hcs1])
      repeat' (first | (first | (simp only [go_sem, hcs0, htk0, hcs1, htk1, hx0, hx0a]) | (((first | apply sp1 | apply sp2 | apply sp3 | apply sp4 | apply sp5 | apply sp6 | apply sp7) <;> intro hb) <;> (simp only [go_sem, hb, hcs0, htk0, hcs1, htk1, hx0, hx0a])) | ((first | apply wm_done | apply wt_done | apply wg_run | refine fk ?_ ?_) <;> (simp only [go_sem, hcs0, htk0, hcs1, htk1, hx0, hx0a]))) | fail)
      refine wd_any (acalls_ownT (p := 3) (pre := [_, _, _]) (T := T1 ++ [_]) rfl (.cons ((O0.app _).lent rfl) (.cons (.same rfl) (.cons ((O1.app _).lent rfl) .nil))) hi (WF.bool _).flat (WF.bool _).ren) ?_
      rintro _ _ ⟨csg, T2, idsg, rfl, rfl, f3, f4, Og, hidg⟩
      have hcsg : csg.length = 9 := by rw [Og.len, teC_length]
      have htkg : csg.take 9 = csg := List.take_of_length_le (by omega)
      have hy0 := (f4 T.length (by simp; omega)).trans (hx0a _)
      have hy0a := fun U => get_app hy0 U
      have hy1 := (f4 T1.length (by simp)).trans (app_len T1 _)
      have hy1a := fun U => get_app hy1 U
      have lg := Og.lt
      have O0 := (O0.app [_]).ext (T' := T2) (fun i hi _ => f4 i hi)
      have O1 := (O1.app [_]).ext (T' := T2) (fun i hi _ => f4 i hi)
      simp only [List.length_append, List.length_cons, List.length_nil] at f3 hidg
      simp only [boolF]
      (simp only [go_sem, hcsg])
      repeat' (first | (first | (simp only [go_sem, hcsg, htkg, hy0, hy0a, hy1, hy1a, hcs0, htk0, hcs1, htk1]) | (((first | apply sp1 | apply sp2 | apply sp3 | apply sp4 | apply sp5 | apply sp6 | apply sp7) <;> intro hb) <;> (simp only [go_sem, hb, hcsg, htkg, hy0, hy0a, hy1, hy1a, hcs0, htk0, hcs1, htk1])) | ((first | apply wm_done | apply wt_done | apply wg_run | refine fk ?_ ?_) <;> (simp only [go_sem, hcsg, htkg, hy0, hy0a, hy1, hy1a, hcs0, htk0, hcs1, htk1]))) | fail)
      -- the result is the reference's
      refine wd_any (acalls_readT (.cons (((Og.app [_]).lent (pre := [_, _, _]) rfl)) (.cons (.same (by (simp only [go_sem]); first | done | rfl)) .nil)) heg) ?_
      rintro _ _ ⟨rfl, rfl⟩
      (simp only [go_sem])
      repeat' (first | (first | (simp only [go_sem, hcsg, htkg, hy0, hy0a, hy1, hy1a, hcs0, htk0, hcs1, htk1, hne, hneB, int_bne]) | (((first | apply sp1 | apply sp2 | apply sp3 | apply sp4 | apply sp5 | apply sp6 | apply sp7) <;> intro hb) <;> (simp only [go_sem, hb, hcsg, htkg, hy0, hy0a, hy1, hy1a, hcs0, htk0, hcs1, htk1, hne, hneB, int_bne])) | ((first | apply wm_done | apply wt_done | apply wg_run | refine fk ?_ ?_) <;> (simp only [go_sem, hcsg, htkg, hy0, hy0a, hy1, hy1a, hcs0, htk0, hcs1, htk1, hne, hneB, int_bne]))) | ((first | refine mxq6 [] ?_ | refine mxq5 [] ?_ | refine mxq4 [] ?_ | refine mxq3 [] ?_ | refine mxq2 [] ?_ | refine mxq1 [] ?_ | refine mxq0 [] ?_ | fail); (simp only [go_sem, hcsg, htkg, hy0, hy0a, hy1, hy1a, hcs0, htk0, hcs1, htk1, hne, hneB, int_bne])) | (first | refine cdq ?_ (hc := ht) | refine cmq ?_ (hc := ht) | refine ctq ?_ (hc := ht)); (simp only [go_sem]) | fail)
      -- the arguments read as before
      refine wm_at (acalls_readT (.cons (((O0.app [_]).lent (pre := [_, _, _]) rfl)) (.cons (.same (by (simp only [go_sem]); first | done | rfl)) .nil)) hea) (by (simp only [go_sem]); first | done | rfl) (by (simp only [go_sem]); first | done | rfl) (by rfl) ?_
      rintro _ _ ⟨rfl, rfl⟩
      (simp only [go_sem])
      repeat' (first | (first | (simp only [go_sem, hcsg, htkg, hy0, hy0a, hy1, hy1a, hcs0, htk0, hcs1, htk1, hne, hneB, int_bne]) | (((first | apply sp1 | apply sp2 | apply sp3 | apply sp4 | apply sp5 | apply sp6 | apply sp7) <;> intro hb) <;> (simp only [go_sem, hb, hcsg, htkg, hy0, hy0a, hy1, hy1a, hcs0, htk0, hcs1, htk1, hne, hneB, int_bne])) | ((first | apply wm_done | apply wt_done | apply wg_run | refine fk ?_ ?_) <;> (simp only [go_sem, hcsg, htkg, hy0, hy0a, hy1, hy1a, hcs0, htk0, hcs1, htk1, hne, hneB, int_bne]))) | ((first | refine mxq6 [] ?_ | refine mxq5 [] ?_ | refine mxq4 [] ?_ | refine mxq3 [] ?_ | refine mxq2 [] ?_ | refine mxq1 [] ?_ | refine mxq0 [] ?_ | fail); (simp only [go_sem, hcsg, htkg, hy0, hy0a, hy1, hy1a, hcs0, htk0, hcs1, htk1, hne, hneB, int_bne])) | (first | refine cdq ?_ (hc := htb) | refine cmq ?_ (hc := htb) | refine ctq ?_ (hc := htb)); (simp only [go_sem]) | fail)
      refine wm_at (acalls_readT (.cons (((O1.app [_]).lent (pre := [_, _, _]) rfl)) (.cons (.same (by (simp only [go_sem]); first | done | rfl)) .nil)) heb) (by (simp only [go_sem]); first | done | rfl) (by (simp only [go_sem]); first | done | rfl) (by rfl) ?_
      rintro _ _ ⟨rfl, rfl⟩
      (simp only [go_sem])
      repeat' (first | (first | (simp only [go_sem, hcsg, htkg, hy0, hy0a, hy1, hy1a, hcs0, htk0, hcs1, htk1, hne, hneB, int_bne]) | (((first | apply sp1 | apply sp2 | apply sp3 | apply sp4 | apply sp5 | apply sp6 | apply sp7) <;> intro hb) <;> (simp only [go_sem, hb, hcsg, htkg, hy0, hy0a, hy1, hy1a, hcs0, htk0, hcs1, htk1, hne, hneB, int_bne])) | ((first | apply wm_done | apply wt_done | apply wg_run | refine fk ?_ ?_) <;> (simp only [go_sem, hcsg, htkg, hy0, hy0a, hy1, hy1a, hcs0, htk0, hcs1, htk1, hne, hneB, int_bne]))) | fail)
      -- the arguments are marked
      have hg0' := app_len T2 (⟨9, 28, .mut, [csg]⟩ : Blk)
      have hy1b := hy1a [(⟨9, 28, .mut, [csg]⟩ : Blk)]
      obtain ⟨ks1, hm1⟩ := markOwn (k := 1) (pre := [_, _, _]) (O0.app [_]) rfl (by omega) (by omega)
      refine wd_any hm1 ?_
      rintro _ _ ⟨T3, rfl, rfl, g1, g2, -⟩
      simp only [List.length_append, List.length_cons, List.length_nil] at g1 g2
      have hg1 := (g2 T2.length (by omega) (fun hm => by have := l0 _ hm; omega)).trans hg0'
      have hz1 := (g2 T1.length (by omega) (fun hm => by have := l0 _ hm; omega)).trans hy1b
      have Og1 := (Og.app [_]).ext (T' := T3) (fun i hi hm => g2 i (by simpa using hi) (fun hm' => by have := hidg _ hm; have := l0 _ hm'; omega))
      have O1 := (O1.app [_]).ext (T' := T3) (fun i hi hm => g2 i (by simpa using hi) (fun hm' => by have := hid1 _ hm; have := l0 _ hm'; omega))
      (simp only [go_sem])
      repeat' (first | (first | (simp only [go_sem, hg1, hz1, hcsg, htkg, hcs1, htk1, hnn, hne, hneB, int_bne]) | (((first | apply sp1 | apply sp2 | apply sp3 | apply sp4 | apply sp5 | apply sp6 | apply sp7) <;> intro hb) <;> (simp only [go_sem, hb, hg1, hz1, hcsg, htkg, hcs1, htk1, hnn, hne, hneB, int_bne])) | ((first | apply wm_done | apply wt_done | apply wg_run | refine fk ?_ ?_) <;> (simp only [go_sem, hg1, hz1, hcsg, htkg, hcs1, htk1, hnn, hne, hneB, int_bne]))) | fail)
      obtain ⟨ks2, hm2⟩ := markOwn (k := 1 + a.mwT) (pre := [_, _, _]) O1 rfl (by omega) (by omega)
      refine wd_any hm2 ?_
      rintro _ _ ⟨T4, rfl, rfl, q1, q2, -⟩
      have hg2 := (q2 T2.length (by omega) (fun hm => by have := l1 _ hm; omega)).trans hg1
      have Og2 := Og1.ext (T' := T4) (fun i hi hm => q2 i hi (fun hm' => by have := hidg _ hm; have := l1 _ hm'; omega))
      (simp only [go_sem])
      repeat' (first | (first | (simp only [go_sem, hg2, hcsg, htkg, hnn, hne, hneB, int_bne]) | (((first | apply sp1 | apply sp2 | apply sp3 | apply sp4 | apply sp5 | apply sp6 | apply sp7) <;> intro hb) <;> (simp only [go_sem, hb, hg2, hcsg, htkg, hnn, hne, hneB, int_bne])) | ((first | apply wm_done | apply wt_done | apply wg_run | refine fk ?_ ?_) <;> (simp only [go_sem, hg2, hcsg, htkg, hnn, hne, hneB, int_bne]))) | fail)
      refine wd_any (acalls_readT (.cons (Og2.lent (pre := [_, _, _]) rfl) (.cons (.same (by (simp only [go_sem]); first | done | rfl)) .nil)) heg) ?_
      rintro _ _ ⟨rfl, rfl⟩
      (simp only [go_sem])
      repeat' (first | (first | (simp only [go_sem, hg2, hcsg, htkg, hnn, hne, hneB, int_bne]) | (((first | apply sp1 | apply sp2 | apply sp3 | apply sp4 | apply sp5 | apply sp6 | apply sp7) <;> intro hb) <;> (simp only [go_sem, hb, hg2, hcsg, htkg, hnn, hne, hneB, int_bne])) | ((first | apply wm_done | apply wt_done | apply wg_run | refine fk ?_ ?_) <;> (simp only [go_sem, hg2, hcsg, htkg, hnn, hne, hneB, int_bne]))) | fail)
      -- the result is marked, and keeps the marks
      obtain ⟨ks3, hm3⟩ := markOwn (k := 1) (pre := [_, _, _]) Og2 rfl (by omega) (by omega)
      refine wd_any hm3 ?_
      rintro _ _ ⟨T5, rfl, rfl, r1, r2, O2⟩
      have hg3 := (r2 T2.length (by omega) (fun hm => by have := lg _ hm; omega)).trans hg2
      (simp only [go_sem])
      repeat' (first | (first | (simp only [go_sem, hg3, hcsg, htkg, hnn, hne, hneB, int_bne]) | (((first | apply sp1 | apply sp2 | apply sp3 | apply sp4 | apply sp5 | apply sp6 | apply sp7) <;> intro hb) <;> (simp only [go_sem, hb, hg3, hcsg, htkg, hnn, hne, hneB, int_bne])) | ((first | apply wm_done | apply wt_done | apply wg_run | refine fk ?_ ?_) <;> (simp only [go_sem, hg3, hcsg, htkg, hnn, hne, hneB, int_bne]))) | fail)
      refine wd_any (acalls_readT (.cons (O2.lent (pre := [_, _, _]) rfl) (.cons (.same rfl) .nil)) hh) ?_
      rintro _ _ ⟨rfl, rfl⟩
      (simp only [go_sem])
      have hg3a := fun U => get_app hg3 U
      repeat' (first | (first | (simp only [go_sem, hg3, hg3a, hcsg, htkg, hnn, hne, hneB, int_bne]) | (((first | apply sp1 | apply sp2 | apply sp3 | apply sp4 | apply sp5 | apply sp6 | apply sp7) <;> intro hb) <;> (simp only [go_sem, hb, hg3, hg3a, hcsg, htkg, hnn, hne, hneB, int_bne])) | ((first | apply wm_done | apply wt_done | apply wg_run | refine fk ?_ ?_) <;> (simp only [go_sem, hg3, hg3a, hcsg, htkg, hnn, hne, hneB, int_bne]))) | fail)
      apply wd_mid [8, 9, 12, 15, 17, 18]
      case ht =>
        intro hgo
        (first | (refine tr (.op 0 false (.op 2 false (.op 3 false (.fork 1 false (.fork 4 true (.fork 5 true (.op 6 false (.op 7 false (.op 8 false (.op 9 false (.op 10 true (.op 11 false .nil)))))) (.op 9 false (.op 5 true (.op 6 false (.op 7 false (.op 8 false (.op 10 true (.op 11 false .nil)))))))) (.op 9 false (.op 4 true (.op 5 true (.op 6 false (.op 7 false (.op 8 false (.op 10 true (.op 11 false .nil))))))))) (.op 9 false (.op 1 false (.op 4 true (.op 5 true (.op 6 false (.op 7 false (.op 8 false (.op 10 true (.op 11 false .nil))))))))))))) [] follows ?_; (simp only [go_sem, hg3, hg3a])) | (refine tr (.op 0 false (.op 2 false (.op 3 false (.fork 1 false (.fork 4 true (.fork 5 true (.op 6 false (.op 7 false (.op 8 false (.op 9 false (.op 10 true (.op 11 false .nil)))))) (.op 9 false (.op 5 true (.op 6 false (.op 7 false (.op 8 false (.op 10 true (.op 11 false .nil)))))))) (.op 9 false (.op 4 true (.op 5 true (.op 6 false (.op 7 false (.op 8 false (.op 10 true (.op 11 false .nil))))))))) (.op 9 false (.op 1 false (.op 4 true (.op 5 true (.op 6 false (.op 7 false (.op 8 false (.op 10 true (.op 11 false .nil))))))))))))) [] follows ?_; (simp only [go_sem, hg3, hg3a])) | fail)
        repeat' (first | (first | (((first | apply sp1 | apply sp2 | apply sp3 | apply sp4 | apply sp5 | apply sp6 | apply sp7) <;> intro hb) <;> (simp only [go_sem, hb])) | (refine fk ?_ ?_ <;> (simp only [go_sem]))) | (first | refine cdq ?_ (hc := ht) | refine cmq ?_ (hc := ht) | refine ctq ?_ (hc := ht)); (simp only [go_sem]) | (first | refine cdq ?_ (hc := htb) | refine cmq ?_ (hc := htb) | refine ctq ?_ (hc := htb)); (simp only [go_sem]) | (first | refine cdq ?_ (hc := hfr) | refine cmq ?_ (hc := hfr) | refine ctq ?_ (hc := hfr)); (simp only [go_sem]) | fail)
        all_goals exact wt_leaf (hgo _ rfl (head_all (by (simp only [go_sem]); first | done | rfl) ⟨rfl, rfl⟩))
      refine wg_run ?_
      (simp only [go_sem, hg3, hg3a])
      repeat' (first | (first | (simp only [go_sem, hg3, hg3a, hcsg, htkg, hnn, hne, hneB, int_bne]) | (((first | apply sp1 | apply sp2 | apply sp3 | apply sp4 | apply sp5 | apply sp6 | apply sp7) <;> intro hb) <;> (simp only [go_sem, hb, hg3, hg3a, hcsg, htkg, hnn, hne, hneB, int_bne])) | ((first | apply wm_done | apply wt_done | apply wg_run | refine fk ?_ ?_) <;> (simp only [go_sem, hg3, hg3a, hcsg, htkg, hnn, hne, hneB, int_bne]))) | (first | refine cdq ?_ (hc := heg) | refine cmq ?_ (hc := heg) | refine ctq ?_ (hc := heg)); (simp only [go_sem]) | fail)
      refine wd_any (acalls_readT (.cons ((O2.app [_]).lent (pre := [_, _, _]) rfl) (.cons (.same rfl) .nil)) hh) ?_
      rintro _ _ ⟨rfl, rfl⟩
      (simp only [go_sem])
      repeat' (first | (first | (simp only [go_sem, hg3, hg3a, hcsg, htkg, hnn, hne, hneB, int_bne]) | (((first | apply sp1 | apply sp2 | apply sp3 | apply sp4 | apply sp5 | apply sp6 | apply sp7) <;> intro hb) <;> (simp only [go_sem, hb, hg3, hg3a, hcsg, htkg, hnn, hne, hneB, int_bne])) | ((first | apply wm_done | apply wt_done | apply wg_run | refine fk ?_ ?_) <;> (simp only [go_sem, hg3, hg3a, hcsg, htkg, hnn, hne, hneB, int_bne]))) | fail)
      (refine hR _ (rat [] (hK := ⟨rfl, rfl⟩)))
    · have e2 : szR b.wt (1048576 - (a.wt : Int)) = -1 := by unfold szR; rw [if_neg hw2]
      rw [e2] at hsb
      refine fn_in ?_; refine acl_in Try.func12 rfl isfn_12 (Nat.le_of_ble_eq_true rfl) (fun R hR => ?_); rw [Try.results12] at hR; refine wg_run ?_; (simp only [Try.f12, go_sem])
      repeat' (first | (first | (simp only [go_sem, hg0, d1]) | (((first | apply sp1 | apply sp2 | apply sp3 | apply sp4 | apply sp5 | apply sp6 | apply sp7) <;> intro hb) <;> (simp only [go_sem, hb, hg0, d1])) | ((first | apply wm_done | apply wt_done | apply wg_run | refine fk ?_ ?_) <;> (simp only [go_sem, hg0, d1]))) | (first | refine cdq ?_ (hc := hs) | refine cmq ?_ (hc := hs) | refine ctq ?_ (hc := hs)); (simp only [go_sem]) | (first | refine cdq ?_ (hc := hsb) | refine cmq ?_ (hc := hsb) | refine ctq ?_ (hc := hsb)); (simp only [go_sem]) | fail)
      (refine hR _ (rat [] (hK := ⟨rfl, rfl⟩)))
  · have e1 : szR a.wt 1048576 = -1 := by unfold szR; rw [if_neg hw]
    rw [e1] at hs
    refine fn_in ?_; refine acl_in Try.func12 rfl isfn_12 (Nat.le_of_ble_eq_true rfl) (fun R hR => ?_); rw [Try.results12] at hR; refine wg_run ?_; (simp only [Try.f12, go_sem])
    repeat' (first | (first | (simp only [go_sem, hg0, int_bne]) | (((first | apply sp1 | apply sp2 | apply sp3 | apply sp4 | apply sp5 | apply sp6 | apply sp7) <;> intro hb) <;> (simp only [go_sem, hb, hg0, int_bne])) | ((first | apply wm_done | apply wt_done | apply wg_run | refine fk ?_ ?_) <;> (simp only [go_sem, hg0, int_bne]))) | (first | refine cdq ?_ (hc := hs) | refine cmq ?_ (hc := hs) | refine ctq ?_ (hc := hs)); (simp only [go_sem]) | fail)
    (refine hR _ (rat [] (hK := ⟨rfl, rfl⟩)))

set_option maxRecDepth 100000 in
theorem fnExactSubstTerm_lifted (os : Os) (started : os.Started) (H : Type) (enc : TypeId × Value → H) :
    ReturnsInHanded {} Try.checked os 12 .any (Rows.fnExactSubstTermSpec.pre6 enc Try.prog Try.f12 Rows.fnExactSubstTermRow.domain false) (Rows.fnExactSubstTermSpec.post enc Try.prog Try.f12 false true false false) := by
  refine returnsInHanded_of_change (C := Try.checked) ownKT started (by kernel_rfl) Try.func12
    (ChangeSpec.witness6 (enc := enc) (C := Try.checked) false ⟨#[], #[.agg #[.int .i64 0, .string ⟨#[]⟩, .int .i64 0, .int .i64 0, .slice none 0 0, .int .i64 0, .slice none 0 0, .int .i64 0, .slice none 0 0], .string ⟨#[]⟩, .agg #[.int .i64 0, .string ⟨#[]⟩, .int .i64 0, .int .i64 0, .slice none 0 0, .int .i64 0, .slice none 0 0, .int .i64 0, .slice none 0 0]], []⟩ 8 (by kernel_rfl) (by kernel_rfl) (by kernel_rfl) (by kernel_rfl)) ?_
  intro W base args ds gs before hval0 hW hcnd _
  have hval : ∀ (j : Nat) t v, Try.f12.params[j]? = some t → args[j]? = some v → Value.okWide Try.prog W .any base t v := hval0
  have hW' := hW
  obtain ⟨p, q, hA0, hV, rfl, hfz, hnd⟩ := hW
  have hA : DataW.TrodAll enc Try.prog W 0 (fun _ => true) true Try.f12.params.toList args.toList ds p := hA0
  rw [Try.params12] at hA hval
  obtain ⟨v0, v1, v2, d0, d1, d2, p0, p1, p2, rfl, rfl, rfl, h0, h1, h2⟩ := trodAll_three hA
  obtain ⟨rfl, rfl⟩ := trodVars_none hV
  obtain ⟨x0, hr0, hf0⟩ := open_TmS (hval 0 44 v0 rfl rfl) h0
  obtain ⟨x1, rfl⟩ := okWide_string Try.underlying9 (hval 1 9 v1 rfl rfl)
  obtain ⟨x2, hr2, hf2⟩ := open_TmS (hval 2 44 v2 rfl rfl) h2
  clear hA0 hval0
  simp only [List.append_nil] at hW'
  refine (lawCalls (fnExactSubstTerm_walk x0 hf0 x1 x2 hf2) (vs := #[v0, .string x1, v2]) (by simp only [AV.repl]; exact ⟨_, _, rfl, hr0, _, _, rfl, by rw [AV.rep, C.rep]; exact ⟨rfl, rfl⟩, _, _, rfl, hr2, rfl⟩)).mono fun e W' ⟨he, hB⟩ => ?_
  subst he
  have t0 := Below.trod laidKT (by kernel_rfl) (of_decide_eq_true (by kernel_rfl)) h0 hB (fun x hx => hW'.lt x (by simp [hx]))
  have t1 := Below.trod laidKT (by kernel_rfl) (of_decide_eq_true (by kernel_rfl)) h1 hB (fun x hx => hW'.lt x (by simp [hx]))
  have t2 := Below.trod laidKT (by kernel_rfl) (of_decide_eq_true (by kernel_rfl)) h2 hB (fun x hx => hW'.lt x (by simp [hx]))
  refine ⟨_, rfl, _, _, _, [], p0 ++ p1 ++ p2, [], hW', ?_, ?_, ?_, hB.frame _, fun h => by cases h⟩
  · exact trodAll_mk1 (shut_bool Try.underlying4 _)
  · rw [List.append_assoc]; exact trodAll_mk3 t0 t1 t2
  · rfl

theorem fnExactSubstTerm_holds : Rows.FnExactSubstTermSaid :=
  OpenClaim.holds_of_wide 12 Try.f12 rfl rfl rfl rfl rfl rfl rfl ⟨rfl, rfl, rfl, rfl, rfl⟩ rfl rfl rfl rfl rfl (by kernel_rfl) Try.func12 (by kernel_rfl)
    (of_decide_eq_true (by kernel_rfl)) (by unfold Func.isWrapper; first | (rw [if_pos (by decide +kernel)]; kernel_rfl) | (rw [if_neg (by decide +kernel)]; exact ⟨rfl, rfl⟩))
    (fun os started H enc _ => fnExactSubstTerm_lifted os started H enc)
#print axioms fnExactSubstTerm_holds
end Go.Proofs.Ytfgjiamolknicaa
