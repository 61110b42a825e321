/- FnExactRefineType: for every type the law returns true, and its argument reads afterwards as it reads before. No conditions. -/
import Derived.Test.YtkkijdlgmlffoaaKW16
set_option linter.unusedSimpArgs false
set_option linter.unusedVariables false
namespace Go.Proofs.Ytkkijdlgmlffoaa
open Go.RowKit Go.Proofs.Sh Go.Proofs.Grad
open Go.ChangeShapes Go.WideShapes Go.ChangeAt

set_option maxRecDepth 100000
set_option maxHeartbeats 8000000
theorem refine_all (a : Ty) (ha : a.size < 10000000) : ∃ M : List Ty, ACl Try.prog 29 [.agg (tyC a)] [] (OwnK [.sl (tyR M)] Sh.one1) ∧ AFn Try.prog 28 [.agg (tyC a)] (.one (.sl (tyR M))) ∧ AFn Try.prog 29 [.agg (tyC a)] (.one (.sl (tyR M))) ∧ Ty.sizes M < 100000 := by
  cases hv : a.valid
  · exact ⟨[], iRefineNO a hv, sRefineN a (by omega) hv, iRefineN a hv, by simp [Ty.sizes]⟩
  · obtain ⟨t, rfl, ht⟩ := (Ty.valid_iff a).1 hv
    exact ⟨_, iRefineO t ht, sRefineV t ht, iRefineV t ht, T.steps_sizes t ht⟩
theorem fnExactRefineType_walk (a : Ty) (hfa : a.fits) : AFn Try.prog 10 [.agg (tyC a)] (.one (.sc (.bool true))) := by
  have hs := szTy _ a (Nat.lt_succ_self _) hfa 1048576 (by omega) (by omega)
  by_cases hw : (a.wt : Int) ≤ 1048576
  · have e1 : szR a.wt 1048576 = 1048576 - (a.wt : Int) := by unfold szR; rw [if_pos hw]
    rw [e1] at hs
    have d1 : decide (1048576 - (a.wt : Int) < 0) = false := by simp; omega
    have h9a : a.size < 10000000 := by have := a.size_wt; omega
    have ht := toTy 100000000 (by omega) a (by omega)
    have hto := toTyO 100000000 (by omega) a (by omega)
    have hea := eqTy 100000000 (by omega) a a (by omega)
    rw [Ty.same_refl] at hea
    obtain ⟨M, hi, hs2, hfr, hM⟩ := refine_all a h9a
    have hMl := Ty.length_le_sizes M
    have heg := eqTyS 100000000 (eqTy 100000000 (by omega)) M M (by omega) (by omega)
    rw [(Ty.sames_iff M M).2 rfl] at heg
    have hh := heldTyS 100000000 (by omega) M (by omega) 1 (by omega)
    have hma : Ty.sizes a.kids < 1000000000 := by cases a; simp only [Ty.size, Ty.kids] at *; omega
    have hne : ∀ j : Int, (j != j) = false := fun j => by simp
    have hneB : ∀ j : Bool, (j != j) = false := fun j => by simp
    have hnn : ∀ j : Nat, decide ((j : Int) < 0) = false := fun j => by simp
    refine fn_in ?_; refine acl_in Try.func10 rfl isfn_10 (Nat.le_of_ble_eq_true rfl) (fun R hR => ?_); rw [Try.results10] at hR; refine wg_run ?_; (simp only [Try.f10, go_sem])
    repeat' (first | (first | (simp only [go_sem, d1, int_bne]) | (((first | apply sp1 | apply sp2 | apply sp3 | apply sp4 | apply sp5 | apply sp6 | apply sp7) <;> intro hb) <;> (simp only [go_sem, hb, d1, int_bne])) | ((first | apply wm_done | apply wt_done | apply wg_run | refine fk ?_ ?_) <;> (simp only [go_sem, d1, int_bne]))) | (first | refine cdq ?_ (hc := hs) | refine cmq ?_ (hc := hs) | refine ctq ?_ (hc := hs)); (simp only [go_sem]))
    (first | refine cdq ?_ (hc := ht) | refine cmq ?_ (hc := ht) | refine ctq ?_ (hc := ht)); (simp only [go_sem])
    repeat' (first | (first | (simp only [go_sem, d1, int_bne]) | (((first | apply sp1 | apply sp2 | apply sp3 | apply sp4 | apply sp5 | apply sp6 | apply sp7) <;> intro hb) <;> (simp only [go_sem, hb, d1, int_bne])) | ((first | apply wm_done | apply wt_done | apply wg_run | refine fk ?_ ?_) <;> (simp only [go_sem, d1, int_bne]))) | (first | refine cdq ?_ (hc := hs2) | refine cmq ?_ (hc := hs2) | refine ctq ?_ (hc := hs2)); (simp only [go_sem]))
    refine wd_any (acalls_ownT (p := 1) (pre := [_]) (T := []) rfl (.cons (.same (by (simp only [go_sem]); first | done | rfl)) .nil) hto (fun _ h => h) ren_agg) ?_
    rintro _ _ ⟨cs0, T, ids0, rfl, rfl, -, -, O0, -⟩
    have hcs0 : cs0.length = 2 := by rw [O0.len, tyC_eq]; rfl
    have htk0 : cs0.take 2 = cs0 := List.take_of_length_le (by omega)
    (simp only [go_sem, hcs0])
    repeat' (first | (first | (simp only [go_sem, hcs0, htk0]) | (((first | apply sp1 | apply sp2 | apply sp3 | apply sp4 | apply sp5 | apply sp6 | apply sp7) <;> intro hb) <;> (simp only [go_sem, hb, hcs0, htk0])) | ((first | apply wm_done | apply wt_done | apply wg_run | refine fk ?_ ?_) <;> (simp only [go_sem, hcs0, htk0]))))
    refine wd_any (acalls_ownT (p := 1) (pre := [_]) (T := T ++ [_]) rfl (.cons ((O0.app _).lent rfl) .nil) hi one1_flat one1_ren) ?_
    rintro _ _ ⟨csg, T2, idsg, rfl, rfl, f1, f2, Og, hidg⟩
    have hcsg : csg.length = 1 := by rw [Og.len]; rfl
    obtain ⟨cg, rfl⟩ : ∃ c, csg = [c] := by
      cases csg with
      | nil => simp at hcsg
      | cons c r => cases r with
        | nil => exact ⟨c, rfl⟩
        | cons => simp at hcsg
    have hx0 := (f2 T.length (by simp)).trans (app_len T _)
    have hx0a := fun U => get_app hx0 U
    have l0 := O0.lt
    have O0 := (O0.app [_]).ext (T' := T2) (fun i hi _ => f2 i hi)
    simp only [List.length_append, List.length_cons, List.length_nil] at f1 hidg
    simp only [Sh.one1, List.getD_cons_zero]
    (simp only [go_sem])
    repeat' (first | (first | (simp only [go_sem, hx0, hx0a, hcs0, htk0]) | (((first | apply sp1 | apply sp2 | apply sp3 | apply sp4 | apply sp5 | apply sp6 | apply sp7) <;> intro hb) <;> (simp only [go_sem, hb, hx0, hx0a, hcs0, htk0])) | ((first | apply wm_done | apply wt_done | apply wg_run | refine fk ?_ ?_) <;> (simp only [go_sem, hx0, hx0a, hcs0, htk0]))))
    -- the result is the reference's
    refine wd_any (acalls_readT (.cons (Og.lent1 (pre := [_]) rfl) (.cons (.same (by (simp only [go_sem]); first | done | rfl)) .nil)) heg) ?_
    rintro _ _ ⟨rfl, rfl⟩
    (simp only [go_sem])
    repeat' (first | (first | (simp only [go_sem, hx0, hx0a, hcs0, htk0, hne, hneB, int_bne]) | (((first | apply sp1 | apply sp2 | apply sp3 | apply sp4 | apply sp5 | apply sp6 | apply sp7) <;> intro hb) <;> (simp only [go_sem, hb, hx0, hx0a, hcs0, htk0, hne, hneB, int_bne])) | ((first | apply wm_done | apply wt_done | apply wg_run | refine fk ?_ ?_) <;> (simp only [go_sem, hx0, hx0a, hcs0, htk0, hne, hneB, int_bne]))) | ((first | refine mxq6 [] ?_ | refine mxq5 [] ?_ | refine mxq4 [] ?_ | refine mxq3 [] ?_ | refine mxq2 [] ?_ | refine mxq1 [] ?_ | refine mxq0 [] ?_ | fail); (simp only [go_sem, hx0, hx0a, hcs0, htk0])) | (first | refine cdq ?_ (hc := ht) | refine cmq ?_ (hc := ht) | refine ctq ?_ (hc := ht)); (simp only [go_sem]))
    -- the argument reads as before
    refine wm_at (acalls_readT (.cons (O0.lent (pre := [_]) rfl) (.cons (.same (by (simp only [go_sem]); first | done | rfl)) .nil)) hea) (by (simp only [go_sem]); first | done | rfl) (by (simp only [go_sem]); first | done | rfl) (by rfl) ?_
    rintro _ _ ⟨rfl, rfl⟩
    (simp only [go_sem])
    repeat' (first | (first | (simp only [go_sem, hx0, hx0a, hcs0, htk0, hne, hneB, int_bne]) | (((first | apply sp1 | apply sp2 | apply sp3 | apply sp4 | apply sp5 | apply sp6 | apply sp7) <;> intro hb) <;> (simp only [go_sem, hb, hx0, hx0a, hcs0, htk0, hne, hneB, int_bne])) | ((first | apply wm_done | apply wt_done | apply wg_run | refine fk ?_ ?_) <;> (simp only [go_sem, hx0, hx0a, hcs0, htk0, hne, hneB, int_bne]))))
    -- the argument is marked
    have lg := Og.lt
    obtain ⟨ks1, hm1⟩ := markOwnY (k := 1) (pre := [_]) O0 rfl hma (by omega)
    refine wd_any hm1 ?_
    rintro _ _ ⟨T3, rfl, rfl, g1, g2, O1⟩
    have Og1 := Og.ext (T' := T3) (fun i hi hm => g2 i hi (fun hm' => by have := hidg _ hm; have := l0 _ hm'; omega))
    (simp only [go_sem])
    repeat' (first | (first | (simp only [go_sem, hnn, hne, hneB, int_bne]) | (((first | apply sp1 | apply sp2 | apply sp3 | apply sp4 | apply sp5 | apply sp6 | apply sp7) <;> intro hb) <;> (simp only [go_sem, hb, hnn, hne, hneB, int_bne])) | ((first | apply wm_done | apply wt_done | apply wg_run | refine fk ?_ ?_) <;> (simp only [go_sem, hnn, hne, hneB, int_bne]))))
    refine wd_any (acalls_readT (.cons (Og1.lent1 (pre := [_]) rfl) (.cons (.same (by (simp only [go_sem]); first | done | rfl)) .nil)) heg) ?_
    rintro _ _ ⟨rfl, rfl⟩
    (simp only [go_sem])
    repeat' (first | (first | (simp only [go_sem, hnn, hne, hneB, int_bne]) | (((first | apply sp1 | apply sp2 | apply sp3 | apply sp4 | apply sp5 | apply sp6 | apply sp7) <;> intro hb) <;> (simp only [go_sem, hb, hnn, hne, hneB, int_bne])) | ((first | apply wm_done | apply wt_done | apply wg_run | refine fk ?_ ?_) <;> (simp only [go_sem, hnn, hne, hneB, int_bne]))))
    -- the result is marked, and keeps the marks
    obtain ⟨ks2, hm2⟩ := markOwnYS (k := 1) (pre := [_]) Og1 rfl (by omega) (by omega)
    refine wd_any hm2 ?_
    rintro _ _ ⟨T4, rfl, rfl, q1, q2, O2⟩
    (simp only [go_sem])
    repeat' (first | (first | (simp only [go_sem, hnn, hne, hneB, int_bne]) | (((first | apply sp1 | apply sp2 | apply sp3 | apply sp4 | apply sp5 | apply sp6 | apply sp7) <;> intro hb) <;> (simp only [go_sem, hb, hnn, hne, hneB, int_bne])) | ((first | apply wm_done | apply wt_done | apply wg_run | refine fk ?_ ?_) <;> (simp only [go_sem, hnn, hne, hneB, int_bne]))))
    refine wd_any (acalls_readT (.cons (O2.lent1 (pre := [_]) rfl) (.cons (.same rfl) .nil)) hh) ?_
    rintro _ _ ⟨rfl, rfl⟩
    (simp only [go_sem])
    repeat' (first | (first | (simp only [go_sem, hnn, hne, hneB, int_bne]) | (((first | apply sp1 | apply sp2 | apply sp3 | apply sp4 | apply sp5 | apply sp6 | apply sp7) <;> intro hb) <;> (simp only [go_sem, hb, hnn, hne, hneB, int_bne])) | ((first | apply wm_done | apply wt_done | apply wg_run | refine fk ?_ ?_) <;> (simp only [go_sem, hnn, hne, hneB, int_bne]))) | (first | refine cdq ?_ (hc := ht) | refine cmq ?_ (hc := ht) | refine ctq ?_ (hc := ht)); (simp only [go_sem]) | (first | refine cdq ?_ (hc := hfr) | refine cmq ?_ (hc := hfr) | refine ctq ?_ (hc := hfr)); (simp only [go_sem]) | (first | refine cdq ?_ (hc := heg) | refine cmq ?_ (hc := heg) | refine ctq ?_ (hc := heg)); (simp only [go_sem]))
    refine wd_any (acalls_readT (.cons (O2.lent1 (pre := [_]) rfl) (.cons (.same rfl) .nil)) hh) ?_
    rintro _ _ ⟨rfl, rfl⟩
    (simp only [go_sem])
    repeat' (first | (first | (simp only [go_sem, hnn, hne, hneB, int_bne]) | (((first | apply sp1 | apply sp2 | apply sp3 | apply sp4 | apply sp5 | apply sp6 | apply sp7) <;> intro hb) <;> (simp only [go_sem, hb, hnn, hne, hneB, int_bne])) | ((first | apply wm_done | apply wt_done | apply wg_run | refine fk ?_ ?_) <;> (simp only [go_sem, hnn, hne, hneB, int_bne]))))
    (refine hR _ (rat [] (hK := ⟨rfl, rfl⟩)))
  · have e1 : szR a.wt 1048576 = -1 := by unfold szR; rw [if_neg hw]
    rw [e1] at hs
    refine fn_in ?_; refine acl_in Try.func10 rfl isfn_10 (Nat.le_of_ble_eq_true rfl) (fun R hR => ?_); rw [Try.results10] at hR; refine wg_run ?_; (simp only [Try.f10, go_sem])
    repeat' (first | (first | (((first | apply sp1 | apply sp2 | apply sp3 | apply sp4 | apply sp5 | apply sp6 | apply sp7) <;> intro hb) <;> (simp only [go_sem, hb])) | ((first | apply wm_done | apply wt_done | apply wg_run | refine fk ?_ ?_) <;> (simp only [go_sem]))) | (first | refine cdq ?_ (hc := hs) | refine cmq ?_ (hc := hs) | refine ctq ?_ (hc := hs)); (simp only [go_sem]))
    (refine hR _ (rat [] (hK := ⟨rfl, rfl⟩)))

set_option maxRecDepth 100000 in
theorem fnExactRefineType_lifted (os : Os) (started : os.Started) (H : Type) (enc : TypeId × Value → H) :
    ReturnsInHanded {} Try.checked os 10 .any (Rows.fnExactRefineTypeSpec.pre6 enc Try.prog Try.f10 Rows.fnExactRefineTypeRow.domain false) (Rows.fnExactRefineTypeSpec.post enc Try.prog Try.f10 false true false false) := by
  refine returnsInHanded_of_change (C := Try.checked) ownKT started (by kernel_rfl) Try.func10
    (ChangeSpec.witness6 (enc := enc) (C := Try.checked) false ⟨#[], #[.agg #[.int .i64 0, .slice none 0 0]], []⟩ 8 (by kernel_rfl) (by kernel_rfl) (by kernel_rfl) (by kernel_rfl)) ?_
  intro W base args ds gs before hval0 hW hcnd _
  have hval : ∀ (j : Nat) t v, Try.f10.params[j]? = some t → args[j]? = some v → Value.okWide Try.prog W .any base t v := hval0
  have hW' := hW
  obtain ⟨p, q, hA0, hV, rfl, hfz, hnd⟩ := hW
  have hA : DataW.TrodAll enc Try.prog W 0 (fun _ => true) true Try.f10.params.toList args.toList ds p := hA0
  rw [Try.params10] at hA hval
  obtain ⟨v0, d0, rfl, rfl, h0⟩ := trodAll_one hA
  obtain ⟨rfl, rfl⟩ := trodVars_none hV
  obtain ⟨x0, hr0, hf0⟩ := open_TyS (hval 0 24 v0 rfl rfl) h0
  clear hA0 hval0
  simp only [List.append_nil] at hW'
  refine (lawCalls (fnExactRefineType_walk x0 hf0) (vs := #[v0]) (by simp only [AV.repl]; exact ⟨_, _, rfl, hr0, rfl⟩)).mono fun e W' ⟨he, hB⟩ => ?_
  subst he
  have t0 := Below.trod laidKT (by kernel_rfl) (of_decide_eq_true (by kernel_rfl)) h0 hB (fun x hx => hW'.lt x (by simp [hx]))
  refine ⟨_, rfl, _, _, _, [], p, [], hW', ?_, ?_, ?_, hB.frame _, fun h => by cases h⟩
  · exact trodAll_mk1 (shut_bool Try.underlying4 _)
  · exact trodAll_mk1 t0
  · rfl

theorem fnExactRefineType_holds : Rows.FnExactRefineTypeSaid :=
  OpenClaim.holds_of_wide 10 Try.f10 rfl rfl rfl rfl rfl rfl rfl ⟨rfl, rfl, rfl, rfl, rfl⟩ rfl rfl rfl rfl rfl (by kernel_rfl) Try.func10 (by kernel_rfl)
    (of_decide_eq_true (by kernel_rfl)) (by unfold Func.isWrapper; first | (rw [if_pos (by decide +kernel)]; kernel_rfl) | (rw [if_neg (by decide +kernel)]; exact ⟨rfl, rfl⟩))
    (fun os started H enc _ => fnExactRefineType_lifted os started H enc)
#print axioms fnExactRefineType_holds
end Go.Proofs.Ytkkijdlgmlffoaa
