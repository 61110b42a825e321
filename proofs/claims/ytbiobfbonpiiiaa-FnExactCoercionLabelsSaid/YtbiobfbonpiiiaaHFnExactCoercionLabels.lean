/- FnExactCoercionLabels: for every coercion the law returns true, and its argument reads afterwards as it reads before. No conditions. -/
import Derived.Test.YtbiobfbonpiiiaaKW20
set_option linter.unusedSimpArgs false
set_option linter.unusedVariables false
namespace Go.Proofs.Ytbiobfbonpiiiaa
open Go.RowKit Go.Proofs.Sh Go.Proofs.Grad
open Go.ChangeShapes Go.WideShapes Go.ChangeAt

set_option maxRecDepth 100000
set_option maxHeartbeats 8000000
theorem fnExactCoercionLabels_walk (a : Co) (hfa : a.fits) : AFn Try.prog 9 [.agg (coC a)] (.one (.sc (.bool true))) := by
  have hs := szCo _ a (Nat.lt_succ_self _) hfa 1048576 (by omega) (by omega)
  by_cases hw : (a.wt : Int) ≤ 1048576
  · have e1 : szR a.wt 1048576 = 1048576 - (a.wt : Int) := by unfold szR; rw [if_pos hw]
    rw [e1] at hs
    have d1 : decide (1048576 - (a.wt : Int) < 0) = false := by simp; omega
    have h9a : a.size < 100000000 := by have := a.size_wt; omega
    have h9c : a.size < 90000000 := by have := a.size_wt; omega
    have ht := toCo 100000000 (by omega) a h9a
    have hto := toCoO 100000000 (by omega) a h9a
    have hea := eqCo 100000000 (by omega) a a h9a
    rw [Co.same_refl] at hea
    have hi := iCoLabsI a h9c
    have hfr := iCoLabs a h9c
    have hs2 := sCoLabs a h9c
    have hL : a.labsV.length < 10000000 := by have := labsV_len a; have := a.size_wt; omega
    have heg := eqInts a.labsV (by omega)
    have hmn := markNone 1
    generalize a.labsV = L at *
    have hh := heldInts L.length 1 (by omega)
    have hma := cokids_lt a
    have hne : ∀ j : Int, (j != j) = false := fun j => by simp
    have hneB : ∀ j : Bool, (j != j) = false := fun j => by simp
    have hnn : ∀ j : Nat, decide ((j : Int) < 0) = false := fun j => by simp
    refine fn_in ?_; refine acl_in Try.func9 rfl isfn_9 (Nat.le_of_ble_eq_true rfl) (fun R hR => ?_); rw [Try.results9] at hR; refine wg_run ?_; (simp only [Try.f9, go_sem])
    repeat' (first | (first | (simp only [go_sem, d1, int_bne]) | (((first | apply sp1 | apply sp2 | apply sp3 | apply sp4 | apply sp5 | apply sp6 | apply sp7) <;> intro hb) <;> (simp only [go_sem, hb, d1, int_bne])) | ((first | apply wm_done | apply wt_done | apply wg_run | refine fk ?_ ?_) <;> (simp only [go_sem, d1, int_bne]))) | (first | refine cdq ?_ (hc := hs) | refine cmq ?_ (hc := hs) | refine ctq ?_ (hc := hs)); (simp only [go_sem]))
    (first | refine cdq ?_ (hc := ht) | refine cmq ?_ (hc := ht) | refine ctq ?_ (hc := ht)); (simp only [go_sem])
    repeat' (first | (first | (simp only [go_sem, d1, int_bne]) | (((first | apply sp1 | apply sp2 | apply sp3 | apply sp4 | apply sp5 | apply sp6 | apply sp7) <;> intro hb) <;> (simp only [go_sem, hb, d1, int_bne])) | ((first | apply wm_done | apply wt_done | apply wg_run | refine fk ?_ ?_) <;> (simp only [go_sem, d1, int_bne]))) | (first | refine cdq ?_ (hc := hs2) | refine cmq ?_ (hc := hs2) | refine ctq ?_ (hc := hs2)); (simp only [go_sem]))
    refine wd_any (acalls_ownT (p := 1) (pre := [_]) (T := []) rfl (.cons (.same (by (simp only [go_sem]); first | done | rfl)) .nil) hto (fun _ h => h) ren_agg) ?_
    rintro _ _ ⟨cs0, T, ids0, rfl, rfl, -, -, O0, -⟩
    have hcs0 : cs0.length = 4 := by rw [O0.len, coC_length]
    have htk0 : cs0.take 4 = cs0 := List.take_of_length_le (by omega)
    (simp only [go_sem, hcs0])
    repeat' (first | (first | (simp only [go_sem, hcs0, htk0]) | (((first | apply sp1 | apply sp2 | apply sp3 | apply sp4 | apply sp5 | apply sp6 | apply sp7) <;> intro hb) <;> (simp only [go_sem, hb, hcs0, htk0])) | ((first | apply wm_done | apply wt_done | apply wg_run | refine fk ?_ ?_) <;> (simp only [go_sem, hcs0, htk0]))))
    refine wd_any (acalls_ints (.cons ((O0.app _).lent (pre := [_]) rfl) .nil) hi) ?_
    have l0 := O0.lt
    rintro r h2 (⟨rfl, rfl, rfl⟩ | ⟨hr, hh0⟩)
    · -- no number
      (simp only [go_sem])
      repeat' (first | (first | (simp only [go_sem, hcs0, htk0, hne, hneB, int_bne]) | (((first | apply sp1 | apply sp2 | apply sp3 | apply sp4 | apply sp5 | apply sp6 | apply sp7) <;> intro hb) <;> (simp only [go_sem, hb, hcs0, htk0, hne, hneB, int_bne])) | ((first | apply wm_done | apply wt_done | apply wg_run | refine fk ?_ ?_) <;> (simp only [go_sem, hcs0, htk0, hne, hneB, int_bne]))) | (first | refine cdq ?_ (hc := heg) | refine cmq ?_ (hc := heg) | refine ctq ?_ (hc := heg)); (simp only [go_sem]) | ((first | refine mxq6 [] ?_ | refine mxq5 [] ?_ | refine mxq4 [] ?_ | refine mxq3 [] ?_ | refine mxq2 [] ?_ | refine mxq1 [] ?_ | refine mxq0 [] ?_ | fail); (simp only [go_sem, hcs0, htk0])) | (first | refine cdq ?_ (hc := ht) | refine cmq ?_ (hc := ht) | refine ctq ?_ (hc := ht)); (simp only [go_sem]))
      refine wm_at (acalls_readT (.cons (((O0.app [_]).lent (pre := [_]) rfl)) (.cons (.same (by (simp only [go_sem]); first | done | rfl)) .nil)) hea) (by (simp only [go_sem]); first | done | rfl) (by (simp only [go_sem]); first | done | rfl) (by rfl) ?_
      rintro _ _ ⟨rfl, rfl⟩
      (simp only [go_sem])
      repeat' (first | (first | (simp only [go_sem, hcs0, htk0, hne, hneB, int_bne]) | (((first | apply sp1 | apply sp2 | apply sp3 | apply sp4 | apply sp5 | apply sp6 | apply sp7) <;> intro hb) <;> (simp only [go_sem, hb, hcs0, htk0, hne, hneB, int_bne])) | ((first | apply wm_done | apply wt_done | apply wg_run | refine fk ?_ ?_) <;> (simp only [go_sem, hcs0, htk0, hne, hneB, int_bne]))))
      obtain ⟨ks1, hm1⟩ := markOwnC (k := 1) (pre := [_]) (O0.app [_]) rfl (by omega) (by omega)
      refine wd_any hm1 ?_
      rintro _ _ ⟨T3, rfl, rfl, g1, g2, O1⟩
      (simp only [go_sem])
      repeat' (first | (first | (simp only [go_sem, hnn, hne, hneB, int_bne]) | (((first | apply sp1 | apply sp2 | apply sp3 | apply sp4 | apply sp5 | apply sp6 | apply sp7) <;> intro hb) <;> (simp only [go_sem, hb, hnn, hne, hneB, int_bne])) | ((first | apply wm_done | apply wt_done | apply wg_run | refine fk ?_ ?_) <;> (simp only [go_sem, hnn, hne, hneB, int_bne]))) | (first | refine cdq ?_ (hc := heg) | refine cmq ?_ (hc := heg) | refine ctq ?_ (hc := heg)); (simp only [go_sem]) | (first | refine cdq ?_ (hc := hmn) | refine cmq ?_ (hc := hmn) | refine ctq ?_ (hc := hmn)); (simp only [go_sem]) | (first | refine cdq ?_ (hc := hh) | refine cmq ?_ (hc := hh) | refine ctq ?_ (hc := hh)); (simp only [go_sem]) | (first | refine cdq ?_ (hc := ht) | refine cmq ?_ (hc := ht) | refine ctq ?_ (hc := ht)); (simp only [go_sem]) | (first | refine cdq ?_ (hc := hfr) | refine cmq ?_ (hc := hfr) | refine ctq ?_ (hc := hfr)); (simp only [go_sem]))
      (refine hR _ (rat [] (hK := ⟨rfl, rfl⟩)))
    · -- its own numbers
      have hr2 : r = .one (.row 1 (T.length + 1 + 1) L.length) := by rw [hr]; simp
      obtain ⟨T2, hh2, hx0, hgi, hl2, O2⟩ : ∃ T2 : List Blk, h2 = [⟨4, 50, .mut, [coC a]⟩] ++ T2 ∧ T2[T.length]? = some ⟨4, 30, .mut, [cs0]⟩ ∧ T2[T.length + 1]? = some ⟨1, 3, .mut, intR L⟩ ∧ T2.length = T.length + 2 ∧ OwnT 1 T2 cs0 (coC a) ids0 :=
        ⟨T ++ [⟨4, 30, .mut, [cs0]⟩] ++ [⟨1, 3, .mut, intR L⟩], by rw [hh0]; simp, by simp, by simp, by simp, (O0.app _).app _⟩
      subst hr2 hh2
      clear hr hh0
      have hgi2 : ([⟨4, 50, .mut, [coC a]⟩] ++ T2 : List Blk)[T.length + 1 + 1]? = some ⟨1, 3, .mut, intR L⟩ := by simpa using hgi
      have hx0a := fun U => get_app hx0 U
      (simp only [go_sem])
      repeat' (first | (first | (simp only [go_sem, hcs0, htk0, hx0, hx0a, hne, hneB, int_bne]) | (((first | apply sp1 | apply sp2 | apply sp3 | apply sp4 | apply sp5 | apply sp6 | apply sp7) <;> intro hb) <;> (simp only [go_sem, hb, hcs0, htk0, hx0, hx0a, hne, hneB, int_bne])) | ((first | apply wm_done | apply wt_done | apply wg_run | refine fk ?_ ?_) <;> (simp only [go_sem, hcs0, htk0, hx0, hx0a, hne, hneB, int_bne]))))
      refine wd_any (acalls_readT (.cons (lent_ints hgi2 rfl) (.cons (.same (by (simp only [go_sem]); first | done | rfl)) .nil)) heg) ?_
      rintro _ _ ⟨rfl, rfl⟩
      (simp only [go_sem])
      repeat' (first | (first | (simp only [go_sem, hcs0, htk0, hx0, hx0a, hne, hneB, int_bne]) | (((first | apply sp1 | apply sp2 | apply sp3 | apply sp4 | apply sp5 | apply sp6 | apply sp7) <;> intro hb) <;> (simp only [go_sem, hb, hcs0, htk0, hx0, hx0a, hne, hneB, int_bne])) | ((first | apply wm_done | apply wt_done | apply wg_run | refine fk ?_ ?_) <;> (simp only [go_sem, hcs0, htk0, hx0, hx0a, hne, hneB, int_bne]))) | ((first | refine mxq6 [] ?_ | refine mxq5 [] ?_ | refine mxq4 [] ?_ | refine mxq3 [] ?_ | refine mxq2 [] ?_ | refine mxq1 [] ?_ | refine mxq0 [] ?_ | fail); (simp only [go_sem, hcs0, htk0, hx0, hx0a])) | (first | refine cdq ?_ (hc := ht) | refine cmq ?_ (hc := ht) | refine ctq ?_ (hc := ht)); (simp only [go_sem]))
      refine wm_at (acalls_readT (.cons (O2.lent (pre := [_]) rfl) (.cons (.same (by (simp only [go_sem]); first | done | rfl)) .nil)) hea) (by (simp only [go_sem]); first | done | rfl) (by (simp only [go_sem]); first | done | rfl) (by rfl) ?_
      rintro _ _ ⟨rfl, rfl⟩
      (simp only [go_sem])
      repeat' (first | (first | (simp only [go_sem, hcs0, htk0, hx0, hx0a, hne, hneB, int_bne]) | (((first | apply sp1 | apply sp2 | apply sp3 | apply sp4 | apply sp5 | apply sp6 | apply sp7) <;> intro hb) <;> (simp only [go_sem, hb, hcs0, htk0, hx0, hx0a, hne, hneB, int_bne])) | ((first | apply wm_done | apply wt_done | apply wg_run | refine fk ?_ ?_) <;> (simp only [go_sem, hcs0, htk0, hx0, hx0a, hne, hneB, int_bne]))))
      obtain ⟨ks1, hm1⟩ := markOwnC (k := 1) (pre := [⟨4, 50, .mut, [coC a]⟩]) O2 rfl (by omega) (by omega)
      refine wd_any hm1 ?_
      rintro _ _ ⟨T3, rfl, rfl, g1, g2, O1⟩
      have hgi3 := (g2 (T.length + 1) (by omega) (fun hm => by have := l0 _ hm; omega)).trans hgi
      have hgi4 : ([⟨4, 50, .mut, [coC a]⟩] ++ T3 : List Blk)[T.length + 1 + 1]? = some ⟨1, 3, .mut, intR L⟩ := by simpa using hgi3
      (simp only [go_sem])
      repeat' (first | (first | (simp only [go_sem, hnn, hne, hneB, int_bne]) | (((first | apply sp1 | apply sp2 | apply sp3 | apply sp4 | apply sp5 | apply sp6 | apply sp7) <;> intro hb) <;> (simp only [go_sem, hb, hnn, hne, hneB, int_bne])) | ((first | apply wm_done | apply wt_done | apply wg_run | refine fk ?_ ?_) <;> (simp only [go_sem, hnn, hne, hneB, int_bne]))))
      refine wd_any (acalls_readT (.cons (lent_ints hgi4 rfl) (.cons (.same (by (simp only [go_sem]); first | done | rfl)) .nil)) heg) ?_
      rintro _ _ ⟨rfl, rfl⟩
      (simp only [go_sem])
      repeat' (first | (first | (simp only [go_sem, hnn, hne, hneB, int_bne]) | (((first | apply sp1 | apply sp2 | apply sp3 | apply sp4 | apply sp5 | apply sp6 | apply sp7) <;> intro hb) <;> (simp only [go_sem, hb, hnn, hne, hneB, int_bne])) | ((first | apply wm_done | apply wt_done | apply wg_run | refine fk ?_ ?_) <;> (simp only [go_sem, hnn, hne, hneB, int_bne]))))
      obtain ⟨ks2, hm2⟩ := acalls_mark (markInts ([⟨4, 50, .mut, [coC a]⟩] ++ T3) (T.length + 1 + 1) L.length L hgi4 rfl 1 (by omega))
      refine wd_any hm2 ?_
      rintro _ _ ⟨rfl, rfl⟩
      obtain ⟨T4, hh4, hgi5⟩ : ∃ T4 : List Blk, ([⟨4, 50, .mut, [coC a]⟩] ++ T3 : List Blk).set (T.length + 1 + 1) ⟨1, 3, .mut, intR (upI 1 L.length)⟩ = [⟨4, 50, .mut, [coC a]⟩] ++ T4 ∧ ([⟨4, 50, .mut, [coC a]⟩] ++ T4 : List Blk)[T.length + 1 + 1]? = some ⟨1, 3, .mut, intR (upI 1 L.length)⟩ := by
        refine ⟨T3.set (T.length + 1) ⟨1, 3, .mut, intR (upI 1 L.length)⟩, by simp, ?_⟩
        have : T.length + 1 < T3.length := by omega
        simp [this]
      rw [hh4]
      (simp only [go_sem])
      repeat' (first | (first | (simp only [go_sem, hnn, hne, hneB, int_bne]) | (((first | apply sp1 | apply sp2 | apply sp3 | apply sp4 | apply sp5 | apply sp6 | apply sp7) <;> intro hb) <;> (simp only [go_sem, hb, hnn, hne, hneB, int_bne])) | ((first | apply wm_done | apply wt_done | apply wg_run | refine fk ?_ ?_) <;> (simp only [go_sem, hnn, hne, hneB, int_bne]))))
      refine wd_any (acalls_readT (.cons (lent_ints hgi5 (upI_length _ _).symm) (.cons (.same rfl) .nil)) hh) ?_
      rintro _ _ ⟨rfl, rfl⟩
      (simp only [go_sem])
      repeat' (first | (first | (simp only [go_sem, hnn, hne, hneB, int_bne]) | (((first | apply sp1 | apply sp2 | apply sp3 | apply sp4 | apply sp5 | apply sp6 | apply sp7) <;> intro hb) <;> (simp only [go_sem, hb, hnn, hne, hneB, int_bne])) | ((first | apply wm_done | apply wt_done | apply wg_run | refine fk ?_ ?_) <;> (simp only [go_sem, hnn, hne, hneB, int_bne]))) | (first | refine cdq ?_ (hc := ht) | refine cmq ?_ (hc := ht) | refine ctq ?_ (hc := ht)); (simp only [go_sem]) | (first | refine cdq ?_ (hc := hfr) | refine cmq ?_ (hc := hfr) | refine ctq ?_ (hc := hfr)); (simp only [go_sem]) | (first | refine cdq ?_ (hc := heg) | refine cmq ?_ (hc := heg) | refine ctq ?_ (hc := heg)); (simp only [go_sem]))
      refine wd_any (acalls_readT (.cons (lent_ints hgi5 (upI_length _ _).symm) (.cons (.same rfl) .nil)) hh) ?_
      rintro _ _ ⟨rfl, rfl⟩
      (simp only [go_sem])
      repeat' (first | (first | (simp only [go_sem, hnn, hne, hneB, int_bne]) | (((first | apply sp1 | apply sp2 | apply sp3 | apply sp4 | apply sp5 | apply sp6 | apply sp7) <;> intro hb) <;> (simp only [go_sem, hb, hnn, hne, hneB, int_bne])) | ((first | apply wm_done | apply wt_done | apply wg_run | refine fk ?_ ?_) <;> (simp only [go_sem, hnn, hne, hneB, int_bne]))))
      (refine hR _ (rat [] (hK := ⟨rfl, rfl⟩)))
  · have e1 : szR a.wt 1048576 = -1 := by unfold szR; rw [if_neg hw]
    rw [e1] at hs
    refine fn_in ?_; refine acl_in Try.func9 rfl isfn_9 (Nat.le_of_ble_eq_true rfl) (fun R hR => ?_); rw [Try.results9] at hR; refine wg_run ?_; (simp only [Try.f9, go_sem])
    repeat' (first | (first | (((first | apply sp1 | apply sp2 | apply sp3 | apply sp4 | apply sp5 | apply sp6 | apply sp7) <;> intro hb) <;> (simp only [go_sem, hb])) | ((first | apply wm_done | apply wt_done | apply wg_run | refine fk ?_ ?_) <;> (simp only [go_sem]))) | (first | refine cdq ?_ (hc := hs) | refine cmq ?_ (hc := hs) | refine ctq ?_ (hc := hs)); (simp only [go_sem]))
    (refine hR _ (rat [] (hK := ⟨rfl, rfl⟩)))

set_option maxRecDepth 100000 in
theorem fnExactCoercionLabels_lifted (os : Os) (started : os.Started) (H : Type) (enc : TypeId × Value → H) :
    ReturnsInHanded {} Try.checked os 9 .any (Rows.fnExactCoercionLabelsSpec.pre6 enc Try.prog Try.f9 Rows.fnExactCoercionLabelsRow.domain false) (Rows.fnExactCoercionLabelsSpec.post enc Try.prog Try.f9 false true false false) := by
  refine returnsInHanded_of_change (C := Try.checked) ownKT started (by kernel_rfl) Try.func9
    (ChangeSpec.witness6 (enc := enc) (C := Try.checked) false ⟨#[], #[.agg #[.int .i64 0, .int .i64 0, .int .i64 0, .slice none 0 0]], []⟩ 8 (by kernel_rfl) (by kernel_rfl) (by kernel_rfl) (by kernel_rfl)) ?_
  intro W base args ds gs before hval0 hW hcnd _
  have hval : ∀ (j : Nat) t v, Try.f9.params[j]? = some t → args[j]? = some v → Value.okWide Try.prog W .any base t v := hval0
  have hW' := hW
  obtain ⟨p, q, hA0, hV, rfl, hfz, hnd⟩ := hW
  have hA : DataW.TrodAll enc Try.prog W 0 (fun _ => true) true Try.f9.params.toList args.toList ds p := hA0
  rw [Try.params9] at hA hval
  obtain ⟨v0, d0, rfl, rfl, h0⟩ := trodAll_one hA
  obtain ⟨rfl, rfl⟩ := trodVars_none hV
  obtain ⟨x0, hr0, hf0⟩ := open_CoS (hval 0 50 v0 rfl rfl) h0
  clear hA0 hval0
  simp only [List.append_nil] at hW'
  refine (lawCalls (fnExactCoercionLabels_walk x0 hf0) (vs := #[v0]) (by simp only [AV.repl]; exact ⟨_, _, rfl, hr0, rfl⟩)).mono fun e W' ⟨he, hB⟩ => ?_
  subst he
  have t0 := Below.trod laidKT (by kernel_rfl) (of_decide_eq_true (by kernel_rfl)) h0 hB (fun x hx => hW'.lt x (by simp [hx]))
  refine ⟨_, rfl, _, _, _, [], p, [], hW', ?_, ?_, ?_, hB.frame _, fun h => by cases h⟩
  · exact trodAll_mk1 (shut_bool Try.underlying4 _)
  · exact trodAll_mk1 t0
  · rfl

theorem fnExactCoercionLabels_holds : Rows.FnExactCoercionLabelsSaid :=
  OpenClaim.holds_of_wide 9 Try.f9 rfl rfl rfl rfl rfl rfl rfl ⟨rfl, rfl, rfl, rfl, rfl⟩ rfl rfl rfl rfl rfl (by kernel_rfl) Try.func9 (by kernel_rfl)
    (of_decide_eq_true (by kernel_rfl)) (by unfold Func.isWrapper; first | (rw [if_pos (by decide +kernel)]; kernel_rfl) | (rw [if_neg (by decide +kernel)]; exact ⟨rfl, rfl⟩))
    (fun os started H enc _ => fnExactCoercionLabels_lifted os started H enc)
#print axioms fnExactCoercionLabels_holds
end Go.Proofs.Ytbiobfbonpiiiaa
