/- FnExactRelabelCasts: for every term the law returns true, and its argument reads afterwards as it reads before. No conditions. -/
import Derived.Test.YtchcbfbnffhifaaKV17
import Derived.Test.YtchcbfbnffhifaaKV19
import Derived.Test.YtchcbfbnffhifaaKV20
set_option linter.unusedSimpArgs false
set_option linter.unusedVariables false
namespace Go.Proofs.Ytchcbfbnffhifaa
open Go.RowKit Go.Proofs.Sh Go.Proofs.Grad
open Go.ChangeShapes Go.WideShapes Go.ChangeAt

set_option maxRecDepth 100000
set_option maxHeartbeats 8000000
theorem fnExactRelabelCasts_walk (a : Tm) (hfa : a.fits) : AFn Try.prog 14 [.agg (teC a)] (.one (.sc (.bool true))) := by
  have hs := szTm _ a (Nat.lt_succ_self _) hfa 1048576 (by omega) (by omega)
  by_cases hw : (a.wt : Int) ≤ 1048576
  · have e1 : szR a.wt 1048576 = 1048576 - (a.wt : Int) := by unfold szR; rw [if_pos hw]
    rw [e1] at hs
    have d1 : decide (1048576 - (a.wt : Int) < 0) = false := by simp; omega
    have h9a : a.size < 100000000 := by have := a.size_wt; omega
    have ht := toTm 100000000 (by omega) a h9a
    have hto := toTmO 100000000 (by omega) a h9a
    have hea := eqTm 100000000 (by omega) a a h9a
    rw [Tm.same_refl] at hea
    have hi := iRelabelO a (by have := a.size_wt; omega)
    obtain ⟨g, hg⟩ : ∃ g, g = relT a := ⟨_, rfl⟩
    rw [← hg] at hi
    have hs2 := sRelabel a (by have := a.size_wt; omega)
    rw [← hg] at hs2
    have hfr := own_frz (WF.bool _) hi
    simp only [boolF] at hs2 hfr
    have hg9 : g.size < 100000000 := by rw [hg]; exact relT_size a (by have := a.size_wt; omega)
    generalize relB a = c1 at *
    have heg := eqTm 100000000 (by omega) g g hg9
    rw [Tm.same_refl] at heg
    have hma := mwT_le a
    have hmg := mwT_le g
    have hh := heldTm g 1 (by omega) (by omega)
    have hne : ∀ j : Int, (j != j) = false := fun j => by simp
    have hneB : ∀ j : Bool, (j != j) = false := fun j => by simp
    have hnn : ∀ j : Nat, decide ((j : Int) < 0) = false := fun j => by simp
    refine fn_in ?_; refine acl_in Try.func14 rfl isfn_14 (Nat.le_of_ble_eq_true rfl) (fun R hR => ?_); rw [Try.results14] at hR; refine wg_run ?_; (simp only [Try.f14, go_sem])
    repeat' (first | (first | (simp only [go_sem, d1, int_bne]) | (((first | apply sp1 | apply sp2 | apply sp3 | apply sp4 | apply sp5 | apply sp6 | apply sp7) <;> intro hb) <;> (simp only [go_sem, hb, d1, int_bne])) | ((first | apply wm_done | apply wt_done | apply wg_run | refine fk ?_ ?_) <;> (simp only [go_sem, d1, int_bne]))) | (first | refine cdq ?_ (hc := hs) | refine cmq ?_ (hc := hs) | refine ctq ?_ (hc := hs)); (simp only [go_sem]))
    (first | refine cdq ?_ (hc := ht) | refine cmq ?_ (hc := ht) | refine ctq ?_ (hc := ht)); (simp only [go_sem])
    repeat' (first | (first | (simp only [go_sem, d1, int_bne]) | (((first | apply sp1 | apply sp2 | apply sp3 | apply sp4 | apply sp5 | apply sp6 | apply sp7) <;> intro hb) <;> (simp only [go_sem, hb, d1, int_bne])) | ((first | apply wm_done | apply wt_done | apply wg_run | refine fk ?_ ?_) <;> (simp only [go_sem, d1, int_bne]))) | (first | refine cdq ?_ (hc := hs2) | refine cmq ?_ (hc := hs2) | refine ctq ?_ (hc := hs2)); (simp only [go_sem]))
    refine wd_any (acalls_ownT (p := 2) (pre := [_, _]) (T := []) rfl (.cons (.same (by (simp only [go_sem]); first | done | rfl)) .nil) hto (fun _ h => h) ren_agg) ?_
    rintro _ _ ⟨cs0, T, ids0, rfl, rfl, -, -, O0, -⟩
    have hcs0 : cs0.length = 9 := by rw [O0.len, teC_length]
    have htk0 : cs0.take 9 = cs0 := List.take_of_length_le (by omega)
    (simp only [go_sem, hcs0])
    repeat' (first | (first | (simp only [go_sem, hcs0, htk0]) | (((first | apply sp1 | apply sp2 | apply sp3 | apply sp4 | apply sp5 | apply sp6 | apply sp7) <;> intro hb) <;> (simp only [go_sem, hb, hcs0, htk0])) | ((first | apply wm_done | apply wt_done | apply wg_run | refine fk ?_ ?_) <;> (simp only [go_sem, hcs0, htk0]))))
    refine wd_any (acalls_ownT (p := 2) (pre := [_, _]) (T := T ++ [_]) rfl (.cons ((O0.app _).lent rfl) .nil) hi (WF.bool _).flat (WF.bool _).ren) ?_
    rintro _ _ ⟨csg, T2, idsg, rfl, rfl, f1, f2, Og, hidg⟩
    have hcsg : csg.length = 9 := by rw [Og.len, teC_length]
    have htkg : csg.take 9 = csg := List.take_of_length_le (by omega)
    have hx0 := (f2 T.length (by simp)).trans (app_len T _)
    have hx0a := fun U => get_app hx0 U
    have l0 := O0.lt
    have O0 := (O0.app [_]).ext (T' := T2) (fun i hi _ => f2 i hi)
    simp only [List.length_append, List.length_cons, List.length_nil] at f1 hidg
    simp only [boolF]
    (simp only [go_sem, hcsg])
    repeat' (first | (first | (simp only [go_sem, hcsg, htkg, hx0, hx0a, hcs0, htk0]) | (((first | apply sp1 | apply sp2 | apply sp3 | apply sp4 | apply sp5 | apply sp6 | apply sp7) <;> intro hb) <;> (simp only [go_sem, hb, hcsg, htkg, hx0, hx0a, hcs0, htk0])) | ((first | apply wm_done | apply wt_done | apply wg_run | refine fk ?_ ?_) <;> (simp only [go_sem, hcsg, htkg, hx0, hx0a, hcs0, htk0]))))
    -- the result is the reference's
    refine wd_any (acalls_readT (.cons (((Og.app [_]).lent (pre := [_, _]) rfl)) (.cons (.same (by (simp only [go_sem]); first | done | rfl)) .nil)) heg) ?_
    rintro _ _ ⟨rfl, rfl⟩
    (simp only [go_sem])
    repeat' (first | (first | (simp only [go_sem, hcsg, htkg, hx0, hx0a, hcs0, htk0, hne, hneB, int_bne]) | (((first | apply sp1 | apply sp2 | apply sp3 | apply sp4 | apply sp5 | apply sp6 | apply sp7) <;> intro hb) <;> (simp only [go_sem, hb, hcsg, htkg, hx0, hx0a, hcs0, htk0, hne, hneB, int_bne])) | ((first | apply wm_done | apply wt_done | apply wg_run | refine fk ?_ ?_) <;> (simp only [go_sem, hcsg, htkg, hx0, hx0a, hcs0, htk0, hne, hneB, int_bne]))) | ((first | refine mxq6 [] ?_ | refine mxq5 [] ?_ | refine mxq4 [] ?_ | refine mxq3 [] ?_ | refine mxq2 [] ?_ | refine mxq1 [] ?_ | refine mxq0 [] ?_ | fail); (simp only [go_sem, hcsg, htkg, hx0, hx0a, hcs0, htk0])) | (first | refine cdq ?_ (hc := ht) | refine cmq ?_ (hc := ht) | refine ctq ?_ (hc := ht)); (simp only [go_sem]))
    -- the argument reads as before
    refine wm_at (acalls_readT (.cons (((O0.app [_]).lent (pre := [_, _]) rfl)) (.cons (.same (by (simp only [go_sem]); first | done | rfl)) .nil)) hea) (by (simp only [go_sem]); first | done | rfl) (by (simp only [go_sem]); first | done | rfl) (by rfl) ?_
    rintro _ _ ⟨rfl, rfl⟩
    (simp only [go_sem])
    repeat' (first | (first | (simp only [go_sem, hcsg, htkg, hx0, hx0a, hcs0, htk0, hne, hneB, int_bne]) | (((first | apply sp1 | apply sp2 | apply sp3 | apply sp4 | apply sp5 | apply sp6 | apply sp7) <;> intro hb) <;> (simp only [go_sem, hb, hcsg, htkg, hx0, hx0a, hcs0, htk0, hne, hneB, int_bne])) | ((first | apply wm_done | apply wt_done | apply wg_run | refine fk ?_ ?_) <;> (simp only [go_sem, hcsg, htkg, hx0, hx0a, hcs0, htk0, hne, hneB, int_bne]))))
    -- the argument is marked
    have hg0 := app_len T2 (⟨9, 35, .mut, [csg]⟩ : Blk)
    have lg := Og.lt
    obtain ⟨ks1, hm1⟩ := markOwn (k := 1) (pre := [_, _]) (O0.app [_]) rfl (by omega) (by omega)
    refine wd_any hm1 ?_
    rintro _ _ ⟨T3, rfl, rfl, g1, g2, O1⟩
    simp only [List.length_append, List.length_cons, List.length_nil] at g1 g2
    have hg1 := (g2 T2.length (by omega) (fun hm => by have := l0 _ hm; omega)).trans hg0
    have Og1 := (Og.app [_]).ext (T' := T3) (fun i hi hm => g2 i (by simpa using hi) (fun hm' => by have := hidg _ hm; have := l0 _ hm'; omega))
    (simp only [go_sem])
    repeat' (first | (first | (simp only [go_sem, hg1, hcsg, htkg, hnn, hne, hneB, int_bne]) | (((first | apply sp1 | apply sp2 | apply sp3 | apply sp4 | apply sp5 | apply sp6 | apply sp7) <;> intro hb) <;> (simp only [go_sem, hb, hg1, hcsg, htkg, hnn, hne, hneB, int_bne])) | ((first | apply wm_done | apply wt_done | apply wg_run | refine fk ?_ ?_) <;> (simp only [go_sem, hg1, hcsg, htkg, hnn, hne, hneB, int_bne]))))
    refine wd_any (acalls_readT (.cons (Og1.lent (pre := [_, _]) rfl) (.cons (.same (by (simp only [go_sem]); first | done | rfl)) .nil)) heg) ?_
    rintro _ _ ⟨rfl, rfl⟩
    (simp only [go_sem])
    repeat' (first | (first | (simp only [go_sem, hg1, hcsg, htkg, hnn, hne, hneB, int_bne]) | (((first | apply sp1 | apply sp2 | apply sp3 | apply sp4 | apply sp5 | apply sp6 | apply sp7) <;> intro hb) <;> (simp only [go_sem, hb, hg1, hcsg, htkg, hnn, hne, hneB, int_bne])) | ((first | apply wm_done | apply wt_done | apply wg_run | refine fk ?_ ?_) <;> (simp only [go_sem, hg1, hcsg, htkg, hnn, hne, hneB, int_bne]))))
    -- the result is marked, and keeps the marks
    obtain ⟨ks2, hm2⟩ := markOwn (k := 1) (pre := [_, _]) Og1 rfl (by omega) (by omega)
    refine wd_any hm2 ?_
    rintro _ _ ⟨T4, rfl, rfl, q1, q2, O2⟩
    have hg2 := (q2 T2.length (by omega) (fun hm => by have := lg _ hm; omega)).trans hg1
    (simp only [go_sem])
    repeat' (first | (first | (simp only [go_sem, hg2, hcsg, htkg, hnn, hne, hneB, int_bne]) | (((first | apply sp1 | apply sp2 | apply sp3 | apply sp4 | apply sp5 | apply sp6 | apply sp7) <;> intro hb) <;> (simp only [go_sem, hb, hg2, hcsg, htkg, hnn, hne, hneB, int_bne])) | ((first | apply wm_done | apply wt_done | apply wg_run | refine fk ?_ ?_) <;> (simp only [go_sem, hg2, hcsg, htkg, hnn, hne, hneB, int_bne]))))
    refine wd_any (acalls_readT (.cons (O2.lent (pre := [_, _]) rfl) (.cons (.same rfl) .nil)) hh) ?_
    rintro _ _ ⟨rfl, rfl⟩
    (simp only [go_sem])
    have hg2a := fun U => get_app hg2 U
    repeat' (first | (first | (simp only [go_sem, hg2, hg2a, hcsg, htkg, hnn, hne, hneB, int_bne]) | (((first | apply sp1 | apply sp2 | apply sp3 | apply sp4 | apply sp5 | apply sp6 | apply sp7) <;> intro hb) <;> (simp only [go_sem, hb, hg2, hg2a, hcsg, htkg, hnn, hne, hneB, int_bne])) | ((first | apply wm_done | apply wt_done | apply wg_run | refine fk ?_ ?_) <;> (simp only [go_sem, hg2, hg2a, hcsg, htkg, hnn, hne, hneB, int_bne]))) | (first | refine cdq ?_ (hc := ht) | refine cmq ?_ (hc := ht) | refine ctq ?_ (hc := ht)); (simp only [go_sem]) | (first | refine cdq ?_ (hc := hfr) | refine cmq ?_ (hc := hfr) | refine ctq ?_ (hc := hfr)); (simp only [go_sem]) | (first | refine cdq ?_ (hc := heg) | refine cmq ?_ (hc := heg) | refine ctq ?_ (hc := heg)); (simp only [go_sem]))
    refine wd_any (acalls_readT (.cons ((O2.app [_]).lent (pre := [_, _]) rfl) (.cons (.same rfl) .nil)) hh) ?_
    rintro _ _ ⟨rfl, rfl⟩
    (simp only [go_sem])
    repeat' (first | (first | (simp only [go_sem, hg2, hg2a, hcsg, htkg, hnn, hne, hneB, int_bne]) | (((first | apply sp1 | apply sp2 | apply sp3 | apply sp4 | apply sp5 | apply sp6 | apply sp7) <;> intro hb) <;> (simp only [go_sem, hb, hg2, hg2a, hcsg, htkg, hnn, hne, hneB, int_bne])) | ((first | apply wm_done | apply wt_done | apply wg_run | refine fk ?_ ?_) <;> (simp only [go_sem, hg2, hg2a, hcsg, htkg, hnn, hne, hneB, int_bne]))))
    (refine hR _ (rat [] (hK := ⟨rfl, rfl⟩)))
  · have e1 : szR a.wt 1048576 = -1 := by unfold szR; rw [if_neg hw]
    rw [e1] at hs
    refine fn_in ?_; refine acl_in Try.func14 rfl isfn_14 (Nat.le_of_ble_eq_true rfl) (fun R hR => ?_); rw [Try.results14] at hR; refine wg_run ?_; (simp only [Try.f14, go_sem])
    repeat' (first | (first | (((first | apply sp1 | apply sp2 | apply sp3 | apply sp4 | apply sp5 | apply sp6 | apply sp7) <;> intro hb) <;> (simp only [go_sem, hb])) | ((first | apply wm_done | apply wt_done | apply wg_run | refine fk ?_ ?_) <;> (simp only [go_sem]))) | (first | refine cdq ?_ (hc := hs) | refine cmq ?_ (hc := hs) | refine ctq ?_ (hc := hs)); (simp only [go_sem]))
    (refine hR _ (rat [] (hK := ⟨rfl, rfl⟩)))

set_option maxRecDepth 100000 in
theorem fnExactRelabelCasts_lifted (os : Os) (started : os.Started) (H : Type) (enc : TypeId × Value → H) :
    ReturnsInHanded {} Try.checked os 14 .any (Rows.fnExactRelabelCastsSpec.pre6 enc Try.prog Try.f14 Rows.fnExactRelabelCastsRow.domain false) (Rows.fnExactRelabelCastsSpec.post enc Try.prog Try.f14 false true false false) := by
  refine returnsInHanded_of_change (C := Try.checked) ownKT started (by kernel_rfl) Try.func14
    (ChangeSpec.witness6 (enc := enc) (C := Try.checked) false ⟨#[], #[.agg #[.int .i64 0, .string ⟨#[]⟩, .int .i64 0, .int .i64 0, .slice none 0 0, .int .i64 0, .slice none 0 0, .int .i64 0, .slice none 0 0]], []⟩ 8 (by kernel_rfl) (by kernel_rfl) (by kernel_rfl) (by kernel_rfl)) ?_
  intro W base args ds gs before hval0 hW hcnd _
  have hval : ∀ (j : Nat) t v, Try.f14.params[j]? = some t → args[j]? = some v → Value.okWide Try.prog W .any base t v := hval0
  have hW' := hW
  obtain ⟨p, q, hA0, hV, rfl, hfz, hnd⟩ := hW
  have hA : DataW.TrodAll enc Try.prog W 0 (fun _ => true) true Try.f14.params.toList args.toList ds p := hA0
  rw [Try.params14] at hA hval
  obtain ⟨v0, d0, rfl, rfl, h0⟩ := trodAll_one hA
  obtain ⟨rfl, rfl⟩ := trodVars_none hV
  obtain ⟨x0, hr0, hf0⟩ := open_TmS (hval 0 27 v0 rfl rfl) h0
  clear hA0 hval0
  simp only [List.append_nil] at hW'
  refine (lawCalls (fnExactRelabelCasts_walk x0 hf0) (vs := #[v0]) (by simp only [AV.repl]; exact ⟨_, _, rfl, hr0, rfl⟩)).mono fun e W' ⟨he, hB⟩ => ?_
  subst he
  have t0 := Below.trod laidKT (by kernel_rfl) (of_decide_eq_true (by kernel_rfl)) h0 hB (fun x hx => hW'.lt x (by simp [hx]))
  refine ⟨_, rfl, _, _, _, [], p, [], hW', ?_, ?_, ?_, hB.frame _, fun h => by cases h⟩
  · exact trodAll_mk1 (shut_bool Try.underlying4 _)
  · exact trodAll_mk1 t0
  · rfl

theorem fnExactRelabelCasts_holds : Rows.FnExactRelabelCastsSaid :=
  OpenClaim.holds_of_wide 14 Try.f14 rfl rfl rfl rfl rfl rfl rfl ⟨rfl, rfl, rfl, rfl, rfl⟩ rfl rfl rfl rfl rfl (by kernel_rfl) Try.func14 (by kernel_rfl)
    (of_decide_eq_true (by kernel_rfl)) (by unfold Func.isWrapper; first | (rw [if_pos (by decide +kernel)]; kernel_rfl) | (rw [if_neg (by decide +kernel)]; exact ⟨rfl, rfl⟩))
    (fun os started H enc _ => fnExactRelabelCasts_lifted os started H enc)
#print axioms fnExactRelabelCasts_holds
end Go.Proofs.Ytchcbfbnffhifaa
