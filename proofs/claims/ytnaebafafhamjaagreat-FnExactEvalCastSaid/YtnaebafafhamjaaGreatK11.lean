/- Texts of the proof, one behind another. -/
import Derived.Laws.BitsLemmas
import Derived.Test.YtnaebafafhamjaaGreatK4
import Derived.Test.YtnaebafafhamjaaGreatK5
import Derived.Test.YtnaebafafhamjaaGreatK6
import Derived.Test.YtnaebafafhamjaaGreatK7
import Derived.Test.YtnaebafafhamjaaGreatK10
set_option linter.unusedSimpArgs false
set_option linter.unusedVariables false
/- Steps and evaluation whose results are owned. On shadows. -/
namespace Go.Proofs.YtnaebafafhamjaaGreat
open Go.RowKit Go.Proofs.Sh Go.Proofs.Grad
set_option maxRecDepth 100000
set_option maxHeartbeats 8000000
theorem tm0_own (h : List Blk) (d : Nat) : fzL (ow h d) (teC tm0) = some (teC tm0, []) := by
  simp only [tm0, noTy, teC, tyR, teR, Ty.kind, Ty.kids, fzL, ow_int, ow_str]
  rw [ow_leaf (by simp)]
  rfl
theorem own_zero {P : Program} {f : FuncId} {args : List AV} {F : List C → AV} (h : AFn P f args (F (teC tm0))) : ACl P f args [] (OwnK (teC tm0) F) :=
  h.cl.mono fun r H' ⟨e1, e2⟩ => by subst e1 e2; exact ⟨teC tm0, 0, [], rfl, tm0_own _ _, List.nodup_nil, by simp⟩
/-- a term's cells, and two numbers -/
def tupF (a b : Int) (cs : List C) : AV := .tup [.agg cs, .one (.sc (.int .i64 a)), .one (.sc (.int .i64 b))]
theorem tupF_flat (a b : Int) (cs : List C) (h : cs.all C.flat = true) : (tupF a b cs).flat = true := by
  simp only [tupF, AV.flat, AV.flats, h, C.flat, Bool.and_true]
theorem tupF_ren (a b : Int) (cs : List C) (g : Nat → Nat) : (tupF a b cs).ren g = tupF a b (cs.map (C.ren g)) := by
  simp only [tupF, AV.ren, AV.renL, renA_map, C.ren]
theorem prVs_tupF {a b : Int} {h : List Blk} {ids : List Nat} {cs cs' : List C} (e : prL false h ids cs = some (cs', [])) : prVs false h ids [tupF a b cs] = some ([tupF a b cs'], []) := by
  simp only [tupF, prVs, prV, e, prC, List.append_nil]
theorem sc_small {e : E} (h : e.okC = true) : e.sc.tm.size < 100000000 := by
  unfold E.sc
  split
  · exact okC_small h
  · split
    · split
      · rename_i hx; exact okC_small hx
      · simp [SC.tm, tm0, noTy, Tm.size, Ty.size, Ty.sizes, Tm.sizes]
    · simp [SC.tm, tm0, noTy, Tm.size, Ty.size, Ty.sizes, Tm.sizes]
    · simp [SC.tm, tm0, noTy, Tm.size, Ty.size, Ty.sizes, Tm.sizes]
theorem stepV_small (t : Tm) : t.stepV.tm.size < 100000000 := by
  cases hc : t.castV
  · rw [Tm.stepV_bad hc]; simp [SC.tm, tm0, noTy, Tm.size, Ty.size, Ty.sizes, Tm.sizes]
  · obtain ⟨e, rfl, h⟩ := Tm.castV_E hc
    rw [Tm.stepV_E h]; exact sc_small h
theorem iStepO (t : Tm) : ACl Tryz.prog 73 [.agg (teC t)] [] (OwnK (teC t.stepV.tm) (tupF t.stepV.code t.stepV.lab)) := by
  cases hc : t.castV
  · have h := iStepV t
    rw [Tm.stepV_bad hc] at h ⊢
    exact own_zero h
  · obtain ⟨e, rfl, h⟩ := Tm.castV_E hc
    have hA := iStepCast e h
    rw [Tm.stepV_E h]
    have hz := okC_small h
    have hv := iCastV e.tm
    rw [E.castV_tm, h] at hv
    have hval := iIsVal 100000000 (by omega) e.tm hz
    rw [E.val_tm] at hval
    simp only [E.okC, Bool.and_eq_true] at h
    have ho := iOwnO e.tm (by omega)
    unfold E.sc at hA ⊢
    cases ev : e.val
    · rw [ev] at hval hA
      have hs := iStep e h.1 h.2.1 ev hz
      simp only [stT] at hs
      simp only [] at hA ⊢
      cases es : e.step with
      | took x =>
        rw [E.so_took e x ev es, es] at hs
        rw [es] at hA
        obtain ⟨xw, xn⟩ := E.step_wf h.1 h.2.1 es
        have hv2 := iCastV x.tm
        rw [E.castV_tm] at hv2
        simp only [SR.code, SR.lab] at hs
        simp only [] at hA ⊢
        cases eo : x.okC
        · rw [eo] at hA
          exact own_zero hA
        · rw [eo] at hv2
          have ho2 := iOwnO x.tm (by have := okC_small eo; omega)
          simp only [SC.tm, SC.code, SC.lab]
          refine acl_in Tryz.func73 rfl isfn_73 (Nat.le_of_ble_eq_true rfl) (fun R hR => ?_); rw [Tryz.results73] at hR; refine wg_run ?_; (simp only [Tryz.f73, go_sem])
          repeat' (first | (first | (simp only [go_sem, int_bne]) | (((first | refine sp1 ?_ ?_ | refine sp2 ?_ ?_ | refine sp3 ?_ ?_ | refine sp4 ?_ ?_ | refine sp5 ?_ ?_ | refine sp6 ?_ ?_ | refine sp7 ?_ ?_) <;> intro hb) <;> (simp only [go_sem, hb, int_bne])) | ((first | refine wm_done ?_ | refine wt_done ?_ | refine wg_run ?_ | refine fk ?_ ?_) <;> (simp only [go_sem, int_bne]))) | (first | refine cd (hc := hv) (hK := ?_) | refine cm (hc := hv) (hK := ?_) | refine ct (hc := hv) (hK := ?_)); (simp only [go_sem]) | (first | refine cd (hc := hval) (hK := ?_) | refine cm (hc := hval) (hK := ?_) | refine ct (hc := hval) (hK := ?_)); (simp only [go_sem]) | (first | refine cd (hc := hs) (hK := ?_) | refine cm (hc := hs) (hK := ?_) | refine ct (hc := hs) (hK := ?_)); (simp only [go_sem]) | (first | refine cd (hc := hv2) (hK := ?_) | refine cm (hc := hv2) (hK := ?_) | refine ct (hc := hv2) (hK := ?_)); (simp only [go_sem]) | fail)
          refine wd_any (acalls_own (.cons (.same (by (simp only [go_sem]); first | done | rfl)) .nil) ho2 (fun _ h => h) ren_agg) ?_
          rintro _ h' ⟨cs, d, ids, rfl, e1, e2, e3, e4, e5⟩
          obtain ⟨T, rfl, f1, f2⟩ := pre3 e4 e5
          have hcs : cs.length = 9 := by rw [← fzL_len e1, teC_length]
          have htk : cs.take 9 = cs := List.take_of_length_le (by omega)
          (simp only [go_sem, hcs])
          repeat' (first | (first | (simp only [go_sem, hcs]) | (((first | refine sp1 ?_ ?_ | refine sp2 ?_ ?_ | refine sp3 ?_ ?_ | refine sp4 ?_ ?_ | refine sp5 ?_ ?_ | refine sp6 ?_ ?_ | refine sp7 ?_ ?_) <;> intro hb) <;> (simp only [go_sem, hb, hcs])) | ((first | refine wm_done ?_ | refine wt_done ?_ | refine wg_run ?_ | refine fk ?_ ?_) <;> (simp only [go_sem, hcs]))))
          refine hR _ (ret_ownK (F := tupF 1 0) (cs := cs) (d := d) (ids := ids) (by (simp only [go_sem, hcs, htk]); first | done | rfl) ?_ e2 (fun _ => prVs_tupF))
          refine owL_frame (h := _ :: _ :: _ :: T) e1 (fun b hb => ?_)
          have hb3 : 3 ≤ b := by have := (e3 b hb).1; simp only [List.length_cons] at this; omega
          obtain ⟨b, rfl⟩ : ∃ x, b = x + 3 := ⟨b - 3, by omega⟩
          rfl
      | blame l => rw [es] at hA; exact own_zero hA
      | stuck => rw [es] at hA; exact own_zero hA
    · rw [ev] at hval
      simp only [SC.tm, SC.code, SC.lab]
      refine acl_in Tryz.func73 rfl isfn_73 (Nat.le_of_ble_eq_true rfl) (fun R hR => ?_); rw [Tryz.results73] at hR; refine wg_run ?_; (simp only [Tryz.f73, go_sem])
      repeat' (first | (first | (simp only [go_sem, int_bne]) | (((first | refine sp1 ?_ ?_ | refine sp2 ?_ ?_ | refine sp3 ?_ ?_ | refine sp4 ?_ ?_ | refine sp5 ?_ ?_ | refine sp6 ?_ ?_ | refine sp7 ?_ ?_) <;> intro hb) <;> (simp only [go_sem, hb, int_bne])) | ((first | refine wm_done ?_ | refine wt_done ?_ | refine wg_run ?_ | refine fk ?_ ?_) <;> (simp only [go_sem, int_bne]))) | (first | refine cd (hc := hv) (hK := ?_) | refine cm (hc := hv) (hK := ?_) | refine ct (hc := hv) (hK := ?_)); (simp only [go_sem]) | (first | refine cd (hc := hval) (hK := ?_) | refine cm (hc := hval) (hK := ?_) | refine ct (hc := hval) (hK := ?_)); (simp only [go_sem]) | fail)
      refine wd_any (acalls_own (.cons (.same (by (simp only [go_sem]); first | done | rfl)) .nil) ho (fun _ h => h) ren_agg) ?_
      rintro _ h' ⟨cs, d, ids, rfl, e1, e2, e3, e4, e5⟩
      obtain ⟨T, rfl, f1, f2⟩ := pre2 e4 e5
      have hcs : cs.length = 9 := by rw [← fzL_len e1, teC_length]
      have htk : cs.take 9 = cs := List.take_of_length_le (by omega)
      (simp only [go_sem, hcs])
      repeat' (first | (first | (simp only [go_sem, hcs]) | (((first | refine sp1 ?_ ?_ | refine sp2 ?_ ?_ | refine sp3 ?_ ?_ | refine sp4 ?_ ?_ | refine sp5 ?_ ?_ | refine sp6 ?_ ?_ | refine sp7 ?_ ?_) <;> intro hb) <;> (simp only [go_sem, hb, hcs])) | ((first | refine wm_done ?_ | refine wt_done ?_ | refine wg_run ?_ | refine fk ?_ ?_) <;> (simp only [go_sem, hcs]))))
      refine hR _ (ret_ownK (F := tupF 0 0) (cs := cs) (d := d) (ids := ids) (by (simp only [go_sem, hcs, htk]); first | done | rfl) ?_ e2 (fun _ => prVs_tupF))
      refine owL_frame (h := _ :: _ :: T) e1 (fun b hb => ?_)
      have hb2 : 2 ≤ b := by have := (e3 b hb).1; simp only [List.length_cons] at this; omega
      obtain ⟨b, rfl⟩ : ∃ x, b = x + 2 := ⟨b - 2, by omega⟩
      rfl
def quadF (a b c : Int) (cs : List C) : AV := .tup [.agg cs, .one (.sc (.int .i64 a)), .one (.sc (.int .i64 b)), .one (.sc (.int .i64 c))]
theorem quadF_flat (a b c : Int) (cs : List C) (h : cs.all C.flat = true) : (quadF a b c cs).flat = true := by
  simp only [quadF, AV.flat, AV.flats, h, C.flat, Bool.and_true]
theorem quadF_ren (a b c : Int) (cs : List C) (g : Nat → Nat) : (quadF a b c cs).ren g = quadF a b c (cs.map (C.ren g)) := by
  simp only [quadF, AV.ren, AV.renL, renA_map, C.ren]
theorem prVs_quadF {a b c : Int} {h : List Blk} {ids : List Nat} {cs cs' : List C} (e : prL false h ids cs = some (cs', [])) : prVs false h ids [quadF a b c cs] = some ([quadF a b c cs'], []) := by
  simp only [quadF, prVs, prV, e, prC, List.append_nil]
theorem iEvaluateO (g : FuncId) (hg : ∀ t : Tm, AFn Tryz.prog g [.agg (teC t)] (.tup [])) (e : E) (h : e.okC = true) (f : Nat) (hf : f ≤ 300) (v : E) (n : Nat) (hev0 : e.evI f 0 = (.value v, n)) : ACl Tryz.prog 32 [.agg (teC e.tm), .one (.sc (.int .i64 (f : Nat))), .one (.fn g [])] [] (OwnK (teC v.tm) (quadF 0 0 (n : Nat))) := by
  refine acl_in Tryz.func32 rfl isfn_32 (Nat.le_of_ble_eq_true rfl) (fun R hR => ?_); rw [Tryz.results32] at hR; refine wg_run ?_; (simp only [Tryz.f32, go_sem])
  repeat' (first | (first | (((first | refine sp1 ?_ ?_ | refine sp2 ?_ ?_ | refine sp3 ?_ ?_ | refine sp4 ?_ ?_ | refine sp5 ?_ ?_ | refine sp6 ?_ ?_ | refine sp7 ?_ ?_) <;> intro hb) <;> (simp only [go_sem, hb])) | ((first | refine wm_done ?_ | refine wt_done ?_ | refine wg_run ?_ | refine fk ?_ ?_) <;> (simp only [go_sem]))) | (first | refine cd (hc := hg _) (hK := ?_) | refine cm (hc := hg _) (hK := ?_) | refine ct (hc := hg _) (hK := ?_)); (simp only [go_sem]) | fail)
  refine wd_for [1, 2, 3, 6, 7, 8, 9, 10] (fun (s : Nat × E) => [.one (.sc (.int .i64 (f : Nat))), .one (.fn g []), .one (.ptr 9 0 0 0), .one (.ptr 9 1 0 0), .one (.sc (.int .i64 0)), .one (.sc (.int .i64 0)), .one (.sc (.int .i64 0)), .one (.sc (.int .i64 (s.1 : Nat)))])
    (fun s => [⟨9, 28, .mut, [teC s.2.tm]⟩, ⟨9, 28, .mut, [[.sc (.int .i64 0), .sc (.string { data := { toList := [] } }), .sc (.int .i64 0), .sc (.int .i64 0), .sc (.slice none 0 0), .sc (.int .i64 0), .sc (.slice none 0 0), .sc (.int .i64 0), .sc (.slice none 0 0)]]⟩])
    (fun s => s.1 ≤ f ∧ s.2.okC = true ∧ s.2.evI (f - s.1) s.1 = (.value v, n)) (fun s => f - s.1) (0, e) ⟨Nat.zero_le _, h, hev0⟩ (hat [0, 1] (hI := ⟨rfl, rfl⟩)) ?_
  rintro ⟨k, x⟩ ⟨hk, hx, hev⟩ G hG
  simp only [] at hk hx hev
  have hs := iStepCast x hx
  refine wg_run ?_
  cases hsc : x.sc with
  | took y =>
    rw [hsc] at hs
    simp only [scT, SC.tm, SC.code, SC.lab] at hs
    by_cases hkf : k = f
    · exfalso
      rw [show f - k = 0 from by omega] at hev
      simp only [E.evI, hsc] at hev
      simp at hev
    · have hke : (((k : Nat) : Int) == (f : Int)) = false := by simp; omega
      have hw1 := wrap_succ (k := k) (n := f) (by omega) (by omega)
      obtain ⟨m, hm⟩ : ∃ m, f - k = m + 1 := ⟨f - k - 1, by omega⟩
      rw [hm, E.evI_took hsc] at hev
      have hm2 : f - (k + 1) = m := by omega
      (simp only [go_sem, hke])
      repeat' (first | (first | (simp only [go_sem, int_bne, hke, hw1]) | (((first | refine sp1 ?_ ?_ | refine sp2 ?_ ?_ | refine sp3 ?_ ?_ | refine sp4 ?_ ?_ | refine sp5 ?_ ?_ | refine sp6 ?_ ?_ | refine sp7 ?_ ?_) <;> intro hb) <;> (simp only [go_sem, hb, int_bne, hke, hw1])) | ((first | refine wm_done ?_ | refine wt_done ?_ | refine wg_run ?_ | refine fk ?_ ?_) <;> (simp only [go_sem, int_bne, hke, hw1]))) | (first | refine cd (hc := hs) (hK := ?_) | refine cm (hc := hs) (hK := ?_) | refine ct (hc := hs) (hK := ?_)); (simp only [go_sem]) | (first | refine cd (hc := hg y.tm) (hK := ?_) | refine cm (hc := hg y.tm) (hK := ?_) | refine ct (hc := hg y.tm) (hK := ?_)); (simp only [go_sem]) | fail)
      exact hG (k + 1, y) _ _ ⟨by show k + 1 ≤ f; omega, E.sc_ok hsc, by show y.evI (f - (k + 1)) (k + 1) = _; rw [hm2]; exact hev⟩ (by show f - (k + 1) < f - k; omega) (hat [0, 1] (hI := ⟨rfl, rfl⟩))
  | value w =>
    rw [E.evI_stop (fun y => by rw [hsc]; simp), hsc] at hev
    simp only [Prod.mk.injEq, SC.value.injEq] at hev
    obtain ⟨rfl, rfl⟩ := hev
    have ho := iStepO x.tm
    rw [Tm.stepV_E hx, hsc] at ho
    simp only [SC.tm, SC.code, SC.lab] at ho
    clear hs
    (simp only [go_sem])
    repeat' (first | (first | (simp only [go_sem, int_bne]) | (((first | refine sp1 ?_ ?_ | refine sp2 ?_ ?_ | refine sp3 ?_ ?_ | refine sp4 ?_ ?_ | refine sp5 ?_ ?_ | refine sp6 ?_ ?_ | refine sp7 ?_ ?_) <;> intro hb) <;> (simp only [go_sem, hb, int_bne])) | ((first | refine wm_done ?_ | refine wt_done ?_ | refine wg_run ?_ | refine fk ?_ ?_) <;> (simp only [go_sem, int_bne]))) | fail)
    refine wd_any (acalls_ownT (p := 2) (pre := [_, _]) (T := []) rfl (.cons (.same (by (simp only [go_sem]); first | done | rfl)) .nil) ho (tupF_flat _ _) (tupF_ren _ _)) ?_
    rintro _ _ ⟨cs, T, ids, rfl, rfl, -, -, O, -⟩
    have hcs : cs.length = 9 := by rw [O.len, teC_length]
    have htk : cs.take 9 = cs := List.take_of_length_le (by omega)
    simp only [tupF]
    (simp only [go_sem, hcs])
    repeat' (first | (first | (simp only [go_sem, hcs, htk, int_bne]) | (((first | refine sp1 ?_ ?_ | refine sp2 ?_ ?_ | refine sp3 ?_ ?_ | refine sp4 ?_ ?_ | refine sp5 ?_ ?_ | refine sp6 ?_ ?_ | refine sp7 ?_ ?_) <;> intro hb) <;> (simp only [go_sem, hb, hcs, htk, int_bne])) | ((first | refine wm_done ?_ | refine wt_done ?_ | refine wg_run ?_ | refine fk ?_ ?_) <;> (simp only [go_sem, hcs, htk, int_bne]))) | fail)
    obtain ⟨d, hd⟩ := (O.app [_]).own
    exact hR _ (ret_ownK (F := quadF 0 0 (k : Nat)) (cs := cs) (d := d) (ids := ids) (by (simp only [go_sem, hcs, htk]); first | done | rfl) (hd [_, _] rfl) O.nodup (fun _ => prVs_quadF))
  | _ =>
    rw [E.evI_stop (fun y => by rw [hsc]; simp), hsc] at hev
    simp at hev
theorem iEvalO (t : Tm) (f : Int) : ACl Tryz.prog 14 [.agg (teC t), .one (.sc (.int .i64 f))] [] (OwnK (teC (t.evalV f).etm) (tupF (t.evalV f).ecode (t.evalV f).lab)) := by
  have hA := iEvalV t f
  cases hv : t.evalV f with
  | value v =>
    clear hA
    have hf := iIsFuel f
    have hb : (decide (0 ≤ f) && decide (f ≤ 300)) = true := by
      cases hb : (decide (0 ≤ f) && decide (f ≤ 300)) with
      | true => rfl
      | false => rw [Tm.evalV_off t hb] at hv; cases hv
    rw [hb] at hf
    simp only [Bool.and_eq_true, decide_eq_true_eq] at hb
    have hc : t.castV = true := by
      cases hc : t.castV with
      | true => rfl
      | false => rw [Tm.evalV_bad hc] at hv; cases hv
    obtain ⟨e, rfl, ho⟩ := Tm.castV_E hc
    obtain ⟨n, rfl⟩ := Int.eq_ofNat_of_zero_le hb.1
    rw [Tm.evalV_E ho n (by omega)] at hv
    obtain ⟨m, hm⟩ : ∃ m, e.evI n 0 = (.value v, m) := ⟨(e.evI n 0).2, by rw [← hv]⟩
    have he := iEvaluateO 46 iReach2 e ho n (by omega) v m hm
    simp only [SC.etm, SC.tm, SC.ecode, SC.code, SC.lab]
    refine acl_in Tryz.func14 rfl isfn_14 (Nat.le_of_ble_eq_true rfl) (fun R hR => ?_); rw [Tryz.results14] at hR; refine wg_run ?_; (simp only [Tryz.f14, go_sem])
    repeat' (first | (first | (((first | refine sp1 ?_ ?_ | refine sp2 ?_ ?_ | refine sp3 ?_ ?_ | refine sp4 ?_ ?_ | refine sp5 ?_ ?_ | refine sp6 ?_ ?_ | refine sp7 ?_ ?_) <;> intro hb) <;> (simp only [go_sem, hb])) | ((first | refine wm_done ?_ | refine wt_done ?_ | refine wg_run ?_ | refine fk ?_ ?_) <;> (simp only [go_sem]))) | (first | refine cd (hc := hf) (hK := ?_) | refine cm (hc := hf) (hK := ?_) | refine ct (hc := hf) (hK := ?_)); (simp only [go_sem]) | fail)
    refine wd_any (acalls_ownT (p := 2) (pre := [_, _]) (T := []) rfl (.cons (.same (by (simp only [go_sem]); first | done | rfl)) (.cons (.same rfl) (.cons .fn .nil))) he (quadF_flat _ _ _) (quadF_ren _ _ _)) ?_
    rintro _ _ ⟨cs, T, ids, rfl, rfl, -, -, O, -⟩
    have hcs : cs.length = 9 := by rw [O.len, teC_length]
    have htk : cs.take 9 = cs := List.take_of_length_le (by omega)
    simp only [quadF]
    (simp only [go_sem, hcs])
    repeat' (first | (first | (simp only [go_sem, hcs, htk, int_bne]) | (((first | refine sp1 ?_ ?_ | refine sp2 ?_ ?_ | refine sp3 ?_ ?_ | refine sp4 ?_ ?_ | refine sp5 ?_ ?_ | refine sp6 ?_ ?_ | refine sp7 ?_ ?_) <;> intro hb) <;> (simp only [go_sem, hb, hcs, htk, int_bne])) | ((first | refine wm_done ?_ | refine wt_done ?_ | refine wg_run ?_ | refine fk ?_ ?_) <;> (simp only [go_sem, hcs, htk, int_bne]))) | fail)
    obtain ⟨d, hd⟩ := (O.app [_]).own
    exact hR _ (ret_ownK (F := tupF 0 0) (cs := cs) (d := d) (ids := ids) (by (simp only [go_sem, hcs, htk]); first | done | rfl) (hd [_, _] rfl) O.nodup (fun _ => prVs_tupF))
  | _ => rw [hv] at hA; exact own_zero hA
theorem evalV_small (t : Tm) (f : Int) : (t.evalV f).etm.size < 100000000 := by
  have key : ∀ (k : Nat) (e : E) (n : Nat), e.okC = true → (e.evI k n).1.tm.size < 100000000 := by
    intro k
    induction k with
    | zero => intro e n h; exact sc_small h
    | succ k ih =>
      intro e n h
      cases hx : e.sc with
      | took y => rw [E.evI_took hx]; exact ih y _ (E.sc_ok hx)
      | _ => rw [E.evI_stop (fun y => by rw [hx]; simp)]; exact sc_small h
  have z : (SC.stuck).etm.size < 100000000 := by simp [SC.etm, SC.tm, tm0, noTy, Tm.size, Ty.size, Ty.sizes, Tm.sizes]
  cases hb : (decide (0 ≤ f) && decide (f ≤ 300))
  · rw [Tm.evalV_off t hb]; exact z
  · simp only [Bool.and_eq_true, decide_eq_true_eq] at hb
    cases hc : t.castV
    · rw [Tm.evalV_bad hc]; exact z
    · obtain ⟨e, rfl, ho⟩ := Tm.castV_E hc
      obtain ⟨n, rfl⟩ := Int.eq_ofNat_of_zero_le hb.1
      rw [Tm.evalV_E ho n (by omega)]
      have := key n e 0 ho
      cases hr : (e.evI n 0).1 with
      | took y => exact z
      | _ => rw [hr] at this; exact this
end Go.Proofs.YtnaebafafhamjaaGreat
/- Trees whose lengths fit into the machine's numbers; their weights. -/
namespace Go.Proofs.Grad
mutual
def Ty.fits : Ty → Prop | .mk _ l => l.length ≤ 9223372036854775807 ∧ Ty.fitss l
def Ty.fitss : List Ty → Prop | [] => True | t :: l => t.fits ∧ Ty.fitss l
end
mutual
def Tm.fits : Tm → Prop | .mk _ n _ t f _ l => n.size ≤ 9223372036854775807 ∧ t.fits ∧ f.fits ∧ l.length ≤ 9223372036854775807 ∧ Tm.fitss l
def Tm.fitss : List Tm → Prop | [] => True | t :: l => t.fits ∧ Tm.fitss l
end
mutual
def Co.fits : Co → Prop | .mk _ _ _ l => l.length ≤ 9223372036854775807 ∧ Co.fitss l
def Co.fitss : List Co → Prop | [] => True | t :: l => t.fits ∧ Co.fitss l
end
theorem Ty.fitss_mem {t : Ty} : ∀ {l : List Ty}, Ty.fitss l → t ∈ l → t.fits
  | x :: l, h, hm => by
    rcases List.mem_cons.1 hm with rfl | hm
    · exact h.1
    · exact Ty.fitss_mem h.2 hm
theorem Tm.fitss_mem {t : Tm} : ∀ {l : List Tm}, Tm.fitss l → t ∈ l → t.fits
  | x :: l, h, hm => by
    rcases List.mem_cons.1 hm with rfl | hm
    · exact h.1
    · exact Tm.fitss_mem h.2 hm
theorem Co.fitss_mem {t : Co} : ∀ {l : List Co}, Co.fitss l → t ∈ l → t.fits
  | x :: l, h, hm => by
    rcases List.mem_cons.1 hm with rfl | hm
    · exact h.1
    · exact Co.fitss_mem h.2 hm
theorem Ty.fitss_of : ∀ {l : List Ty}, (∀ i (h : i < l.length), l[i].fits) → Ty.fitss l
  | [], _ => trivial
  | x :: l, h => ⟨h 0 (by simp), Ty.fitss_of fun i hi => h (i + 1) (by simpa using hi)⟩
theorem Tm.fitss_of : ∀ {l : List Tm}, (∀ i (h : i < l.length), l[i].fits) → Tm.fitss l
  | [], _ => trivial
  | x :: l, h => ⟨h 0 (by simp), Tm.fitss_of fun i hi => h (i + 1) (by simpa using hi)⟩
theorem Co.fitss_of : ∀ {l : List Co}, (∀ i (h : i < l.length), l[i].fits) → Co.fitss l
  | [], _ => trivial
  | x :: l, h => ⟨h 0 (by simp), Co.fitss_of fun i hi => h (i + 1) (by simpa using hi)⟩
mutual
def Ty.wt : Ty → Nat | .mk _ l => Ty.wts l
def Ty.wts : List Ty → Nat | [] => 0 | t :: l => 1 + t.wt + Ty.wts l
end
mutual
def Tm.wt : Tm → Nat | .mk _ n _ t f _ l => n.size + (t.wt + (f.wt + Tm.wts l))
def Tm.wts : List Tm → Nat | [] => 0 | t :: l => 1 + t.wt + Tm.wts l
end
mutual
def Co.wt : Co → Nat | .mk _ _ _ l => Co.wts l
def Co.wts : List Co → Nat | [] => 0 | t :: l => 1 + t.wt + Co.wts l
end
mutual
theorem Ty.size_wt : ∀ t : Ty, t.size = 1 + t.wt
  | .mk _ l => by simp only [Ty.size, Ty.wt, Ty.sizes_wts l]
theorem Ty.sizes_wts : ∀ l : List Ty, Ty.sizes l = Ty.wts l
  | [] => rfl
  | t :: l => by simp only [Ty.sizes, Ty.wts, Ty.size_wt t, Ty.sizes_wts l]
end
mutual
theorem Co.size_wt : ∀ t : Co, t.size = 1 + t.wt
  | .mk _ _ _ l => by simp only [Co.size, Co.wt, Co.sizes_wts l]
theorem Co.sizes_wts : ∀ l : List Co, Co.sizes l = Co.wts l
  | [] => rfl
  | t :: l => by simp only [Co.sizes, Co.wts, Co.size_wt t, Co.sizes_wts l]
end
mutual
theorem Tm.size_wt : ∀ t : Tm, t.size ≤ 3 + 3 * t.wt
  | .mk _ _ _ t f _ l => by
    have := Tm.sizes_wts l
    have := Ty.size_wt t
    have := Ty.size_wt f
    simp only [Tm.size, Tm.wt]; omega
theorem Tm.sizes_wts : ∀ l : List Tm, Tm.sizes l ≤ 3 * Tm.wts l
  | [] => by simp [Tm.sizes, Tm.wts]
  | t :: l => by have := Tm.size_wt t; have := Tm.sizes_wts l; simp only [Tm.sizes, Tm.wts]; omega
end
end Go.Proofs.Grad
/- Types: the helpers of the exact laws, on shadows. -/
namespace Go.Proofs.Sh
open Go.RowKit Go.Proofs.Grad

/-! ### trees from memory: lengths fit -/
def szR (x : Nat) (left : Int) : Int := if (x : Int) ≤ left then left - x else -1
theorem szR_neg {x : Nat} {left : Int} (h : decide (szR x left < 0) = true) : szR x left = -1 := by
  have h := of_decide_eq_true h
  unfold szR at h ⊢
  split <;> rename_i h' <;> simp [h'] at h ⊢
  omega
theorem szR_nneg {x : Nat} {left : Int} (h : decide (szR x left < 0) = false) : (x : Int) ≤ left ∧ szR x left = left - x := by
  have h := of_decide_eq_false h
  unfold szR at h ⊢
  split <;> rename_i h' <;> simp [h'] at h ⊢
theorem tyall2_kid {f : Ty → Ty → Bool} {a b : List Ty} {i : Nat} (ha : i < a.length) (hb : i < b.length) : all2 f (a.drop i) (b.drop i) = (f (kid a i) (kid b i) && all2 f (a.drop (i + 1)) (b.drop (i + 1))) := by
  rw [drop_kid ha, drop_kid hb]; rfl
theorem tyall2_end {f : Ty → Ty → Bool} {a b : List Ty} {i : Nat} (ha : ¬ i < a.length) (hb : a.length = b.length) : all2 f (a.drop i) (b.drop i) = true := by
  rw [List.drop_eq_nil_of_le (by omega), List.drop_eq_nil_of_le (by omega)]; rfl

/-! ### sizes -/
theorem tyw_mem {l : List Ty} {k : Nat} (h : k < l.length) : Ty.wts (l.take (k + 1)) = Ty.wts (l.take k) + (1 + (kid l k).wt) := by
  rw [take_kid h]
  induction l.take k with
  | nil => simp [Ty.wts]
  | cons x m ih => simp only [List.cons_append, Ty.wts, ih]; omega
theorem tyw_rest (l : List Ty) : ∀ k, k ≤ l.length → Ty.wts (l.take k) + (l.length - k) ≤ Ty.wts l := by
  induction l with
  | nil => intro k _; simp [Ty.wts]
  | cons x l ih =>
    intro k hk
    cases k with
    | zero => have := ih 0 (by omega); simp [Ty.wts] at this ⊢; omega
    | succ k => have := ih k (by simpa using hk); simp [Ty.wts] at this ⊢; omega
theorem tyw_fit {l : List Ty} (h : Ty.fitss l) {k : Nat} (hk : k < l.length) : (kid l k).fits := by
  rw [kid_eq hk]; exact Ty.fitss_mem h (List.getElem_mem hk)

/-! ### lists filled from the front -/
def tyF (l : List Ty) (k : Nat) : List (List C) := tyR (l.take k) ++ List.replicate (l.length - k) [.sc (.int .i64 0), .sc (.slice none 0 0)]
theorem tyF_0 (l : List Ty) : tyF l 0 = List.replicate l.length [.sc (.int .i64 0), .sc (.slice none 0 0)] := by simp [tyF, tyR]
theorem tyF_get {l : List Ty} {k : Nat} (h : k < l.length) : (tyF l k)[k]? = some [.sc (.int .i64 0), .sc (.slice none 0 0)] := by
  have e : (tyR (l.take k)).length = k := by rw [tyR_length, List.length_take]; omega
  rw [tyF, List.getElem?_append_right (by omega), e, Nat.sub_self, List.getElem?_replicate, if_pos (by omega)]
theorem tyF_set {l : List Ty} {k : Nat} (h : k < l.length) : (tyF l k).set k (tyC (kid l k)) = tyF l (k + 1) := by
  have e : (tyR (l.take k)).length = k := by rw [tyR_length, List.length_take]; omega
  rw [tyF, tyF, List.set_append_right _ _ (by omega), e, Nat.sub_self, show l.length - k = (l.length - (k + 1)) + 1 by omega, List.replicate_succ, List.set_cons_zero, tyR_take h, List.append_assoc]
  rfl
theorem tyF_end (l : List Ty) : tyF l l.length = tyR l := by simp [tyF]
@[go_sem] theorem tyF_pr (h : List Blk) (ks : List Nat) (l : List Ty) (k : Nat) : prRs h ks (tyF l k) = some (tyF l k, []) := by
  have h1 : ∀ n, prRs h ks (List.replicate n [.sc (.int .i64 0), .sc (.slice none 0 0)]) = some (List.replicate n [.sc (.int .i64 0), .sc (.slice none 0 0)], []) := by
    intro n
    induction n with
    | zero => rfl
    | succ n ih => rw [List.replicate_succ, prRs, ih]; rfl
  have h2 : ∀ (m : List Ty) n, prRs h ks (tyR m ++ List.replicate n [.sc (.int .i64 0), .sc (.slice none 0 0)]) = some (tyR m ++ List.replicate n [.sc (.int .i64 0), .sc (.slice none 0 0)], []) := by
    intro m n
    induction m with
    | nil => exact h1 n
    | cons x m ih => rw [tyR, List.cons_append, prRs, ih, prL, if_pos (tyC_treeL x)]; rfl
  exact h2 _ _
@[go_sem] theorem tyF_rows (l : List Ty) (k : Nat) : rowsLen 2 (tyF l k) = true := by
  have : ∀ n, rowsLen 2 (List.replicate n [.sc (.int .i64 0), .sc (.slice none 0 0)]) = true := by
    intro n
    induction n with
    | zero => rfl
    | succ n ih => rw [List.replicate_succ, rowsLen_cons, ih]; rfl
  rw [tyF, rowsLen_append, tyR_len, this]; rfl
theorem tyF_len (l : List Ty) {k : Nat} (h : k ≤ l.length) : (tyF l k).length = l.length := by
  simp [tyF, tyR_length]; omega
end Go.Proofs.Sh
namespace Go.Proofs.YtnaebafafhamjaaGreat
open Go.RowKit Go.Proofs.Sh Go.Proofs.Grad
set_option maxRecDepth 100000
set_option maxHeartbeats 4000000

theorem szTyS (n : Nat) (ih : ∀ t : Ty, t.size < n → t.fits → ∀ left : Int, 0 ≤ left → left ≤ 1048576 → AFn Tryz.prog 41 [.agg (tyC t), .one (.sc (.int .i64 left))] (.one (.sc (.int .i64 (szR t.wt left)))))
    (l : List Ty) (hn : Ty.sizes l < n) (hlen : l.length ≤ 9223372036854775807) (hf : Ty.fitss l) (left : Int) (h0 : 0 ≤ left) (h1 : left ≤ 1048576) : AFn Tryz.prog 81 [.one (.sl (tyR l)), .one (.sc (.int .i64 left))] (.one (.sc (.int .i64 (szR (Ty.wts l) left)))) := by
  have hw0 : IntKind.i64.wrap (left - (l.length : Int)) = left - (l.length : Int) := IntWalk.i64_in _ (by omega)
  have hge := tyw_rest l 0 (Nat.zero_le _)
  simp only [List.take_zero, Ty.wts] at hge
  by_cases hfit : (l.length : Int) ≤ left
  · have d0 : decide (left - (l.length : Int) < 0) = false := by simp; omega
    refine fn_in ?_; refine acl_in Tryz.func81 rfl isfn_81 (Nat.le_of_ble_eq_true rfl) (fun R hR => ?_); rw [Tryz.results81] at hR; refine wg_run ?_; (simp only [Tryz.f81, go_sem, hw0, d0])
    refine wd_for [0, 1, 5] (fun k => [.one (.sl (tyR l)), .one (.sc (.int .i64 (left - (l.length : Int) - ((Ty.wts (l.take k) : Int) - (k : Int))))), .one (.sc (.int .i64 (k : Nat)))]) (fun _ => [])
      (fun k => k ≤ l.length ∧ (Ty.wts (l.take k) : Int) + (l.length : Int) ≤ left + (k : Int)) (fun k => l.length - k) 0 ⟨Nat.zero_le _, by simp [Ty.wts]; omega⟩ (hat [] (hI := ⟨by simp [Ty.wts], rfl⟩)) ?_
    rintro k ⟨hk, hs⟩ G hG
    refine wg_run ?_
    (simp only [go_sem])
    have hr := tyw_rest l k hk
    ((first | refine sp1 ?_ ?_ | refine sp2 ?_ ?_ | refine sp3 ?_ ?_ | refine sp4 ?_ ?_ | refine sp5 ?_ ?_ | refine sp6 ?_ ?_ | refine sp7 ?_ ?_) <;> intro hb) <;> (simp only [go_sem, hb])
    · have hk1 : k < l.length := by have := of_decide_eq_true hb; omega
      have hw1 := wrap_succ hk1 (by omega)
      have hm := tyw_mem hk1
      have hr1 := tyw_rest l (k + 1) hk1
      have hc := ih (kid l k) (by rw [kid_eq hk1]; have := Ty.sizes_mem (List.getElem_mem hk1); omega) (tyw_fit hf hk1) (left - (l.length : Int) - ((Ty.wts (l.take k) : Int) - (k : Int))) (by omega) (by omega)
      by_cases hfk : ((kid l k).wt : Int) ≤ left - (l.length : Int) - ((Ty.wts (l.take k) : Int) - (k : Int))
      · have he : szR (kid l k).wt (left - (l.length : Int) - ((Ty.wts (l.take k) : Int) - (k : Int))) = left - (l.length : Int) - ((Ty.wts (l.take (k + 1)) : Int) - ((k + 1 : Nat) : Int)) := by
          unfold szR; rw [if_pos hfk, hm]; omega
        rw [he] at hc
        have d1 : decide (left - (l.length : Int) - ((Ty.wts (l.take (k + 1)) : Int) - ((k + 1 : Nat) : Int)) < 0) = false := by simp; omega
        (first | refine cd (hc := hc) (hK := ?_) | refine cm (hc := hc) (hK := ?_) | refine ct (hc := hc) (hK := ?_)); (simp only [go_sem])
        repeat' (first | (simp only [go_sem, hw1, d1]) | (((first | refine sp1 ?_ ?_ | refine sp2 ?_ ?_ | refine sp3 ?_ ?_ | refine sp4 ?_ ?_ | refine sp5 ?_ ?_ | refine sp6 ?_ ?_ | refine sp7 ?_ ?_) <;> intro hb) <;> (simp only [go_sem, hb, hw1, d1])) | ((first | refine wm_done ?_ | refine wt_done ?_ | refine wg_run ?_ | refine fk ?_ ?_) <;> (simp only [go_sem, hw1, d1])))
        exact hG (k + 1) _ _ ⟨by omega, by omega⟩ (by omega) (hat [] (hI := ⟨rfl, rfl⟩))
      · have he : szR (kid l k).wt (left - (l.length : Int) - ((Ty.wts (l.take k) : Int) - (k : Int))) = -1 := by
          unfold szR; rw [if_neg hfk]
        rw [he] at hc
        have he2 : szR (Ty.wts l) left = -1 := by unfold szR; rw [if_neg (by omega)]
        (first | refine cd (hc := hc) (hK := ?_) | refine cm (hc := hc) (hK := ?_) | refine ct (hc := hc) (hK := ?_)); (simp only [go_sem])
        repeat' (first | (simp only [go_sem, hw1]) | (((first | refine sp1 ?_ ?_ | refine sp2 ?_ ?_ | refine sp3 ?_ ?_ | refine sp4 ?_ ?_ | refine sp5 ?_ ?_ | refine sp6 ?_ ?_ | refine sp7 ?_ ?_) <;> intro hb) <;> (simp only [go_sem, hb, hw1])) | ((first | refine wm_done ?_ | refine wt_done ?_ | refine wg_run ?_ | refine fk ?_ ?_) <;> (simp only [go_sem, hw1])))
        (refine hR _ (rat [] (hK := ⟨?_, rfl⟩)))
        rw [he2]
    · have hk1 : k = l.length := by have := of_decide_eq_false hb; omega
      subst hk1
      rw [List.take_length] at hs hr
      have he2 : szR (Ty.wts l) left = left - (l.length : Int) - ((Ty.wts l : Int) - (l.length : Int)) := by unfold szR; rw [if_pos (by omega)]; omega
      rw [List.take_length]
      (refine hR _ (rat [] (hK := ⟨?_, rfl⟩)))
      rw [he2]
  · have d0 : decide (left - (l.length : Int) < 0) = true := by simp; omega
    have he2 : szR (Ty.wts l) left = -1 := by unfold szR; rw [if_neg (by omega)]
    refine fn_in ?_; refine acl_in Tryz.func81 rfl isfn_81 (Nat.le_of_ble_eq_true rfl) (fun R hR => ?_); rw [Tryz.results81] at hR; refine wg_run ?_; (simp only [Tryz.f81, go_sem, hw0, d0])
    (refine hR _ (rat [] (hK := ⟨?_, rfl⟩)))
    rw [he2]

/-! ### equality -/
theorem eqTyS (n : Nat) (ih : ∀ a b : Ty, a.size < n → AFn Tryz.prog 47 [.agg (tyC a), .agg (tyC b)] (.one (.sc (.bool (a.same b))))) (l m : List Ty) (hn : Ty.sizes l < n) (hlen : l.length < 4611686018427387904) :
    AFn Tryz.prog 83 [.one (.sl (tyR l)), .one (.sl (tyR m))] (.one (.sc (.bool (Ty.sames l m)))) := by
  rw [Ty.sames_all2]
  by_cases hlm : l.length = m.length
  · have hb0 : ((l.length : Int) == (m.length : Int)) = true := by simp; omega
    refine fn_in ?_; refine acl_in Tryz.func83 rfl isfn_83 (Nat.le_of_ble_eq_true rfl) (fun R hR => ?_); rw [Tryz.results83] at hR; refine wg_run ?_; (simp only [Tryz.f83, go_sem, hb0, int_bne])
    refine wd_for [0, 1, 5] (fun k => [.one (.sl (tyR l)), .one (.sl (tyR m)), .one (.sc (.int .i64 (k : Nat)))]) (fun _ => [])
      (fun k => k ≤ l.length ∧ all2 Ty.same (l.drop k) (m.drop k) = all2 Ty.same l m) (fun k => l.length - k) 0 ⟨Nat.zero_le _, rfl⟩ (hat [] (hI := ⟨rfl, rfl⟩)) ?_
    rintro k ⟨hk, hs⟩ G hG
    refine wg_run ?_
    (simp only [go_sem])
    ((first | refine sp1 ?_ ?_ | refine sp2 ?_ ?_ | refine sp3 ?_ ?_ | refine sp4 ?_ ?_ | refine sp5 ?_ ?_ | refine sp6 ?_ ?_ | refine sp7 ?_ ?_) <;> intro hb) <;> (simp only [go_sem, hb])
    · have hk1 : k < l.length := by have := of_decide_eq_true hb; omega
      have hk2 : decide ((k : Int) < (m.length : Int)) = true := by simp; omega
      have hw1 := wrap_succ hk1 (by omega)
      rw [tyall2_kid hk1 (by omega)] at hs
      have hc := ih (kid l k) (kid m k) (by rw [kid_eq hk1]; have := Ty.sizes_mem (List.getElem_mem hk1); omega)
      repeat' (first | (first | (simp only [go_sem, hb, hk2, hw1]) | (((first | refine sp1 ?_ ?_ | refine sp2 ?_ ?_ | refine sp3 ?_ ?_ | refine sp4 ?_ ?_ | refine sp5 ?_ ?_ | refine sp6 ?_ ?_ | refine sp7 ?_ ?_) <;> intro hb) <;> (simp only [go_sem, hb, hb, hk2, hw1])) | ((first | refine wm_done ?_ | refine wt_done ?_ | refine wg_run ?_ | refine fk ?_ ?_) <;> (simp only [go_sem, hb, hk2, hw1]))) | ((first | refine mx 6 [] follows ?_ | refine mx 5 [] follows ?_ | refine mx 4 [] follows ?_ | refine mx 3 [] follows ?_ | refine mx 2 [] follows ?_ | refine mx 1 [] follows ?_ | refine mx 0 [] follows ?_ | fail); (simp only [go_sem, hb, hk2])) | (first | refine cd (hc := hc) (hK := ?_) | refine cm (hc := hc) (hK := ?_) | refine ct (hc := hc) (hK := ?_)); (simp only [go_sem]))
      · exact hG (k + 1) _ _ ⟨by omega, by simpa [hb] using hs⟩ (by omega) (hat [] (hI := ⟨rfl, rfl⟩))
      · (refine hR _ (rat [] (hK := ⟨?_, rfl⟩)))
        simpa [hb] using hs
    · have hk1 : ¬ k < l.length := by have := of_decide_eq_false hb; omega
      rw [tyall2_end hk1 hlm] at hs
      (refine hR _ (rat [] (hK := ⟨?_, rfl⟩)))
      rw [hs]
  · have hb0 : ((l.length : Int) == (m.length : Int)) = false := by simp; omega
    refine fn_in ?_; refine acl_in Tryz.func83 rfl isfn_83 (Nat.le_of_ble_eq_true rfl) (fun R hR => ?_); rw [Tryz.results83] at hR; refine wg_run ?_; (simp only [Tryz.f83, go_sem, hb0, int_bne])
    (refine hR _ (rat [] (hK := ⟨?_, rfl⟩)))
    rw [all2_len hlm]

/-! ### copies from the law's types to the program's -/
theorem toTyS (n : Nat) (ih : ∀ t : Ty, t.size < n → AFn Tryz.prog 44 [.agg (tyC t)] (.agg (tyC t))) (l : List Ty) (hn : Ty.sizes l < n) (hlen : l.length < 1099511627776) :
    AFn Tryz.prog 82 [.one (.sl (tyR l))] (.one (.sl (tyR l))) := by
  have hcap : decide ((32 : Int) * (l.length : Int) ≤ 140737488355328 ∧ (l.length : Int) ≤ 140737488355328) = true := by simp; omega
  refine fn_in ?_; refine acl_in Tryz.func82 rfl isfn_82 (Nat.le_of_ble_eq_true rfl) (fun R hR => ?_); rw [Tryz.results82] at hR; refine wg_run ?_; (simp only [Tryz.f82, go_sem, hcap])
  rw [← tyF_0 l]
  refine wd_for [0, 3, 4] (fun k => [.one (.sl (tyR l)), .one (.row 2 0 l.length), .one (.sc (.int .i64 (k : Nat)))]) (fun k => [⟨2, 25, .mut, tyF l k⟩])
    (fun k => k ≤ l.length) (fun k => l.length - k) 0 (Nat.zero_le _) (head_at [0] (by (simp only [go_sem]); first | done | rfl) (by (simp only [go_sem]); generalize treeRows _ = b; cases b <;> rfl) ⟨rfl, rfl⟩) ?_
  rintro k hk G hG
  refine wg_run ?_
  (simp only [go_sem])
  ((first | refine sp1 ?_ ?_ | refine sp2 ?_ ?_ | refine sp3 ?_ ?_ | refine sp4 ?_ ?_ | refine sp5 ?_ ?_ | refine sp6 ?_ ?_ | refine sp7 ?_ ?_) <;> intro hb) <;> (simp only [go_sem, hb])
  · have hk1 : k < l.length := by have := of_decide_eq_true hb; omega
    have hw1 := wrap_succ hk1 (by omega)
    have hc := ih (kid l k) (by rw [kid_eq hk1]; have := Ty.sizes_mem (List.getElem_mem hk1); omega)
    have hkn : decide (k < l.length) = true := by simpa using hk1
    repeat' (first | (first | (simp only [go_sem, hb, hw1, hkn, tyF_get hk1, tyF_set hk1]) | (((first | refine sp1 ?_ ?_ | refine sp2 ?_ ?_ | refine sp3 ?_ ?_ | refine sp4 ?_ ?_ | refine sp5 ?_ ?_ | refine sp6 ?_ ?_ | refine sp7 ?_ ?_) <;> intro hb) <;> (simp only [go_sem, hb, hb, hw1, hkn, tyF_get hk1, tyF_set hk1])) | ((first | refine wm_done ?_ | refine wt_done ?_ | refine wg_run ?_ | refine fk ?_ ?_) <;> (simp only [go_sem, hb, hw1, hkn, tyF_get hk1, tyF_set hk1]))) | ((first | refine mx 6 [] follows ?_ | refine mx 5 [] follows ?_ | refine mx 4 [] follows ?_ | refine mx 3 [] follows ?_ | refine mx 2 [] follows ?_ | refine mx 1 [] follows ?_ | refine mx 0 [] follows ?_ | fail); (simp only [go_sem, hb, hkn, tyF_get hk1, tyF_set hk1])) | (first | refine cd (hc := hc) (hK := ?_) | refine cm (hc := hc) (hK := ?_) | refine ct (hc := hc) (hK := ?_)); (simp only [go_sem]))
    exact hG (k + 1) _ _ (by omega) (by omega) (head_at [0] (by (simp only [go_sem]); first | done | rfl) (by (simp only [go_sem]); generalize treeRows _ = b; cases b <;> rfl) ⟨rfl, rfl⟩)
  · have hk1 : k = l.length := by have := of_decide_eq_false hb; omega
    subst hk1
    rw [tyF_end]
    (refine hR _ (rat [] (hK := ⟨?_, rfl⟩)))
    rfl

theorem szTy (n : Nat) : ∀ t : Ty, t.size < n → t.fits → ∀ left : Int, 0 ≤ left → left ≤ 1048576 → AFn Tryz.prog 41 [.agg (tyC t), .one (.sc (.int .i64 left))] (.one (.sc (.int .i64 (szR t.wt left)))) := by
  induction n with
  | zero => intro t h; omega
  | succ n ih =>
    intro t h hf left h0 h1
    have hc := szTyS n ih t.kids (by cases t; simp only [Ty.size, Ty.kids] at *; omega) (by cases t; exact hf.1) (by cases t; exact hf.2) left h0 h1
    have e : t.wt = Ty.wts t.kids := by cases t; rfl
    rw [← e] at hc
    refine fn_in ?_; refine acl_in Tryz.func41 rfl isfn_41 (Nat.le_of_ble_eq_true rfl) (fun R hR => ?_); rw [Tryz.results41] at hR; refine wg_run ?_; (simp only [Tryz.f41, go_sem])
    (first | refine cd (hc := hc) (hK := ?_) | refine cm (hc := hc) (hK := ?_) | refine ct (hc := hc) (hK := ?_)); (simp only [go_sem])
    repeat' (first | (((first | refine sp1 ?_ ?_ | refine sp2 ?_ ?_ | refine sp3 ?_ ?_ | refine sp4 ?_ ?_ | refine sp5 ?_ ?_ | refine sp6 ?_ ?_ | refine sp7 ?_ ?_) <;> intro hb) <;> (simp only [go_sem, hb])) | ((first | refine wm_done ?_ | refine wt_done ?_ | refine wg_run ?_ | refine fk ?_ ?_) <;> (simp only [go_sem])))
    · (refine hR _ (rat [] (hK := ⟨?_, rfl⟩)))
      rw [szR_neg hb]
    · (refine hR _ (rat [] (hK := ⟨rfl, rfl⟩)))
theorem eqTy (n : Nat) (hn : n ≤ 4611686018427387904) : ∀ a b : Ty, a.size < n → AFn Tryz.prog 47 [.agg (tyC a), .agg (tyC b)] (.one (.sc (.bool (a.same b)))) := by
  induction n with
  | zero => intro a b h; omega
  | succ n ih =>
    intro a b h
    have hc := eqTyS n (ih (by omega)) a.kids b.kids (by cases a; simp only [Ty.size, Ty.kids] at *; omega) (by have := Ty.length_le_sizes a.kids; cases a; simp only [Ty.size, Ty.kids] at *; omega)
    have e : a.same b = (a.kind == b.kind && Ty.sames a.kids b.kids) := by cases a; cases b; rfl
    rw [e]
    refine fn_in ?_; refine acl_in Tryz.func47 rfl isfn_47 (Nat.le_of_ble_eq_true rfl) (fun R hR => ?_); rw [Tryz.results47] at hR; refine wg_run ?_; (simp only [Tryz.f47, go_sem])
    repeat' (first | (first | (simp only [go_sem, int_bne]) | (((first | refine sp1 ?_ ?_ | refine sp2 ?_ ?_ | refine sp3 ?_ ?_ | refine sp4 ?_ ?_ | refine sp5 ?_ ?_ | refine sp6 ?_ ?_ | refine sp7 ?_ ?_) <;> intro hb) <;> (simp only [go_sem, hb, int_bne])) | ((first | refine wm_done ?_ | refine wt_done ?_ | refine wg_run ?_ | refine fk ?_ ?_) <;> (simp only [go_sem, int_bne]))) | (first | refine cd (hc := hc) (hK := ?_) | refine cm (hc := hc) (hK := ?_) | refine ct (hc := hc) (hK := ?_)); (simp only [go_sem]) | ((first | refine mx 6 [] follows ?_ | refine mx 5 [] follows ?_ | refine mx 4 [] follows ?_ | refine mx 3 [] follows ?_ | refine mx 2 [] follows ?_ | refine mx 1 [] follows ?_ | refine mx 0 [] follows ?_ | fail); (simp only [go_sem])))
    all_goals (refine hR _ (rat [] (hK := ⟨?_, rfl⟩)))
    all_goals simp_all
theorem toTy (n : Nat) (hn : n ≤ 1099511627776) : ∀ t : Ty, t.size < n → AFn Tryz.prog 44 [.agg (tyC t)] (.agg (tyC t)) := by
  induction n with
  | zero => intro t h; omega
  | succ n ih =>
    intro t h
    have hc := toTyS n (ih (by omega)) t.kids (by cases t; simp only [Ty.size, Ty.kids] at *; omega) (by have := Ty.length_le_sizes t.kids; cases t; simp only [Ty.size, Ty.kids] at *; omega)
    refine fn_in ?_; refine acl_in Tryz.func44 rfl isfn_44 (Nat.le_of_ble_eq_true rfl) (fun R hR => ?_); rw [Tryz.results44] at hR; refine wg_run ?_; (simp only [Tryz.f44, go_sem])
    repeat' (first | (first | (((first | refine sp1 ?_ ?_ | refine sp2 ?_ ?_ | refine sp3 ?_ ?_ | refine sp4 ?_ ?_ | refine sp5 ?_ ?_ | refine sp6 ?_ ?_ | refine sp7 ?_ ?_) <;> intro hb) <;> (simp only [go_sem, hb])) | ((first | refine wm_done ?_ | refine wt_done ?_ | refine wg_run ?_ | refine fk ?_ ?_) <;> (simp only [go_sem]))) | (first | refine cd (hc := hc) (hK := ?_) | refine cm (hc := hc) (hK := ?_) | refine ct (hc := hc) (hK := ?_)); (simp only [go_sem]) | ((first | refine mx 6 [] follows ?_ | refine mx 5 [] follows ?_ | refine mx 4 [] follows ?_ | refine mx 3 [] follows ?_ | refine mx 2 [] follows ?_ | refine mx 1 [] follows ?_ | refine mx 0 [] follows ?_ | fail); (simp only [go_sem])))
    (refine hR _ (rat [] (hK := ⟨?_, rfl⟩)))
    rw [tyC_eq]
end Go.Proofs.YtnaebafafhamjaaGreat
/- Terms: the helpers of the exact laws, on shadows. -/
namespace Go.Proofs.Sh
open Go.RowKit Go.Proofs.Grad

/-! ### sizes -/
theorem tew_mem {l : List Tm} {k : Nat} (h : k < l.length) : Tm.wts (l.take (k + 1)) = Tm.wts (l.take k) + (1 + (teKid l k).wt) := by
  rw [tetake_kid h]
  induction l.take k with
  | nil => simp [Tm.wts]
  | cons x m ih => simp only [List.cons_append, Tm.wts, ih]; omega
theorem tew_rest (l : List Tm) : ∀ k, k ≤ l.length → Tm.wts (l.take k) + (l.length - k) ≤ Tm.wts l := by
  induction l with
  | nil => intro k _; simp [Tm.wts]
  | cons x l ih =>
    intro k hk
    cases k with
    | zero => have := ih 0 (by omega); simp [Tm.wts] at this ⊢; omega
    | succ k => have := ih k (by simpa using hk); simp [Tm.wts] at this ⊢; omega
theorem tew_fit {l : List Tm} (h : Tm.fitss l) {k : Nat} (hk : k < l.length) : (teKid l k).fits := by
  rw [teKid_eq hk]; exact Tm.fitss_mem h (List.getElem_mem hk)

/-! ### lists filled from the front -/
def teF (l : List Tm) (k : Nat) : List (List C) := teR (l.take k) ++ List.replicate (l.length - k) [.sc (.int .i64 0), .sc (.string { data := { toList := [] } }), .sc (.int .i64 0), .sc (.int .i64 0), .sc (.slice none 0 0), .sc (.int .i64 0), .sc (.slice none 0 0), .sc (.int .i64 0), .sc (.slice none 0 0)]
theorem teF_0 (l : List Tm) : teF l 0 = List.replicate l.length [.sc (.int .i64 0), .sc (.string { data := { toList := [] } }), .sc (.int .i64 0), .sc (.int .i64 0), .sc (.slice none 0 0), .sc (.int .i64 0), .sc (.slice none 0 0), .sc (.int .i64 0), .sc (.slice none 0 0)] := by simp [teF, teR]
theorem teF_get {l : List Tm} {k : Nat} (h : k < l.length) : (teF l k)[k]? = some [.sc (.int .i64 0), .sc (.string { data := { toList := [] } }), .sc (.int .i64 0), .sc (.int .i64 0), .sc (.slice none 0 0), .sc (.int .i64 0), .sc (.slice none 0 0), .sc (.int .i64 0), .sc (.slice none 0 0)] := by
  have e : (teR (l.take k)).length = k := by rw [teR_length, List.length_take]; omega
  rw [teF, List.getElem?_append_right (by omega), e, Nat.sub_self, List.getElem?_replicate, if_pos (by omega)]
theorem teF_set {l : List Tm} {k : Nat} (h : k < l.length) : (teF l k).set k (teC (teKid l k)) = teF l (k + 1) := by
  have e : (teR (l.take k)).length = k := by rw [teR_length, List.length_take]; omega
  rw [teF, teF, List.set_append_right _ _ (by omega), e, Nat.sub_self, show l.length - k = (l.length - (k + 1)) + 1 by omega, List.replicate_succ, List.set_cons_zero, teR_take h, List.append_assoc]
  rfl
theorem teF_end (l : List Tm) : teF l l.length = teR l := by simp [teF]
@[go_sem] theorem teF_pr (h : List Blk) (ks : List Nat) (l : List Tm) (k : Nat) : prRs h ks (teF l k) = some (teF l k, []) := by
  have h1 : ∀ n, prRs h ks (List.replicate n [.sc (.int .i64 0), .sc (.string { data := { toList := [] } }), .sc (.int .i64 0), .sc (.int .i64 0), .sc (.slice none 0 0), .sc (.int .i64 0), .sc (.slice none 0 0), .sc (.int .i64 0), .sc (.slice none 0 0)]) = some (List.replicate n [.sc (.int .i64 0), .sc (.string { data := { toList := [] } }), .sc (.int .i64 0), .sc (.int .i64 0), .sc (.slice none 0 0), .sc (.int .i64 0), .sc (.slice none 0 0), .sc (.int .i64 0), .sc (.slice none 0 0)], []) := by
    intro n
    induction n with
    | zero => rfl
    | succ n ih => rw [List.replicate_succ, prRs, ih]; rfl
  have h2 : ∀ (m : List Tm) n, prRs h ks (teR m ++ List.replicate n [.sc (.int .i64 0), .sc (.string { data := { toList := [] } }), .sc (.int .i64 0), .sc (.int .i64 0), .sc (.slice none 0 0), .sc (.int .i64 0), .sc (.slice none 0 0), .sc (.int .i64 0), .sc (.slice none 0 0)]) = some (teR m ++ List.replicate n [.sc (.int .i64 0), .sc (.string { data := { toList := [] } }), .sc (.int .i64 0), .sc (.int .i64 0), .sc (.slice none 0 0), .sc (.int .i64 0), .sc (.slice none 0 0), .sc (.int .i64 0), .sc (.slice none 0 0)], []) := by
    intro m n
    induction m with
    | nil => exact h1 n
    | cons x m ih => rw [teR, List.cons_append, prRs, ih, prL, if_pos (teC_treeL x)]; rfl
  exact h2 _ _
@[go_sem] theorem teF_rows (l : List Tm) (k : Nat) : rowsLen 9 (teF l k) = true := by
  have : ∀ n, rowsLen 9 (List.replicate n [.sc (.int .i64 0), .sc (.string { data := { toList := [] } }), .sc (.int .i64 0), .sc (.int .i64 0), .sc (.slice none 0 0), .sc (.int .i64 0), .sc (.slice none 0 0), .sc (.int .i64 0), .sc (.slice none 0 0)]) = true := by
    intro n
    induction n with
    | zero => rfl
    | succ n ih => rw [List.replicate_succ, rowsLen_cons, ih]; rfl
  rw [teF, rowsLen_append, teR_len, this]; rfl
theorem teF_len (l : List Tm) {k : Nat} (h : k ≤ l.length) : (teF l k).length = l.length := by
  simp [teF, teR_length]; omega
end Go.Proofs.Sh
namespace Go.Proofs.YtnaebafafhamjaaGreat
open Go.RowKit Go.Proofs.Sh Go.Proofs.Grad
set_option maxRecDepth 100000
set_option maxHeartbeats 4000000

theorem szTmS (n : Nat) (ih : ∀ t : Tm, t.size < n → t.fits → ∀ left : Int, 0 ≤ left → left ≤ 1048576 → AFn Tryz.prog 11 [.agg (teC t), .one (.sc (.int .i64 left))] (.one (.sc (.int .i64 (szR t.wt left)))))
    (l : List Tm) (hn : Tm.sizes l < n) (hlen : l.length ≤ 9223372036854775807) (hf : Tm.fitss l) (left : Int) (h0 : 0 ≤ left) (h1 : left ≤ 1048576) : AFn Tryz.prog 42 [.one (.sl (teR l)), .one (.sc (.int .i64 left))] (.one (.sc (.int .i64 (szR (Tm.wts l) left)))) := by
  have hw0 : IntKind.i64.wrap (left - (l.length : Int)) = left - (l.length : Int) := IntWalk.i64_in _ (by omega)
  have hge := tew_rest l 0 (Nat.zero_le _)
  simp only [List.take_zero, Tm.wts] at hge
  by_cases hfit : (l.length : Int) ≤ left
  · have d0 : decide (left - (l.length : Int) < 0) = false := by simp; omega
    refine fn_in ?_; refine acl_in Tryz.func42 rfl isfn_42 (Nat.le_of_ble_eq_true rfl) (fun R hR => ?_); rw [Tryz.results42] at hR; refine wg_run ?_; (simp only [Tryz.f42, go_sem, hw0, d0])
    refine wd_for [0, 1, 5] (fun k => [.one (.sl (teR l)), .one (.sc (.int .i64 (left - (l.length : Int) - ((Tm.wts (l.take k) : Int) - (k : Int))))), .one (.sc (.int .i64 (k : Nat)))]) (fun _ => [])
      (fun k => k ≤ l.length ∧ (Tm.wts (l.take k) : Int) + (l.length : Int) ≤ left + (k : Int)) (fun k => l.length - k) 0 ⟨Nat.zero_le _, by simp [Tm.wts]; omega⟩ (hat [] (hI := ⟨by simp [Tm.wts], rfl⟩)) ?_
    rintro k ⟨hk, hs⟩ G hG
    refine wg_run ?_
    (simp only [go_sem])
    have hr := tew_rest l k hk
    ((first | refine sp1 ?_ ?_ | refine sp2 ?_ ?_ | refine sp3 ?_ ?_ | refine sp4 ?_ ?_ | refine sp5 ?_ ?_ | refine sp6 ?_ ?_ | refine sp7 ?_ ?_) <;> intro hb) <;> (simp only [go_sem, hb])
    · have hk1 : k < l.length := by have := of_decide_eq_true hb; omega
      have hw1 := wrap_succ hk1 (by omega)
      have hm := tew_mem hk1
      have hr1 := tew_rest l (k + 1) hk1
      have hc := ih (teKid l k) (by rw [teKid_eq hk1]; have := tesizes_mem (List.getElem_mem hk1); omega) (tew_fit hf hk1) (left - (l.length : Int) - ((Tm.wts (l.take k) : Int) - (k : Int))) (by omega) (by omega)
      by_cases hfk : ((teKid l k).wt : Int) ≤ left - (l.length : Int) - ((Tm.wts (l.take k) : Int) - (k : Int))
      · have he : szR (teKid l k).wt (left - (l.length : Int) - ((Tm.wts (l.take k) : Int) - (k : Int))) = left - (l.length : Int) - ((Tm.wts (l.take (k + 1)) : Int) - ((k + 1 : Nat) : Int)) := by
          unfold szR; rw [if_pos hfk, hm]; omega
        rw [he] at hc
        have d1 : decide (left - (l.length : Int) - ((Tm.wts (l.take (k + 1)) : Int) - ((k + 1 : Nat) : Int)) < 0) = false := by simp; omega
        (first | refine cd (hc := hc) (hK := ?_) | refine cm (hc := hc) (hK := ?_) | refine ct (hc := hc) (hK := ?_)); (simp only [go_sem])
        repeat' (first | (simp only [go_sem, hw1, d1]) | (((first | refine sp1 ?_ ?_ | refine sp2 ?_ ?_ | refine sp3 ?_ ?_ | refine sp4 ?_ ?_ | refine sp5 ?_ ?_ | refine sp6 ?_ ?_ | refine sp7 ?_ ?_) <;> intro hb) <;> (simp only [go_sem, hb, hw1, d1])) | ((first | refine wm_done ?_ | refine wt_done ?_ | refine wg_run ?_ | refine fk ?_ ?_) <;> (simp only [go_sem, hw1, d1])))
        exact hG (k + 1) _ _ ⟨by omega, by omega⟩ (by omega) (hat [] (hI := ⟨rfl, rfl⟩))
      · have he : szR (teKid l k).wt (left - (l.length : Int) - ((Tm.wts (l.take k) : Int) - (k : Int))) = -1 := by
          unfold szR; rw [if_neg hfk]
        rw [he] at hc
        have he2 : szR (Tm.wts l) left = -1 := by unfold szR; rw [if_neg (by omega)]
        (first | refine cd (hc := hc) (hK := ?_) | refine cm (hc := hc) (hK := ?_) | refine ct (hc := hc) (hK := ?_)); (simp only [go_sem])
        repeat' (first | (simp only [go_sem, hw1]) | (((first | refine sp1 ?_ ?_ | refine sp2 ?_ ?_ | refine sp3 ?_ ?_ | refine sp4 ?_ ?_ | refine sp5 ?_ ?_ | refine sp6 ?_ ?_ | refine sp7 ?_ ?_) <;> intro hb) <;> (simp only [go_sem, hb, hw1])) | ((first | refine wm_done ?_ | refine wt_done ?_ | refine wg_run ?_ | refine fk ?_ ?_) <;> (simp only [go_sem, hw1])))
        (refine hR _ (rat [] (hK := ⟨?_, rfl⟩)))
        rw [he2]
    · have hk1 : k = l.length := by have := of_decide_eq_false hb; omega
      subst hk1
      rw [List.take_length] at hs hr
      have he2 : szR (Tm.wts l) left = left - (l.length : Int) - ((Tm.wts l : Int) - (l.length : Int)) := by unfold szR; rw [if_pos (by omega)]; omega
      rw [List.take_length]
      (refine hR _ (rat [] (hK := ⟨?_, rfl⟩)))
      rw [he2]
  · have d0 : decide (left - (l.length : Int) < 0) = true := by simp; omega
    have he2 : szR (Tm.wts l) left = -1 := by unfold szR; rw [if_neg (by omega)]
    refine fn_in ?_; refine acl_in Tryz.func42 rfl isfn_42 (Nat.le_of_ble_eq_true rfl) (fun R hR => ?_); rw [Tryz.results42] at hR; refine wg_run ?_; (simp only [Tryz.f42, go_sem, hw0, d0])
    (refine hR _ (rat [] (hK := ⟨?_, rfl⟩)))
    rw [he2]

/-! ### equality -/
theorem eqTmS (n : Nat) (ih : ∀ a b : Tm, a.size < n → AFn Tryz.prog 15 [.agg (teC a), .agg (teC b)] (.one (.sc (.bool (a.same b))))) (l m : List Tm) (hn : Tm.sizes l < n) (hlen : l.length < 4611686018427387904) :
    AFn Tryz.prog 48 [.one (.sl (teR l)), .one (.sl (teR m))] (.one (.sc (.bool (Tm.sames l m)))) := by
  rw [tesames_all2]
  by_cases hlm : l.length = m.length
  · have hb0 : ((l.length : Int) == (m.length : Int)) = true := by simp; omega
    refine fn_in ?_; refine acl_in Tryz.func48 rfl isfn_48 (Nat.le_of_ble_eq_true rfl) (fun R hR => ?_); rw [Tryz.results48] at hR; refine wg_run ?_; (simp only [Tryz.f48, go_sem, hb0, int_bne])
    refine wd_for [0, 1, 5] (fun k => [.one (.sl (teR l)), .one (.sl (teR m)), .one (.sc (.int .i64 (k : Nat)))]) (fun _ => [])
      (fun k => k ≤ l.length ∧ teall2 Tm.same (l.drop k) (m.drop k) = teall2 Tm.same l m) (fun k => l.length - k) 0 ⟨Nat.zero_le _, rfl⟩ (hat [] (hI := ⟨rfl, rfl⟩)) ?_
    rintro k ⟨hk, hs⟩ G hG
    refine wg_run ?_
    (simp only [go_sem])
    ((first | refine sp1 ?_ ?_ | refine sp2 ?_ ?_ | refine sp3 ?_ ?_ | refine sp4 ?_ ?_ | refine sp5 ?_ ?_ | refine sp6 ?_ ?_ | refine sp7 ?_ ?_) <;> intro hb) <;> (simp only [go_sem, hb])
    · have hk1 : k < l.length := by have := of_decide_eq_true hb; omega
      have hk2 : decide ((k : Int) < (m.length : Int)) = true := by simp; omega
      have hw1 := wrap_succ hk1 (by omega)
      rw [teall2_kid hk1 (by omega)] at hs
      have hc := ih (teKid l k) (teKid m k) (by rw [teKid_eq hk1]; have := tesizes_mem (List.getElem_mem hk1); omega)
      repeat' (first | (first | (simp only [go_sem, hb, hk2, hw1]) | (((first | refine sp1 ?_ ?_ | refine sp2 ?_ ?_ | refine sp3 ?_ ?_ | refine sp4 ?_ ?_ | refine sp5 ?_ ?_ | refine sp6 ?_ ?_ | refine sp7 ?_ ?_) <;> intro hb) <;> (simp only [go_sem, hb, hb, hk2, hw1])) | ((first | refine wm_done ?_ | refine wt_done ?_ | refine wg_run ?_ | refine fk ?_ ?_) <;> (simp only [go_sem, hb, hk2, hw1]))) | ((first | refine mx 6 [] follows ?_ | refine mx 5 [] follows ?_ | refine mx 4 [] follows ?_ | refine mx 3 [] follows ?_ | refine mx 2 [] follows ?_ | refine mx 1 [] follows ?_ | refine mx 0 [] follows ?_ | fail); (simp only [go_sem, hb, hk2])) | (first | refine cd (hc := hc) (hK := ?_) | refine cm (hc := hc) (hK := ?_) | refine ct (hc := hc) (hK := ?_)); (simp only [go_sem]))
      · exact hG (k + 1) _ _ ⟨by omega, by simpa [hb] using hs⟩ (by omega) (hat [] (hI := ⟨rfl, rfl⟩))
      · (refine hR _ (rat [] (hK := ⟨?_, rfl⟩)))
        simpa [hb] using hs
    · have hk1 : ¬ k < l.length := by have := of_decide_eq_false hb; omega
      rw [teall2_end hk1 hlm] at hs
      (refine hR _ (rat [] (hK := ⟨?_, rfl⟩)))
      rw [hs]
  · have hb0 : ((l.length : Int) == (m.length : Int)) = false := by simp; omega
    refine fn_in ?_; refine acl_in Tryz.func48 rfl isfn_48 (Nat.le_of_ble_eq_true rfl) (fun R hR => ?_); rw [Tryz.results48] at hR; refine wg_run ?_; (simp only [Tryz.f48, go_sem, hb0, int_bne])
    (refine hR _ (rat [] (hK := ⟨?_, rfl⟩)))
    rw [teall2_len hlm]

/-! ### copies from the law's types to the program's -/
theorem toTmS (n : Nat) (ih : ∀ t : Tm, t.size < n → AFn Tryz.prog 13 [.agg (teC t)] (.agg (teC t))) (l : List Tm) (hn : Tm.sizes l < n) (hlen : l.length < 1099511627776) :
    AFn Tryz.prog 45 [.one (.sl (teR l))] (.one (.sl (teR l))) := by
  have hcap : decide ((128 : Int) * (l.length : Int) ≤ 140737488355328 ∧ (l.length : Int) ≤ 140737488355328) = true := by simp; omega
  refine fn_in ?_; refine acl_in Tryz.func45 rfl isfn_45 (Nat.le_of_ble_eq_true rfl) (fun R hR => ?_); rw [Tryz.results45] at hR; refine wg_run ?_; (simp only [Tryz.f45, go_sem, hcap])
  rw [← teF_0 l]
  refine wd_for [0, 3, 4] (fun k => [.one (.sl (teR l)), .one (.row 9 0 l.length), .one (.sc (.int .i64 (k : Nat)))]) (fun k => [⟨9, 28, .mut, teF l k⟩])
    (fun k => k ≤ l.length) (fun k => l.length - k) 0 (Nat.zero_le _) (head_at [0] (by (simp only [go_sem]); first | done | rfl) (by (simp only [go_sem]); generalize treeRows _ = b; cases b <;> rfl) ⟨rfl, rfl⟩) ?_
  rintro k hk G hG
  refine wg_run ?_
  (simp only [go_sem])
  ((first | refine sp1 ?_ ?_ | refine sp2 ?_ ?_ | refine sp3 ?_ ?_ | refine sp4 ?_ ?_ | refine sp5 ?_ ?_ | refine sp6 ?_ ?_ | refine sp7 ?_ ?_) <;> intro hb) <;> (simp only [go_sem, hb])
  · have hk1 : k < l.length := by have := of_decide_eq_true hb; omega
    have hw1 := wrap_succ hk1 (by omega)
    have hc := ih (teKid l k) (by rw [teKid_eq hk1]; have := tesizes_mem (List.getElem_mem hk1); omega)
    have hkn : decide (k < l.length) = true := by simpa using hk1
    repeat' (first | (first | (simp only [go_sem, hb, hw1, hkn, teF_get hk1, teF_set hk1]) | (((first | refine sp1 ?_ ?_ | refine sp2 ?_ ?_ | refine sp3 ?_ ?_ | refine sp4 ?_ ?_ | refine sp5 ?_ ?_ | refine sp6 ?_ ?_ | refine sp7 ?_ ?_) <;> intro hb) <;> (simp only [go_sem, hb, hb, hw1, hkn, teF_get hk1, teF_set hk1])) | ((first | refine wm_done ?_ | refine wt_done ?_ | refine wg_run ?_ | refine fk ?_ ?_) <;> (simp only [go_sem, hb, hw1, hkn, teF_get hk1, teF_set hk1]))) | ((first | refine mx 6 [] follows ?_ | refine mx 5 [] follows ?_ | refine mx 4 [] follows ?_ | refine mx 3 [] follows ?_ | refine mx 2 [] follows ?_ | refine mx 1 [] follows ?_ | refine mx 0 [] follows ?_ | fail); (simp only [go_sem, hb, hkn, teF_get hk1, teF_set hk1])) | (first | refine cd (hc := hc) (hK := ?_) | refine cm (hc := hc) (hK := ?_) | refine ct (hc := hc) (hK := ?_)); (simp only [go_sem]))
    exact hG (k + 1) _ _ (by omega) (by omega) (head_at [0] (by (simp only [go_sem]); first | done | rfl) (by (simp only [go_sem]); generalize treeRows _ = b; cases b <;> rfl) ⟨rfl, rfl⟩)
  · have hk1 : k = l.length := by have := of_decide_eq_false hb; omega
    subst hk1
    rw [teF_end]
    (refine hR _ (rat [] (hK := ⟨?_, rfl⟩)))
    rfl

theorem szTm (n : Nat) : ∀ t : Tm, t.size < n → t.fits → ∀ left : Int, 0 ≤ left → left ≤ 1048576 → AFn Tryz.prog 11 [.agg (teC t), .one (.sc (.int .i64 left))] (.one (.sc (.int .i64 (szR t.wt left)))) := by
  induction n with
  | zero => intro t h; omega
  | succ n ih =>
    intro t h hf left h0 h1
    have hc := szTmS n ih t.kids (by cases t; simp only [Tm.size, Tm.kids] at *; omega) (by cases t; exact hf.2.2.2.1) (by cases t; exact hf.2.2.2.2)
    have hn : t.name.size ≤ 9223372036854775807 := by cases t; exact hf.1
    have hw : IntKind.i64.wrap (left - (t.name.size : Int)) = left - (t.name.size : Int) := IntWalk.i64_in _ (by omega)
    have e : t.wt = t.name.size + (t.type.wt + (t.frm.wt + Tm.wts t.kids)) := by cases t; rfl
    have a1 := szTy _ t.type (Nat.lt_succ_self _) (by cases t; exact hf.2.1)
    have a2 := szTy _ t.frm (Nat.lt_succ_self _) (by cases t; exact hf.2.2.1)
    clear ih
    by_cases c1 : (t.name.size : Int) ≤ left
    · have d1 : decide (left - (t.name.size : Int) < 0) = false := by simp; omega
      have b1 := a1 _ (by omega : 0 ≤ left - (t.name.size : Int)) (by omega)
      by_cases c2 : (t.type.wt : Int) ≤ left - (t.name.size : Int)
      · have e2 : szR t.type.wt (left - (t.name.size : Int)) = left - (t.name.size : Int) - (t.type.wt : Int) := by unfold szR; rw [if_pos c2]
        rw [e2] at b1
        have d2 : decide (left - (t.name.size : Int) - (t.type.wt : Int) < 0) = false := by simp; omega
        have b2 := a2 _ (by omega : 0 ≤ left - (t.name.size : Int) - (t.type.wt : Int)) (by omega)
        by_cases c3 : (t.frm.wt : Int) ≤ left - (t.name.size : Int) - (t.type.wt : Int)
        · have e3 : szR t.frm.wt (left - (t.name.size : Int) - (t.type.wt : Int)) = left - (t.name.size : Int) - (t.type.wt : Int) - (t.frm.wt : Int) := by unfold szR; rw [if_pos c3]
          rw [e3] at b2
          have d3 : decide (left - (t.name.size : Int) - (t.type.wt : Int) - (t.frm.wt : Int) < 0) = false := by simp; omega
          have b3 := hc _ (by omega : 0 ≤ left - (t.name.size : Int) - (t.type.wt : Int) - (t.frm.wt : Int)) (by omega)
          have e4 : szR t.wt left = szR (Tm.wts t.kids) (left - (t.name.size : Int) - (t.type.wt : Int) - (t.frm.wt : Int)) := by
            unfold szR; rw [e]; split <;> split <;> omega
          rw [e4]
          refine fn_in ?_; refine acl_in Tryz.func11 rfl isfn_11 (Nat.le_of_ble_eq_true rfl) (fun R hR => ?_); rw [Tryz.results11] at hR; refine wg_run ?_; (simp only [Tryz.f11, go_sem, hw, d1])
          (first | refine cd (hc := b1) (hK := ?_) | refine cm (hc := b1) (hK := ?_) | refine ct (hc := b1) (hK := ?_)); (simp only [go_sem])
          repeat' (first | (simp only [go_sem, d2]) | (((first | refine sp1 ?_ ?_ | refine sp2 ?_ ?_ | refine sp3 ?_ ?_ | refine sp4 ?_ ?_ | refine sp5 ?_ ?_ | refine sp6 ?_ ?_ | refine sp7 ?_ ?_) <;> intro hb) <;> (simp only [go_sem, hb, d2])) | ((first | refine wm_done ?_ | refine wt_done ?_ | refine wg_run ?_ | refine fk ?_ ?_) <;> (simp only [go_sem, d2])))
          (first | refine cd (hc := b2) (hK := ?_) | refine cm (hc := b2) (hK := ?_) | refine ct (hc := b2) (hK := ?_)); (simp only [go_sem])
          repeat' (first | (simp only [go_sem, d3]) | (((first | refine sp1 ?_ ?_ | refine sp2 ?_ ?_ | refine sp3 ?_ ?_ | refine sp4 ?_ ?_ | refine sp5 ?_ ?_ | refine sp6 ?_ ?_ | refine sp7 ?_ ?_) <;> intro hb) <;> (simp only [go_sem, hb, d3])) | ((first | refine wm_done ?_ | refine wt_done ?_ | refine wg_run ?_ | refine fk ?_ ?_) <;> (simp only [go_sem, d3])))
          (first | refine cd (hc := b3) (hK := ?_) | refine cm (hc := b3) (hK := ?_) | refine ct (hc := b3) (hK := ?_)); (simp only [go_sem])
          repeat' (first | (((first | refine sp1 ?_ ?_ | refine sp2 ?_ ?_ | refine sp3 ?_ ?_ | refine sp4 ?_ ?_ | refine sp5 ?_ ?_ | refine sp6 ?_ ?_ | refine sp7 ?_ ?_) <;> intro hb) <;> (simp only [go_sem, hb])) | ((first | refine wm_done ?_ | refine wt_done ?_ | refine wg_run ?_ | refine fk ?_ ?_) <;> (simp only [go_sem])))
          · (refine hR _ (rat [] (hK := ⟨?_, rfl⟩)))
            rw [szR_neg hb]
          · (refine hR _ (rat [] (hK := ⟨rfl, rfl⟩)))
        · have e3 : szR t.frm.wt (left - (t.name.size : Int) - (t.type.wt : Int)) = -1 := by unfold szR; rw [if_neg c3]
          rw [e3] at b2
          have e4 : szR t.wt left = -1 := by unfold szR; rw [e, if_neg (by omega)]
          rw [e4]
          refine fn_in ?_; refine acl_in Tryz.func11 rfl isfn_11 (Nat.le_of_ble_eq_true rfl) (fun R hR => ?_); rw [Tryz.results11] at hR; refine wg_run ?_; (simp only [Tryz.f11, go_sem, hw, d1])
          (first | refine cd (hc := b1) (hK := ?_) | refine cm (hc := b1) (hK := ?_) | refine ct (hc := b1) (hK := ?_)); (simp only [go_sem])
          repeat' (first | (simp only [go_sem, d2]) | (((first | refine sp1 ?_ ?_ | refine sp2 ?_ ?_ | refine sp3 ?_ ?_ | refine sp4 ?_ ?_ | refine sp5 ?_ ?_ | refine sp6 ?_ ?_ | refine sp7 ?_ ?_) <;> intro hb) <;> (simp only [go_sem, hb, d2])) | ((first | refine wm_done ?_ | refine wt_done ?_ | refine wg_run ?_ | refine fk ?_ ?_) <;> (simp only [go_sem, d2])))
          (first | refine cd (hc := b2) (hK := ?_) | refine cm (hc := b2) (hK := ?_) | refine ct (hc := b2) (hK := ?_)); (simp only [go_sem])
          repeat' (first | (((first | refine sp1 ?_ ?_ | refine sp2 ?_ ?_ | refine sp3 ?_ ?_ | refine sp4 ?_ ?_ | refine sp5 ?_ ?_ | refine sp6 ?_ ?_ | refine sp7 ?_ ?_) <;> intro hb) <;> (simp only [go_sem, hb])) | ((first | refine wm_done ?_ | refine wt_done ?_ | refine wg_run ?_ | refine fk ?_ ?_) <;> (simp only [go_sem])))
          (refine hR _ (rat [] (hK := ⟨rfl, rfl⟩)))
      · have e2 : szR t.type.wt (left - (t.name.size : Int)) = -1 := by unfold szR; rw [if_neg c2]
        rw [e2] at b1
        have e4 : szR t.wt left = -1 := by unfold szR; rw [e, if_neg (by omega)]
        rw [e4]
        refine fn_in ?_; refine acl_in Tryz.func11 rfl isfn_11 (Nat.le_of_ble_eq_true rfl) (fun R hR => ?_); rw [Tryz.results11] at hR; refine wg_run ?_; (simp only [Tryz.f11, go_sem, hw, d1])
        (first | refine cd (hc := b1) (hK := ?_) | refine cm (hc := b1) (hK := ?_) | refine ct (hc := b1) (hK := ?_)); (simp only [go_sem])
        repeat' (first | (((first | refine sp1 ?_ ?_ | refine sp2 ?_ ?_ | refine sp3 ?_ ?_ | refine sp4 ?_ ?_ | refine sp5 ?_ ?_ | refine sp6 ?_ ?_ | refine sp7 ?_ ?_) <;> intro hb) <;> (simp only [go_sem, hb])) | ((first | refine wm_done ?_ | refine wt_done ?_ | refine wg_run ?_ | refine fk ?_ ?_) <;> (simp only [go_sem])))
        (refine hR _ (rat [] (hK := ⟨rfl, rfl⟩)))
    · have d1 : decide (left - (t.name.size : Int) < 0) = true := by simp; omega
      have e4 : szR t.wt left = -1 := by unfold szR; rw [e, if_neg (by omega)]
      rw [e4]
      refine fn_in ?_; refine acl_in Tryz.func11 rfl isfn_11 (Nat.le_of_ble_eq_true rfl) (fun R hR => ?_); rw [Tryz.results11] at hR; refine wg_run ?_; (simp only [Tryz.f11, go_sem, hw, d1])
      (refine hR _ (rat [] (hK := ⟨rfl, rfl⟩)))
theorem eqTm (n : Nat) (hn : n ≤ 4611686018427387904) : ∀ a b : Tm, a.size < n → AFn Tryz.prog 15 [.agg (teC a), .agg (teC b)] (.one (.sc (.bool (a.same b)))) := by
  induction n with
  | zero => intro a b h; omega
  | succ n ih =>
    intro a b h
    have hc := eqTmS n (ih (by omega)) a.kids b.kids (by cases a; simp only [Tm.size, Tm.kids] at *; omega) (by have := telen_lt a; omega)
    have a1 := eqTy (n + 1) hn a.type b.type (by cases a; simp only [Tm.size, Tm.type] at *; omega)
    have a2 := eqTy (n + 1) hn a.frm b.frm (by cases a; simp only [Tm.size, Tm.frm] at *; omega)
    have e : a.same b = (a.kind == b.kind && (a.name.toList == b.name.toList && (a.num == b.num && (a.type.same b.type && (a.frm.same b.frm && (a.label == b.label && Tm.sames a.kids b.kids)))))) := by cases a; cases b; rfl
    rw [e]
    clear e ih
    refine fn_in ?_; refine acl_in Tryz.func15 rfl isfn_15 (Nat.le_of_ble_eq_true rfl) (fun R hR => ?_); rw [Tryz.results15] at hR; refine wg_run ?_; (simp only [Tryz.f15, go_sem])
    repeat' (first | (first | (simp only [go_sem, int_bne]) | (((first | refine sp1 ?_ ?_ | refine sp2 ?_ ?_ | refine sp3 ?_ ?_ | refine sp4 ?_ ?_ | refine sp5 ?_ ?_ | refine sp6 ?_ ?_ | refine sp7 ?_ ?_) <;> intro hb) <;> (simp only [go_sem, hb, int_bne])) | ((first | refine wm_done ?_ | refine wt_done ?_ | refine wg_run ?_ | refine fk ?_ ?_) <;> (simp only [go_sem, int_bne]))) | (first | refine cd (hc := a1) (hK := ?_) | refine cm (hc := a1) (hK := ?_) | refine ct (hc := a1) (hK := ?_)); (simp only [go_sem]) | (first | refine cd (hc := a2) (hK := ?_) | refine cm (hc := a2) (hK := ?_) | refine ct (hc := a2) (hK := ?_)); (simp only [go_sem]) | (first | refine cd (hc := hc) (hK := ?_) | refine cm (hc := hc) (hK := ?_) | refine ct (hc := hc) (hK := ?_)); (simp only [go_sem]) | ((first | refine mx 6 [] follows ?_ | refine mx 5 [] follows ?_ | refine mx 4 [] follows ?_ | refine mx 3 [] follows ?_ | refine mx 2 [] follows ?_ | refine mx 1 [] follows ?_ | refine mx 0 [] follows ?_ | fail); (simp only [go_sem])))
    all_goals (refine hR _ (rat [] (hK := ⟨?_, rfl⟩)))
    all_goals simp_all
theorem toTm (n : Nat) (hn : n ≤ 1099511627776) : ∀ t : Tm, t.size < n → AFn Tryz.prog 13 [.agg (teC t)] (.agg (teC t)) := by
  induction n with
  | zero => intro t h; omega
  | succ n ih =>
    intro t h
    have hc := toTmS n (ih (by omega)) t.kids (by cases t; simp only [Tm.size, Tm.kids] at *; omega) (by have := telen_lt t; omega)
    have a1 := toTy (n + 1) hn t.type (by cases t; simp only [Tm.size, Tm.type] at *; omega)
    have a2 := toTy (n + 1) hn t.frm (by cases t; simp only [Tm.size, Tm.frm] at *; omega)
    refine fn_in ?_; refine acl_in Tryz.func13 rfl isfn_13 (Nat.le_of_ble_eq_true rfl) (fun R hR => ?_); rw [Tryz.results13] at hR; refine wg_run ?_; (simp only [Tryz.f13, go_sem])
    repeat' (first | (first | (((first | refine sp1 ?_ ?_ | refine sp2 ?_ ?_ | refine sp3 ?_ ?_ | refine sp4 ?_ ?_ | refine sp5 ?_ ?_ | refine sp6 ?_ ?_ | refine sp7 ?_ ?_) <;> intro hb) <;> (simp only [go_sem, hb])) | ((first | refine wm_done ?_ | refine wt_done ?_ | refine wg_run ?_ | refine fk ?_ ?_) <;> (simp only [go_sem]))) | (first | refine cd (hc := a1) (hK := ?_) | refine cm (hc := a1) (hK := ?_) | refine ct (hc := a1) (hK := ?_)); (simp only [go_sem]) | (first | refine cd (hc := a2) (hK := ?_) | refine cm (hc := a2) (hK := ?_) | refine ct (hc := a2) (hK := ?_)); (simp only [go_sem]) | (first | refine cd (hc := hc) (hK := ?_) | refine cm (hc := hc) (hK := ?_) | refine ct (hc := hc) (hK := ?_)); (simp only [go_sem]) | ((first | refine mx 6 [] follows ?_ | refine mx 5 [] follows ?_ | refine mx 4 [] follows ?_ | refine mx 3 [] follows ?_ | refine mx 2 [] follows ?_ | refine mx 1 [] follows ?_ | refine mx 0 [] follows ?_ | fail); (simp only [go_sem])))
    (refine hR _ (rat [] (hK := ⟨?_, rfl⟩)))
    rw [teC_eq]
end Go.Proofs.YtnaebafafhamjaaGreat
/- Copies from the law's types and terms to the program's, owned. On shadows. -/
namespace Go.Proofs.YtnaebafafhamjaaGreat
open Go.RowKit Go.Proofs.Sh Go.Proofs.Grad
set_option maxRecDepth 100000
set_option maxHeartbeats 8000000
theorem toTySO (n : Nat) (ih : ∀ t : Ty, t.size < n → ACl Tryz.prog 44 [.agg (tyC t)] [] (OwnK (tyC t) .agg)) (l : List Ty) (hn : Ty.sizes l < n) (hlen : l.length < 1099511627776) :
    ACl Tryz.prog 82 [.one (.sl (tyR l))] [] (OwnK [.sl (tyR l)] one1) := by
  have hcap : decide ((32 : Int) * (l.length : Int) ≤ 140737488355328 ∧ (l.length : Int) ≤ 140737488355328) = true := by simp; omega
  refine acl_in Tryz.func82 rfl isfn_82 (Nat.le_of_ble_eq_true rfl) (fun R hR => ?_); rw [Tryz.results82] at hR; refine wg_run ?_; (simp only [Tryz.f82, go_sem, hcap])
  refine wd_for (σ := Nat × List (List C) × List Blk) [0, 3, 4] (fun x => [.one (.sl (tyR l)), .one (.row 2 0 l.length), .one (.sc (.int .i64 (x.1 : Nat)))]) (fun x => ⟨2, 25, .mut, x.2.1⟩ :: x.2.2)
    (fun x => x.1 ≤ l.length ∧ Filled 2 1 (tyR (l.take x.1)) (l.length - x.1) [.sc (.int .i64 0), .sc (.slice none 0 0)] x.2.1 x.2.2) (fun x => l.length - x.1) (0, List.replicate l.length [.sc (.int .i64 0), .sc (.slice none 0 0)], []) ⟨Nat.zero_le _, Filled.zero⟩ (head_all (by (simp only [go_sem]); first | done | rfl) ⟨rfl, rfl⟩) ?_
  rintro ⟨k, rows, T⟩ ⟨hk, hI⟩ G hG
  simp only at hk hI hG ⊢
  refine wg_run ?_
  (simp only [go_sem])
  ((first | refine sp1 ?_ ?_ | refine sp2 ?_ ?_ | refine sp3 ?_ ?_ | refine sp4 ?_ ?_ | refine sp5 ?_ ?_ | refine sp6 ?_ ?_ | refine sp7 ?_ ?_) <;> intro hb) <;> (simp only [go_sem, hb])
  · have hk1 : k < l.length := by have := of_decide_eq_true hb; omega
    have hw1 := wrap_succ hk1 (by omega)
    have hkn : decide (k < l.length) = true := by simpa using hk1
    have hlt : (tyR (l.take k)).length = k := by rw [tyR_length, List.length_take]; omega
    rw [show l.length - k = (l.length - (k + 1)) + 1 from by omega] at hI
    have hrow := hI.get
    rw [hlt] at hrow
    repeat' (first | (first | (simp only [go_sem, hb, hw1, hkn, hrow]) | (((first | refine sp1 ?_ ?_ | refine sp2 ?_ ?_ | refine sp3 ?_ ?_ | refine sp4 ?_ ?_ | refine sp5 ?_ ?_ | refine sp6 ?_ ?_ | refine sp7 ?_ ?_) <;> intro hb) <;> (simp only [go_sem, hb, hb, hw1, hkn, hrow])) | ((first | refine wm_done ?_ | refine wt_done ?_ | refine wg_run ?_ | refine fk ?_ ?_) <;> (simp only [go_sem, hb, hw1, hkn, hrow]))) | ((first | refine mx 6 [] follows ?_ | refine mx 5 [] follows ?_ | refine mx 4 [] follows ?_ | refine mx 3 [] follows ?_ | refine mx 2 [] follows ?_ | refine mx 1 [] follows ?_ | refine mx 0 [] follows ?_ | fail); (simp only [go_sem, hb, hkn, hrow])))
    refine wd_any (acalls_own (.cons (.same (by (simp only [go_sem]); first | done | rfl)) .nil) (ih (kid l k) (by rw [kid_eq hk1]; have := Ty.sizes_mem (List.getElem_mem hk1); omega)) (fun _ h => h) ren_agg) ?_
    rintro _ h' ⟨cs, d, ids, rfl, e1, e2, e3, e4, e5⟩
    obtain ⟨T', rfl, f1, f2⟩ := pre1 e4 e5
    have hcs : cs.length = 2 := by rw [← fzL_len e1]; (simp only [go_sem])
    have hx := hI.next (pre := [_]) rfl f2 e1 hcs e2 (fun b hb => by have := (e3 b hb).1; simp only [List.length_cons] at this; omega)
    rw [hlt] at hx
    (simp only [go_sem, hcs, hkn, hrow])
    repeat' (first | (first | (simp only [go_sem, hb, hw1, hkn, hrow, hcs]) | (((first | refine sp1 ?_ ?_ | refine sp2 ?_ ?_ | refine sp3 ?_ ?_ | refine sp4 ?_ ?_ | refine sp5 ?_ ?_ | refine sp6 ?_ ?_ | refine sp7 ?_ ?_) <;> intro hb) <;> (simp only [go_sem, hb, hb, hw1, hkn, hrow, hcs])) | ((first | refine wm_done ?_ | refine wt_done ?_ | refine wg_run ?_ | refine fk ?_ ?_) <;> (simp only [go_sem, hb, hw1, hkn, hrow, hcs]))))
    refine hG (k + 1, _, _) _ _ ⟨by omega, ?_⟩ (by simp only; omega) (head_all (by (simp only [go_sem]); first | done | rfl) ⟨rfl, rfl⟩)
    simp only [tyR_take hk1]
    exact hx
  · have hk1 : k = l.length := by have := of_decide_eq_false hb; omega
    subst hk1
    rw [List.take_length, Nat.sub_self] at hI
    obtain ⟨d, js, h1, h2⟩ := hI.all (pre := [⟨2, 25, .mut, rows⟩]) (b := 0) (n := l.length) rfl (by omega) rfl rfl rfl rfl (by rw [tyR_length])
    exact hR _ (ret_ownK (F := one1) (cs := [.row 2 0 l.length]) (d := d) (by (simp only [go_sem]); first | done | rfl) (owL_one h1) h2 (prVs_one1 (owL_one h1)))
theorem toTyO (n : Nat) (hn : n ≤ 1099511627776) : ∀ t : Ty, t.size < n → ACl Tryz.prog 44 [.agg (tyC t)] [] (OwnK (tyC t) .agg) := by
  induction n with
  | zero => intro t h; omega
  | succ n ih =>
    intro t h
    have hc := toTySO n (ih (by omega)) t.kids (by cases t; simp only [Ty.size, Ty.kids] at *; omega) (by have := Ty.length_le_sizes t.kids; cases t; simp only [Ty.size, Ty.kids] at *; omega)
    refine acl_in Tryz.func44 rfl isfn_44 (Nat.le_of_ble_eq_true rfl) (fun R hR => ?_); rw [Tryz.results44] at hR; refine wg_run ?_; (simp only [Tryz.f44, go_sem])
    repeat' (first | (first | (((first | refine sp1 ?_ ?_ | refine sp2 ?_ ?_ | refine sp3 ?_ ?_ | refine sp4 ?_ ?_ | refine sp5 ?_ ?_ | refine sp6 ?_ ?_ | refine sp7 ?_ ?_) <;> intro hb) <;> (simp only [go_sem, hb])) | ((first | refine wm_done ?_ | refine wt_done ?_ | refine wg_run ?_ | refine fk ?_ ?_) <;> (simp only [go_sem]))) | ((first | refine mx 6 [] follows ?_ | refine mx 5 [] follows ?_ | refine mx 4 [] follows ?_ | refine mx 3 [] follows ?_ | refine mx 2 [] follows ?_ | refine mx 1 [] follows ?_ | refine mx 0 [] follows ?_ | fail); (simp only [go_sem])))
    refine wd_any (acalls_own (.cons (.same (by (simp only [go_sem]); first | done | rfl)) .nil) hc one1_flat one1_ren) ?_
    rintro _ h' ⟨cs, d, ids, rfl, e1, e2, e3, e4, e5⟩
    obtain ⟨T', rfl, f1, f2⟩ := pre3 e4 e5
    obtain ⟨c, cs', i, j, rfl, g1, g2, rfl⟩ := fzL_cons e1
    obtain ⟨rfl, rfl⟩ := fzL_nil g2
    rw [List.append_nil] at e2 e3
    simp only [one1, List.getD_cons_zero]
    (simp only [go_sem])
    repeat' (first | (first | (((first | refine sp1 ?_ ?_ | refine sp2 ?_ ?_ | refine sp3 ?_ ?_ | refine sp4 ?_ ?_ | refine sp5 ?_ ?_ | refine sp6 ?_ ?_ | refine sp7 ?_ ?_) <;> intro hb) <;> (simp only [go_sem, hb])) | ((first | refine wm_done ?_ | refine wt_done ?_ | refine wg_run ?_ | refine fk ?_ ?_) <;> (simp only [go_sem]))) | ((first | refine mx 6 [] follows ?_ | refine mx 5 [] follows ?_ | refine mx 4 [] follows ?_ | refine mx 3 [] follows ?_ | refine mx 2 [] follows ?_ | refine mx 1 [] follows ?_ | refine mx 0 [] follows ?_ | fail); (simp only [go_sem])))
    refine hR _ (ret_ownK (d := d) (ids := i) (by (simp only [go_sem]); first | done | rfl) ?_ e2 (fun _ => prVs_agg))
    rw [tyC_eq]
    refine owL_two (ow_frame (h := _ :: _ :: _ :: T') g1 (fun b hb => ?_))
    have hb3 : 3 ≤ b := by have := (e3 b hb).1; simp only [List.length_cons] at this; omega
    obtain ⟨b, rfl⟩ : ∃ x, b = x + 3 := ⟨b - 3, by omega⟩
    rfl
theorem toTmSO (n : Nat) (ih : ∀ t : Tm, t.size < n → ACl Tryz.prog 13 [.agg (teC t)] [] (OwnK (teC t) .agg)) (l : List Tm) (hn : Tm.sizes l < n) (hlen : l.length < 1099511627776) :
    ACl Tryz.prog 45 [.one (.sl (teR l))] [] (OwnK [.sl (teR l)] one1) := by
  have hcap : decide ((128 : Int) * (l.length : Int) ≤ 140737488355328 ∧ (l.length : Int) ≤ 140737488355328) = true := by simp; omega
  refine acl_in Tryz.func45 rfl isfn_45 (Nat.le_of_ble_eq_true rfl) (fun R hR => ?_); rw [Tryz.results45] at hR; refine wg_run ?_; (simp only [Tryz.f45, go_sem, hcap])
  refine wd_for (σ := Nat × List (List C) × List Blk) [0, 3, 4] (fun x => [.one (.sl (teR l)), .one (.row 9 0 l.length), .one (.sc (.int .i64 (x.1 : Nat)))]) (fun x => ⟨9, 28, .mut, x.2.1⟩ :: x.2.2)
    (fun x => x.1 ≤ l.length ∧ Filled 9 1 (teR (l.take x.1)) (l.length - x.1) [.sc (.int .i64 0), .sc (.string ByteArray.empty), .sc (.int .i64 0), .sc (.int .i64 0), .sc (.slice none 0 0), .sc (.int .i64 0), .sc (.slice none 0 0), .sc (.int .i64 0), .sc (.slice none 0 0)] x.2.1 x.2.2) (fun x => l.length - x.1) (0, List.replicate l.length [.sc (.int .i64 0), .sc (.string ByteArray.empty), .sc (.int .i64 0), .sc (.int .i64 0), .sc (.slice none 0 0), .sc (.int .i64 0), .sc (.slice none 0 0), .sc (.int .i64 0), .sc (.slice none 0 0)], []) ⟨Nat.zero_le _, Filled.zero⟩ (head_all (by (simp only [go_sem]); first | done | rfl) ⟨rfl, rfl⟩) ?_
  rintro ⟨k, rows, T⟩ ⟨hk, hI⟩ G hG
  simp only at hk hI hG ⊢
  refine wg_run ?_
  (simp only [go_sem])
  ((first | refine sp1 ?_ ?_ | refine sp2 ?_ ?_ | refine sp3 ?_ ?_ | refine sp4 ?_ ?_ | refine sp5 ?_ ?_ | refine sp6 ?_ ?_ | refine sp7 ?_ ?_) <;> intro hb) <;> (simp only [go_sem, hb])
  · have hk1 : k < l.length := by have := of_decide_eq_true hb; omega
    have hw1 := wrap_succ hk1 (by omega)
    have hkn : decide (k < l.length) = true := by simpa using hk1
    have hlt : (teR (l.take k)).length = k := by rw [teR_length, List.length_take]; omega
    rw [show l.length - k = (l.length - (k + 1)) + 1 from by omega] at hI
    have hrow := hI.get
    rw [hlt] at hrow
    repeat' (first | (first | (simp only [go_sem, hb, hw1, hkn, hrow]) | (((first | refine sp1 ?_ ?_ | refine sp2 ?_ ?_ | refine sp3 ?_ ?_ | refine sp4 ?_ ?_ | refine sp5 ?_ ?_ | refine sp6 ?_ ?_ | refine sp7 ?_ ?_) <;> intro hb) <;> (simp only [go_sem, hb, hb, hw1, hkn, hrow])) | ((first | refine wm_done ?_ | refine wt_done ?_ | refine wg_run ?_ | refine fk ?_ ?_) <;> (simp only [go_sem, hb, hw1, hkn, hrow]))) | ((first | refine mx 6 [] follows ?_ | refine mx 5 [] follows ?_ | refine mx 4 [] follows ?_ | refine mx 3 [] follows ?_ | refine mx 2 [] follows ?_ | refine mx 1 [] follows ?_ | refine mx 0 [] follows ?_ | fail); (simp only [go_sem, hb, hkn, hrow])))
    refine wd_any (acalls_own (.cons (.same (by (simp only [go_sem]); first | done | rfl)) .nil) (ih (teKid l k) (by rw [teKid_eq hk1]; have := tesizes_mem (List.getElem_mem hk1); omega)) (fun _ h => h) ren_agg) ?_
    rintro _ h' ⟨cs, d, ids, rfl, e1, e2, e3, e4, e5⟩
    obtain ⟨T', rfl, f1, f2⟩ := pre1 e4 e5
    have hcs : cs.length = 9 := by rw [← fzL_len e1]; (simp only [go_sem])
    have hx := hI.next (pre := [_]) rfl f2 e1 hcs e2 (fun b hb => by have := (e3 b hb).1; simp only [List.length_cons] at this; omega)
    rw [hlt] at hx
    (simp only [go_sem, hcs, hkn, hrow])
    repeat' (first | (first | (simp only [go_sem, hb, hw1, hkn, hrow, hcs]) | (((first | refine sp1 ?_ ?_ | refine sp2 ?_ ?_ | refine sp3 ?_ ?_ | refine sp4 ?_ ?_ | refine sp5 ?_ ?_ | refine sp6 ?_ ?_ | refine sp7 ?_ ?_) <;> intro hb) <;> (simp only [go_sem, hb, hb, hw1, hkn, hrow, hcs])) | ((first | refine wm_done ?_ | refine wt_done ?_ | refine wg_run ?_ | refine fk ?_ ?_) <;> (simp only [go_sem, hb, hw1, hkn, hrow, hcs]))))
    refine hG (k + 1, _, _) _ _ ⟨by omega, ?_⟩ (by simp only; omega) (head_all (by (simp only [go_sem]); first | done | rfl) ⟨rfl, rfl⟩)
    simp only [teR_take hk1]
    exact hx
  · have hk1 : k = l.length := by have := of_decide_eq_false hb; omega
    subst hk1
    rw [List.take_length, Nat.sub_self] at hI
    obtain ⟨d, js, h1, h2⟩ := hI.all (pre := [⟨9, 28, .mut, rows⟩]) (b := 0) (n := l.length) rfl (by omega) rfl rfl rfl rfl (by rw [teR_length])
    exact hR _ (ret_ownK (F := one1) (cs := [.row 9 0 l.length]) (d := d) (by (simp only [go_sem]); first | done | rfl) (owL_one h1) h2 (prVs_one1 (owL_one h1)))
theorem toTmO (n : Nat) (hn : n ≤ 1099511627776) : ∀ t : Tm, t.size < n → ACl Tryz.prog 13 [.agg (teC t)] [] (OwnK (teC t) .agg) := by
  induction n with
  | zero => intro t h; omega
  | succ n ih =>
    intro t h
    have hc := toTmSO n (ih (by omega)) t.kids (by cases t; simp only [Tm.size, Tm.kids] at *; omega) (by have := telen_lt t; omega)
    have a1 := toTyO (n + 1) hn t.type (by cases t; simp only [Tm.size, Tm.type] at *; omega)
    have a2 := toTyO (n + 1) hn t.frm (by cases t; simp only [Tm.size, Tm.frm] at *; omega)
    refine acl_in Tryz.func13 rfl isfn_13 (Nat.le_of_ble_eq_true rfl) (fun R hR => ?_); rw [Tryz.results13] at hR; refine wg_run ?_; (simp only [Tryz.f13, go_sem])
    repeat' (first | (first | (((first | refine sp1 ?_ ?_ | refine sp2 ?_ ?_ | refine sp3 ?_ ?_ | refine sp4 ?_ ?_ | refine sp5 ?_ ?_ | refine sp6 ?_ ?_ | refine sp7 ?_ ?_) <;> intro hb) <;> (simp only [go_sem, hb])) | ((first | refine wm_done ?_ | refine wt_done ?_ | refine wg_run ?_ | refine fk ?_ ?_) <;> (simp only [go_sem]))) | ((first | refine mx 6 [] follows ?_ | refine mx 5 [] follows ?_ | refine mx 4 [] follows ?_ | refine mx 3 [] follows ?_ | refine mx 2 [] follows ?_ | refine mx 1 [] follows ?_ | refine mx 0 [] follows ?_ | fail); (simp only [go_sem])))
    refine wd_any (acalls_own (.cons (.same (by (simp only [go_sem]); first | done | rfl)) .nil) a1 (fun _ h => h) ren_agg) ?_
    rintro _ h' ⟨cs1, d1, ids1, rfl, e1, e2, e3, e4, e5⟩
    obtain ⟨T1, rfl, f1, f2⟩ := pre3 e4 e5
    obtain ⟨x1, rfl, z1⟩ := owL_ty e1
    (simp only [go_sem])
    repeat' (first | (first | (((first | refine sp1 ?_ ?_ | refine sp2 ?_ ?_ | refine sp3 ?_ ?_ | refine sp4 ?_ ?_ | refine sp5 ?_ ?_ | refine sp6 ?_ ?_ | refine sp7 ?_ ?_) <;> intro hb) <;> (simp only [go_sem, hb])) | ((first | refine wm_done ?_ | refine wt_done ?_ | refine wg_run ?_ | refine fk ?_ ?_) <;> (simp only [go_sem]))) | ((first | refine mx 6 [] follows ?_ | refine mx 5 [] follows ?_ | refine mx 4 [] follows ?_ | refine mx 3 [] follows ?_ | refine mx 2 [] follows ?_ | refine mx 1 [] follows ?_ | refine mx 0 [] follows ?_ | fail); (simp only [go_sem])))
    refine wd_any (acalls_own (.cons (.same (by (simp only [go_sem]); first | done | rfl)) .nil) a2 (fun _ h => h) ren_agg) ?_
    rintro _ h' ⟨cs2, d2, ids2, rfl, g1, g2, g3, g4, g5⟩
    obtain ⟨T2, rfl, p1, p2⟩ := pre3 g4 g5
    obtain ⟨x2, rfl, z2⟩ := owL_ty g1
    (simp only [go_sem])
    repeat' (first | (first | (((first | refine sp1 ?_ ?_ | refine sp2 ?_ ?_ | refine sp3 ?_ ?_ | refine sp4 ?_ ?_ | refine sp5 ?_ ?_ | refine sp6 ?_ ?_ | refine sp7 ?_ ?_) <;> intro hb) <;> (simp only [go_sem, hb])) | ((first | refine wm_done ?_ | refine wt_done ?_ | refine wg_run ?_ | refine fk ?_ ?_) <;> (simp only [go_sem]))) | ((first | refine mx 6 [] follows ?_ | refine mx 5 [] follows ?_ | refine mx 4 [] follows ?_ | refine mx 3 [] follows ?_ | refine mx 2 [] follows ?_ | refine mx 1 [] follows ?_ | refine mx 0 [] follows ?_ | fail); (simp only [go_sem])))
    refine wd_any (acalls_own (.cons (.same (by (simp only [go_sem]); first | done | rfl)) .nil) hc one1_flat one1_ren) ?_
    rintro _ h' ⟨cs3, d3, ids3, rfl, q1, q2, q3, q4, q5⟩
    obtain ⟨T3, rfl, r1, r2⟩ := pre3 q4 q5
    obtain ⟨x3, cs', i, j, rfl, z3, s2, rfl⟩ := fzL_cons q1
    obtain ⟨rfl, rfl⟩ := fzL_nil s2
    rw [List.append_nil] at q2 q3
    simp only [one1, List.getD_cons_zero]
    (simp only [go_sem])
    repeat' (first | (first | (((first | refine sp1 ?_ ?_ | refine sp2 ?_ ?_ | refine sp3 ?_ ?_ | refine sp4 ?_ ?_ | refine sp5 ?_ ?_ | refine sp6 ?_ ?_ | refine sp7 ?_ ?_) <;> intro hb) <;> (simp only [go_sem, hb])) | ((first | refine wm_done ?_ | refine wt_done ?_ | refine wg_run ?_ | refine fk ?_ ?_) <;> (simp only [go_sem]))) | ((first | refine mx 6 [] follows ?_ | refine mx 5 [] follows ?_ | refine mx 4 [] follows ?_ | refine mx 3 [] follows ?_ | refine mx 2 [] follows ?_ | refine mx 1 [] follows ?_ | refine mx 0 [] follows ?_ | fail); (simp only [go_sem])))
    have hx1 : ∀ b ∈ ids1, 3 ≤ b ∧ b < T1.length + 3 := fun b hb => by have := e3 b hb; simp only [List.length_cons, List.length_nil] at this; omega
    have hx2 : ∀ b ∈ ids2, T1.length + 3 ≤ b ∧ b < T2.length + 3 := fun b hb => by have := g3 b hb; simp only [List.length_cons] at this; omega
    have hx3 : ∀ b ∈ i, T2.length + 3 ≤ b := fun b hb => by have := q3 b hb; simp only [List.length_cons] at this; omega
    have hd := fun (pre : List Blk) (hp : pre.length = 3) => owL_te_of (t := t)
      (ow_pre (pre := [_, _, _]) (pre' := pre) (by rw [hp]; rfl) (fun i hi => by rw [r2 i (by omega), p2 i hi]) z1 (fun b hb => by have := hx1 b hb; simp only [List.length_cons, List.length_nil]; omega))
      (ow_pre (pre := [_, _, _]) (pre' := pre) (by rw [hp]; rfl) r2 z2 (fun b hb => by have := hx2 b hb; simp only [List.length_cons, List.length_nil]; omega))
      (ow_pre (pre := [_, _, _]) (pre' := pre) (by rw [hp]; rfl) (fun _ _ => rfl) z3 (fun b hb => by have := hx3 b hb; simp only [List.length_cons, List.length_nil]; omega))
    obtain ⟨d, hd⟩ := hd [_, _, _] rfl
    refine hR _ (ret_ownK (d := d) (by (simp only [go_sem]); first | done | rfl) hd (nodup3' e2 g2 q2 hx1 hx2 hx3 (by omega)) (fun _ => prVs_agg))
end Go.Proofs.YtnaebafafhamjaaGreat
/- The law's marks: the text of a mark. On shadows. -/
namespace Go.Proofs.YtnaebafafhamjaaGreat
open Go.RowKit Go.Proofs.Sh Go.Proofs.Grad
set_option maxRecDepth 100000
set_option maxHeartbeats 8000000
theorem bytesOf1 (n : Int) : (bytesOf [n]).size = 1 := rfl
theorem markText (k0 : Nat) (h0 : 0 < k0) (hk0 : k0 < 1000000000) : AFn Tryz.prog 85 [.one (.sc (.int .i64 (k0 : Nat)))] (.one (.sc (.string (mkT k0)))) := by
  have hp : decide ((k0 : Int) ≤ 0) = false := by simp; omega
  refine fn_in ?_; refine acl_in Tryz.func85 rfl isfn_85 (Nat.le_of_ble_eq_true rfl) (fun R hR => ?_); rw [Tryz.results85] at hR; refine wg_run ?_; (simp only [Tryz.f85, go_sem, hp])
  refine wd_for (σ := Nat × ByteArray) [0, 3] (fun x => [.one (.sc (.int .i64 (x.1 : Nat))), .one (.sc (.string x.2))]) (fun _ => [])
    (fun x => x.1 + x.2.size ≤ k0 ∧ dgs x.1 x.2 = dgs k0 ByteArray.empty) (fun x => x.1) (k0, ByteArray.empty) ⟨Nat.le_refl _, rfl⟩ (head_all (by (simp only [go_sem]); first | done | rfl) ⟨rfl, rfl⟩) ?_
  rintro ⟨k, out⟩ ⟨hk, hI⟩ G hG
  simp only at hk hI hG ⊢
  refine wg_run ?_
  (simp only [go_sem])
  ((first | refine sp1 ?_ ?_ | refine sp2 ?_ ?_ | refine sp3 ?_ ?_ | refine sp4 ?_ ?_ | refine sp5 ?_ ?_ | refine sp6 ?_ ?_ | refine sp7 ?_ ?_) <;> intro hb) <;> (simp only [go_sem, hb])
  · have hk1 : 0 < k := by have := of_decide_eq_true hb; omega
    have hm : (k : Int).tmod 10 = ((k % 10 : Nat) : Int) := by rw [Int.tmod_eq_emod_of_nonneg (by omega)]; omega
    have hq : IntKind.i64.wrap ((k : Int).tdiv 10) = ((k / 10 : Nat) : Int) := by
      have : (k : Int).tdiv 10 = ((k / 10 : Nat) : Int) := by rw [Int.tdiv_eq_ediv_of_nonneg (by omega)]; omega
      rw [this]; exact IntWalk.i64_in _ (by have := Nat.div_le_self k 10; omega)
    have hs : IntKind.i64.wrap (48 + ((k % 10 : Nat) : Int)) = ((48 + k % 10 : Nat) : Int) := by rw [IntWalk.i64_in _ (by omega)]; omega
    have hu : IntKind.u8.wrap ((48 + k % 10 : Nat) : Int) = ((48 + k % 10 : Nat) : Int) := wraps_u8 _ (by omega) (by omega)
    have hz : decide ((((bytesOf [((48 + k % 10 : Nat) : Int)]).size + out.size : Nat) : Int) ≤ 9223372036854775807) = true := by rw [bytesOf1]; simp; omega
    repeat' (first | (first | (simp only [go_sem, hb, hm, hq, hs, hu, hz]) | (((first | refine sp1 ?_ ?_ | refine sp2 ?_ ?_ | refine sp3 ?_ ?_ | refine sp4 ?_ ?_ | refine sp5 ?_ ?_ | refine sp6 ?_ ?_ | refine sp7 ?_ ?_) <;> intro hb) <;> (simp only [go_sem, hb, hb, hm, hq, hs, hu, hz])) | ((first | refine wm_done ?_ | refine wt_done ?_ | refine wg_run ?_ | refine fk ?_ ?_) <;> (simp only [go_sem, hb, hm, hq, hs, hu, hz]))) | ((first | refine mx 6 [] follows ?_ | refine mx 5 [] follows ?_ | refine mx 4 [] follows ?_ | refine mx 3 [] follows ?_ | refine mx 2 [] follows ?_ | refine mx 1 [] follows ?_ | refine mx 0 [] follows ?_ | fail); (simp only [go_sem, hb])))
    refine hG (k / 10, _) _ _ ⟨?_, ?_⟩ (by simp only; omega) (hat [] (hI := ⟨rfl, rfl⟩))
    · rw [ByteArray.size_append, bytesOf1]; omega
    · rw [← dgs_pos hk1]; exact hI
  · have hk0 : k = 0 := by have := of_decide_eq_false hb; omega
    subst hk0
    rw [dgs_zero] at hI
    have hz : decide (((#[(109 : UInt8)].size + out.size : Nat) : Int) ≤ 9223372036854775807) = true := by simp; omega
    repeat' (first | (first | (simp only [go_sem, hb, hz]) | (((first | refine sp1 ?_ ?_ | refine sp2 ?_ ?_ | refine sp3 ?_ ?_ | refine sp4 ?_ ?_ | refine sp5 ?_ ?_ | refine sp6 ?_ ?_ | refine sp7 ?_ ?_) <;> intro hb) <;> (simp only [go_sem, hb, hb, hz])) | ((first | refine wm_done ?_ | refine wt_done ?_ | refine wg_run ?_ | refine fk ?_ ?_) <;> (simp only [go_sem, hb, hz]))))
    rw [hI]
    (refine hR _ (rat [] (hK := ⟨rfl, rfl⟩)))
end Go.Proofs.YtnaebafafhamjaaGreat
