/- Texts of the proof, one behind another. -/
import Derived.Test.YtfgjiamolknicaaKW7
import Derived.Test.YtfgjiamolknicaaKW8
import Derived.Test.YtfgjiamolknicaaKW10
import Derived.Test.YtfgjiamolknicaaKW11
import Derived.Test.YtfgjiamolknicaaKW15
import Derived.Test.YtfgjiamolknicaaKW21
import Derived.Test.YtfgjiamolknicaaKW24
set_option linter.unusedSimpArgs false
set_option linter.unusedVariables false
/- Owned results, and the same seen as frozen ones. -/
namespace Go.Proofs.Sh
open Go.RowKit Go.Proofs.Grad

@[go_sem] theorem app3a {α : Type} (T : List α) (x y z : α) : (T ++ [x] ++ [y] ++ [z])[T.length]? = some x := by simp
@[go_sem] theorem app3b {α : Type} (T : List α) (x y z : α) : (T ++ [x] ++ [y] ++ [z])[T.length + 1]? = some y := by simp
@[go_sem] theorem app3c {α : Type} (T : List α) (x y z : α) : (T ++ [x] ++ [y] ++ [z])[T.length + 1 + 1]? = some z := by
  rw [List.append_assoc, List.append_assoc, List.getElem?_append_right (by omega), show T.length + 1 + 1 - T.length = 2 from by omega]; rfl
@[go_sem] theorem set3a {α : Type} (T : List α) (x y z u : α) : (T ++ [x] ++ [y] ++ [z]).set T.length u = T ++ [u] ++ [y] ++ [z] := by simp
@[go_sem] theorem set3b {α : Type} (T : List α) (x y z u : α) : (T ++ [x] ++ [y] ++ [z]).set (T.length + 1) u = T ++ [x] ++ [u] ++ [z] := by simp
@[go_sem] theorem set3c {α : Type} (T : List α) (x y z u : α) : (T ++ [x] ++ [y] ++ [z]).set (T.length + 1 + 1) u = T ++ [x] ++ [y] ++ [u] := by
  rw [List.append_assoc, List.append_assoc, List.set_append_right _ _ (by omega), show T.length + 1 + 1 - T.length = 2 from by omega]; simp
/-- what stands about a struct's cells in a result -/
structure WF (F : List C → AV) : Prop where
  flat : ∀ cs, cs.all C.flat = true → (F cs).flat = true
  ren : ∀ cs g, (F cs).ren g = F (cs.map (C.ren g))
  pr : ∀ {h : List Blk} {ids : List Nat} {cs cs' : List C}, prL false h ids cs = some (cs', []) → prVs false h ids [F cs] = some ([F cs'], [])
  frz : ∀ {L L' μ : List Nat} {w : World} {cs enc : List C} {v : Value}, (∀ us, C.repl L μ w cs us → C.repl L' [] w enc us) → AV.rep L μ w (F cs) v → AV.rep L' [] w (F enc) v
theorem WF.agg : WF .agg := ⟨fun _ h => h, ren_agg, prVs_agg, fun h hr => by
  simp only [AV.rep] at hr ⊢
  obtain ⟨arr, rfl, h2⟩ := hr
  exact ⟨arr, rfl, h _ h2⟩⟩
def boolF (b : Bool) (cs : List C) : AV := .tup [.agg cs, .one (.sc (.bool b))]
theorem WF.bool (b : Bool) : WF (boolF b) :=
  ⟨fun cs h => by simp only [boolF, AV.flat, AV.flats, h, C.flat, Bool.and_true], fun cs g => by simp only [boolF, AV.ren, AV.renL, renA_map, C.ren],
   fun e => by simp only [boolF, prVs, prV, e, prC, List.append_nil], fun h hr => by
    simp only [boolF, AV.rep, AV.repl] at hr ⊢
    obtain ⟨arr, rfl, u, us', e1, ⟨a2, rfl, h2⟩, h3⟩ := hr
    exact ⟨arr, rfl, .agg a2, us', e1, ⟨a2, rfl, h _ h2⟩, by simpa only [C.rep] using h3⟩⟩
/-- a function that yields an owned tree yields a tree -/
theorem own_frz {P : Program} {f : FuncId} {args : List AV} {enc : List C} {F : List C → AV} (hF : WF F) (h : ACl P f args [] (OwnK enc F)) : AFn P f args (F enc) := by
  obtain ⟨⟨hfn, hcall⟩⟩ := h
  refine ⟨⟨hfn, fun X μ w vs hS hr => (hcall X μ w vs hS hr).mono ?_⟩⟩
  rintro e w' ⟨r, H', μ', v, he, ⟨cs, d, ids, rfl, e1, e2, e3⟩, s1, s2, s3⟩
  have hX : ∀ x ∈ X, x ∈ X ++ alive μ' H' := fun x hx => List.mem_append.2 (.inl hx)
  refine ⟨F enc, [], [], v, he, ⟨rfl, rfl⟩, ⟨rfl, fun _ h => by simp at h, s1.xlt, fun i b g h => by simp at h, fun i j b b' g _ h => by simp at h, fun i b g h => by simp at h⟩, ⟨?_, fun b g hb => ?_, fun g hg => by simp [alive] at hg⟩, ?_⟩
  · exact s2.keep
  · have := hS.len; simp at this; subst this; simp at hb
  · simp only [alive, List.append_nil]
    refine hF.frz (fun us hu => ?_) s3
    exact fzL_rep s1 hX (owL_fz e1) (fun b hb g hg hx => by
      obtain ⟨k, hk, hm⟩ := owL_mut e1 b hb
      exact s1.out b k g hk (known_of_mut hm) hg hx) hu
/-- the end of a function whose result is an owned tree -/
theorem ret_ownT {P : Program} {rs : List ResultVar} {s : ASt} {p : Nat} {pre T : List Blk} {cs enc : List C} {ids : List Nat} {F : List C → AV} (hF : WF F) (O : OwnT p T cs enc ids) (hs : s.h = pre ++ T) (hp : pre.length = p) (h : aresult P s rs = some (F cs)) : ARet P rs 0 (OwnK enc F) s := by
  obtain ⟨d, hd⟩ := O.own
  exact ret_ownK (d := d) h (by rw [hs]; exact hd pre hp) O.nodup (fun _ => hF.pr)
end Go.Proofs.Sh
/- Owned results: none at all. -/
namespace Go.Proofs.Sh
open Go.RowKit Go.Proofs.Grad
theorem tm0_ow (h : List Blk) (d : Nat) : fzL (ow h d) (teC tm0) = some (teC tm0, []) := by
  simp only [tm0, noTy, teC, tyR, teR, Ty.kind, Ty.kids, fzL, ow_int, ow_str]
  rw [ow_leaf (by simp)]
  rfl
theorem own_none {P : Program} {f : FuncId} {args : List AV} {F : List C → AV} (h : AFn P f args (F (teC tm0))) : ACl P f args [] (OwnK (teC tm0) F) :=
  h.cl.mono fun r H' ⟨e1, e2⟩ => by subst e1 e2; exact ⟨teC tm0, 0, [], rfl, tm0_ow _ _, List.nodup_nil, by simp⟩
end Go.Proofs.Sh
/- Merged and substituted terms, owned. On shadows. -/
namespace Go.Proofs.Grad
/-- what MergeTerms yields -/
noncomputable def mrgT (a b : Tm) : Tm := by
  classical
  exact if h : ∃ x : E × E, a = x.1.tm ∧ b = x.2.tm ∧ mrgB a b = true then ((Classical.choose h).1.mrg (Classical.choose h).2).tm else tm0
theorem mrgT_E {e f : E} (h : mrgB e.tm f.tm = true) : mrgT e.tm f.tm = (e.mrg f).tm := by
  have h' : ∃ x : E × E, e.tm = x.1.tm ∧ f.tm = x.2.tm ∧ mrgB e.tm f.tm = true := ⟨(e, f), rfl, rfl, h⟩
  unfold mrgT
  rw [dif_pos h']
  have hs := Classical.choose_spec h'
  rw [← E.tm_inj _ _ hs.1, ← E.tm_inj _ _ hs.2.1]
theorem mrgT_bad {a b : Tm} (h : mrgB a b = false) : mrgT a b = tm0 := by unfold mrgT; rw [dif_neg (by simp [h])]
theorem mrgB_E {a b : Tm} (h : mrgB a b = true) : ∃ e f : E, a = e.tm ∧ b = f.tm ∧ e.okT = true ∧ f.okT = true ∧ e.tm.alk Ty.cons f.tm = true := by
  have h' := h
  unfold mrgB at h'
  simp only [Bool.and_eq_true] at h'
  obtain ⟨e1, e2, e3⟩ := h'
  obtain ⟨e, rfl, ho⟩ := Tm.termV_E e1
  obtain ⟨f, rfl, ho2⟩ := Tm.termV_E e2
  exact ⟨e, f, rfl, rfl, ho, ho2, e3⟩
theorem mrgT_size (a b : Tm) : (mrgT a b).size < 100000000 := by
  cases h : mrgB a b with
  | false => rw [mrgT_bad h]; simp [tm0, noTy, Tm.size, Ty.size, Ty.sizes, Tm.sizes]
  | true =>
    obtain ⟨e, f, rfl, rfl, h1, h2, h3⟩ := mrgB_E h
    rw [mrgT_E h]; have := E.size_okT (E.mrg_okT h1 h2); omega
/-- when a substitution into terms as they come succeeds -/
def SubG (x : Tm) (s : ByteArray) (v : Tm) (w : E × UInt8 × E) : Prop := x = w.1.tm ∧ s = nm w.2.1 ∧ v = w.2.2.tm ∧ subOk w.1.tm (nm w.2.1) w.2.2 = true ∧ (w.1.subst w.2.1 w.2.2).okT = true
noncomputable def subTt (x : Tm) (s : ByteArray) (v : Tm) : Tm := by
  classical
  exact if h : ∃ w, SubG x s v w then ((Classical.choose h).1.subst (Classical.choose h).2.1 (Classical.choose h).2.2).tm else tm0
noncomputable def subTb (x : Tm) (s : ByteArray) (v : Tm) : Bool := by
  classical
  exact decide (∃ w, SubG x s v w)
theorem subT_E {e f : E} {y : UInt8} (h1 : subOk e.tm (nm y) f = true) (h2 : (e.subst y f).okT = true) : subTt e.tm (nm y) f.tm = (e.subst y f).tm ∧ subTb e.tm (nm y) f.tm = true := by
  have h : ∃ w, SubG e.tm (nm y) f.tm w := ⟨(e, y, f), rfl, rfl, rfl, h1, h2⟩
  have hs := Classical.choose_spec h
  unfold subTt subTb
  refine ⟨?_, by simp [h]⟩
  rw [dif_pos h, ← E.tm_inj _ _ hs.1, ← nm_inj hs.2.1, ← E.tm_inj _ _ hs.2.2.1]
theorem subT_bad {x v : Tm} {s : ByteArray} (h : ¬ ∃ w, SubG x s v w) : subTt x s v = tm0 ∧ subTb x s v = false := by
  unfold subTt subTb
  exact ⟨by rw [dif_neg h], by simp [h]⟩
theorem subTt_size (x : Tm) (s : ByteArray) (v : Tm) : (subTt x s v).size < 100000000 := by
  by_cases h : ∃ w, SubG x s v w
  · obtain ⟨⟨e, y, f⟩, rfl, rfl, rfl, h1, h2⟩ := h
    rw [(subT_E h1 h2).1]; have := E.size_okT h2; simp only [] at *; omega
  · rw [(subT_bad h).1]; simp [tm0, noTy, Tm.size, Ty.size, Ty.sizes, Tm.sizes]
end Go.Proofs.Grad
namespace Go.Proofs.Ytfgjiamolknicaa
open Go.RowKit Go.Proofs.Sh Go.Proofs.Grad
set_option maxRecDepth 100000
set_option maxHeartbeats 16000000
theorem iSubInv (x : Tm) (s : ByteArray) (v : Tm) (h : (x.termV && v.termV) = false) : AFn Try.prog 20 [.agg (teC x), .one (.sc (.string s)), .agg (teC v)] (.tup [.agg (teC tm0), .one (.sc (.bool false))]) := by
  have h1 := iTermV x
  have h2 := iTermV v
  simp only [tm0, noTy]
  cases e1 : x.termV
  · rw [e1] at h1
    refine fn_in ?_; refine acl_in Try.func20 rfl isfn_20 (Nat.le_of_ble_eq_true rfl) (fun R hR => ?_); rw [Try.results20] at hR; refine wg_run ?_; (simp only [Try.f20, go_sem])
    repeat' (first | (first | (((first | apply sp1 | apply sp2 | apply sp3 | apply sp4 | apply sp5 | apply sp6 | apply sp7) <;> intro hb) <;> (simp only [go_sem, hb])) | ((first | apply wm_done | apply wt_done | apply wg_run | refine fk ?_ ?_) <;> (simp only [go_sem]))) | (first | refine cdq ?_ (hc := h1) | refine cmq ?_ (hc := h1) | refine ctq ?_ (hc := h1)); (simp only [go_sem]) | fail)
    (refine hR _ (rat [] (hK := ⟨rfl, rfl⟩)))
  · rw [e1] at h1
    rw [e1, Bool.true_and] at h
    rw [h] at h2
    refine fn_in ?_; refine acl_in Try.func20 rfl isfn_20 (Nat.le_of_ble_eq_true rfl) (fun R hR => ?_); rw [Try.results20] at hR; refine wg_run ?_; (simp only [Try.f20, go_sem])
    repeat' (first | (first | (((first | apply sp1 | apply sp2 | apply sp3 | apply sp4 | apply sp5 | apply sp6 | apply sp7) <;> intro hb) <;> (simp only [go_sem, hb])) | ((first | apply wm_done | apply wt_done | apply wg_run | refine fk ?_ ?_) <;> (simp only [go_sem]))) | (first | refine cdq ?_ (hc := h1) | refine cmq ?_ (hc := h1) | refine ctq ?_ (hc := h1)); (simp only [go_sem]) | (first | refine cdq ?_ (hc := h2) | refine cmq ?_ (hc := h2) | refine ctq ?_ (hc := h2)); (simp only [go_sem]) | fail)
    (refine hR _ (rat [] (hK := ⟨rfl, rfl⟩)))
theorem iSubEO (e : E) (y : UInt8) (v : E) (h : subOk e.tm (nm y) v = true) (e6 : (e.subst y v).okT = true) : ACl Try.prog 20 [.agg (teC e.tm), .one (.sc (.string (nm y))), .agg (teC v.tm)] [] (OwnK (teC (e.subst y v).tm) (boolF true)) := by
  simp only [subOk, Bool.and_eq_true] at h
  obtain ⟨e1, e2, e3, e4⟩ := h
  have h1 := iTermV e.tm
  have h2 := iTermV v.tm
  have h3 := iIsName (nm y)
  have h4 := iFreeNames0 v (okT_depth e2).1 (okT_depth e2).2
  have hb := bsOf_nil_beq (names (fun x => v.fr x))
  unfold E.closed at e4
  rw [e4] at hb
  rw [e1] at h1
  rw [E.termV_tm, e2] at h2
  rw [e3] at h3
  have h5 := iSubst y v e
  have h6 := iTermV (e.subst y v).tm
  rw [E.termV_tm, e6] at h6
  have hz := E.size_okT e6
  have ho := iOwnO (e.subst y v).tm (by omega)
  generalize (e.subst y v).tm = u at *
  generalize names (fun x => v.fr x) = m at *
  generalize v.tm = v1 at *
  generalize e.tm = t at *
  generalize nm y = s at *
  refine acl_in Try.func20 rfl isfn_20 (Nat.le_of_ble_eq_true rfl) (fun R hR => ?_); rw [Try.results20] at hR; refine wg_run ?_; (simp only [Try.f20, go_sem])
  repeat' (first | (first | (simp only [go_sem, hb]) | (((first | apply sp1 | apply sp2 | apply sp3 | apply sp4 | apply sp5 | apply sp6 | apply sp7) <;> intro hb) <;> (simp only [go_sem, hb, hb])) | ((first | apply wm_done | apply wt_done | apply wg_run | refine fk ?_ ?_) <;> (simp only [go_sem, hb]))) | (first | refine cdq ?_ (hc := h1) | refine cmq ?_ (hc := h1) | refine ctq ?_ (hc := h1)); (simp only [go_sem]) | (first | refine cdq ?_ (hc := h2) | refine cmq ?_ (hc := h2) | refine ctq ?_ (hc := h2)); (simp only [go_sem]) | (first | refine cdq ?_ (hc := h3) | refine cmq ?_ (hc := h3) | refine ctq ?_ (hc := h3)); (simp only [go_sem]) | (first | refine cdq ?_ (hc := h4) | refine cmq ?_ (hc := h4) | refine ctq ?_ (hc := h4)); (simp only [go_sem]) | (first | refine cdq ?_ (hc := h5) | refine cmq ?_ (hc := h5) | refine ctq ?_ (hc := h5)); (simp only [go_sem]) | (first | refine cdq ?_ (hc := h6) | refine cmq ?_ (hc := h6) | refine ctq ?_ (hc := h6)); (simp only [go_sem]) | fail)
  refine wd_any (acalls_ownT (p := 4) (pre := [_, _, _, _]) (T := []) rfl (.cons (.same (by (simp only [go_sem]); first | done | rfl)) .nil) ho WF.agg.flat WF.agg.ren) ?_
  rintro _ _ ⟨cs, T, ids, rfl, rfl, -, -, O, -⟩
  have hcs : cs.length = 9 := by rw [O.len, teC_length]
  have htk : cs.take 9 = cs := List.take_of_length_le (by omega)
  (simp only [go_sem, hcs])
  repeat' (first | (first | (simp only [go_sem, hcs, htk]) | (((first | apply sp1 | apply sp2 | apply sp3 | apply sp4 | apply sp5 | apply sp6 | apply sp7) <;> intro hb) <;> (simp only [go_sem, hb, hcs, htk])) | ((first | apply wm_done | apply wt_done | apply wg_run | refine fk ?_ ?_) <;> (simp only [go_sem, hcs, htk]))) | fail)
  exact hR _ (ret_ownT (pre := [_, _, _, _]) (cs := cs) (WF.bool true) O rfl rfl (by (simp only [go_sem, hcs, htk]); first | done | rfl))
theorem sSubInv (x : Tm) (hx : x.size < 1000000000) (s : ByteArray) (v : Tm) (hv : v.size < 1000000000) (h : (x.termV && v.termV) = false) : AFn Try.prog 22 [.agg (teC x), .one (.sc (.string s)), .agg (teC v)] (.tup [.agg (teC tm0), .one (.sc (.bool false))]) := by
  have h1 := sTermV x (by omega)
  have h2 := sTermV v (by omega)
  simp only [tm0, noTy]
  cases e1 : x.termV
  · rw [e1] at h1
    refine fn_in ?_; refine acl_in Try.func22 rfl isfn_22 (Nat.le_of_ble_eq_true rfl) (fun R hR => ?_); rw [Try.results22] at hR; refine wg_run ?_; (simp only [Try.f22, go_sem])
    repeat' (first | (first | (((first | apply sp1 | apply sp2 | apply sp3 | apply sp4 | apply sp5 | apply sp6 | apply sp7) <;> intro hb) <;> (simp only [go_sem, hb])) | ((first | apply wm_done | apply wt_done | apply wg_run | refine fk ?_ ?_) <;> (simp only [go_sem]))) | (first | refine cdq ?_ (hc := h1) | refine cmq ?_ (hc := h1) | refine ctq ?_ (hc := h1)); (simp only [go_sem]) | fail)
    (refine hR _ (rat [] (hK := ⟨rfl, rfl⟩)))
  · rw [e1] at h1
    rw [e1, Bool.true_and] at h
    rw [h] at h2
    refine fn_in ?_; refine acl_in Try.func22 rfl isfn_22 (Nat.le_of_ble_eq_true rfl) (fun R hR => ?_); rw [Try.results22] at hR; refine wg_run ?_; (simp only [Try.f22, go_sem])
    repeat' (first | (first | (((first | apply sp1 | apply sp2 | apply sp3 | apply sp4 | apply sp5 | apply sp6 | apply sp7) <;> intro hb) <;> (simp only [go_sem, hb])) | ((first | apply wm_done | apply wt_done | apply wg_run | refine fk ?_ ?_) <;> (simp only [go_sem]))) | (first | refine cdq ?_ (hc := h1) | refine cmq ?_ (hc := h1) | refine ctq ?_ (hc := h1)); (simp only [go_sem]) | (first | refine cdq ?_ (hc := h2) | refine cmq ?_ (hc := h2) | refine ctq ?_ (hc := h2)); (simp only [go_sem]) | fail)
    (refine hR _ (rat [] (hK := ⟨rfl, rfl⟩)))
/-- SubstTerm at terms as they come, in the program (its result owned) and in the reference -/
theorem subBoth (x : Tm) (hx : x.size < 1000000000) (s : ByteArray) (v : Tm) (hv : v.size < 1000000000) :
    ACl Try.prog 20 [.agg (teC x), .one (.sc (.string s)), .agg (teC v)] [] (OwnK (teC (subTt x s v)) (boolF (subTb x s v))) ∧
    AFn Try.prog 22 [.agg (teC x), .one (.sc (.string s)), .agg (teC v)] (boolF (subTb x s v) (teC (subTt x s v))) := by
  by_cases h : ∃ w, SubG x s v w
  · obtain ⟨⟨e, y, f⟩, rfl, rfl, rfl, h1, h2⟩ := h
    obtain ⟨g1, g2⟩ := subT_E h1 h2
    simp only [] at g1 g2 ⊢
    rw [g1, g2]
    refine ⟨iSubEO e y f h1 h2, ?_⟩
    have := sSubE e y f h1
    rw [h2] at this; exact this
  · obtain ⟨g1, g2⟩ := subT_bad h
    rw [g1, g2]
    cases e1 : (x.termV && v.termV) with
    | false => exact ⟨own_none (iSubInv x s v e1), sSubInv x hx s v hv e1⟩
    | true =>
      simp only [Bool.and_eq_true] at e1
      obtain ⟨f, rfl, hf⟩ := Tm.termV_E e1.2
      cases e2 : subOk x s f with
      | false => exact ⟨own_none (iSubBad x s f e2), sSubBad x hx s f hv e2⟩
      | true =>
        have e2' := e2
        simp only [subOk, Bool.and_eq_true] at e2'
        obtain ⟨e, rfl, ho⟩ := Tm.termV_E e1.1
        obtain ⟨y, rfl, hy⟩ := nmOk_some e2'.2.2.1
        cases e3 : (e.subst y f).okT with
        | true => exact absurd ⟨(e, y, f), rfl, rfl, rfl, e2, e3⟩ h
        | false =>
          have h1 := iSubE e y f e2
          have h2 := sSubE e y f e2
          rw [e3] at h1 h2
          exact ⟨own_none h1, h2⟩
theorem iMergeEO (a b : E) (ha : a.okT = true) (hb : b.okT = true) (h : a.tm.alk Ty.cons b.tm = true) : ACl Try.prog 42 [.agg (teC a.tm), .agg (teC b.tm)] [] (OwnK (teC (a.mrg b).tm) (boolF true)) := by
  have ha' := ha; have hb' := hb
  simp only [E.okT, Bool.and_eq_true, decide_eq_true_eq] at ha' hb'
  have hza := E.size_okT ha
  have hzb := E.size_okT hb
  have hzm := E.size_okT (E.mrg_okT ha hb)
  have h1 := iTermV a.tm
  have h2 := iTermV b.tm
  rw [E.termV_tm, ha] at h1
  rw [E.termV_tm, hb] at h2
  have h3 := iAlike 108 Ty.cons (fun x y hx => iCons _ (Nat.le_refl _) x y hx) _ (Nat.le_refl _) a.tm b.tm (by omega)
  rw [h] at h3
  obtain ⟨g1, g2, g3⟩ := E.alk_cons ha'.2.1 hb'.2.1 h
  have hda := E.tl_depth a ha'.1 ha'.2.1
  have hdb := E.tl_depth b hb'.1 hb'.2.1
  have hc := iTypesO 100000 (by omega) a.tm (by omega)
  have hc2 := iTypes 100000 (by omega) b.tm (by omega)
  rw [E.types_tm a ha'.2.1] at hc
  rw [E.types_tm b hb'.2.1] at hc2
  have hla := a.tl_length
  have hlb := b.tl_length
  have hn30 := nt30 ha
  have hret := iRetyped a (zipM a.tl b.tl) ha'.1 ha'.2.1 (zipM_depth hda hdb) (by rw [zipM_length (by omega)]; omega)
  rw [show (a.wt (zipM a.tl b.tl)).1 = a.mrg b from rfl] at hret
  have hown := iOwnO (a.mrg b).tm (by omega)
  have hLM : a.tl.length = b.tl.length := by omega
  have hme := fun (k : Nat) (h1 : k < a.tl.length) (h2 : k < b.tl.length) => iMeet a.tl[k] b.tl[k] (hda _ (List.getElem_mem _)) (hdb _ (List.getElem_mem _)) (all2P_get g3 k h1 h2)
  generalize (a.wt (zipM a.tl b.tl)).2 = L2 at hret
  rw [← g2, ← hlb] at hn30
  clear g1 g2 hda hdb hlb
  generalize (a.mrg b).tm = t2 at *
  generalize b.tm = tb at *
  generalize a.tm = ta at *
  generalize a.tl = L at *
  generalize b.tl = M at *
  refine acl_in Try.func42 rfl isfn_42 (Nat.le_of_ble_eq_true rfl) (fun R hR => ?_); rw [Try.results42] at hR; refine wg_run ?_; (simp only [Try.f42, go_sem])
  repeat' (first | (first | (((first | apply sp1 | apply sp2 | apply sp3 | apply sp4 | apply sp5 | apply sp6 | apply sp7) <;> intro hb) <;> (simp only [go_sem, hb])) | ((first | apply wm_done | apply wt_done | apply wg_run | refine fk ?_ ?_) <;> (simp only [go_sem]))) | (first | refine cdq ?_ (hc := h1) | refine cmq ?_ (hc := h1) | refine ctq ?_ (hc := h1)); (simp only [go_sem]) | (first | refine cdq ?_ (hc := h2) | refine cmq ?_ (hc := h2) | refine ctq ?_ (hc := h2)); (simp only [go_sem]) | (first | refine cdq ?_ (hc := h3) | refine cmq ?_ (hc := h3) | refine ctq ?_ (hc := h3)); (simp only [go_sem]) | fail)
  ((first | refine kdq [] ?_ (hc := hc) | refine kmq [] ?_ (hc := hc) | refine ktq [] ?_ (hc := hc)); rintro _ _ (⟨hL0, rfl, rfl⟩ | ⟨rfl, rfl, hL0⟩) <;> (simp only [go_sem]))
  · have hM0 : M = [] := List.eq_nil_of_length_eq_zero (by rw [← hLM, List.map_eq_nil_iff.1 hL0]; rfl)
    have h0 : L = [] := List.map_eq_nil_iff.1 hL0
    subst hM0
    subst h0
    have hb0 : zipM [] [] = [] := rfl
    rw [hb0] at hret
    simp only [List.map_nil, tyR] at hc2 hret
    repeat' (first | (first | (((first | apply sp1 | apply sp2 | apply sp3 | apply sp4 | apply sp5 | apply sp6 | apply sp7) <;> intro hb) <;> (simp only [go_sem, hb])) | ((first | apply wm_done | apply wt_done | apply wg_run | refine fk ?_ ?_) <;> (simp only [go_sem]))) | (first | refine cdq ?_ (hc := hc2) | refine cmq ?_ (hc := hc2) | refine ctq ?_ (hc := hc2)); (simp only [go_sem]) | (first | (refine wl_next (wg_run ?_); (simp only [go_sem])) | refine wd_rounds 6 ?_) | (first | refine cdq ?_ (hc := hret) | refine cmq ?_ (hc := hret) | refine ctq ?_ (hc := hret)); (simp only [go_sem]) | ((first | refine mxq6 [] ?_ | refine mxq5 [] ?_ | refine mxq4 [] ?_ | refine mxq3 [] ?_ | refine mxq2 [] ?_ | refine mxq1 [] ?_ | refine mxq0 [] ?_ | fail); (simp only [go_sem])) | fail)
    refine wd_any (acalls_ownT (p := 4) (pre := [_, _, _, _]) (T := []) rfl (.cons (.same (by (simp only [go_sem]); first | done | rfl)) .nil) hown WF.agg.flat WF.agg.ren) ?_
    rintro _ _ ⟨cs, T, ids, rfl, rfl, -, -, O, -⟩
    have hcs : cs.length = 9 := by rw [O.len, teC_length]
    have htk : cs.take 9 = cs := List.take_of_length_le (by omega)
    (simp only [go_sem, hcs])
    repeat' (first | (first | (simp only [go_sem, hcs, htk]) | (((first | apply sp1 | apply sp2 | apply sp3 | apply sp4 | apply sp5 | apply sp6 | apply sp7) <;> intro hb) <;> (simp only [go_sem, hb, hcs, htk])) | ((first | apply wm_done | apply wt_done | apply wg_run | refine fk ?_ ?_) <;> (simp only [go_sem, hcs, htk]))) | fail)
    exact hR _ (ret_ownT (pre := [_, _, _, _]) (cs := cs) (WF.bool true) O rfl rfl (by (simp only [go_sem, hcs, htk]); first | done | rfl))
  · simp only [List.length_map] at hL0 ⊢
    repeat' (first | (first | (((first | apply sp1 | apply sp2 | apply sp3 | apply sp4 | apply sp5 | apply sp6 | apply sp7) <;> intro hb) <;> (simp only [go_sem, hb])) | ((first | apply wm_done | apply wt_done | apply wg_run | refine fk ?_ ?_) <;> (simp only [go_sem]))) | (first | refine cdq ?_ (hc := hc2) | refine cmq ?_ (hc := hc2) | refine ctq ?_ (hc := hc2)); (simp only [go_sem]) | fail)
    refine wd_for [2, 3, 4, 6, 29, 30, 31] (fun k => [.one (.ptr 9 0 0 0), .one (.ptr 9 1 0 0), .one (.ptr 9 2 0 0), .one (.row 2 3 L.length), .one (.sl (tyR (M.map T.ty))), .one (.sc (.int .i64 (M.length : Nat))), .one (.sc (.int .i64 (k : Nat)))])
      (fun k => [⟨9, 28, .mut, [teC ta]⟩, ⟨9, 28, .mut, [teC tb]⟩, ⟨9, 28, .mut, [[.sc (.int .i64 0), .sc (.string { data := { toList := [] } }), .sc (.int .i64 0), .sc (.int .i64 0), .sc (.slice none 0 0), .sc (.int .i64 0), .sc (.slice none 0 0), .sc (.int .i64 0), .sc (.slice none 0 0)]]⟩, ⟨2, 25, .mut, tyR ((mixK (zipM L M) L k).map T.ty)⟩])
      (fun k => k ≤ L.length) (fun k => L.length - k) 0 (Nat.zero_le _) (head_at [0, 1, 2, 3] (by (simp only [go_sem]); first | done | rfl) (by (simp only [go_sem, List.length_map]); first | done | rfl) ⟨rfl, by rw [mixK_zero]⟩) ?_
    rintro k hk G hG
    refine wg_run ?_
    by_cases hk1 : k < L.length
    · have d1 : decide ((k : Int) < (M.length : Nat)) = true := by simp; omega
      have d1b : decide ((k : Int) < (((M.map T.ty).length : Nat) : Int)) = true := by simp; omega
      have hin : decide (k < L.length) = true := by simpa using hk1
      have hw1 := wrap_succ hk1 (by omega)
      have hkM : k < M.length := by omega
      have hme1 := hme k hk1 hkM
      have hset := tyRset ((mixK (zipM L M) L k).map T.ty) k (L[k].meet M[k]).ty
      rw [← List.map_set, mixM_set hLM k hk1] at hset
      have hg : (tyR ((mixK (zipM L M) L k).map T.ty))[k]? = some (tyC L[k].ty) := by rw [tyR_get, List.getElem?_map, mixM_get hLM k hk1]; rfl
      have hkd : kid (M.map T.ty) k = M[k].ty := by rw [kid_eq (by simpa using hkM)]; simp
      have hg2 : (tyR (M.map T.ty))[k]? = some (tyC M[k].ty) := by rw [tyR_get, List.getElem?_map, List.getElem?_eq_getElem hkM]; rfl
      generalize L[k].meet M[k] = u3 at *
      generalize L[k] = u1 at *
      generalize M[k] = u2 at *
      rw [tyC_eq u1.ty] at hg hme1
      rw [tyC_eq u3.ty] at hset hme1
      clear hme
      repeat' (first | (first | (simp only [go_sem, d1, d1b, hin, hw1, hg, hg2, hkd, hset]) | (((first | apply sp1 | apply sp2 | apply sp3 | apply sp4 | apply sp5 | apply sp6 | apply sp7) <;> intro hb) <;> (simp only [go_sem, hb, d1, d1b, hin, hw1, hg, hg2, hkd, hset])) | ((first | apply wm_done | apply wt_done | apply wg_run | refine fk ?_ ?_) <;> (simp only [go_sem, d1, d1b, hin, hw1, hg, hg2, hkd, hset]))) | (first | refine cdq ?_ (hc := hme1) | refine cmq ?_ (hc := hme1) | refine ctq ?_ (hc := hme1)); (simp only [go_sem]) | ((first | refine mxq6 [] ?_ | refine mxq5 [] ?_ | refine mxq4 [] ?_ | refine mxq3 [] ?_ | refine mxq2 [] ?_ | refine mxq1 [] ?_ | refine mxq0 [] ?_ | fail); (simp only [go_sem, d1, d1b, hin, hw1, hg, hg2, hkd, hset])) | fail)
      all_goals exact hG (k + 1) _ _ (by omega) (by omega) (hat [0, 1, 2, 3] (hI := ⟨rfl, rfl⟩))
    · have d1 : decide ((k : Int) < (M.length : Nat)) = false := by simp; omega
      have hb0 : mixK (zipM L M) L k = zipM L M := mixK_all (zipM_length hLM) (by omega)
      have hlb : (zipM L M).length = L.length := zipM_length hLM
      have htk : (tyR ((zipM L M).map T.ty)).take L.length = tyR ((zipM L M).map T.ty) := List.take_of_length_le (by rw [tyR_length, List.length_map, hlb]; exact Nat.le_refl _)
      rw [hb0]
      clear hG hme
      repeat' (first | (first | (simp only [go_sem, d1, hlb, htk, List.length_map]) | (((first | apply sp1 | apply sp2 | apply sp3 | apply sp4 | apply sp5 | apply sp6 | apply sp7) <;> intro hb) <;> (simp only [go_sem, hb, d1, hlb, htk, List.length_map])) | ((first | apply wm_done | apply wt_done | apply wg_run | refine fk ?_ ?_) <;> (simp only [go_sem, d1, hlb, htk, List.length_map]))) | (first | refine cd (hp := (by (simp only [go_sem, hlb, htk, List.length_map]); first | done | rfl)) (hc := hret) (hK := ?_) | refine cm (hp := (by (simp only [go_sem, hlb, htk, List.length_map]); first | done | rfl)) (hc := hret) (hK := ?_) | refine ct (hp := (by (simp only [go_sem, hlb, htk, List.length_map]); first | done | rfl)) (hc := hret) (hK := ?_)); (simp only [go_sem, hlb, htk, List.length_map]) | ((first | refine mxq6 [] ?_ | refine mxq5 [] ?_ | refine mxq4 [] ?_ | refine mxq3 [] ?_ | refine mxq2 [] ?_ | refine mxq1 [] ?_ | refine mxq0 [] ?_ | fail); (simp only [go_sem, d1, hlb, htk, List.length_map])) | fail)
      refine wd_any (acalls_ownT (p := 5) (pre := [_, _, _, _, _]) (T := []) rfl (.cons (.same (by (simp only [go_sem]); first | done | rfl)) .nil) hown WF.agg.flat WF.agg.ren) ?_
      rintro _ _ ⟨cs, T, ids, rfl, rfl, -, -, O, -⟩
      have hcs : cs.length = 9 := by rw [O.len, teC_length]
      have htk9 : cs.take 9 = cs := List.take_of_length_le (by omega)
      (simp only [go_sem, hcs])
      repeat' (first | (first | (simp only [go_sem, hcs, htk9]) | (((first | apply sp1 | apply sp2 | apply sp3 | apply sp4 | apply sp5 | apply sp6 | apply sp7) <;> intro hb) <;> (simp only [go_sem, hb, hcs, htk9])) | ((first | apply wm_done | apply wt_done | apply wg_run | refine fk ?_ ?_) <;> (simp only [go_sem, hcs, htk9]))) | fail)
      exact hR _ (ret_ownT (pre := [_, _, _, _, _]) (cs := cs) (WF.bool true) O rfl rfl (by (simp only [go_sem, hcs, htk9]); first | done | rfl))
/-- MergeTerms at terms as they come, in the program (its result owned) and in the reference -/
theorem mergeBoth (a b : Tm) (ha : a.size < 1000000000) (hb : b.size < 1000000000) :
    ACl Try.prog 42 [.agg (teC a), .agg (teC b)] [] (OwnK (teC (mrgT a b)) (boolF (mrgB a b))) ∧
    AFn Try.prog 41 [.agg (teC a), .agg (teC b)] (boolF (mrgB a b) (teC (mrgT a b))) := by
  cases h : mrgB a b with
  | false => rw [mrgT_bad h]; exact ⟨own_none (iMergeBad a b (by omega) h), sMergeBad a b ha hb h⟩
  | true =>
    obtain ⟨e, f, rfl, rfl, h1, h2, h3⟩ := mrgB_E h
    rw [mrgT_E h]
    exact ⟨iMergeEO e f h1 h2 h3, sMergeGood e f h1 h2 h3⟩
end Go.Proofs.Ytfgjiamolknicaa
/- Trees whose lengths fit into the machine's numbers; their weights. -/
namespace Go.Proofs.Grad
mutual
def Ty.fits : Ty → Prop | .mk _ l => l.length ≤ 9223372036854775807 ∧ Ty.fitss l
def Ty.fitss : List Ty → Prop | [] => True | t :: l => t.fits ∧ Ty.fitss l
end
mutual
def Tm.fits : Tm → Prop | .mk _ n _ t f _ l => n.size ≤ 9223372036854775807 ∧ t.fits ∧ f.fits ∧ l.length ≤ 9223372036854775807 ∧ Tm.fitss l
def Tm.fitss : List Tm → Prop | [] => True | t :: l => t.fits ∧ Tm.fitss l
end
mutual
def Co.fits : Co → Prop | .mk _ _ _ l => l.length ≤ 9223372036854775807 ∧ Co.fitss l
def Co.fitss : List Co → Prop | [] => True | t :: l => t.fits ∧ Co.fitss l
end
theorem Ty.fitss_mem {t : Ty} : ∀ {l : List Ty}, Ty.fitss l → t ∈ l → t.fits
  | x :: l, h, hm => by
    rcases List.mem_cons.1 hm with rfl | hm
    · exact h.1
    · exact Ty.fitss_mem h.2 hm
theorem Tm.fitss_mem {t : Tm} : ∀ {l : List Tm}, Tm.fitss l → t ∈ l → t.fits
  | x :: l, h, hm => by
    rcases List.mem_cons.1 hm with rfl | hm
    · exact h.1
    · exact Tm.fitss_mem h.2 hm
theorem Co.fitss_mem {t : Co} : ∀ {l : List Co}, Co.fitss l → t ∈ l → t.fits
  | x :: l, h, hm => by
    rcases List.mem_cons.1 hm with rfl | hm
    · exact h.1
    · exact Co.fitss_mem h.2 hm
theorem Ty.fitss_of : ∀ {l : List Ty}, (∀ i (h : i < l.length), l[i].fits) → Ty.fitss l
  | [], _ => trivial
  | x :: l, h => ⟨h 0 (by simp), Ty.fitss_of fun i hi => h (i + 1) (by simpa using hi)⟩
theorem Tm.fitss_of : ∀ {l : List Tm}, (∀ i (h : i < l.length), l[i].fits) → Tm.fitss l
  | [], _ => trivial
  | x :: l, h => ⟨h 0 (by simp), Tm.fitss_of fun i hi => h (i + 1) (by simpa using hi)⟩
theorem Co.fitss_of : ∀ {l : List Co}, (∀ i (h : i < l.length), l[i].fits) → Co.fitss l
  | [], _ => trivial
  | x :: l, h => ⟨h 0 (by simp), Co.fitss_of fun i hi => h (i + 1) (by simpa using hi)⟩
mutual
def Ty.wt : Ty → Nat | .mk _ l => Ty.wts l
def Ty.wts : List Ty → Nat | [] => 0 | t :: l => 1 + t.wt + Ty.wts l
end
mutual
def Tm.wt : Tm → Nat | .mk _ n _ t f _ l => n.size + (t.wt + (f.wt + Tm.wts l))
def Tm.wts : List Tm → Nat | [] => 0 | t :: l => 1 + t.wt + Tm.wts l
end
mutual
def Co.wt : Co → Nat | .mk _ _ _ l => Co.wts l
def Co.wts : List Co → Nat | [] => 0 | t :: l => 1 + t.wt + Co.wts l
end
mutual
theorem Ty.size_wt : ∀ t : Ty, t.size = 1 + t.wt
  | .mk _ l => by simp only [Ty.size, Ty.wt, Ty.sizes_wts l]
theorem Ty.sizes_wts : ∀ l : List Ty, Ty.sizes l = Ty.wts l
  | [] => rfl
  | t :: l => by simp only [Ty.sizes, Ty.wts, Ty.size_wt t, Ty.sizes_wts l]
end
mutual
theorem Co.size_wt : ∀ t : Co, t.size = 1 + t.wt
  | .mk _ _ _ l => by simp only [Co.size, Co.wt, Co.sizes_wts l]
theorem Co.sizes_wts : ∀ l : List Co, Co.sizes l = Co.wts l
  | [] => rfl
  | t :: l => by simp only [Co.sizes, Co.wts, Co.size_wt t, Co.sizes_wts l]
end
mutual
theorem Tm.size_wt : ∀ t : Tm, t.size ≤ 3 + 3 * t.wt
  | .mk _ _ _ t f _ l => by
    have := Tm.sizes_wts l
    have := Ty.size_wt t
    have := Ty.size_wt f
    simp only [Tm.size, Tm.wt]; omega
theorem Tm.sizes_wts : ∀ l : List Tm, Tm.sizes l ≤ 3 * Tm.wts l
  | [] => by simp [Tm.sizes, Tm.wts]
  | t :: l => by have := Tm.size_wt t; have := Tm.sizes_wts l; simp only [Tm.sizes, Tm.wts]; omega
end
end Go.Proofs.Grad
/- Types: the helpers of the exact laws, on shadows. -/
namespace Go.Proofs.Sh
open Go.RowKit Go.Proofs.Grad

/-! ### trees from memory: lengths fit -/
def szR (x : Nat) (left : Int) : Int := if (x : Int) ≤ left then left - x else -1
theorem szR_neg {x : Nat} {left : Int} (h : decide (szR x left < 0) = true) : szR x left = -1 := by
  have h := of_decide_eq_true h
  unfold szR at h ⊢
  split <;> rename_i h' <;> simp [h'] at h ⊢
  omega
theorem tyall2_kid {f : Ty → Ty → Bool} {a b : List Ty} {i : Nat} (ha : i < a.length) (hb : i < b.length) : all2 f (a.drop i) (b.drop i) = (f (kid a i) (kid b i) && all2 f (a.drop (i + 1)) (b.drop (i + 1))) := by
  rw [drop_kid ha, drop_kid hb]; rfl
theorem tyall2_end {f : Ty → Ty → Bool} {a b : List Ty} {i : Nat} (ha : ¬ i < a.length) (hb : a.length = b.length) : all2 f (a.drop i) (b.drop i) = true := by
  rw [List.drop_eq_nil_of_le (by omega), List.drop_eq_nil_of_le (by omega)]; rfl

/-! ### sizes -/
theorem tyw_mem {l : List Ty} {k : Nat} (h : k < l.length) : Ty.wts (l.take (k + 1)) = Ty.wts (l.take k) + (1 + (kid l k).wt) := by
  rw [take_kid h]
  induction l.take k with
  | nil => simp [Ty.wts]
  | cons x m ih => simp only [List.cons_append, Ty.wts, ih]; omega
theorem tyw_rest (l : List Ty) : ∀ k, k ≤ l.length → Ty.wts (l.take k) + (l.length - k) ≤ Ty.wts l := by
  induction l with
  | nil => intro k _; simp [Ty.wts]
  | cons x l ih =>
    intro k hk
    cases k with
    | zero => have := ih 0 (by omega); simp [Ty.wts] at this ⊢; omega
    | succ k => have := ih k (by simpa using hk); simp [Ty.wts] at this ⊢; omega
theorem tyw_fit {l : List Ty} (h : Ty.fitss l) {k : Nat} (hk : k < l.length) : (kid l k).fits := by
  rw [kid_eq hk]; exact Ty.fitss_mem h (List.getElem_mem hk)

/-! ### lists filled from the front -/
def tyF (l : List Ty) (k : Nat) : List (List C) := tyR (l.take k) ++ List.replicate (l.length - k) [.sc (.int .i64 0), .sc (.slice none 0 0)]
theorem tyF_0 (l : List Ty) : tyF l 0 = List.replicate l.length [.sc (.int .i64 0), .sc (.slice none 0 0)] := by simp [tyF, tyR]
theorem tyF_get {l : List Ty} {k : Nat} (h : k < l.length) : (tyF l k)[k]? = some [.sc (.int .i64 0), .sc (.slice none 0 0)] := by
  have e : (tyR (l.take k)).length = k := by rw [tyR_length, List.length_take]; omega
  rw [tyF, List.getElem?_append_right (by omega), e, Nat.sub_self, List.getElem?_replicate, if_pos (by omega)]
theorem tyF_set {l : List Ty} {k : Nat} (h : k < l.length) : (tyF l k).set k (tyC (kid l k)) = tyF l (k + 1) := by
  have e : (tyR (l.take k)).length = k := by rw [tyR_length, List.length_take]; omega
  rw [tyF, tyF, List.set_append_right _ _ (by omega), e, Nat.sub_self, show l.length - k = (l.length - (k + 1)) + 1 by omega, List.replicate_succ, List.set_cons_zero, tyR_take h, List.append_assoc]
  rfl
theorem tyF_end (l : List Ty) : tyF l l.length = tyR l := by simp [tyF]
@[go_sem] theorem tyF_pr (h : List Blk) (ks : List Nat) (l : List Ty) (k : Nat) : prRs h ks (tyF l k) = some (tyF l k, []) := by
  have h1 : ∀ n, prRs h ks (List.replicate n [.sc (.int .i64 0), .sc (.slice none 0 0)]) = some (List.replicate n [.sc (.int .i64 0), .sc (.slice none 0 0)], []) := by
    intro n
    induction n with
    | zero => rfl
    | succ n ih => rw [List.replicate_succ, prRs, ih]; rfl
  have h2 : ∀ (m : List Ty) n, prRs h ks (tyR m ++ List.replicate n [.sc (.int .i64 0), .sc (.slice none 0 0)]) = some (tyR m ++ List.replicate n [.sc (.int .i64 0), .sc (.slice none 0 0)], []) := by
    intro m n
    induction m with
    | nil => exact h1 n
    | cons x m ih => rw [tyR, List.cons_append, prRs, ih, prL, if_pos (tyC_treeL x)]; rfl
  exact h2 _ _
@[go_sem] theorem tyF_rows (l : List Ty) (k : Nat) : rowsLen 2 (tyF l k) = true := by
  have : ∀ n, rowsLen 2 (List.replicate n [.sc (.int .i64 0), .sc (.slice none 0 0)]) = true := by
    intro n
    induction n with
    | zero => rfl
    | succ n ih => rw [List.replicate_succ, rowsLen_cons, ih]; rfl
  rw [tyF, rowsLen_append, tyR_len, this]; rfl
end Go.Proofs.Sh
namespace Go.Proofs.Ytfgjiamolknicaa
open Go.RowKit Go.Proofs.Sh Go.Proofs.Grad
set_option maxRecDepth 100000
set_option maxHeartbeats 4000000

theorem szTyS (n : Nat) (ih : ∀ t : Ty, t.size < n → t.fits → ∀ left : Int, 0 ≤ left → left ≤ 1048576 → AFn Try.prog 75 [.agg (tyC t), .one (.sc (.int .i64 left))] (.one (.sc (.int .i64 (szR t.wt left)))))
    (l : List Ty) (hn : Ty.sizes l < n) (hlen : l.length ≤ 9223372036854775807) (hf : Ty.fitss l) (left : Int) (h0 : 0 ≤ left) (h1 : left ≤ 1048576) : AFn Try.prog 140 [.one (.sl (tyR l)), .one (.sc (.int .i64 left))] (.one (.sc (.int .i64 (szR (Ty.wts l) left)))) := by
  have hw0 : IntKind.i64.wrap (left - (l.length : Int)) = left - (l.length : Int) := IntWalk.i64_in _ (by omega)
  have hge := tyw_rest l 0 (Nat.zero_le _)
  simp only [List.take_zero, Ty.wts] at hge
  by_cases hfit : (l.length : Int) ≤ left
  · have d0 : decide (left - (l.length : Int) < 0) = false := by simp; omega
    refine fn_in ?_; refine acl_in Try.func140 rfl isfn_140 (Nat.le_of_ble_eq_true rfl) (fun R hR => ?_); rw [Try.results140] at hR; refine wg_run ?_; (simp only [Try.f140, go_sem, hw0, d0])
    refine wd_for [0, 1, 5] (fun k => [.one (.sl (tyR l)), .one (.sc (.int .i64 (left - (l.length : Int) - ((Ty.wts (l.take k) : Int) - (k : Int))))), .one (.sc (.int .i64 (k : Nat)))]) (fun _ => [])
      (fun k => k ≤ l.length ∧ (Ty.wts (l.take k) : Int) + (l.length : Int) ≤ left + (k : Int)) (fun k => l.length - k) 0 ⟨Nat.zero_le _, by simp [Ty.wts]; omega⟩ (hat [] (hI := ⟨by simp [Ty.wts], rfl⟩)) ?_
    rintro k ⟨hk, hs⟩ G hG
    refine wg_run ?_
    (simp only [go_sem])
    have hr := tyw_rest l k hk
    ((first | apply sp1 | apply sp2 | apply sp3 | apply sp4 | apply sp5 | apply sp6 | apply sp7) <;> intro hb) <;> (simp only [go_sem, hb])
    · have hk1 : k < l.length := by have := of_decide_eq_true hb; omega
      have hw1 := wrap_succ hk1 (by omega)
      have hm := tyw_mem hk1
      have hr1 := tyw_rest l (k + 1) hk1
      have hc := ih (kid l k) (by rw [kid_eq hk1]; have := Ty.sizes_mem (List.getElem_mem hk1); omega) (tyw_fit hf hk1) (left - (l.length : Int) - ((Ty.wts (l.take k) : Int) - (k : Int))) (by omega) (by omega)
      by_cases hfk : ((kid l k).wt : Int) ≤ left - (l.length : Int) - ((Ty.wts (l.take k) : Int) - (k : Int))
      · have he : szR (kid l k).wt (left - (l.length : Int) - ((Ty.wts (l.take k) : Int) - (k : Int))) = left - (l.length : Int) - ((Ty.wts (l.take (k + 1)) : Int) - ((k + 1 : Nat) : Int)) := by
          unfold szR; rw [if_pos hfk, hm]; omega
        rw [he] at hc
        have d1 : decide (left - (l.length : Int) - ((Ty.wts (l.take (k + 1)) : Int) - ((k + 1 : Nat) : Int)) < 0) = false := by simp; omega
        (first | refine cdq ?_ (hc := hc) | refine cmq ?_ (hc := hc) | refine ctq ?_ (hc := hc)); (simp only [go_sem])
        repeat' (first | (simp only [go_sem, hw1, d1]) | (((first | apply sp1 | apply sp2 | apply sp3 | apply sp4 | apply sp5 | apply sp6 | apply sp7) <;> intro hb) <;> (simp only [go_sem, hb, hw1, d1])) | ((first | apply wm_done | apply wt_done | apply wg_run | refine fk ?_ ?_) <;> (simp only [go_sem, hw1, d1])))
        exact hG (k + 1) _ _ ⟨by omega, by omega⟩ (by omega) (hat [] (hI := ⟨rfl, rfl⟩))
      · have he : szR (kid l k).wt (left - (l.length : Int) - ((Ty.wts (l.take k) : Int) - (k : Int))) = -1 := by
          unfold szR; rw [if_neg hfk]
        rw [he] at hc
        have he2 : szR (Ty.wts l) left = -1 := by unfold szR; rw [if_neg (by omega)]
        (first | refine cdq ?_ (hc := hc) | refine cmq ?_ (hc := hc) | refine ctq ?_ (hc := hc)); (simp only [go_sem])
        repeat' (first | (simp only [go_sem, hw1]) | (((first | apply sp1 | apply sp2 | apply sp3 | apply sp4 | apply sp5 | apply sp6 | apply sp7) <;> intro hb) <;> (simp only [go_sem, hb, hw1])) | ((first | apply wm_done | apply wt_done | apply wg_run | refine fk ?_ ?_) <;> (simp only [go_sem, hw1])))
        (refine hR _ (rat [] (hK := ⟨?_, rfl⟩)))
        rw [he2]
    · have hk1 : k = l.length := by have := of_decide_eq_false hb; omega
      subst hk1
      rw [List.take_length] at hs hr
      have he2 : szR (Ty.wts l) left = left - (l.length : Int) - ((Ty.wts l : Int) - (l.length : Int)) := by unfold szR; rw [if_pos (by omega)]; omega
      rw [List.take_length]
      (refine hR _ (rat [] (hK := ⟨?_, rfl⟩)))
      rw [he2]
  · have d0 : decide (left - (l.length : Int) < 0) = true := by simp; omega
    have he2 : szR (Ty.wts l) left = -1 := by unfold szR; rw [if_neg (by omega)]
    refine fn_in ?_; refine acl_in Try.func140 rfl isfn_140 (Nat.le_of_ble_eq_true rfl) (fun R hR => ?_); rw [Try.results140] at hR; refine wg_run ?_; (simp only [Try.f140, go_sem, hw0, d0])
    (refine hR _ (rat [] (hK := ⟨?_, rfl⟩)))
    rw [he2]

/-! ### equality -/
theorem eqTyS (n : Nat) (ih : ∀ a b : Ty, a.size < n → AFn Try.prog 84 [.agg (tyC a), .agg (tyC b)] (.one (.sc (.bool (a.same b))))) (l m : List Ty) (hn : Ty.sizes l < n) (hlen : l.length < 4611686018427387904) :
    AFn Try.prog 146 [.one (.sl (tyR l)), .one (.sl (tyR m))] (.one (.sc (.bool (Ty.sames l m)))) := by
  rw [Ty.sames_all2]
  by_cases hlm : l.length = m.length
  · have hb0 : ((l.length : Int) == (m.length : Int)) = true := by simp; omega
    refine fn_in ?_; refine acl_in Try.func146 rfl isfn_146 (Nat.le_of_ble_eq_true rfl) (fun R hR => ?_); rw [Try.results146] at hR; refine wg_run ?_; (simp only [Try.f146, go_sem, hb0, int_bne])
    refine wd_for [0, 1, 5] (fun k => [.one (.sl (tyR l)), .one (.sl (tyR m)), .one (.sc (.int .i64 (k : Nat)))]) (fun _ => [])
      (fun k => k ≤ l.length ∧ all2 Ty.same (l.drop k) (m.drop k) = all2 Ty.same l m) (fun k => l.length - k) 0 ⟨Nat.zero_le _, rfl⟩ (hat [] (hI := ⟨rfl, rfl⟩)) ?_
    rintro k ⟨hk, hs⟩ G hG
    refine wg_run ?_
    (simp only [go_sem])
    ((first | apply sp1 | apply sp2 | apply sp3 | apply sp4 | apply sp5 | apply sp6 | apply sp7) <;> intro hb) <;> (simp only [go_sem, hb])
    · have hk1 : k < l.length := by have := of_decide_eq_true hb; omega
      have hk2 : decide ((k : Int) < (m.length : Int)) = true := by simp; omega
      have hw1 := wrap_succ hk1 (by omega)
      rw [tyall2_kid hk1 (by omega)] at hs
      have hc := ih (kid l k) (kid m k) (by rw [kid_eq hk1]; have := Ty.sizes_mem (List.getElem_mem hk1); omega)
      repeat' (first | (first | (simp only [go_sem, hb, hk2, hw1]) | (((first | apply sp1 | apply sp2 | apply sp3 | apply sp4 | apply sp5 | apply sp6 | apply sp7) <;> intro hb) <;> (simp only [go_sem, hb, hb, hk2, hw1])) | ((first | apply wm_done | apply wt_done | apply wg_run | refine fk ?_ ?_) <;> (simp only [go_sem, hb, hk2, hw1]))) | ((first | refine mxq6 [] ?_ | refine mxq5 [] ?_ | refine mxq4 [] ?_ | refine mxq3 [] ?_ | refine mxq2 [] ?_ | refine mxq1 [] ?_ | refine mxq0 [] ?_ | fail); (simp only [go_sem, hb, hk2])) | (first | refine cdq ?_ (hc := hc) | refine cmq ?_ (hc := hc) | refine ctq ?_ (hc := hc)); (simp only [go_sem]))
      · exact hG (k + 1) _ _ ⟨by omega, by simpa [hb] using hs⟩ (by omega) (hat [] (hI := ⟨rfl, rfl⟩))
      · (refine hR _ (rat [] (hK := ⟨?_, rfl⟩)))
        simpa [hb] using hs
    · have hk1 : ¬ k < l.length := by have := of_decide_eq_false hb; omega
      rw [tyall2_end hk1 hlm] at hs
      (refine hR _ (rat [] (hK := ⟨?_, rfl⟩)))
      rw [hs]
  · have hb0 : ((l.length : Int) == (m.length : Int)) = false := by simp; omega
    refine fn_in ?_; refine acl_in Try.func146 rfl isfn_146 (Nat.le_of_ble_eq_true rfl) (fun R hR => ?_); rw [Try.results146] at hR; refine wg_run ?_; (simp only [Try.f146, go_sem, hb0, int_bne])
    (refine hR _ (rat [] (hK := ⟨?_, rfl⟩)))
    rw [all2_len hlm]

/-! ### copies from the law's types to the program's -/
theorem toTyS (n : Nat) (ih : ∀ t : Ty, t.size < n → AFn Try.prog 79 [.agg (tyC t)] (.agg (tyC t))) (l : List Ty) (hn : Ty.sizes l < n) (hlen : l.length < 1099511627776) :
    AFn Try.prog 144 [.one (.sl (tyR l))] (.one (.sl (tyR l))) := by
  have hcap : decide ((32 : Int) * (l.length : Int) ≤ 140737488355328 ∧ (l.length : Int) ≤ 140737488355328) = true := by simp; omega
  refine fn_in ?_; refine acl_in Try.func144 rfl isfn_144 (Nat.le_of_ble_eq_true rfl) (fun R hR => ?_); rw [Try.results144] at hR; refine wg_run ?_; (simp only [Try.f144, go_sem, hcap])
  rw [← tyF_0 l]
  refine wd_for [0, 3, 4] (fun k => [.one (.sl (tyR l)), .one (.row 2 0 l.length), .one (.sc (.int .i64 (k : Nat)))]) (fun k => [⟨2, 25, .mut, tyF l k⟩])
    (fun k => k ≤ l.length) (fun k => l.length - k) 0 (Nat.zero_le _) (head_at [0] (by (simp only [go_sem]); first | done | rfl) (by (simp only [go_sem]); generalize treeRows _ = b; cases b <;> rfl) ⟨rfl, rfl⟩) ?_
  rintro k hk G hG
  refine wg_run ?_
  (simp only [go_sem])
  ((first | apply sp1 | apply sp2 | apply sp3 | apply sp4 | apply sp5 | apply sp6 | apply sp7) <;> intro hb) <;> (simp only [go_sem, hb])
  · have hk1 : k < l.length := by have := of_decide_eq_true hb; omega
    have hw1 := wrap_succ hk1 (by omega)
    have hc := ih (kid l k) (by rw [kid_eq hk1]; have := Ty.sizes_mem (List.getElem_mem hk1); omega)
    have hkn : decide (k < l.length) = true := by simpa using hk1
    repeat' (first | (first | (simp only [go_sem, hb, hw1, hkn, tyF_get hk1, tyF_set hk1]) | (((first | apply sp1 | apply sp2 | apply sp3 | apply sp4 | apply sp5 | apply sp6 | apply sp7) <;> intro hb) <;> (simp only [go_sem, hb, hb, hw1, hkn, tyF_get hk1, tyF_set hk1])) | ((first | apply wm_done | apply wt_done | apply wg_run | refine fk ?_ ?_) <;> (simp only [go_sem, hb, hw1, hkn, tyF_get hk1, tyF_set hk1]))) | ((first | refine mxq6 [] ?_ | refine mxq5 [] ?_ | refine mxq4 [] ?_ | refine mxq3 [] ?_ | refine mxq2 [] ?_ | refine mxq1 [] ?_ | refine mxq0 [] ?_ | fail); (simp only [go_sem, hb, hkn, tyF_get hk1, tyF_set hk1])) | (first | refine cdq ?_ (hc := hc) | refine cmq ?_ (hc := hc) | refine ctq ?_ (hc := hc)); (simp only [go_sem]))
    exact hG (k + 1) _ _ (by omega) (by omega) (head_at [0] (by (simp only [go_sem]); first | done | rfl) (by (simp only [go_sem]); generalize treeRows _ = b; cases b <;> rfl) ⟨rfl, rfl⟩)
  · have hk1 : k = l.length := by have := of_decide_eq_false hb; omega
    subst hk1
    rw [tyF_end]
    (refine hR _ (rat [] (hK := ⟨?_, rfl⟩)))
    rfl

theorem szTy (n : Nat) : ∀ t : Ty, t.size < n → t.fits → ∀ left : Int, 0 ≤ left → left ≤ 1048576 → AFn Try.prog 75 [.agg (tyC t), .one (.sc (.int .i64 left))] (.one (.sc (.int .i64 (szR t.wt left)))) := by
  induction n with
  | zero => intro t h; omega
  | succ n ih =>
    intro t h hf left h0 h1
    have hc := szTyS n ih t.kids (by cases t; simp only [Ty.size, Ty.kids] at *; omega) (by cases t; exact hf.1) (by cases t; exact hf.2) left h0 h1
    have e : t.wt = Ty.wts t.kids := by cases t; rfl
    rw [← e] at hc
    refine fn_in ?_; refine acl_in Try.func75 rfl isfn_75 (Nat.le_of_ble_eq_true rfl) (fun R hR => ?_); rw [Try.results75] at hR; refine wg_run ?_; (simp only [Try.f75, go_sem])
    (first | refine cdq ?_ (hc := hc) | refine cmq ?_ (hc := hc) | refine ctq ?_ (hc := hc)); (simp only [go_sem])
    repeat' (first | (((first | apply sp1 | apply sp2 | apply sp3 | apply sp4 | apply sp5 | apply sp6 | apply sp7) <;> intro hb) <;> (simp only [go_sem, hb])) | ((first | apply wm_done | apply wt_done | apply wg_run | refine fk ?_ ?_) <;> (simp only [go_sem])))
    · (refine hR _ (rat [] (hK := ⟨?_, rfl⟩)))
      rw [szR_neg hb]
    · (refine hR _ (rat [] (hK := ⟨rfl, rfl⟩)))
theorem eqTy (n : Nat) (hn : n ≤ 4611686018427387904) : ∀ a b : Ty, a.size < n → AFn Try.prog 84 [.agg (tyC a), .agg (tyC b)] (.one (.sc (.bool (a.same b)))) := by
  induction n with
  | zero => intro a b h; omega
  | succ n ih =>
    intro a b h
    have hc := eqTyS n (ih (by omega)) a.kids b.kids (by cases a; simp only [Ty.size, Ty.kids] at *; omega) (by have := Ty.length_le_sizes a.kids; cases a; simp only [Ty.size, Ty.kids] at *; omega)
    have e : a.same b = (a.kind == b.kind && Ty.sames a.kids b.kids) := by cases a; cases b; rfl
    rw [e]
    refine fn_in ?_; refine acl_in Try.func84 rfl isfn_84 (Nat.le_of_ble_eq_true rfl) (fun R hR => ?_); rw [Try.results84] at hR; refine wg_run ?_; (simp only [Try.f84, go_sem])
    repeat' (first | (first | (simp only [go_sem, int_bne]) | (((first | apply sp1 | apply sp2 | apply sp3 | apply sp4 | apply sp5 | apply sp6 | apply sp7) <;> intro hb) <;> (simp only [go_sem, hb, int_bne])) | ((first | apply wm_done | apply wt_done | apply wg_run | refine fk ?_ ?_) <;> (simp only [go_sem, int_bne]))) | (first | refine cdq ?_ (hc := hc) | refine cmq ?_ (hc := hc) | refine ctq ?_ (hc := hc)); (simp only [go_sem]) | ((first | refine mxq6 [] ?_ | refine mxq5 [] ?_ | refine mxq4 [] ?_ | refine mxq3 [] ?_ | refine mxq2 [] ?_ | refine mxq1 [] ?_ | refine mxq0 [] ?_ | fail); (simp only [go_sem])))
    all_goals (refine hR _ (rat [] (hK := ⟨?_, rfl⟩)))
    all_goals simp_all
theorem toTy (n : Nat) (hn : n ≤ 1099511627776) : ∀ t : Ty, t.size < n → AFn Try.prog 79 [.agg (tyC t)] (.agg (tyC t)) := by
  induction n with
  | zero => intro t h; omega
  | succ n ih =>
    intro t h
    have hc := toTyS n (ih (by omega)) t.kids (by cases t; simp only [Ty.size, Ty.kids] at *; omega) (by have := Ty.length_le_sizes t.kids; cases t; simp only [Ty.size, Ty.kids] at *; omega)
    refine fn_in ?_; refine acl_in Try.func79 rfl isfn_79 (Nat.le_of_ble_eq_true rfl) (fun R hR => ?_); rw [Try.results79] at hR; refine wg_run ?_; (simp only [Try.f79, go_sem])
    repeat' (first | (first | (((first | apply sp1 | apply sp2 | apply sp3 | apply sp4 | apply sp5 | apply sp6 | apply sp7) <;> intro hb) <;> (simp only [go_sem, hb])) | ((first | apply wm_done | apply wt_done | apply wg_run | refine fk ?_ ?_) <;> (simp only [go_sem]))) | (first | refine cdq ?_ (hc := hc) | refine cmq ?_ (hc := hc) | refine ctq ?_ (hc := hc)); (simp only [go_sem]) | ((first | refine mxq6 [] ?_ | refine mxq5 [] ?_ | refine mxq4 [] ?_ | refine mxq3 [] ?_ | refine mxq2 [] ?_ | refine mxq1 [] ?_ | refine mxq0 [] ?_ | fail); (simp only [go_sem])))
    (refine hR _ (rat [] (hK := ⟨?_, rfl⟩)))
    rw [tyC_eq]
end Go.Proofs.Ytfgjiamolknicaa
