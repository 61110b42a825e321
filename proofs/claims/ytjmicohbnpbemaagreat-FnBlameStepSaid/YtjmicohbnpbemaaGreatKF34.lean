/- Texts of the proof, one behind another. -/
import Derived.Test.YtjmicohbnpbemaaGreatRows
import Derived.ProofKit
import Derived.OpenShut
import Derived.Test.YtjmicohbnpbemaaGreatKF9
import Derived.Test.YtjmicohbnpbemaaGreatKF27
import Derived.Test.YtjmicohbnpbemaaGreatKF31
import Derived.Test.YtjmicohbnpbemaaGreatKF33
set_option linter.unusedSimpArgs false
set_option linter.unusedVariables false
/- A step keeps safety for labels. On shadows. -/
namespace Go.Proofs.YtjmicohbnpbemaaGreat
open Go.RowKit Go.Proofs.Sh Go.Proofs.Grad
set_option maxRecDepth 100000
set_option maxHeartbeats 16000000
theorem lBlameStep (l : List Int) (hc : ∀ k, 0 ≤ byte l k ∧ byte l k < 256) : AFn Tryz.prog 4 [.one (.sl (byR l))] (.one (.sc (.bool true))) := by
  by_cases hlen : 1048576 < l.length
  · have hg : decide (((l.length : Nat) : Int) > 1048576) = true := by simp; omega
    refine fn_in ?_; refine acl_in Tryz.func4 rfl isfn_4 (Nat.le_of_ble_eq_true rfl) (fun R hR => ?_); rw [Tryz.results4] at hR; refine wg_run ?_; (simp only [Tryz.f4, go_sem, hg])
    (refine hR _ (rat [] (hK := ⟨rfl, rfl⟩)))
  · have hg : decide (((l.length : Nat) : Int) > 1048576) = false := by simp; omega
    have hd := dStepCast l ⟨by omega, hc⟩
    refine fn_in ?_; refine acl_in Tryz.func4 rfl isfn_4 (Nat.le_of_ble_eq_true rfl) (fun R hR => ?_); rw [Tryz.results4] at hR; refine wg_run ?_; (simp only [Tryz.f4, go_sem, hg])
    ((first | refine kdq [] ?_ (hc := hd) | refine kmq [] ?_ (hc := hd) | refine ktq [] ?_ (hc := hd)); rintro _ _ ⟨x, rfl, hx, rfl⟩ <;> (simp only [go_sem]))
    have h1 := iStepV x
    have h2 := sStepV x (by omega)
    have hsm := iTmRefl x.stepV.tm (by have := x.stepV_size; omega)
    have h3 := iCastTypeOf x
    cases ct : x.ctype
    · rw [ct] at h3
      simp only [tyI, noTy] at h3
      generalize x.stepV = r at *
      rcases r with e | e | b | _ | _
      all_goals
        simp only [ecT, scT, SC.etm, SC.ecode, SC.tm, SC.code, SC.lab, tm0, noTy] at h1 h2 hsm
        repeat' (first | (first | (((first | apply sp1 | apply sp2 | apply sp3 | apply sp4 | apply sp5 | apply sp6 | apply sp7) <;> intro hb) <;> (simp only [go_sem, hb])) | ((first | apply wm_done | apply wt_done | apply wg_run | refine fk ?_ ?_) <;> (simp only [go_sem]))) | (first | refine cdq ?_ (hc := h1) | refine cmq ?_ (hc := h1) | refine ctq ?_ (hc := h1)); (simp only [go_sem]) | (first | refine cdq ?_ (hc := h2) | refine cmq ?_ (hc := h2) | refine ctq ?_ (hc := h2)); (simp only [go_sem]) | (first | refine cdq ?_ (hc := h3) | refine cmq ?_ (hc := h3) | refine ctq ?_ (hc := h3)); (simp only [go_sem]) | (first | refine cdq ?_ (hc := hsm) | refine cmq ?_ (hc := hsm) | refine ctq ?_ (hc := hsm)); (simp only [go_sem]) | ((first | refine mxq6 [] ?_ | refine mxq5 [] ?_ | refine mxq4 [] ?_ | refine mxq3 [] ?_ | refine mxq2 [] ?_ | refine mxq1 [] ?_ | refine mxq0 [] ?_ | fail); (simp only [go_sem])) | fail)
        all_goals (refine hR _ (rat [] (hK := ⟨rfl, rfl⟩)))
    · rw [ct] at h3
      simp only [tyI] at h3
      have hsf := fun y l => @Tm.step_safeV x y l
      have hst := fun y => @Tm.step_safeT x y
      have hok := fun y => @Tm.stepV_took x y
      have hsz := x.stepV_size
      generalize x.stepV = r at *
      rcases r with e | e | b | _ | _
      case took =>
        have hsf := fun l => hsf e l rfl
        have hst := hst e rfl
        have hok := hok e rfl
        simp only [ecT, scT, SC.etm, SC.ecode, SC.tm, SC.code, SC.lab, tm0, noTy] at h1 h2 hsm hsz
        have h6 := iCastLabels x (by omega)
        have h7 := iSafeTerm x (by omega)
        have h8 := iSafeTerm e.tm (by omega)
        obtain ⟨hl1, hl2⟩ := x.labsV_bd
        have i1 := fun n (hn : -9223372036854775808 ≤ n ∧ n ≤ 9223372036854775807) => iSafeFor x n (by omega) hn
        have i2 := fun n (hn : -9223372036854775808 ≤ n ∧ n ≤ 9223372036854775807) => iSafeFor e.tm n (by omega) hn
        have hT : safeT x = true → safeT e.tm = true := by
          intro h
          have h0 : x.unsV = [] := by
            simp only [safeT, Bool.and_eq_true, beq_iff_eq] at h
            exact List.eq_nil_of_length_eq_zero (by omega)
          have hy : e.tm.castV = true := by
            rw [E.castV_tm]; exact hok
          simp only [safeT, hy, hst h0]; rfl
        generalize x.labsV = L at *
        repeat' (first | (first | (((first | apply sp1 | apply sp2 | apply sp3 | apply sp4 | apply sp5 | apply sp6 | apply sp7) <;> intro hb) <;> (simp only [go_sem, hb])) | ((first | apply wm_done | apply wt_done | apply wg_run | refine fk ?_ ?_) <;> (simp only [go_sem]))) | (first | refine cdq ?_ (hc := h1) | refine cmq ?_ (hc := h1) | refine ctq ?_ (hc := h1)); (simp only [go_sem]) | (first | refine cdq ?_ (hc := h2) | refine cmq ?_ (hc := h2) | refine ctq ?_ (hc := h2)); (simp only [go_sem]) | (first | refine cdq ?_ (hc := h3) | refine cmq ?_ (hc := h3) | refine ctq ?_ (hc := h3)); (simp only [go_sem]) | (first | refine cdq ?_ (hc := hsm) | refine cmq ?_ (hc := hsm) | refine ctq ?_ (hc := hsm)); (simp only [go_sem]) | (first | refine cdq ?_ (hc := h6) | refine cmq ?_ (hc := h6) | refine ctq ?_ (hc := h6)); (simp only [go_sem]) | ((first | refine mxq6 [] ?_ | refine mxq5 [] ?_ | refine mxq4 [] ?_ | refine mxq3 [] ?_ | refine mxq2 [] ?_ | refine mxq1 [] ?_ | refine mxq0 [] ?_ | fail); (simp only [go_sem])) | fail)
        refine wd_for [3, 4, 12, 13] (fun k => [.one (.ptr 9 0 0 0), .one (.ptr 9 1 0 0), .one (.sl (intR L)), .one (.sc (.int .i64 (k : Nat)))]) (fun _ => [⟨9, 28, .mut, [teC x]⟩, ⟨9, 28, .mut, [teC e.tm]⟩]) (fun k => k ≤ L.length) (fun k => L.length - k) 0 (Nat.zero_le _) (hat [0, 1] (hI := ⟨rfl, rfl⟩)) ?_
        rintro k hk G hG
        refine wg_run ?_
        (simp only [go_sem])
        ((first | apply sp1 | apply sp2 | apply sp3 | apply sp4 | apply sp5 | apply sp6 | apply sp7) <;> intro hb) <;> (simp only [go_sem, hb])
        · have hk1 : k < L.length := by have := of_decide_eq_true hb; omega
          have hw1 := wrap_succ hk1 (by omega)
          have b2 : decide ((0 : Int) ≤ (k : Int)) = true := decide_eq_true (by omega)
          have hbd := hl2 _ (num_mem hk1)
          have hw : IntKind.i64.wrap (0 - Sh.num L k) = -Sh.num L k := by rw [IntWalk.i64_in _ (by omega)]; omega
          have j1 := i1 (Sh.num L k) (by omega)
          have j2 := i2 (Sh.num L k) (by omega)
          have j3 := i1 (-Sh.num L k) (by omega)
          have j4 := i2 (-Sh.num L k) (by omega)
          have q1 := hsf (Sh.num L k)
          have q2 := hsf (-Sh.num L k)
          generalize x.safeV (Sh.num L k) = a1 at *
          generalize e.tm.safeV (Sh.num L k) = a2 at *
          generalize x.safeV (-Sh.num L k) = a3 at *
          generalize e.tm.safeV (-Sh.num L k) = a4 at *
          cases a1 <;> cases a2 <;> (try (exact absurd (q1 rfl) Bool.false_ne_true)) <;> cases a3 <;> cases a4 <;> (try (exact absurd (q2 rfl) Bool.false_ne_true))
          all_goals
            repeat' (first | (first | (simp only [go_sem, hb, hw1, b2, hw]) | (((first | apply sp1 | apply sp2 | apply sp3 | apply sp4 | apply sp5 | apply sp6 | apply sp7) <;> intro hb) <;> (simp only [go_sem, hb, hb, hw1, b2, hw])) | ((first | apply wm_done | apply wt_done | apply wg_run | refine fk ?_ ?_) <;> (simp only [go_sem, hb, hw1, b2, hw]))) | (first | refine cdq ?_ (hc := j1) | refine cmq ?_ (hc := j1) | refine ctq ?_ (hc := j1)); (simp only [go_sem]) | (first | refine cdq ?_ (hc := j2) | refine cmq ?_ (hc := j2) | refine ctq ?_ (hc := j2)); (simp only [go_sem]) | (first | refine cdq ?_ (hc := j3) | refine cmq ?_ (hc := j3) | refine ctq ?_ (hc := j3)); (simp only [go_sem]) | (first | refine cdq ?_ (hc := j4) | refine cmq ?_ (hc := j4) | refine ctq ?_ (hc := j4)); (simp only [go_sem]) | ((first | refine mxq6 [] ?_ | refine mxq5 [] ?_ | refine mxq4 [] ?_ | refine mxq3 [] ?_ | refine mxq2 [] ?_ | refine mxq1 [] ?_ | refine mxq0 [] ?_ | fail); (simp only [go_sem, hb, hw1, b2, hw])) | fail)
            exact hG (k + 1) _ _ (by omega) (by omega) (hat [0, 1] (hI := ⟨rfl, rfl⟩))
        · clear hG
          generalize safeT x = a1 at *
          generalize safeT e.tm = a2 at *
          cases a1 <;> cases a2 <;> (try (exact absurd (hT rfl) Bool.false_ne_true))
          all_goals
            repeat' (first | (first | (((first | apply sp1 | apply sp2 | apply sp3 | apply sp4 | apply sp5 | apply sp6 | apply sp7) <;> intro hb) <;> (simp only [go_sem, hb])) | ((first | apply wm_done | apply wt_done | apply wg_run | refine fk ?_ ?_) <;> (simp only [go_sem]))) | (first | refine cdq ?_ (hc := h7) | refine cmq ?_ (hc := h7) | refine ctq ?_ (hc := h7)); (simp only [go_sem]) | (first | refine cdq ?_ (hc := h8) | refine cmq ?_ (hc := h8) | refine ctq ?_ (hc := h8)); (simp only [go_sem]) | ((first | refine mxq6 [] ?_ | refine mxq5 [] ?_ | refine mxq4 [] ?_ | refine mxq3 [] ?_ | refine mxq2 [] ?_ | refine mxq1 [] ?_ | refine mxq0 [] ?_ | fail); (simp only [go_sem])) | fail)
            (refine hR _ (rat [] (hK := ⟨rfl, rfl⟩)))
      all_goals
        simp only [ecT, scT, SC.etm, SC.ecode, SC.tm, SC.code, SC.lab, tm0, noTy] at h1 h2 hsm
        repeat' (first | (first | (((first | apply sp1 | apply sp2 | apply sp3 | apply sp4 | apply sp5 | apply sp6 | apply sp7) <;> intro hb) <;> (simp only [go_sem, hb])) | ((first | apply wm_done | apply wt_done | apply wg_run | refine fk ?_ ?_) <;> (simp only [go_sem]))) | (first | refine cdq ?_ (hc := h1) | refine cmq ?_ (hc := h1) | refine ctq ?_ (hc := h1)); (simp only [go_sem]) | (first | refine cdq ?_ (hc := h2) | refine cmq ?_ (hc := h2) | refine ctq ?_ (hc := h2)); (simp only [go_sem]) | (first | refine cdq ?_ (hc := h3) | refine cmq ?_ (hc := h3) | refine ctq ?_ (hc := h3)); (simp only [go_sem]) | (first | refine cdq ?_ (hc := hsm) | refine cmq ?_ (hc := hsm) | refine ctq ?_ (hc := hsm)); (simp only [go_sem]) | ((first | refine mxq6 [] ?_ | refine mxq5 [] ?_ | refine mxq4 [] ?_ | refine mxq3 [] ?_ | refine mxq2 [] ?_ | refine mxq1 [] ?_ | refine mxq0 [] ?_ | fail); (simp only [go_sem])) | fail)
        all_goals (refine hR _ (rat [] (hK := ⟨rfl, rfl⟩)))
end Go.Proofs.YtjmicohbnpbemaaGreat
/- From contracts on shadows to calls in worlds; a law's argument of bytes. -/
namespace Go.Proofs.Sh
open Go.RowKit
theorem sim_nil (w : World) : Sim [] [] [] w :=
  ⟨rfl, by simp, by simp, fun i b g h => by simp at h, fun i j b b' g _ h => by simp at h, fun i b g h => by simp at h⟩
theorem law_calls {P : Program} {f : FuncId} {args : List AV} {vs : Array Value} {w : World} (h : AFn P f args (.one (.sc (.bool true)))) (hr : AV.repl [] [] w args vs.toList) :
    Calls P f vs w (fun e w' => e = .returned (.bool true) ∧ Below w.heap.size w w') := by
  refine (h.out.2 [] [] w vs (sim_nil w) hr).mono ?_
  rintro e w' ⟨r, H', μ', v, rfl, ⟨rfl, rfl⟩, hS, hT, hv⟩
  simp only [AV.rep, C.rep] at hv
  refine ⟨by rw [hv.1], hT.keep.os, hT.keep.tape, hT.keep.output, hT.keep.size, fun b hb => hT.keep.block b (by simp [alive]) hb⟩
/-- bytes in memory -/
def Byt (w : World) (q : Option Addr) (n c : Nat) : Prop :=
  n ≤ c ∧ c ≤ maxLen ∧ ∀ i, i < n → ∃ b off, ∃ x : Int, q = some ⟨b, off, none⟩ ∧ b < w.heap.size ∧ w.cell? ⟨b, off + i, none⟩ = some (.int .u8 x) ∧ 0 ≤ x ∧ x ≤ 255
def byAt (w : World) (b off i : Nat) : Int := match w.cell? ⟨b, off + i, none⟩ with | some (.int _ x) => x | _ => 0
theorem repss_by {w : World} {b : Nat} : ∀ (l : List Int) (off : Nat), (∀ i (h : i < l.length), w.cell? ⟨b, off + i, none⟩ = some (.int .u8 l[i])) → C.repss [] [] w 1 (byR l) b off
  | [], _, _ => trivial
  | x :: l, off, h => by
    have h0 : w.cell? ⟨b, off, none⟩ = some (.int .u8 x) := h 0 (by simp)
    refine ⟨rfl, ⟨⟨_, h0, ⟨rfl, rfl⟩⟩, trivial⟩, repss_by l (off + 1) fun i hi => ?_⟩
    have := h (i + 1) (by simpa using hi)
    rw [show off + 1 + i = off + (i + 1) by omega]
    simpa using this
theorem Byt.rep {w : World} {q : Option Addr} {n c : Nat} (h : Byt w q n c) : ∃ l : List Int, (∀ k, 0 ≤ byte l k ∧ byte l k < 256) ∧ AV.rep [] [] w (.one (.sl (byR l))) (.slice q n c) := by
  obtain ⟨h1, h2, h3⟩ := h
  cases n with
  | zero =>
    refine ⟨[], fun k => by simp [byte], ?_⟩
    simp only [AV.rep, C.rep]
    exact ⟨q, c, rfl, by simp [byR], h2, .inl rfl⟩
  | succ n =>
    obtain ⟨b, off, x0, rfl, hb, _⟩ := h3 0 (by omega)
    have h4 : ∀ i, i < n + 1 → w.cell? ⟨b, off + i, none⟩ = some (.int .u8 (byAt w b off i)) ∧ 0 ≤ byAt w b off i ∧ byAt w b off i ≤ 255 := by
      intro i hi
      obtain ⟨b', off', x, e, _, g1, g2, g3⟩ := h3 i hi
      cases e
      simp only [byAt, g1]
      exact ⟨trivial, g2, g3⟩
    refine ⟨(List.range (n + 1)).map (byAt w b off), fun k => ?_, ?_⟩
    · by_cases hk : k < n + 1
      · have := h4 k hk
        simp [byte, hk]; omega
      · simp [byte, hk]
    · simp only [AV.rep, C.rep]
      refine ⟨_, c, by simp [byR_length], by simpa [byR_length] using h1, h2, .inr ⟨b, off, 1, rfl, hb, by simp, repss_by _ _ fun i hi => ?_⟩⟩
      simp at hi
      simpa using (h4 i hi).1
end Go.Proofs.Sh
namespace Go.Proofs.YtjmicohbnpbemaaGreat
open Go.RowKit Go.Proofs.Sh
open Go.ChangeShapes Go.WideShapes Go.ChangeAt
theorem own_k : ownKnob Tryz.prog.godebug = none := by kernel_rfl
theorem laid_k : laidOutB Tryz.prog = true := by kernel_rfl
variable {H : Type} {enc : TypeId × Value → H} {w : World} {base : Nat} {spare : Nat → Bool} {held : Bool}
theorem add_no {b o k : Nat} : (⟨b, o, none⟩ : Addr).add k = ⟨b, o + k, none⟩ := by
  unfold Addr.add; split <;> simp_all
theorem spot_no {a : Addr} {v : Value} (h : w.cell? a = some v) : a.spot = none := by
  obtain ⟨b, o, s⟩ := a
  cases s with
  | none => rfl
  | some s =>
    simp only [World.cell?] at h
    split at h <;> simp at h
theorem read_Byt {fuel : Nat} {v : Value} {x : DataW H × List MemPlace} (h : DataW.trod enc Tryz.prog w base spare held fuel 22 [v] = some x) :
    ∃ (q : Option Addr) (n c : Nat), v = .slice q n c ∧ Byt w q n c := by
  have hc1 : Tryz.prog.cellsOf 5 = 1 := by kernel_rfl
  rcases DataW.trod_slice Tryz.underlying22 h with ⟨e1, _⟩ | ⟨a, len, cap, elems, rest, m', hm', e1, _, hb, hlc, hcm, hel, hall, _, _⟩
  · simp at e1
    subst e1
    exact ⟨none, 0, 0, rfl, by omega, by simp [maxLen], fun i hi => by omega⟩
  · simp at e1
    subst e1
    have hcell : ∀ i, i < len → ∃ k : Int, w.cell? (a.add i) = some (.int .u8 k) ∧ (Lit.int IntKind.u8 k).wf = true := by
      intro i hi
      have h1 := hall i hi
      rw [hc1, List.getElem?_eq_getElem (by omega), Nat.mul_one] at h1
      cases h2 : w.cells? base (a.add i) 1 with
      | none => rw [h2] at h1; simp at h1
      | some ds =>
        rw [h2] at h1
        simp only [Option.bind_some] at h1
        obtain ⟨k, e0, k1, k2⟩ := DataW.trod_int Tryz.underlying5 h1
        subst e0
        have h3 : w.cell? (a.add i) = some (.int .u8 k) := by
          unfold World.cells? at h2
          split at h2
          · simp only [List.range_succ, List.range_zero, List.nil_append, List.mapM_cons, List.mapM_nil, Option.pure_def, Option.bind_eq_bind] at h2
            cases h0 : w.cell? ((a.add i).add 0) with
            | none => simp [h0] at h2
            | some u =>
              simp [h0] at h2
              have e0 : (a.add i).add 0 = a.add i := by simp [Addr.add]
              rw [e0] at h0; rw [h0, h2]
          · cases h2
        exact ⟨k, h3, k2⟩
    refine ⟨some a, len, cap, rfl, hlc, hcm, fun i hi => ?_⟩
    have hs : a.spot = none := by
      obtain ⟨k, h3, _⟩ := hcell 0 (by omega)
      have := spot_no h3
      simp [Addr.add] at this
      exact this
    obtain ⟨k, h3, k2⟩ := hcell i hi
    obtain ⟨b, o, s⟩ := a
    simp at hs
    subst hs
    rw [add_no] at h3
    refine ⟨b, o, k, rfl, lt_of_cell h3, h3, ?_⟩
    simp [Lit.wf, IntKind.min, IntKind.max, IntKind.signed, IntKind.bits] at k2
    omega
set_option maxRecDepth 100000 in
theorem open_Byt {v : Value} {d : DataW H} {p : List MemPlace} {r : Reach} {b0 : Nat} (hv : Value.okWide Tryz.prog w r b0 22 v) (h : DataW.Trod enc Tryz.prog w base spare held 22 v d p) :
    ∃ (q : Option Addr) (n c : Nat), v = .slice q n c ∧ Byt w q n c := by
  obtain ⟨a, len, cap, rfl⟩ := okWide_slice Tryz.underlying22 hv
  obtain ⟨fuel, hf⟩ := h
  exact read_Byt hf
end Go.Proofs.YtjmicohbnpbemaaGreat
/- The labels of what a step makes. On shadows. -/
namespace Go.Proofs.YtjmicohbnpbemaaGreat
open Go.RowKit Go.Proofs.Sh Go.Proofs.Grad
set_option maxRecDepth 100000
set_option maxHeartbeats 16000000
theorem lStepLabels (l : List Int) (hc : ∀ k, 0 ≤ byte l k ∧ byte l k < 256) : AFn Tryz.prog 13 [.one (.sl (byR l))] (.one (.sc (.bool true))) := by
  by_cases hlen : 1048576 < l.length
  · have hg : decide (((l.length : Nat) : Int) > 1048576) = true := by simp; omega
    refine fn_in ?_; refine acl_in Tryz.func13 rfl isfn_13 (Nat.le_of_ble_eq_true rfl) (fun R hR => ?_); rw [Tryz.results13] at hR; refine wg_run ?_; (simp only [Tryz.f13, go_sem, hg])
    (refine hR _ (rat [] (hK := ⟨rfl, rfl⟩)))
  · have hg : decide (((l.length : Nat) : Int) > 1048576) = false := by simp; omega
    have hd := dStepCast l ⟨by omega, hc⟩
    refine fn_in ?_; refine acl_in Tryz.func13 rfl isfn_13 (Nat.le_of_ble_eq_true rfl) (fun R hR => ?_); rw [Tryz.results13] at hR; refine wg_run ?_; (simp only [Tryz.f13, go_sem, hg])
    ((first | refine kdq [] ?_ (hc := hd) | refine kmq [] ?_ (hc := hd) | refine ktq [] ?_ (hc := hd)); rintro _ _ ⟨x, rfl, hx, rfl⟩ <;> (simp only [go_sem]))
    have h1 := iStepV x
    have h2 := sStepV x (by omega)
    have hsm := iTmRefl x.stepV.tm (by have := x.stepV_size; omega)
    have hsz := x.stepV_size
    have h6 := iCastLabels x (by omega)
    obtain ⟨hl1, hl2⟩ := x.labsV_bd
    have htk := fun y => @Tm.step_labsV x y
    have hbk := fun b => @Tm.blame_labsV x b
    have h7 := iCastLabels x.stepV.tm (by omega)
    obtain ⟨hm1, hm2⟩ := x.stepV.tm.labsV_bd
    generalize hq : x.stepV = r at *
    generalize x.labsV = L at *
    -- one of the labels, up to its sign
    have hin : ∀ (z : Int), -99 ≤ z ∧ z ≤ 99 → (∃ w ∈ L, w = z ∨ w = -z) → (L.take L.length).any (fun w => w == z || w == -z) = true := by
      rintro z _ ⟨w, hw, h⟩
      exact any_all hw (by rcases h with h | h <;> simp [h])
    rcases r with e | e | b | _ | _
    case took =>
      have htk := htk e rfl
      simp only [ecT, scT, SC.etm, SC.ecode, SC.tm, SC.code, SC.lab, tm0, noTy] at h1 h2 hsm hm1 hm2 h7
      generalize e.tm.labsV = M at *
      repeat' (first | (first | (((first | apply sp1 | apply sp2 | apply sp3 | apply sp4 | apply sp5 | apply sp6 | apply sp7) <;> intro hb) <;> (simp only [go_sem, hb])) | ((first | apply wm_done | apply wt_done | apply wg_run | refine fk ?_ ?_) <;> (simp only [go_sem]))) | (first | refine cdq ?_ (hc := h1) | refine cmq ?_ (hc := h1) | refine ctq ?_ (hc := h1)); (simp only [go_sem]) | (first | refine cdq ?_ (hc := h2) | refine cmq ?_ (hc := h2) | refine ctq ?_ (hc := h2)); (simp only [go_sem]) | (first | refine cdq ?_ (hc := hsm) | refine cmq ?_ (hc := hsm) | refine ctq ?_ (hc := hsm)); (simp only [go_sem]) | (first | refine cdq ?_ (hc := h6) | refine cmq ?_ (hc := h6) | refine ctq ?_ (hc := h6)); (simp only [go_sem]) | (first | refine cdq ?_ (hc := h7) | refine cmq ?_ (hc := h7) | refine ctq ?_ (hc := h7)); (simp only [go_sem]) | ((first | refine mxq6 [] ?_ | refine mxq5 [] ?_ | refine mxq4 [] ?_ | refine mxq3 [] ?_ | refine mxq2 [] ?_ | refine mxq1 [] ?_ | refine mxq0 [] ?_ | fail); (simp only [go_sem])) | fail)
      refine wd_for [5, 10, 11, 12] (fun k => [.one (.sc (.int .i64 1)), .one (.sl (intR L)), .one (.sl (intR M)), .one (.sc (.int .i64 (k : Nat)))]) (fun _ => []) (fun k => k ≤ M.length) (fun k => M.length - k) 0 (Nat.zero_le _) (hat [] (hI := ⟨rfl, rfl⟩)) ?_
      rintro k hk G hG
      refine wg_run ?_
      (simp only [go_sem])
      ((first | apply sp1 | apply sp2 | apply sp3 | apply sp4 | apply sp5 | apply sp6 | apply sp7) <;> intro hb) <;> (simp only [go_sem, hb])
      · have hk1 : k < M.length := by have := of_decide_eq_true hb; omega
        have hw1 := wrap_succ hk1 (by omega)
        have b2 : decide ((0 : Int) ≤ (k : Int)) = true := decide_eq_true (by omega)
        have hbd := hm2 _ (num_mem hk1)
        have hfin := hin _ hbd (htk _ (num_mem hk1))
        have hw : IntKind.i64.wrap (0 - Sh.num M k) = -Sh.num M k := by rw [IntWalk.i64_in _ (by omega)]; omega
        repeat' (first | (first | (simp only [go_sem, hb]) | (((first | apply sp1 | apply sp2 | apply sp3 | apply sp4 | apply sp5 | apply sp6 | apply sp7) <;> intro hb) <;> (simp only [go_sem, hb, hb])) | ((first | apply wm_done | apply wt_done | apply wg_run | refine fk ?_ ?_) <;> (simp only [go_sem, hb]))) | fail)
        refine wd_for [5, 10, 11, 12, 13, 14] (fun j => [.one (.sc (.int .i64 1)), .one (.sl (intR L)), .one (.sl (intR M)), .one (.sc (.int .i64 (k : Nat))), .one (.sc (.bool ((L.take j).any (fun w => w == Sh.num M k || w == -Sh.num M k)))), .one (.sc (.int .i64 (j : Nat)))]) (fun _ => []) (fun j => j ≤ L.length) (fun j => L.length - j) 0 (Nat.zero_le _) (hat [] (hI := ⟨rfl, rfl⟩)) ?_
        rintro j hj G2 hG2
        refine wg_run ?_
        (simp only [go_sem])
        ((first | apply sp1 | apply sp2 | apply sp3 | apply sp4 | apply sp5 | apply sp6 | apply sp7) <;> intro hb) <;> (simp only [go_sem, hb])
        · rename_i hbk
          have hj1 : j < L.length := by have := of_decide_eq_true hb; omega
          have hwj := wrap_succ hj1 (by omega)
          have b3 : decide ((0 : Int) ≤ (j : Int)) = true := decide_eq_true (by omega)
          have hany := any_take_succ (fun w => w == Sh.num M k || w == -Sh.num M k) hj1
          generalize (L.take j).any (fun w => w == Sh.num M k || w == -Sh.num M k) = q at *
          cases q
          · cases e1 : (Sh.num L j == Sh.num M k)
            · repeat' (first | (first | (simp only [go_sem, hb, hbk, hwj, b2, b3, hw, e1]) | (((first | apply sp1 | apply sp2 | apply sp3 | apply sp4 | apply sp5 | apply sp6 | apply sp7) <;> intro hb) <;> (simp only [go_sem, hb, hb, hbk, hwj, b2, b3, hw, e1])) | ((first | apply wm_done | apply wt_done | apply wg_run | refine fk ?_ ?_) <;> (simp only [go_sem, hb, hbk, hwj, b2, b3, hw, e1]))) | ((first | refine mxq6 [] ?_ | refine mxq5 [] ?_ | refine mxq4 [] ?_ | refine mxq3 [] ?_ | refine mxq2 [] ?_ | refine mxq1 [] ?_ | refine mxq0 [] ?_ | fail); (simp only [go_sem, hb, hbk, hwj, b2, b3, hw, e1])) | fail)
              exact hG2 (j + 1) _ _ (by omega) (by omega) (hat [] (hI := ⟨by rw [hany]; simp only [e1, Bool.false_or], rfl⟩))
            · repeat' (first | (first | (simp only [go_sem, hb, hbk, hwj, b2, b3, hw, e1]) | (((first | apply sp1 | apply sp2 | apply sp3 | apply sp4 | apply sp5 | apply sp6 | apply sp7) <;> intro hb) <;> (simp only [go_sem, hb, hb, hbk, hwj, b2, b3, hw, e1])) | ((first | apply wm_done | apply wt_done | apply wg_run | refine fk ?_ ?_) <;> (simp only [go_sem, hb, hbk, hwj, b2, b3, hw, e1]))) | ((first | refine mxq6 [] ?_ | refine mxq5 [] ?_ | refine mxq4 [] ?_ | refine mxq3 [] ?_ | refine mxq2 [] ?_ | refine mxq1 [] ?_ | refine mxq0 [] ?_ | fail); (simp only [go_sem, hb, hbk, hwj, b2, b3, hw, e1])) | fail)
              exact hG2 (j + 1) _ _ (by omega) (by omega) (hat [] (hI := ⟨by rw [hany]; simp only [e1, Bool.true_or, Bool.false_or], rfl⟩))
          · repeat' (first | (first | (simp only [go_sem, hb, hbk, hwj, b2, b3, hw]) | (((first | apply sp1 | apply sp2 | apply sp3 | apply sp4 | apply sp5 | apply sp6 | apply sp7) <;> intro hb) <;> (simp only [go_sem, hb, hb, hbk, hwj, b2, b3, hw])) | ((first | apply wm_done | apply wt_done | apply wg_run | refine fk ?_ ?_) <;> (simp only [go_sem, hb, hbk, hwj, b2, b3, hw]))) | ((first | refine mxq6 [] ?_ | refine mxq5 [] ?_ | refine mxq4 [] ?_ | refine mxq3 [] ?_ | refine mxq2 [] ?_ | refine mxq1 [] ?_ | refine mxq0 [] ?_ | fail); (simp only [go_sem, hb, hbk, hwj, b2, b3, hw])) | fail)
            exact hG2 (j + 1) _ _ (by omega) (by omega) (hat [] (hI := ⟨by rw [hany]; simp only [Bool.true_or], rfl⟩))
        · have hj1 : j = L.length := by have := of_decide_eq_false hb; omega
          subst hj1
          clear hG2
          repeat' (first | (first | (simp only [go_sem, hfin, hw1]) | (((first | apply sp1 | apply sp2 | apply sp3 | apply sp4 | apply sp5 | apply sp6 | apply sp7) <;> intro hb) <;> (simp only [go_sem, hb, hfin, hw1])) | ((first | apply wm_done | apply wt_done | apply wg_run | refine fk ?_ ?_) <;> (simp only [go_sem, hfin, hw1]))) | fail)
          exact hG (k + 1) _ _ (by omega) (by omega) (hat [] (hI := ⟨rfl, rfl⟩))
      · clear hG
        repeat' (first | (first | (((first | apply sp1 | apply sp2 | apply sp3 | apply sp4 | apply sp5 | apply sp6 | apply sp7) <;> intro hb) <;> (simp only [go_sem, hb])) | ((first | apply wm_done | apply wt_done | apply wg_run | refine fk ?_ ?_) <;> (simp only [go_sem]))) | fail)
        (refine hR _ (rat [] (hK := ⟨rfl, rfl⟩)))
    case blame =>
      obtain ⟨hbk1, hbk2⟩ := hbk b rfl
      have hfin := hin b hbk2 hbk1
      have hw : IntKind.i64.wrap (0 - b) = -b := by rw [IntWalk.i64_in _ (by omega)]; omega
      simp only [ecT, scT, SC.etm, SC.ecode, SC.tm, SC.code, SC.lab, tm0, noTy] at h1 h2 hsm hm1 hm2 h7
      (try simp only [tm0, noTy] at h7)
      generalize Tm.labsV _ = M0 at h7
      repeat' (first | (first | (simp only [go_sem, int_bne, beq_self_eq_true]) | (((first | apply sp1 | apply sp2 | apply sp3 | apply sp4 | apply sp5 | apply sp6 | apply sp7) <;> intro hb) <;> (simp only [go_sem, hb, int_bne, beq_self_eq_true])) | ((first | apply wm_done | apply wt_done | apply wg_run | refine fk ?_ ?_) <;> (simp only [go_sem, int_bne, beq_self_eq_true]))) | (first | refine cdq ?_ (hc := h1) | refine cmq ?_ (hc := h1) | refine ctq ?_ (hc := h1)); (simp only [go_sem]) | (first | refine cdq ?_ (hc := h2) | refine cmq ?_ (hc := h2) | refine ctq ?_ (hc := h2)); (simp only [go_sem]) | (first | refine cdq ?_ (hc := hsm) | refine cmq ?_ (hc := hsm) | refine ctq ?_ (hc := hsm)); (simp only [go_sem]) | (first | refine cdq ?_ (hc := h6) | refine cmq ?_ (hc := h6) | refine ctq ?_ (hc := h6)); (simp only [go_sem]) | (first | refine cdq ?_ (hc := h7) | refine cmq ?_ (hc := h7) | refine ctq ?_ (hc := h7)); (simp only [go_sem]) | ((first | refine mxq6 [] ?_ | refine mxq5 [] ?_ | refine mxq4 [] ?_ | refine mxq3 [] ?_ | refine mxq2 [] ?_ | refine mxq1 [] ?_ | refine mxq0 [] ?_ | fail); (simp only [go_sem, int_bne, beq_self_eq_true])) | fail)
      obtain ⟨M, hM⟩ : ∃ M : List Int, M = [b] := ⟨_, rfl⟩
      have hm1 : M.length ≤ 200 := by rw [hM]; simp
      have hm2 : ∀ z ∈ M, -99 ≤ z ∧ z ≤ 99 := by intro z hz; rw [hM] at hz; simp at hz; subst hz; exact hbk2
      have htk : ∀ z ∈ M, ∃ w ∈ L, w = z ∨ w = -z := by intro z hz; rw [hM] at hz; simp at hz; subst hz; exact hbk1
      refine wd_for [5, 10, 11, 12] (fun k => [.one (.sc (.int .i64 2)), .one (.sl (intR L)), .one (.sl (intR M)), .one (.sc (.int .i64 (k : Nat)))]) (fun _ => []) (fun k => k ≤ M.length) (fun k => M.length - k) 0 (Nat.zero_le _) (hat [] (hI := ⟨by subst hM; rfl, rfl⟩)) ?_
      rintro k hk G hG
      refine wg_run ?_
      (simp only [go_sem])
      ((first | apply sp1 | apply sp2 | apply sp3 | apply sp4 | apply sp5 | apply sp6 | apply sp7) <;> intro hb) <;> (simp only [go_sem, hb])
      · have hk1 : k < M.length := by have := of_decide_eq_true hb; omega
        have hw1 := wrap_succ hk1 (by omega)
        have b2 : decide ((0 : Int) ≤ (k : Int)) = true := decide_eq_true (by omega)
        have hbd := hm2 _ (num_mem hk1)
        have hfin := hin _ hbd (htk _ (num_mem hk1))
        have hw : IntKind.i64.wrap (0 - Sh.num M k) = -Sh.num M k := by rw [IntWalk.i64_in _ (by omega)]; omega
        repeat' (first | (first | (simp only [go_sem, hb]) | (((first | apply sp1 | apply sp2 | apply sp3 | apply sp4 | apply sp5 | apply sp6 | apply sp7) <;> intro hb) <;> (simp only [go_sem, hb, hb])) | ((first | apply wm_done | apply wt_done | apply wg_run | refine fk ?_ ?_) <;> (simp only [go_sem, hb]))) | fail)
        refine wd_for [5, 10, 11, 12, 13, 14] (fun j => [.one (.sc (.int .i64 2)), .one (.sl (intR L)), .one (.sl (intR M)), .one (.sc (.int .i64 (k : Nat))), .one (.sc (.bool ((L.take j).any (fun w => w == Sh.num M k || w == -Sh.num M k)))), .one (.sc (.int .i64 (j : Nat)))]) (fun _ => []) (fun j => j ≤ L.length) (fun j => L.length - j) 0 (Nat.zero_le _) (hat [] (hI := ⟨rfl, rfl⟩)) ?_
        rintro j hj G2 hG2
        refine wg_run ?_
        (simp only [go_sem])
        ((first | apply sp1 | apply sp2 | apply sp3 | apply sp4 | apply sp5 | apply sp6 | apply sp7) <;> intro hb) <;> (simp only [go_sem, hb])
        · rename_i hbk
          have hj1 : j < L.length := by have := of_decide_eq_true hb; omega
          have hwj := wrap_succ hj1 (by omega)
          have b3 : decide ((0 : Int) ≤ (j : Int)) = true := decide_eq_true (by omega)
          have hany := any_take_succ (fun w => w == Sh.num M k || w == -Sh.num M k) hj1
          generalize (L.take j).any (fun w => w == Sh.num M k || w == -Sh.num M k) = q at *
          cases q
          · cases e1 : (Sh.num L j == Sh.num M k)
            · repeat' (first | (first | (simp only [go_sem, hb, hbk, hwj, b2, b3, hw, e1]) | (((first | apply sp1 | apply sp2 | apply sp3 | apply sp4 | apply sp5 | apply sp6 | apply sp7) <;> intro hb) <;> (simp only [go_sem, hb, hb, hbk, hwj, b2, b3, hw, e1])) | ((first | apply wm_done | apply wt_done | apply wg_run | refine fk ?_ ?_) <;> (simp only [go_sem, hb, hbk, hwj, b2, b3, hw, e1]))) | ((first | refine mxq6 [] ?_ | refine mxq5 [] ?_ | refine mxq4 [] ?_ | refine mxq3 [] ?_ | refine mxq2 [] ?_ | refine mxq1 [] ?_ | refine mxq0 [] ?_ | fail); (simp only [go_sem, hb, hbk, hwj, b2, b3, hw, e1])) | fail)
              exact hG2 (j + 1) _ _ (by omega) (by omega) (hat [] (hI := ⟨by rw [hany]; simp only [e1, Bool.false_or], rfl⟩))
            · repeat' (first | (first | (simp only [go_sem, hb, hbk, hwj, b2, b3, hw, e1]) | (((first | apply sp1 | apply sp2 | apply sp3 | apply sp4 | apply sp5 | apply sp6 | apply sp7) <;> intro hb) <;> (simp only [go_sem, hb, hb, hbk, hwj, b2, b3, hw, e1])) | ((first | apply wm_done | apply wt_done | apply wg_run | refine fk ?_ ?_) <;> (simp only [go_sem, hb, hbk, hwj, b2, b3, hw, e1]))) | ((first | refine mxq6 [] ?_ | refine mxq5 [] ?_ | refine mxq4 [] ?_ | refine mxq3 [] ?_ | refine mxq2 [] ?_ | refine mxq1 [] ?_ | refine mxq0 [] ?_ | fail); (simp only [go_sem, hb, hbk, hwj, b2, b3, hw, e1])) | fail)
              exact hG2 (j + 1) _ _ (by omega) (by omega) (hat [] (hI := ⟨by rw [hany]; simp only [e1, Bool.true_or, Bool.false_or], rfl⟩))
          · repeat' (first | (first | (simp only [go_sem, hb, hbk, hwj, b2, b3, hw]) | (((first | apply sp1 | apply sp2 | apply sp3 | apply sp4 | apply sp5 | apply sp6 | apply sp7) <;> intro hb) <;> (simp only [go_sem, hb, hb, hbk, hwj, b2, b3, hw])) | ((first | apply wm_done | apply wt_done | apply wg_run | refine fk ?_ ?_) <;> (simp only [go_sem, hb, hbk, hwj, b2, b3, hw]))) | ((first | refine mxq6 [] ?_ | refine mxq5 [] ?_ | refine mxq4 [] ?_ | refine mxq3 [] ?_ | refine mxq2 [] ?_ | refine mxq1 [] ?_ | refine mxq0 [] ?_ | fail); (simp only [go_sem, hb, hbk, hwj, b2, b3, hw])) | fail)
            exact hG2 (j + 1) _ _ (by omega) (by omega) (hat [] (hI := ⟨by rw [hany]; simp only [Bool.true_or], rfl⟩))
        · have hj1 : j = L.length := by have := of_decide_eq_false hb; omega
          subst hj1
          clear hG2
          repeat' (first | (first | (simp only [go_sem, hfin, hw1]) | (((first | apply sp1 | apply sp2 | apply sp3 | apply sp4 | apply sp5 | apply sp6 | apply sp7) <;> intro hb) <;> (simp only [go_sem, hb, hfin, hw1])) | ((first | apply wm_done | apply wt_done | apply wg_run | refine fk ?_ ?_) <;> (simp only [go_sem, hfin, hw1]))) | fail)
          exact hG (k + 1) _ _ (by omega) (by omega) (hat [] (hI := ⟨rfl, rfl⟩))
      · clear hG
        repeat' (first | (first | (((first | apply sp1 | apply sp2 | apply sp3 | apply sp4 | apply sp5 | apply sp6 | apply sp7) <;> intro hb) <;> (simp only [go_sem, hb])) | ((first | apply wm_done | apply wt_done | apply wg_run | refine fk ?_ ?_) <;> (simp only [go_sem]))) | fail)
        (refine hR _ (rat [] (hK := ⟨rfl, rfl⟩)))
    all_goals
      simp only [ecT, scT, SC.etm, SC.ecode, SC.tm, SC.code, SC.lab, tm0, noTy] at h1 h2 hsm h7
      (try simp only [tm0, noTy] at h7)
      generalize Tm.labsV _ = M0 at h7
      repeat' (first | (first | (simp only [go_sem, int_bne, beq_self_eq_true]) | (((first | apply sp1 | apply sp2 | apply sp3 | apply sp4 | apply sp5 | apply sp6 | apply sp7) <;> intro hb) <;> (simp only [go_sem, hb, int_bne, beq_self_eq_true])) | ((first | apply wm_done | apply wt_done | apply wg_run | refine fk ?_ ?_) <;> (simp only [go_sem, int_bne, beq_self_eq_true]))) | (first | refine cdq ?_ (hc := h1) | refine cmq ?_ (hc := h1) | refine ctq ?_ (hc := h1)); (simp only [go_sem]) | (first | refine cdq ?_ (hc := h2) | refine cmq ?_ (hc := h2) | refine ctq ?_ (hc := h2)); (simp only [go_sem]) | (first | refine cdq ?_ (hc := hsm) | refine cmq ?_ (hc := hsm) | refine ctq ?_ (hc := hsm)); (simp only [go_sem]) | (first | refine cdq ?_ (hc := h6) | refine cmq ?_ (hc := h6) | refine ctq ?_ (hc := h6)); (simp only [go_sem]) | (first | refine cdq ?_ (hc := h7) | refine cmq ?_ (hc := h7) | refine ctq ?_ (hc := h7)); (simp only [go_sem]) | ((first | refine mxq6 [] ?_ | refine mxq5 [] ?_ | refine mxq4 [] ?_ | refine mxq3 [] ?_ | refine mxq2 [] ?_ | refine mxq1 [] ?_ | refine mxq0 [] ?_ | fail); (simp only [go_sem, int_bne, beq_self_eq_true])) | fail)
      repeat' (first | (first | (refine wl_next (wg_run ?_); (simp only [go_sem])) | refine wd_rounds 6 ?_) | (first | (((first | apply sp1 | apply sp2 | apply sp3 | apply sp4 | apply sp5 | apply sp6 | apply sp7) <;> intro hb) <;> (simp only [go_sem, hb])) | ((first | apply wm_done | apply wt_done | apply wg_run | refine fk ?_ ?_) <;> (simp only [go_sem]))) | fail)
      all_goals (refine hR _ (rat [] (hK := ⟨rfl, rfl⟩)))
end Go.Proofs.YtjmicohbnpbemaaGreat
