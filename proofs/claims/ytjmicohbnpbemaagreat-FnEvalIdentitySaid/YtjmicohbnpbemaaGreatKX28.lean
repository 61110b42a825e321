/- Texts of the proof, one behind another. -/
import Derived.Test.YtjmicohbnpbemaaGreatRows
import Derived.ProofKit
import Derived.OpenShut
import Derived.Test.YtjmicohbnpbemaaGreatKX7
import Derived.Test.YtjmicohbnpbemaaGreatKX9
import Derived.Test.YtjmicohbnpbemaaGreatKX11
import Derived.Test.YtjmicohbnpbemaaGreatKX27
set_option linter.unusedSimpArgs false
set_option linter.unusedVariables false
/- From contracts on shadows to calls in worlds; a law's argument of bytes. -/
namespace Go.Proofs.Sh
open Go.RowKit
theorem sim_nil (w : World) : Sim [] [] [] w :=
  ⟨rfl, by simp, by simp, fun i b g h => by simp at h, fun i j b b' g _ h => by simp at h, fun i b g h => by simp at h⟩
theorem law_calls {P : Program} {f : FuncId} {args : List AV} {vs : Array Value} {w : World} (h : AFn P f args (.one (.sc (.bool true)))) (hr : AV.repl [] [] w args vs.toList) :
    Calls P f vs w (fun e w' => e = .returned (.bool true) ∧ Below w.heap.size w w') := by
  refine (h.out.2 [] [] w vs (sim_nil w) hr).mono ?_
  rintro e w' ⟨r, H', μ', v, rfl, ⟨rfl, rfl⟩, hS, hT, hv⟩
  simp only [AV.rep, C.rep] at hv
  refine ⟨by rw [hv.1], hT.keep.os, hT.keep.tape, hT.keep.output, hT.keep.size, fun b hb => hT.keep.block b (by simp [alive]) hb⟩
/-- bytes in memory -/
def Byt (w : World) (q : Option Addr) (n c : Nat) : Prop :=
  n ≤ c ∧ c ≤ maxLen ∧ ∀ i, i < n → ∃ b off, ∃ x : Int, q = some ⟨b, off, none⟩ ∧ b < w.heap.size ∧ w.cell? ⟨b, off + i, none⟩ = some (.int .u8 x) ∧ 0 ≤ x ∧ x ≤ 255
def byAt (w : World) (b off i : Nat) : Int := match w.cell? ⟨b, off + i, none⟩ with | some (.int _ x) => x | _ => 0
theorem repss_by {w : World} {b : Nat} : ∀ (l : List Int) (off : Nat), (∀ i (h : i < l.length), w.cell? ⟨b, off + i, none⟩ = some (.int .u8 l[i])) → C.repss [] [] w 1 (byR l) b off
  | [], _, _ => trivial
  | x :: l, off, h => by
    have h0 : w.cell? ⟨b, off, none⟩ = some (.int .u8 x) := h 0 (by simp)
    refine ⟨rfl, ⟨⟨_, h0, ⟨rfl, rfl⟩⟩, trivial⟩, repss_by l (off + 1) fun i hi => ?_⟩
    have := h (i + 1) (by simpa using hi)
    rw [show off + 1 + i = off + (i + 1) by omega]
    simpa using this
theorem Byt.rep {w : World} {q : Option Addr} {n c : Nat} (h : Byt w q n c) : ∃ l : List Int, (∀ k, 0 ≤ byte l k ∧ byte l k < 256) ∧ AV.rep [] [] w (.one (.sl (byR l))) (.slice q n c) := by
  obtain ⟨h1, h2, h3⟩ := h
  cases n with
  | zero =>
    refine ⟨[], fun k => by simp [byte], ?_⟩
    simp only [AV.rep, C.rep]
    exact ⟨q, c, rfl, by simp [byR], h2, .inl rfl⟩
  | succ n =>
    obtain ⟨b, off, x0, rfl, hb, _⟩ := h3 0 (by omega)
    have h4 : ∀ i, i < n + 1 → w.cell? ⟨b, off + i, none⟩ = some (.int .u8 (byAt w b off i)) ∧ 0 ≤ byAt w b off i ∧ byAt w b off i ≤ 255 := by
      intro i hi
      obtain ⟨b', off', x, e, _, g1, g2, g3⟩ := h3 i hi
      cases e
      simp only [byAt, g1]
      exact ⟨trivial, g2, g3⟩
    refine ⟨(List.range (n + 1)).map (byAt w b off), fun k => ?_, ?_⟩
    · by_cases hk : k < n + 1
      · have := h4 k hk
        simp [byte, hk]; omega
      · simp [byte, hk]
    · simp only [AV.rep, C.rep]
      refine ⟨_, c, by simp [byR_length], by simpa [byR_length] using h1, h2, .inr ⟨b, off, 1, rfl, hb, by simp, repss_by _ _ fun i hi => ?_⟩⟩
      simp at hi
      simpa using (h4 i hi).1
end Go.Proofs.Sh
namespace Go.Proofs.YtjmicohbnpbemaaGreat
open Go.RowKit Go.Proofs.Sh
open Go.ChangeShapes Go.WideShapes Go.ChangeAt
theorem own_k : ownKnob Tryz.prog.godebug = none := by kernel_rfl
theorem laid_k : laidOutB Tryz.prog = true := by kernel_rfl
variable {H : Type} {enc : TypeId × Value → H} {w : World} {base : Nat} {spare : Nat → Bool} {held : Bool}
theorem add_no {b o k : Nat} : (⟨b, o, none⟩ : Addr).add k = ⟨b, o + k, none⟩ := by
  unfold Addr.add; split <;> simp_all
theorem spot_no {a : Addr} {v : Value} (h : w.cell? a = some v) : a.spot = none := by
  obtain ⟨b, o, s⟩ := a
  cases s with
  | none => rfl
  | some s =>
    simp only [World.cell?] at h
    split at h <;> simp at h
theorem read_Byt {fuel : Nat} {v : Value} {x : DataW H × List MemPlace} (h : DataW.trod enc Tryz.prog w base spare held fuel 22 [v] = some x) :
    ∃ (q : Option Addr) (n c : Nat), v = .slice q n c ∧ Byt w q n c := by
  have hc1 : Tryz.prog.cellsOf 5 = 1 := by kernel_rfl
  rcases DataW.trod_slice Tryz.underlying22 h with ⟨e1, _⟩ | ⟨a, len, cap, elems, rest, m', hm', e1, _, hb, hlc, hcm, hel, hall, _, _⟩
  · simp at e1
    subst e1
    exact ⟨none, 0, 0, rfl, by omega, by simp [maxLen], fun i hi => by omega⟩
  · simp at e1
    subst e1
    have hcell : ∀ i, i < len → ∃ k : Int, w.cell? (a.add i) = some (.int .u8 k) ∧ (Lit.int IntKind.u8 k).wf = true := by
      intro i hi
      have h1 := hall i hi
      rw [hc1, List.getElem?_eq_getElem (by omega), Nat.mul_one] at h1
      cases h2 : w.cells? base (a.add i) 1 with
      | none => rw [h2] at h1; simp at h1
      | some ds =>
        rw [h2] at h1
        simp only [Option.bind_some] at h1
        obtain ⟨k, e0, k1, k2⟩ := DataW.trod_int Tryz.underlying5 h1
        subst e0
        have h3 : w.cell? (a.add i) = some (.int .u8 k) := by
          unfold World.cells? at h2
          split at h2
          · simp only [List.range_succ, List.range_zero, List.nil_append, List.mapM_cons, List.mapM_nil, Option.pure_def, Option.bind_eq_bind] at h2
            cases h0 : w.cell? ((a.add i).add 0) with
            | none => simp [h0] at h2
            | some u =>
              simp [h0] at h2
              have e0 : (a.add i).add 0 = a.add i := by simp [Addr.add]
              rw [e0] at h0; rw [h0, h2]
          · cases h2
        exact ⟨k, h3, k2⟩
    refine ⟨some a, len, cap, rfl, hlc, hcm, fun i hi => ?_⟩
    have hs : a.spot = none := by
      obtain ⟨k, h3, _⟩ := hcell 0 (by omega)
      have := spot_no h3
      simp [Addr.add] at this
      exact this
    obtain ⟨k, h3, k2⟩ := hcell i hi
    obtain ⟨b, o, s⟩ := a
    simp at hs
    subst hs
    rw [add_no] at h3
    refine ⟨b, o, k, rfl, lt_of_cell h3, h3, ?_⟩
    simp [Lit.wf, IntKind.min, IntKind.max, IntKind.signed, IntKind.bits] at k2
    omega
set_option maxRecDepth 100000 in
theorem open_Byt {v : Value} {d : DataW H} {p : List MemPlace} {r : Reach} {b0 : Nat} (hv : Value.okWide Tryz.prog w r b0 22 v) (h : DataW.Trod enc Tryz.prog w base spare held 22 v d p) :
    ∃ (q : Option Addr) (n c : Nat), v = .slice q n c ∧ Byt w q n c := by
  obtain ⟨a, len, cap, rfl⟩ := okWide_slice Tryz.underlying22 hv
  obtain ⟨fuel, hf⟩ := h
  exact read_Byt hf
end Go.Proofs.YtjmicohbnpbemaaGreat
/- Laws of evaluation: the identity. No program, no world. -/
namespace Go.Proofs.Grad
theorem Tm.evalV_id {q : UInt8} {s : T} {t : Tm} {f : Int} (h : (nd 6 [(E.lam q s (.var q)).tm, t]).castV = true) (h0 : 0 ≤ f) (h9 : f < 300) (hn : (t.evalV f).isTook = false) : (nd 6 [(E.lam q s (.var q)).tm, t]).evalV (f + 1) = .large ∨ (nd 6 [(E.lam q s (.var q)).tm, t]).evalV (f + 1) = t.evalV f := by
  obtain ⟨x, hx, ho⟩ := Tm.castV_E h
  cases x <;> simp only [E.tm, nd, Tm.mk.injEq, List.cons.injEq, List.cons_ne_nil, reduceCtorEq, false_and, and_false, true_and, and_true] at hx <;> (try (exfalso; omega))
  rename_i a b
  obtain ⟨ha, hb⟩ := hx
  subst hb
  have : a = .lam q s (.var q) := E.tm_inj _ _ (by rw [ha]; rfl)
  subst this
  exact evalV_wrap (wrap_id q s) ho h0 h9 hn
theorem Tm.countV_le (t : Tm) (f : Int) : t.countV f ≤ 300 := by
  cases hc : t.castV with
  | false => rw [Tm.countV_bad hc]; omega
  | true =>
    obtain ⟨e, rfl, ho⟩ := Tm.castV_E hc
    cases hb : (decide (0 ≤ f) && decide (f ≤ 300)) with
    | false => rw [Tm.countV_off _ hb]; omega
    | true =>
      simp only [Bool.and_eq_true, decide_eq_true_eq] at hb
      obtain ⟨k, rfl⟩ := Int.eq_ofNat_of_zero_le hb.1
      rw [Tm.countV_E ho k (by omega)]
      have := E.evI_steps k e 0
      omega
end Go.Proofs.Grad
/- Trees of terms and types, seen from a slice. -/
namespace Go.Proofs.Sh
open Go.Proofs.Grad
@[go_sem] theorem fzL_teC (h : List Blk) (d : Nat) (t : Tm) : fzL (fz h d) (teC t) = some (teC t, []) := by rw [teC_eq]; cases d <;> rfl
@[go_sem] theorem fzL_tyC (h : List Blk) (d : Nat) (t : Ty) : fzL (fz h d) (tyC t) = some (tyC t, []) := by rw [tyC_eq]; cases d <;> rfl
end Go.Proofs.Sh
/- Laws of evaluation: a step ahead; a choice; a part of a pair. On shadows. -/
namespace Go.Proofs.YtjmicohbnpbemaaGreat
open Go.RowKit Go.Proofs.Sh Go.Proofs.Grad
set_option maxRecDepth 100000
set_option maxHeartbeats 16000000
theorem lEvalStep (l : List Int) (hc : ∀ k, 0 ≤ byte l k ∧ byte l k < 256) : AFn Tryz.prog 8 [.one (.sl (byR l))] (.one (.sc (.bool true))) := by
  by_cases hlen : 1048576 < l.length
  · have hg : decide (((l.length : Nat) : Int) > 1048576) = true := by simp; omega
    refine fn_in ?_; refine acl_in Tryz.func8 rfl isfn_8 (Nat.le_of_ble_eq_true rfl) (fun R hR => ?_); rw [Tryz.results8] at hR; refine wg_run ?_; (simp only [Tryz.f8, go_sem, hg])
    (refine hR _ (rat [] (hK := ⟨rfl, rfl⟩)))
  · have hg : decide (((l.length : Nat) : Int) > 1048576) = false := by simp; omega
    have hd := dEvalCast l ⟨by omega, hc⟩
    refine fn_in ?_; refine acl_in Tryz.func8 rfl isfn_8 (Nat.le_of_ble_eq_true rfl) (fun R hR => ?_); rw [Tryz.results8] at hR; refine wg_run ?_; (simp only [Tryz.f8, go_sem, hg])
    ((first | refine kdq [] ?_ (hc := hd) | refine kmq [] ?_ (hc := hd) | refine ktq [] ?_ (hc := hd)); rintro _ _ ⟨x, f, rfl, hx, hf0, hf9, rfl⟩ <;> (simp only [go_sem]))
    have h1 := iEvalV x f
    have h2 := sEvalV x (by omega) f
    have hsm := iTmRefl (x.evalV f).etm (by have := x.evalV_size f; omega)
    have h6 := iStepV x
    cases es : x.stepV
    case took y =>
      have hev := @Tm.evalV_step x y f es
      rw [es] at h6
      simp only [scT, SC.tm, SC.code, SC.lab] at h6
      have tri : f < 1 ∨ 300 < f ∨ (1 ≤ f ∧ f ≤ 300) := by omega
      rcases tri with hfr | hfr | hfr
      · have b3 : decide (f < 1) = true := by simpa using hfr
        generalize x.evalV f = r at *
        rcases r with e | e | b | _ | _
        all_goals
          simp only [ecT, SC.etm, SC.ecode, SC.tm, SC.code, SC.lab, tm0, noTy] at h1 h2 hsm
          repeat' (first | (first | (simp only [go_sem, b3]) | (((first | apply sp1 | apply sp2 | apply sp3 | apply sp4 | apply sp5 | apply sp6 | apply sp7) <;> intro hb) <;> (simp only [go_sem, hb, b3])) | ((first | apply wm_done | apply wt_done | apply wg_run | refine fk ?_ ?_) <;> (simp only [go_sem, b3]))) | (first | refine cdq ?_ (hc := h1) | refine cmq ?_ (hc := h1) | refine ctq ?_ (hc := h1)); (simp only [go_sem]) | (first | refine cdq ?_ (hc := h2) | refine cmq ?_ (hc := h2) | refine ctq ?_ (hc := h2)); (simp only [go_sem]) | (first | refine cdq ?_ (hc := h6) | refine cmq ?_ (hc := h6) | refine ctq ?_ (hc := h6)); (simp only [go_sem]) | (first | refine cdq ?_ (hc := hsm) | refine cmq ?_ (hc := hsm) | refine ctq ?_ (hc := hsm)); (simp only [go_sem]) | ((first | refine mxq6 [] ?_ | refine mxq5 [] ?_ | refine mxq4 [] ?_ | refine mxq3 [] ?_ | refine mxq2 [] ?_ | refine mxq1 [] ?_ | refine mxq0 [] ?_ | fail); (simp only [go_sem, b3])) | fail)
          all_goals (refine hR _ (rat [] (hK := ⟨rfl, rfl⟩)))
      · have b3 : decide (f < 1) = false := by simp; omega
        have b4 : decide (f > 300) = true := by simpa using hfr
        generalize x.evalV f = r at *
        rcases r with e | e | b | _ | _
        all_goals
          simp only [ecT, SC.etm, SC.ecode, SC.tm, SC.code, SC.lab, tm0, noTy] at h1 h2 hsm
          repeat' (first | (first | (simp only [go_sem, b3, b4]) | (((first | apply sp1 | apply sp2 | apply sp3 | apply sp4 | apply sp5 | apply sp6 | apply sp7) <;> intro hb) <;> (simp only [go_sem, hb, b3, b4])) | ((first | apply wm_done | apply wt_done | apply wg_run | refine fk ?_ ?_) <;> (simp only [go_sem, b3, b4]))) | (first | refine cdq ?_ (hc := h1) | refine cmq ?_ (hc := h1) | refine ctq ?_ (hc := h1)); (simp only [go_sem]) | (first | refine cdq ?_ (hc := h2) | refine cmq ?_ (hc := h2) | refine ctq ?_ (hc := h2)); (simp only [go_sem]) | (first | refine cdq ?_ (hc := h6) | refine cmq ?_ (hc := h6) | refine ctq ?_ (hc := h6)); (simp only [go_sem]) | (first | refine cdq ?_ (hc := hsm) | refine cmq ?_ (hc := hsm) | refine ctq ?_ (hc := hsm)); (simp only [go_sem]) | ((first | refine mxq6 [] ?_ | refine mxq5 [] ?_ | refine mxq4 [] ?_ | refine mxq3 [] ?_ | refine mxq2 [] ?_ | refine mxq1 [] ?_ | refine mxq0 [] ?_ | fail); (simp only [go_sem, b3, b4])) | fail)
          all_goals (refine hR _ (rat [] (hK := ⟨rfl, rfl⟩)))
      · have b3 : decide (f < 1) = false := by simp; omega
        have b4 : decide (f > 300) = false := by simp; omega
        have hw : IntKind.i64.wrap (f - 1) = f - 1 := IntWalk.i64_in _ (by omega)
        obtain ⟨m1, m2⟩ := hev hfr.1 hfr.2
        have h3 := iEvalV y.tm (f - 1)
        have h4 := iCountSteps x f
        have h5 := iCountSteps y.tm (f - 1)
        have hcl := Tm.countV_le y.tm (f - 1)
        rw [m1] at h3
        rw [m2] at h4
        generalize y.tm.countV (f - 1) = c at *
        have hw2 : IntKind.i64.wrap ((c : Int) + 1) = ((c + 1 : Nat) : Int) := by rw [IntWalk.i64_in _ (by omega)]; omega
        generalize x.evalV f = r at *
        rcases r with e | e | b | _ | _
        all_goals
          simp only [ecT, SC.etm, SC.ecode, SC.tm, SC.code, SC.lab, tm0, noTy] at h1 h2 h3 hsm
          repeat' (first | (first | (simp only [go_sem, b3, b4, hw, hw2, beq_self_eq_true]) | (((first | apply sp1 | apply sp2 | apply sp3 | apply sp4 | apply sp5 | apply sp6 | apply sp7) <;> intro hb) <;> (simp only [go_sem, hb, b3, b4, hw, hw2, beq_self_eq_true])) | ((first | apply wm_done | apply wt_done | apply wg_run | refine fk ?_ ?_) <;> (simp only [go_sem, b3, b4, hw, hw2, beq_self_eq_true]))) | (first | refine cdq ?_ (hc := h1) | refine cmq ?_ (hc := h1) | refine ctq ?_ (hc := h1)); (simp only [go_sem]) | (first | refine cdq ?_ (hc := h2) | refine cmq ?_ (hc := h2) | refine ctq ?_ (hc := h2)); (simp only [go_sem]) | (first | refine cdq ?_ (hc := h3) | refine cmq ?_ (hc := h3) | refine ctq ?_ (hc := h3)); (simp only [go_sem]) | (first | refine cdq ?_ (hc := h4) | refine cmq ?_ (hc := h4) | refine ctq ?_ (hc := h4)); (simp only [go_sem]) | (first | refine cdq ?_ (hc := h5) | refine cmq ?_ (hc := h5) | refine ctq ?_ (hc := h5)); (simp only [go_sem]) | (first | refine cdq ?_ (hc := h6) | refine cmq ?_ (hc := h6) | refine ctq ?_ (hc := h6)); (simp only [go_sem]) | (first | refine cdq ?_ (hc := hsm) | refine cmq ?_ (hc := hsm) | refine ctq ?_ (hc := hsm)); (simp only [go_sem]) | ((first | refine mxq6 [] ?_ | refine mxq5 [] ?_ | refine mxq4 [] ?_ | refine mxq3 [] ?_ | refine mxq2 [] ?_ | refine mxq1 [] ?_ | refine mxq0 [] ?_ | fail); (simp only [go_sem, b3, b4, hw, hw2, beq_self_eq_true])) | fail)
          all_goals (refine hR _ (rat [] (hK := ⟨rfl, rfl⟩)))
    all_goals
      rw [es] at h6
      simp only [scT, SC.tm, SC.code, SC.lab, tm0, noTy] at h6
      generalize x.evalV f = r at *
      rcases r with e | e | b | _ | _
      all_goals
        simp only [ecT, SC.etm, SC.ecode, SC.tm, SC.code, SC.lab, tm0, noTy] at h1 h2 hsm
        repeat' (first | (first | (((first | apply sp1 | apply sp2 | apply sp3 | apply sp4 | apply sp5 | apply sp6 | apply sp7) <;> intro hb) <;> (simp only [go_sem, hb])) | ((first | apply wm_done | apply wt_done | apply wg_run | refine fk ?_ ?_) <;> (simp only [go_sem]))) | (first | refine cdq ?_ (hc := h1) | refine cmq ?_ (hc := h1) | refine ctq ?_ (hc := h1)); (simp only [go_sem]) | (first | refine cdq ?_ (hc := h2) | refine cmq ?_ (hc := h2) | refine ctq ?_ (hc := h2)); (simp only [go_sem]) | (first | refine cdq ?_ (hc := h6) | refine cmq ?_ (hc := h6) | refine ctq ?_ (hc := h6)); (simp only [go_sem]) | (first | refine cdq ?_ (hc := hsm) | refine cmq ?_ (hc := hsm) | refine ctq ?_ (hc := hsm)); (simp only [go_sem]) | ((first | refine mxq6 [] ?_ | refine mxq5 [] ?_ | refine mxq4 [] ?_ | refine mxq3 [] ?_ | refine mxq2 [] ?_ | refine mxq1 [] ?_ | refine mxq0 [] ?_ | fail); (simp only [go_sem])) | fail)
        all_goals (refine hR _ (rat [] (hK := ⟨rfl, rfl⟩)))
theorem lEvalIf (l : List Int) (hc : ∀ k, 0 ≤ byte l k ∧ byte l k < 256) : AFn Tryz.prog 7 [.one (.sl (byR l))] (.one (.sc (.bool true))) := by
  by_cases hlen : 1048576 < l.length
  · have hg : decide (((l.length : Nat) : Int) > 1048576) = true := by simp; omega
    refine fn_in ?_; refine acl_in Tryz.func7 rfl isfn_7 (Nat.le_of_ble_eq_true rfl) (fun R hR => ?_); rw [Tryz.results7] at hR; refine wg_run ?_; (simp only [Tryz.f7, go_sem, hg])
    (refine hR _ (rat [] (hK := ⟨rfl, rfl⟩)))
  · have hg : decide (((l.length : Nat) : Int) > 1048576) = false := by simp; omega
    have hd := dEvalCast l ⟨by omega, hc⟩
    refine fn_in ?_; refine acl_in Tryz.func7 rfl isfn_7 (Nat.le_of_ble_eq_true rfl) (fun R hR => ?_); rw [Tryz.results7] at hR; refine wg_run ?_; (simp only [Tryz.f7, go_sem, hg])
    ((first | refine kdq [] ?_ (hc := hd) | refine kmq [] ?_ (hc := hd) | refine ktq [] ?_ (hc := hd)); rintro _ _ ⟨x, f, rfl, hx, hf0, hf9, rfl⟩ <;> (simp only [go_sem]))
    have h1 := iEvalV x f
    have h2 := sEvalV x (by omega) f
    have hsm := iTmRefl (x.evalV f).etm (by have := x.evalV_size f; omega)
    have h6 := iCastV (nd 9 [E.tru.tm, x, x])
    cases ev : (nd 9 [E.tru.tm, x, x]).castV
    · rw [ev] at h6
      generalize x.evalV f = r at *
      rcases r with e | e | b | _ | _
      all_goals
        simp only [ecT, SC.etm, SC.ecode, SC.tm, SC.code, SC.lab, tm0, noTy] at h1 h2 hsm
        repeat' (first | (first | (((first | apply sp1 | apply sp2 | apply sp3 | apply sp4 | apply sp5 | apply sp6 | apply sp7) <;> intro hb) <;> (simp only [go_sem, hb])) | ((first | apply wm_done | apply wt_done | apply wg_run | refine fk ?_ ?_) <;> (simp only [go_sem]))) | (first | refine cdq ?_ (hc := h1) | refine cmq ?_ (hc := h1) | refine ctq ?_ (hc := h1)); (simp only [go_sem]) | (first | refine cdq ?_ (hc := h2) | refine cmq ?_ (hc := h2) | refine ctq ?_ (hc := h2)); (simp only [go_sem]) | (first | refine cdq ?_ (hc := h6) | refine cmq ?_ (hc := h6) | refine ctq ?_ (hc := h6)); (simp only [go_sem]) | (first | refine cdq ?_ (hc := hsm) | refine cmq ?_ (hc := hsm) | refine ctq ?_ (hc := hsm)); (simp only [go_sem]) | ((first | refine mxq6 [] ?_ | refine mxq5 [] ?_ | refine mxq4 [] ?_ | refine mxq3 [] ?_ | refine mxq2 [] ?_ | refine mxq1 [] ?_ | refine mxq0 [] ?_ | fail); (simp only [go_sem])) | fail)
        all_goals (refine hR _ (rat [] (hK := ⟨rfl, rfl⟩)))
    · rw [ev] at h6
      have tri : f < 0 ∨ 300 ≤ f ∨ (0 ≤ f ∧ f < 300) := by omega
      rcases tri with hfr | hfr | hfr
      · have b3 : decide (f < 0) = true := by simpa using hfr
        generalize x.evalV f = r at *
        rcases r with e | e | b | _ | _
        all_goals
          simp only [ecT, SC.etm, SC.ecode, SC.tm, SC.code, SC.lab, tm0, noTy] at h1 h2 hsm
          repeat' (first | (first | (simp only [go_sem, b3]) | (((first | apply sp1 | apply sp2 | apply sp3 | apply sp4 | apply sp5 | apply sp6 | apply sp7) <;> intro hb) <;> (simp only [go_sem, hb, b3])) | ((first | apply wm_done | apply wt_done | apply wg_run | refine fk ?_ ?_) <;> (simp only [go_sem, b3]))) | (first | refine cdq ?_ (hc := h1) | refine cmq ?_ (hc := h1) | refine ctq ?_ (hc := h1)); (simp only [go_sem]) | (first | refine cdq ?_ (hc := h2) | refine cmq ?_ (hc := h2) | refine ctq ?_ (hc := h2)); (simp only [go_sem]) | (first | refine cdq ?_ (hc := h6) | refine cmq ?_ (hc := h6) | refine ctq ?_ (hc := h6)); (simp only [go_sem]) | (first | refine cdq ?_ (hc := hsm) | refine cmq ?_ (hc := hsm) | refine ctq ?_ (hc := hsm)); (simp only [go_sem]) | ((first | refine mxq6 [] ?_ | refine mxq5 [] ?_ | refine mxq4 [] ?_ | refine mxq3 [] ?_ | refine mxq2 [] ?_ | refine mxq1 [] ?_ | refine mxq0 [] ?_ | fail); (simp only [go_sem, b3])) | fail)
          all_goals (refine hR _ (rat [] (hK := ⟨rfl, rfl⟩)))
      · have b3 : decide (f < 0) = false := by simp; omega
        have b4 : decide (f ≥ 300) = true := by simpa using hfr
        generalize x.evalV f = r at *
        rcases r with e | e | b | _ | _
        all_goals
          simp only [ecT, SC.etm, SC.ecode, SC.tm, SC.code, SC.lab, tm0, noTy] at h1 h2 hsm
          repeat' (first | (first | (simp only [go_sem, b3, b4]) | (((first | apply sp1 | apply sp2 | apply sp3 | apply sp4 | apply sp5 | apply sp6 | apply sp7) <;> intro hb) <;> (simp only [go_sem, hb, b3, b4])) | ((first | apply wm_done | apply wt_done | apply wg_run | refine fk ?_ ?_) <;> (simp only [go_sem, b3, b4]))) | (first | refine cdq ?_ (hc := h1) | refine cmq ?_ (hc := h1) | refine ctq ?_ (hc := h1)); (simp only [go_sem]) | (first | refine cdq ?_ (hc := h2) | refine cmq ?_ (hc := h2) | refine ctq ?_ (hc := h2)); (simp only [go_sem]) | (first | refine cdq ?_ (hc := h6) | refine cmq ?_ (hc := h6) | refine ctq ?_ (hc := h6)); (simp only [go_sem]) | (first | refine cdq ?_ (hc := hsm) | refine cmq ?_ (hc := hsm) | refine ctq ?_ (hc := hsm)); (simp only [go_sem]) | ((first | refine mxq6 [] ?_ | refine mxq5 [] ?_ | refine mxq4 [] ?_ | refine mxq3 [] ?_ | refine mxq2 [] ?_ | refine mxq1 [] ?_ | refine mxq0 [] ?_ | fail); (simp only [go_sem, b3, b4])) | fail)
          all_goals (refine hR _ (rat [] (hK := ⟨rfl, rfl⟩)))
      · have b3 : decide (f < 0) = false := by simp; omega
        have b4 : decide (f ≥ 300) = false := by simp; omega
        have hw : IntKind.i64.wrap (f + 1) = f + 1 := IntWalk.i64_in _ (by omega)
        have h3 := iEvalV (nd 9 [E.tru.tm, x, x]) (f + 1)
        obtain ⟨m1, m2⟩ := Tm.evalV_ite ev hfr.1 hfr.2
        have h4 := iCountSteps (nd 9 [E.tru.tm, x, x]) (f + 1)
        have h5 := iCountSteps x f
        have hcl := Tm.countV_le x f
        rw [m1] at h3
        rw [m2] at h4
        generalize x.countV f = c at *
        have hw2 : IntKind.i64.wrap ((c : Int) + 1) = ((c + 1 : Nat) : Int) := by rw [IntWalk.i64_in _ (by omega)]; omega
        generalize x.evalV f = r at *
        rcases r with e | e | b | _ | _
        all_goals
          simp only [ecT, SC.etm, SC.ecode, SC.tm, SC.code, SC.lab, tm0, noTy] at h1 h2 h3 hsm
          repeat' (first | (first | (simp only [go_sem, b3, b4, hw, hw2, beq_self_eq_true]) | (((first | apply sp1 | apply sp2 | apply sp3 | apply sp4 | apply sp5 | apply sp6 | apply sp7) <;> intro hb) <;> (simp only [go_sem, hb, b3, b4, hw, hw2, beq_self_eq_true])) | ((first | apply wm_done | apply wt_done | apply wg_run | refine fk ?_ ?_) <;> (simp only [go_sem, b3, b4, hw, hw2, beq_self_eq_true]))) | (first | refine cdq ?_ (hc := h1) | refine cmq ?_ (hc := h1) | refine ctq ?_ (hc := h1)); (simp only [go_sem]) | (first | refine cdq ?_ (hc := h2) | refine cmq ?_ (hc := h2) | refine ctq ?_ (hc := h2)); (simp only [go_sem]) | (first | refine cdq ?_ (hc := h3) | refine cmq ?_ (hc := h3) | refine ctq ?_ (hc := h3)); (simp only [go_sem]) | (first | refine cdq ?_ (hc := h4) | refine cmq ?_ (hc := h4) | refine ctq ?_ (hc := h4)); (simp only [go_sem]) | (first | refine cdq ?_ (hc := h5) | refine cmq ?_ (hc := h5) | refine ctq ?_ (hc := h5)); (simp only [go_sem]) | (first | refine cdq ?_ (hc := h6) | refine cmq ?_ (hc := h6) | refine ctq ?_ (hc := h6)); (simp only [go_sem]) | (first | refine cdq ?_ (hc := hsm) | refine cmq ?_ (hc := hsm) | refine ctq ?_ (hc := hsm)); (simp only [go_sem]) | ((first | refine mxq6 [] ?_ | refine mxq5 [] ?_ | refine mxq4 [] ?_ | refine mxq3 [] ?_ | refine mxq2 [] ?_ | refine mxq1 [] ?_ | refine mxq0 [] ?_ | fail); (simp only [go_sem, b3, b4, hw, hw2, beq_self_eq_true])) | fail)
          all_goals (refine hR _ (rat [] (hK := ⟨rfl, rfl⟩)))
theorem lEvalPart (l : List Int) (hc : ∀ k, 0 ≤ byte l k ∧ byte l k < 256) : AFn Tryz.prog 5 [.one (.sl (byR l))] (.one (.sc (.bool true))) := by
  by_cases hlen : 1048576 < l.length
  · have hg : decide (((l.length : Nat) : Int) > 1048576) = true := by simp; omega
    refine fn_in ?_; refine acl_in Tryz.func5 rfl isfn_5 (Nat.le_of_ble_eq_true rfl) (fun R hR => ?_); rw [Tryz.results5] at hR; refine wg_run ?_; (simp only [Tryz.f5, go_sem, hg])
    (refine hR _ (rat [] (hK := ⟨rfl, rfl⟩)))
  · have hg : decide (((l.length : Nat) : Int) > 1048576) = false := by simp; omega
    have hd := dEvalCast l ⟨by omega, hc⟩
    refine fn_in ?_; refine acl_in Tryz.func5 rfl isfn_5 (Nat.le_of_ble_eq_true rfl) (fun R hR => ?_); rw [Tryz.results5] at hR; refine wg_run ?_; (simp only [Tryz.f5, go_sem, hg])
    ((first | refine kdq [] ?_ (hc := hd) | refine kmq [] ?_ (hc := hd) | refine ktq [] ?_ (hc := hd)); rintro _ _ ⟨x, f, rfl, hx, hf0, hf9, rfl⟩ <;> (simp only [go_sem]))
    have h1 := iEvalV x f
    have h2 := sEvalV x (by omega) f
    have hsm := iTmRefl (x.evalV f).etm (by have := x.evalV_size f; omega)
    have h6 := iCastV (nd 12 [nd 10 [(E.num 4).tm, x]])
    cases ev : (nd 12 [nd 10 [(E.num 4).tm, x]]).castV
    · rw [ev] at h6
      generalize x.evalV f = r at *
      rcases r with e | e | b | _ | _
      all_goals
        simp only [ecT, SC.etm, SC.ecode, SC.tm, SC.code, SC.lab, tm0, noTy] at h1 h2 hsm
        repeat' (first | (first | (((first | apply sp1 | apply sp2 | apply sp3 | apply sp4 | apply sp5 | apply sp6 | apply sp7) <;> intro hb) <;> (simp only [go_sem, hb])) | ((first | apply wm_done | apply wt_done | apply wg_run | refine fk ?_ ?_) <;> (simp only [go_sem]))) | (first | refine cdq ?_ (hc := h1) | refine cmq ?_ (hc := h1) | refine ctq ?_ (hc := h1)); (simp only [go_sem]) | (first | refine cdq ?_ (hc := h2) | refine cmq ?_ (hc := h2) | refine ctq ?_ (hc := h2)); (simp only [go_sem]) | (first | refine cdq ?_ (hc := h6) | refine cmq ?_ (hc := h6) | refine ctq ?_ (hc := h6)); (simp only [go_sem]) | (first | refine cdq ?_ (hc := hsm) | refine cmq ?_ (hc := hsm) | refine ctq ?_ (hc := hsm)); (simp only [go_sem]) | ((first | refine mxq6 [] ?_ | refine mxq5 [] ?_ | refine mxq4 [] ?_ | refine mxq3 [] ?_ | refine mxq2 [] ?_ | refine mxq1 [] ?_ | refine mxq0 [] ?_ | fail); (simp only [go_sem])) | fail)
        all_goals (refine hR _ (rat [] (hK := ⟨rfl, rfl⟩)))
    · rw [ev] at h6
      have tri : f < 0 ∨ 300 ≤ f ∨ (0 ≤ f ∧ f < 300) := by omega
      rcases tri with hfr | hfr | hfr
      · have b3 : decide (f < 0) = true := by simpa using hfr
        generalize x.evalV f = r at *
        rcases r with e | e | b | _ | _
        all_goals
          simp only [ecT, SC.etm, SC.ecode, SC.tm, SC.code, SC.lab, tm0, noTy] at h1 h2 hsm
          repeat' (first | (first | (simp only [go_sem, b3]) | (((first | apply sp1 | apply sp2 | apply sp3 | apply sp4 | apply sp5 | apply sp6 | apply sp7) <;> intro hb) <;> (simp only [go_sem, hb, b3])) | ((first | apply wm_done | apply wt_done | apply wg_run | refine fk ?_ ?_) <;> (simp only [go_sem, b3]))) | (first | refine cdq ?_ (hc := h1) | refine cmq ?_ (hc := h1) | refine ctq ?_ (hc := h1)); (simp only [go_sem]) | (first | refine cdq ?_ (hc := h2) | refine cmq ?_ (hc := h2) | refine ctq ?_ (hc := h2)); (simp only [go_sem]) | (first | refine cdq ?_ (hc := h6) | refine cmq ?_ (hc := h6) | refine ctq ?_ (hc := h6)); (simp only [go_sem]) | (first | refine cdq ?_ (hc := hsm) | refine cmq ?_ (hc := hsm) | refine ctq ?_ (hc := hsm)); (simp only [go_sem]) | ((first | refine mxq6 [] ?_ | refine mxq5 [] ?_ | refine mxq4 [] ?_ | refine mxq3 [] ?_ | refine mxq2 [] ?_ | refine mxq1 [] ?_ | refine mxq0 [] ?_ | fail); (simp only [go_sem, b3])) | fail)
          all_goals (refine hR _ (rat [] (hK := ⟨rfl, rfl⟩)))
      · have b3 : decide (f < 0) = false := by simp; omega
        have b4 : decide (f ≥ 300) = true := by simpa using hfr
        generalize x.evalV f = r at *
        rcases r with e | e | b | _ | _
        all_goals
          simp only [ecT, SC.etm, SC.ecode, SC.tm, SC.code, SC.lab, tm0, noTy] at h1 h2 hsm
          repeat' (first | (first | (simp only [go_sem, b3, b4]) | (((first | apply sp1 | apply sp2 | apply sp3 | apply sp4 | apply sp5 | apply sp6 | apply sp7) <;> intro hb) <;> (simp only [go_sem, hb, b3, b4])) | ((first | apply wm_done | apply wt_done | apply wg_run | refine fk ?_ ?_) <;> (simp only [go_sem, b3, b4]))) | (first | refine cdq ?_ (hc := h1) | refine cmq ?_ (hc := h1) | refine ctq ?_ (hc := h1)); (simp only [go_sem]) | (first | refine cdq ?_ (hc := h2) | refine cmq ?_ (hc := h2) | refine ctq ?_ (hc := h2)); (simp only [go_sem]) | (first | refine cdq ?_ (hc := h6) | refine cmq ?_ (hc := h6) | refine ctq ?_ (hc := h6)); (simp only [go_sem]) | (first | refine cdq ?_ (hc := hsm) | refine cmq ?_ (hc := hsm) | refine ctq ?_ (hc := hsm)); (simp only [go_sem]) | ((first | refine mxq6 [] ?_ | refine mxq5 [] ?_ | refine mxq4 [] ?_ | refine mxq3 [] ?_ | refine mxq2 [] ?_ | refine mxq1 [] ?_ | refine mxq0 [] ?_ | fail); (simp only [go_sem, b3, b4])) | fail)
          all_goals (refine hR _ (rat [] (hK := ⟨rfl, rfl⟩)))
      · have b3 : decide (f < 0) = false := by simp; omega
        have b4 : decide (f ≥ 300) = false := by simp; omega
        have hw : IntKind.i64.wrap (f + 1) = f + 1 := IntWalk.i64_in _ (by omega)
        have h3 := iEvalV (nd 12 [nd 10 [(E.num 4).tm, x]]) (f + 1)
        have hev := @Tm.evalV_part x f
        have h0 := iEvalV (nd 12 [nd 10 [(E.num 4).tm, x]]) (f + 1)
        have hsz := (nd 12 [nd 10 [(E.num 4).tm, x]]).evalV_size (f + 1)
        generalize hq : (nd 12 [nd 10 [(E.num 4).tm, x]]).evalV (f + 1) = r2 at *
        generalize x.evalV f = r at *
        rcases r with e | e | b | _ | _
        case took =>
          -- more fuel would be needed
          have hsw : ∀ a : Tm, a.size ≤ 8000 → ∃ z, AFn Tryz.prog 23 [.agg (teC tm0), .agg (teC a)] (.one (.sc (.bool z))) := fun a ha => ⟨_, iTmSame 4611686018427387904 (by omega) tm0 a (by simp [tm0, Tm.size, Tm.sizes, noTy, Ty.size, Ty.sizes])⟩
          simp only [ecT, SC.etm, SC.ecode, SC.tm, SC.code, SC.lab, tm0, noTy] at h1 h2 hsm
          rcases r2 with e | e | b | _ | _
          all_goals
            simp only [ecT, SC.etm, SC.ecode, SC.tm, SC.code, SC.lab, tm0, noTy] at h3
            repeat' (first | (first | (simp only [go_sem, b3, b4, hw, beq_self_eq_true]) | (((first | apply sp1 | apply sp2 | apply sp3 | apply sp4 | apply sp5 | apply sp6 | apply sp7) <;> intro hb) <;> (simp only [go_sem, hb, b3, b4, hw, beq_self_eq_true])) | ((first | apply wm_done | apply wt_done | apply wg_run | refine fk ?_ ?_) <;> (simp only [go_sem, b3, b4, hw, beq_self_eq_true]))) | (first | refine cdq ?_ (hc := h1) | refine cmq ?_ (hc := h1) | refine ctq ?_ (hc := h1)); (simp only [go_sem]) | (first | refine cdq ?_ (hc := h2) | refine cmq ?_ (hc := h2) | refine ctq ?_ (hc := h2)); (simp only [go_sem]) | (first | refine cdq ?_ (hc := h3) | refine cmq ?_ (hc := h3) | refine ctq ?_ (hc := h3)); (simp only [go_sem]) | (first | refine cdq ?_ (hc := h6) | refine cmq ?_ (hc := h6) | refine ctq ?_ (hc := h6)); (simp only [go_sem]) | (first | refine cdq ?_ (hc := hsm) | refine cmq ?_ (hc := hsm) | refine ctq ?_ (hc := hsm)); (simp only [go_sem]) | ((first | refine mxq6 [] ?_ | refine mxq5 [] ?_ | refine mxq4 [] ?_ | refine mxq3 [] ?_ | refine mxq2 [] ?_ | refine mxq1 [] ?_ | refine mxq0 [] ?_ | fail); (simp only [go_sem, b3, b4, hw, beq_self_eq_true])) | fail)
            all_goals (refine hR _ (rat [] (hK := ⟨rfl, rfl⟩)))
        all_goals
          rcases hev ev hfr.1 hfr.2 rfl with hh | hh
          all_goals
            subst hh
            simp only [ecT, SC.etm, SC.ecode, SC.tm, SC.code, SC.lab, tm0, noTy] at h1 h2 h3 hsm
            repeat' (first | (first | (simp only [go_sem, b3, b4, hw, beq_self_eq_true]) | (((first | apply sp1 | apply sp2 | apply sp3 | apply sp4 | apply sp5 | apply sp6 | apply sp7) <;> intro hb) <;> (simp only [go_sem, hb, b3, b4, hw, beq_self_eq_true])) | ((first | apply wm_done | apply wt_done | apply wg_run | refine fk ?_ ?_) <;> (simp only [go_sem, b3, b4, hw, beq_self_eq_true]))) | (first | refine cdq ?_ (hc := h1) | refine cmq ?_ (hc := h1) | refine ctq ?_ (hc := h1)); (simp only [go_sem]) | (first | refine cdq ?_ (hc := h2) | refine cmq ?_ (hc := h2) | refine ctq ?_ (hc := h2)); (simp only [go_sem]) | (first | refine cdq ?_ (hc := h3) | refine cmq ?_ (hc := h3) | refine ctq ?_ (hc := h3)); (simp only [go_sem]) | (first | refine cdq ?_ (hc := h6) | refine cmq ?_ (hc := h6) | refine ctq ?_ (hc := h6)); (simp only [go_sem]) | (first | refine cdq ?_ (hc := hsm) | refine cmq ?_ (hc := hsm) | refine ctq ?_ (hc := hsm)); (simp only [go_sem]) | ((first | refine mxq6 [] ?_ | refine mxq5 [] ?_ | refine mxq4 [] ?_ | refine mxq3 [] ?_ | refine mxq2 [] ?_ | refine mxq1 [] ?_ | refine mxq0 [] ?_ | fail); (simp only [go_sem, b3, b4, hw, beq_self_eq_true])) | fail)
            all_goals (refine hR _ (rat [] (hK := ⟨rfl, rfl⟩)))
end Go.Proofs.YtjmicohbnpbemaaGreat
