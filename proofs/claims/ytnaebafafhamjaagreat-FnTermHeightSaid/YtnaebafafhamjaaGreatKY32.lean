/- Texts of the proof, one behind another. -/
import Derived.Test.YtnaebafafhamjaaGreatRows
import Derived.ProofKit
import Derived.OpenShut
import Derived.Test.YtnaebafafhamjaaGreatKY13
import Derived.Test.YtnaebafafhamjaaGreatKY14
import Derived.Test.YtnaebafafhamjaaGreatKY15
import Derived.Test.YtnaebafafhamjaaGreatKY18
import Derived.Test.YtnaebafafhamjaaGreatKY19
import Derived.Test.YtnaebafafhamjaaGreatKY31
set_option linter.unusedSimpArgs false
set_option linter.unusedVariables false
/- Laws of evaluation: fuel, steps, contexts. No program, no world. -/
namespace Go.Proofs.Grad
end Go.Proofs.Grad
/- Laws of steps: types are kept, and typed terms go on. No program, no world. -/
namespace Go.Proofs.Grad
end Go.Proofs.Grad
/- The height of a cast to the unknown type. On shadows. -/
namespace Go.Proofs.Grad
theorem Tm.castV_any {t : T} {x : Tm} (h : (Tm.mk 14 ByteArray.empty 0 T.any.ty t.ty 7 [x]).castV = true) : ∃ a : E, a.tm = x ∧ a.okC = true ∧ (E.cast t .any 7 a).okC = true := by
  obtain ⟨y, hy, ho⟩ := Tm.castV_E h
  cases y <;> simp only [E.tm, nd, Tm.mk.injEq, List.cons.injEq, List.cons_ne_nil, reduceCtorEq, false_and, and_false, true_and, and_true] at hy <;> (try (exfalso; omega))
  rename_i s u k a
  obtain ⟨h1, h2, h3, h4⟩ := hy
  have e1 := T.ty_inj _ _ h1
  have e2 := T.ty_inj _ _ h2
  subst e1 e2 h3 h4
  refine ⟨a, rfl, ?_, ho⟩
  simp only [E.okC, E.wf, E.noA, E.depth, E.nodes, Bool.and_eq_true] at ho ⊢
  have g1 := of_decide_eq_true ho.2.2.1
  have g2 := of_decide_eq_true ho.2.2.2
  exact ⟨ho.1.2.2.2, ho.2.1, decide_eq_true (by omega), decide_eq_true (by omega)⟩
end Go.Proofs.Grad
namespace Go.Proofs.YtnaebafafhamjaaGreat
open Go.RowKit Go.Proofs.Sh Go.Proofs.Grad
set_option maxRecDepth 100000
set_option maxHeartbeats 16000000
theorem dTermHeight (l : List Int) (hl : Code8 l) : ACl Tryz.prog 18 [.one (.sl (byR l))] [] OneX := by
  have ho := dCastValid l hl
  refine acl_in Tryz.func18 rfl isfn_18 (Nat.le_of_ble_eq_true rfl) (fun R hR => ?_); rw [Tryz.results18] at hR; refine wg_run ?_; (simp only [Tryz.f18, go_sem])
  repeat' (first | (first | (((first | apply sp1 | apply sp2 | apply sp3 | apply sp4 | apply sp5 | apply sp6 | apply sp7) <;> intro hb) <;> (simp only [go_sem, hb])) | ((first | apply wm_done | apply wt_done | apply wg_run | refine fk ?_ ?_) <;> (simp only [go_sem]))) | fail)
  ((first | refine kdq [] ?_ (hc := ho) | refine kmq [] ?_ (hc := ho) | refine ktq [] ?_ (hc := ho)); rintro _ _ ⟨x, rfl, hx, rfl⟩ <;> (simp only [go_sem]))
  repeat' (first | (first | (((first | apply sp1 | apply sp2 | apply sp3 | apply sp4 | apply sp5 | apply sp6 | apply sp7) <;> intro hb) <;> (simp only [go_sem, hb])) | ((first | apply wm_done | apply wt_done | apply wg_run | refine fk ?_ ?_) <;> (simp only [go_sem]))) | fail)
  exact hR _ (rat [] (hK := ⟨x, rfl, hx, rfl⟩))
theorem lTermHeight (l : List Int) (hc : ∀ k, 0 ≤ byte l k ∧ byte l k < 256) : AFn Tryz.prog 5 [.one (.sl (byR l))] (.one (.sc (.bool true))) := by
  by_cases hlen : 1048576 < l.length
  · have hg : decide (((l.length : Nat) : Int) > 1048576) = true := by simp; omega
    refine fn_in ?_; refine acl_in Tryz.func5 rfl isfn_5 (Nat.le_of_ble_eq_true rfl) (fun R hR => ?_); rw [Tryz.results5] at hR; refine wg_run ?_; (simp only [Tryz.f5, go_sem, hg])
    (refine hR _ (rat [] (hK := ⟨rfl, rfl⟩)))
  · have hg : decide (((l.length : Nat) : Int) > 1048576) = false := by simp; omega
    have hd := dTermHeight l ⟨by omega, hc⟩
    refine fn_in ?_; refine acl_in Tryz.func5 rfl isfn_5 (Nat.le_of_ble_eq_true rfl) (fun R hR => ?_); rw [Tryz.results5] at hR; refine wg_run ?_; (simp only [Tryz.f5, go_sem, hg])
    ((first | refine kdq [] ?_ (hc := hd) | refine kmq [] ?_ (hc := hd) | refine ktq [] ?_ (hc := hd)); rintro _ _ ⟨x, rfl, hx, rfl⟩ <;> (simp only [go_sem]))
    have h1 := iTermHeight x (by omega)
    have h2 := sTermHeight x (by omega)
    have h3 := iCastTypeOf x
    cases ct : x.ctype with
    | none =>
      rw [ct] at h3
      simp only [tyI, noTy] at h3
      generalize Tm.heightV x = n at *
      repeat' (first | (first | (simp only [go_sem, int_bne, beq_self_eq_true]) | (((first | apply sp1 | apply sp2 | apply sp3 | apply sp4 | apply sp5 | apply sp6 | apply sp7) <;> intro hb) <;> (simp only [go_sem, hb, int_bne, beq_self_eq_true])) | ((first | apply wm_done | apply wt_done | apply wg_run | refine fk ?_ ?_) <;> (simp only [go_sem, int_bne, beq_self_eq_true]))) | (first | refine cdq ?_ (hc := h1) | refine cmq ?_ (hc := h1) | refine ctq ?_ (hc := h1)); (simp only [go_sem]) | (first | refine cdq ?_ (hc := h2) | refine cmq ?_ (hc := h2) | refine ctq ?_ (hc := h2)); (simp only [go_sem]) | (first | refine cdq ?_ (hc := h3) | refine cmq ?_ (hc := h3) | refine ctq ?_ (hc := h3)); (simp only [go_sem]) | ((first | refine mxq6 [] ?_ | refine mxq5 [] ?_ | refine mxq4 [] ?_ | refine mxq3 [] ?_ | refine mxq2 [] ?_ | refine mxq1 [] ?_ | refine mxq0 [] ?_ | fail); (simp only [go_sem, int_bne, beq_self_eq_true])) | fail)
      all_goals (refine hR _ (rat [] (hK := ⟨rfl, rfl⟩)))
    | some t =>
      rw [ct] at h3
      simp only [tyI] at h3
      have h4 := iCastV (Tm.mk 14 ByteArray.empty 0 T.any.ty t.ty 7 [x])
      cases ev : (Tm.mk 14 ByteArray.empty 0 T.any.ty t.ty 7 [x]).castV
      · rw [ev] at h4
        generalize Tm.heightV x = n at *
        repeat' (first | (first | (simp only [go_sem, int_bne, beq_self_eq_true]) | (((first | apply sp1 | apply sp2 | apply sp3 | apply sp4 | apply sp5 | apply sp6 | apply sp7) <;> intro hb) <;> (simp only [go_sem, hb, int_bne, beq_self_eq_true])) | ((first | apply wm_done | apply wt_done | apply wg_run | refine fk ?_ ?_) <;> (simp only [go_sem, int_bne, beq_self_eq_true]))) | (first | refine cdq ?_ (hc := h1) | refine cmq ?_ (hc := h1) | refine ctq ?_ (hc := h1)); (simp only [go_sem]) | (first | refine cdq ?_ (hc := h2) | refine cmq ?_ (hc := h2) | refine ctq ?_ (hc := h2)); (simp only [go_sem]) | (first | refine cdq ?_ (hc := h3) | refine cmq ?_ (hc := h3) | refine ctq ?_ (hc := h3)); (simp only [go_sem]) | (first | refine cdq ?_ (hc := h4) | refine cmq ?_ (hc := h4) | refine ctq ?_ (hc := h4)); (simp only [go_sem]) | ((first | refine mxq6 [] ?_ | refine mxq5 [] ?_ | refine mxq4 [] ?_ | refine mxq3 [] ?_ | refine mxq2 [] ?_ | refine mxq1 [] ?_ | refine mxq0 [] ?_ | fail); (simp only [go_sem, int_bne, beq_self_eq_true])) | fail)
        all_goals (refine hR _ (rat [] (hK := ⟨rfl, rfl⟩)))
      · rw [ev] at h4
        obtain ⟨e, rfl, he, ho⟩ := Tm.castV_any ev
        have hdt : t.depth ≤ 4 ∧ t.cons .any = true := by
          simp only [E.okC, E.wf, Bool.and_eq_true, decide_eq_true_eq] at ho
          exact ⟨ho.1.1.1, ho.1.2.1⟩
        have hco : t.ty.castV T.any.ty 7 = some (T.cast t .any 7) := by
          unfold Ty.castV
          rw [Ty.t?_ty hdt.1, Ty.t?_ty (by decide : T.any.depth ≤ 4)]
          simp only [hdt.2]
          rfl
        have h5 := iCoerceOf t.ty T.any.ty 7
        rw [hco] at h5
        simp only [K.coO, Option.isSome] at h5
        have hok : (T.cast t .any 7).ok = true := by
          have g1 := T.cast_wf t .any 7 (by decide)
          have g2 := T.cast_depth t .any 7
          have g3 : T.any.depth = 1 := rfl
          simp only [K.ok, g1, Bool.true_and, decide_eq_true_eq]
          have := hdt.1
          omega
        have h6 := iHeight (T.cast t .any 7).co
        rw [K.co_height hok] at h6
        have h7 := iTermHeight (Tm.mk 14 ByteArray.empty 0 T.any.ty t.ty 7 [e.tm]) (by have := T.ty_size16 hdt.1; simp only [Tm.size, Tm.sizes, T.ty, Ty.size, Ty.sizes]; omega)
        have hh : Tm.heightV (Tm.mk 14 ByteArray.empty 0 T.any.ty t.ty 7 [e.tm]) = max (T.cast t .any 7).height (Tm.heightV e.tm) := by
          obtain ⟨e1, g1, _, g3⟩ := (Tm.heightV_spec (Tm.mk 14 ByteArray.empty 0 T.any.ty t.ty 7 [e.tm])).1 ev
          obtain ⟨e2, g4, _, g6⟩ := (Tm.heightV_spec e.tm).1 (by rw [E.castV_tm]; exact he)
          have g7 : e1 = .cast t .any 7 e := E.tm_inj _ _ (by rw [g1]; rfl)
          have g8 : e2 = e := E.tm_inj _ _ g4
          subst g7 g8
          rw [g3, g6, E.height]
        rw [hh] at h7
        generalize Tm.heightV e.tm = n at *
        generalize (T.cast t .any 7).height = m at *
        generalize (T.cast t .any 7).co = c at *
        by_cases hmn : m < n
        · have b1 : decide (((m : Nat) : Int) < ((n : Nat) : Int)) = true := decide_eq_true (by omega)
          rw [Nat.max_eq_right (by omega)] at h7
          repeat' (first | (first | (simp only [go_sem, b1, int_bne, beq_self_eq_true]) | (((first | apply sp1 | apply sp2 | apply sp3 | apply sp4 | apply sp5 | apply sp6 | apply sp7) <;> intro hb) <;> (simp only [go_sem, hb, b1, int_bne, beq_self_eq_true])) | ((first | apply wm_done | apply wt_done | apply wg_run | refine fk ?_ ?_) <;> (simp only [go_sem, b1, int_bne, beq_self_eq_true]))) | (first | refine cdq ?_ (hc := h1) | refine cmq ?_ (hc := h1) | refine ctq ?_ (hc := h1)); (simp only [go_sem]) | (first | refine cdq ?_ (hc := h2) | refine cmq ?_ (hc := h2) | refine ctq ?_ (hc := h2)); (simp only [go_sem]) | (first | refine cdq ?_ (hc := h3) | refine cmq ?_ (hc := h3) | refine ctq ?_ (hc := h3)); (simp only [go_sem]) | (first | refine cdq ?_ (hc := h4) | refine cmq ?_ (hc := h4) | refine ctq ?_ (hc := h4)); (simp only [go_sem]) | (first | refine cdq ?_ (hc := h5) | refine cmq ?_ (hc := h5) | refine ctq ?_ (hc := h5)); (simp only [go_sem]) | (first | refine cdq ?_ (hc := h6) | refine cmq ?_ (hc := h6) | refine ctq ?_ (hc := h6)); (simp only [go_sem]) | (first | refine cdq ?_ (hc := h7) | refine cmq ?_ (hc := h7) | refine ctq ?_ (hc := h7)); (simp only [go_sem]) | ((first | refine mxq6 [] ?_ | refine mxq5 [] ?_ | refine mxq4 [] ?_ | refine mxq3 [] ?_ | refine mxq2 [] ?_ | refine mxq1 [] ?_ | refine mxq0 [] ?_ | fail); (simp only [go_sem, b1, int_bne, beq_self_eq_true])) | fail)
          all_goals (refine hR _ (rat [] (hK := ⟨rfl, rfl⟩)))
        · have b1 : decide (((m : Nat) : Int) < ((n : Nat) : Int)) = false := decide_eq_false (by omega)
          rw [Nat.max_eq_left (by omega)] at h7
          repeat' (first | (first | (simp only [go_sem, b1, int_bne, beq_self_eq_true]) | (((first | apply sp1 | apply sp2 | apply sp3 | apply sp4 | apply sp5 | apply sp6 | apply sp7) <;> intro hb) <;> (simp only [go_sem, hb, b1, int_bne, beq_self_eq_true])) | ((first | apply wm_done | apply wt_done | apply wg_run | refine fk ?_ ?_) <;> (simp only [go_sem, b1, int_bne, beq_self_eq_true]))) | (first | refine cdq ?_ (hc := h1) | refine cmq ?_ (hc := h1) | refine ctq ?_ (hc := h1)); (simp only [go_sem]) | (first | refine cdq ?_ (hc := h2) | refine cmq ?_ (hc := h2) | refine ctq ?_ (hc := h2)); (simp only [go_sem]) | (first | refine cdq ?_ (hc := h3) | refine cmq ?_ (hc := h3) | refine ctq ?_ (hc := h3)); (simp only [go_sem]) | (first | refine cdq ?_ (hc := h4) | refine cmq ?_ (hc := h4) | refine ctq ?_ (hc := h4)); (simp only [go_sem]) | (first | refine cdq ?_ (hc := h5) | refine cmq ?_ (hc := h5) | refine ctq ?_ (hc := h5)); (simp only [go_sem]) | (first | refine cdq ?_ (hc := h6) | refine cmq ?_ (hc := h6) | refine ctq ?_ (hc := h6)); (simp only [go_sem]) | (first | refine cdq ?_ (hc := h7) | refine cmq ?_ (hc := h7) | refine ctq ?_ (hc := h7)); (simp only [go_sem]) | ((first | refine mxq6 [] ?_ | refine mxq5 [] ?_ | refine mxq4 [] ?_ | refine mxq3 [] ?_ | refine mxq2 [] ?_ | refine mxq1 [] ?_ | refine mxq0 [] ?_ | fail); (simp only [go_sem, b1, int_bne, beq_self_eq_true])) | fail)
          all_goals (refine hR _ (rat [] (hK := ⟨rfl, rfl⟩)))
end Go.Proofs.YtnaebafafhamjaaGreat
/- From contracts on shadows to calls in worlds; a law's argument of bytes. -/
namespace Go.Proofs.Sh
open Go.RowKit
theorem sim_nil (w : World) : Sim [] [] [] w :=
  ⟨rfl, by simp, by simp, fun i b g h => by simp at h, fun i j b b' g _ h => by simp at h, fun i b g h => by simp at h⟩
theorem law_calls {P : Program} {f : FuncId} {args : List AV} {vs : Array Value} {w : World} (h : AFn P f args (.one (.sc (.bool true)))) (hr : AV.repl [] [] w args vs.toList) :
    Calls P f vs w (fun e w' => e = .returned (.bool true) ∧ Below w.heap.size w w') := by
  refine (h.out.2 [] [] w vs (sim_nil w) hr).mono ?_
  rintro e w' ⟨r, H', μ', v, rfl, ⟨rfl, rfl⟩, hS, hT, hv⟩
  simp only [AV.rep, C.rep] at hv
  refine ⟨by rw [hv.1], hT.keep.os, hT.keep.tape, hT.keep.output, hT.keep.size, fun b hb => hT.keep.block b (by simp [alive]) hb⟩
/-- bytes in memory -/
def Byt (w : World) (q : Option Addr) (n c : Nat) : Prop :=
  n ≤ c ∧ c ≤ maxLen ∧ ∀ i, i < n → ∃ b off, ∃ x : Int, q = some ⟨b, off, none⟩ ∧ b < w.heap.size ∧ w.cell? ⟨b, off + i, none⟩ = some (.int .u8 x) ∧ 0 ≤ x ∧ x ≤ 255
def byAt (w : World) (b off i : Nat) : Int := match w.cell? ⟨b, off + i, none⟩ with | some (.int _ x) => x | _ => 0
theorem repss_by {w : World} {b : Nat} : ∀ (l : List Int) (off : Nat), (∀ i (h : i < l.length), w.cell? ⟨b, off + i, none⟩ = some (.int .u8 l[i])) → C.repss [] [] w 1 (byR l) b off
  | [], _, _ => trivial
  | x :: l, off, h => by
    have h0 : w.cell? ⟨b, off, none⟩ = some (.int .u8 x) := h 0 (by simp)
    refine ⟨rfl, ⟨⟨_, h0, ⟨rfl, rfl⟩⟩, trivial⟩, repss_by l (off + 1) fun i hi => ?_⟩
    have := h (i + 1) (by simpa using hi)
    rw [show off + 1 + i = off + (i + 1) by omega]
    simpa using this
theorem Byt.rep {w : World} {q : Option Addr} {n c : Nat} (h : Byt w q n c) : ∃ l : List Int, (∀ k, 0 ≤ byte l k ∧ byte l k < 256) ∧ AV.rep [] [] w (.one (.sl (byR l))) (.slice q n c) := by
  obtain ⟨h1, h2, h3⟩ := h
  cases n with
  | zero =>
    refine ⟨[], fun k => by simp [byte], ?_⟩
    simp only [AV.rep, C.rep]
    exact ⟨q, c, rfl, by simp [byR], h2, .inl rfl⟩
  | succ n =>
    obtain ⟨b, off, x0, rfl, hb, _⟩ := h3 0 (by omega)
    have h4 : ∀ i, i < n + 1 → w.cell? ⟨b, off + i, none⟩ = some (.int .u8 (byAt w b off i)) ∧ 0 ≤ byAt w b off i ∧ byAt w b off i ≤ 255 := by
      intro i hi
      obtain ⟨b', off', x, e, _, g1, g2, g3⟩ := h3 i hi
      cases e
      simp only [byAt, g1]
      exact ⟨trivial, g2, g3⟩
    refine ⟨(List.range (n + 1)).map (byAt w b off), fun k => ?_, ?_⟩
    · by_cases hk : k < n + 1
      · have := h4 k hk
        simp [byte, hk]; omega
      · simp [byte, hk]
    · simp only [AV.rep, C.rep]
      refine ⟨_, c, by simp [byR_length], by simpa [byR_length] using h1, h2, .inr ⟨b, off, 1, rfl, hb, by simp, repss_by _ _ fun i hi => ?_⟩⟩
      simp at hi
      simpa using (h4 i hi).1
end Go.Proofs.Sh
namespace Go.Proofs.YtnaebafafhamjaaGreat
open Go.RowKit Go.Proofs.Sh
open Go.ChangeShapes Go.WideShapes Go.ChangeAt
theorem own_k : ownKnob Tryz.prog.godebug = none := by kernel_rfl
theorem laid_k : laidOutB Tryz.prog = true := by kernel_rfl
variable {H : Type} {enc : TypeId × Value → H} {w : World} {base : Nat} {spare : Nat → Bool} {held : Bool}
theorem add_no {b o k : Nat} : (⟨b, o, none⟩ : Addr).add k = ⟨b, o + k, none⟩ := by
  unfold Addr.add; split <;> simp_all
theorem spot_no {a : Addr} {v : Value} (h : w.cell? a = some v) : a.spot = none := by
  obtain ⟨b, o, s⟩ := a
  cases s with
  | none => rfl
  | some s =>
    simp only [World.cell?] at h
    split at h <;> simp at h
theorem read_Byt {fuel : Nat} {v : Value} {x : DataW H × List MemPlace} (h : DataW.trod enc Tryz.prog w base spare held fuel 22 [v] = some x) :
    ∃ (q : Option Addr) (n c : Nat), v = .slice q n c ∧ Byt w q n c := by
  have hc1 : Tryz.prog.cellsOf 5 = 1 := by kernel_rfl
  rcases DataW.trod_slice Tryz.underlying22 h with ⟨e1, _⟩ | ⟨a, len, cap, elems, rest, m', hm', e1, _, hb, hlc, hcm, hel, hall, _, _⟩
  · simp at e1
    subst e1
    exact ⟨none, 0, 0, rfl, by omega, by simp [maxLen], fun i hi => by omega⟩
  · simp at e1
    subst e1
    have hcell : ∀ i, i < len → ∃ k : Int, w.cell? (a.add i) = some (.int .u8 k) ∧ (Lit.int IntKind.u8 k).wf = true := by
      intro i hi
      have h1 := hall i hi
      rw [hc1, List.getElem?_eq_getElem (by omega), Nat.mul_one] at h1
      cases h2 : w.cells? base (a.add i) 1 with
      | none => rw [h2] at h1; simp at h1
      | some ds =>
        rw [h2] at h1
        simp only [Option.bind_some] at h1
        obtain ⟨k, e0, k1, k2⟩ := DataW.trod_int Tryz.underlying5 h1
        subst e0
        have h3 : w.cell? (a.add i) = some (.int .u8 k) := by
          unfold World.cells? at h2
          split at h2
          · simp only [List.range_succ, List.range_zero, List.nil_append, List.mapM_cons, List.mapM_nil, Option.pure_def, Option.bind_eq_bind] at h2
            cases h0 : w.cell? ((a.add i).add 0) with
            | none => simp [h0] at h2
            | some u =>
              simp [h0] at h2
              have e0 : (a.add i).add 0 = a.add i := by simp [Addr.add]
              rw [e0] at h0; rw [h0, h2]
          · cases h2
        exact ⟨k, h3, k2⟩
    refine ⟨some a, len, cap, rfl, hlc, hcm, fun i hi => ?_⟩
    have hs : a.spot = none := by
      obtain ⟨k, h3, _⟩ := hcell 0 (by omega)
      have := spot_no h3
      simp [Addr.add] at this
      exact this
    obtain ⟨k, h3, k2⟩ := hcell i hi
    obtain ⟨b, o, s⟩ := a
    simp at hs
    subst hs
    rw [add_no] at h3
    refine ⟨b, o, k, rfl, lt_of_cell h3, h3, ?_⟩
    simp [Lit.wf, IntKind.min, IntKind.max, IntKind.signed, IntKind.bits] at k2
    omega
set_option maxRecDepth 100000 in
theorem open_Byt {v : Value} {d : DataW H} {p : List MemPlace} {r : Reach} {b0 : Nat} (hv : Value.okWide Tryz.prog w r b0 22 v) (h : DataW.Trod enc Tryz.prog w base spare held 22 v d p) :
    ∃ (q : Option Addr) (n c : Nat), v = .slice q n c ∧ Byt w q n c := by
  obtain ⟨a, len, cap, rfl⟩ := okWide_slice Tryz.underlying22 hv
  obtain ⟨fuel, hf⟩ := h
  exact read_Byt hf
end Go.Proofs.YtnaebafafhamjaaGreat
