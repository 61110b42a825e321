/- Texts of the proof, one behind another. -/
import Derived.Test.YtbiobfbonpiiiaaRows
import Derived.ProofKit
import Derived.OpenShut
import Derived.Test.YtbiobfbonpiiiaaKV14
import Derived.Test.YtbiobfbonpiiiaaKV15
import Derived.Test.YtbiobfbonpiiiaaKV18
import Derived.Test.YtbiobfbonpiiiaaKV19
set_option linter.unusedSimpArgs false
set_option linter.unusedVariables false
/- Typing of coercions: the reference, and behind validity. On shadows. -/
namespace Go.Proofs.Ytbiobfbonpiiiaa
open Go.RowKit Go.Proofs.Sh Go.Proofs.Grad
set_option maxRecDepth 100000
set_option maxHeartbeats 8000000
theorem iTyped (c : Co) (a b : Ty) : AFn Try.prog 18 [.agg (coC c), .agg (tyC a), .agg (tyC b)] (.one (.sc (.bool (c.typedV a b)))) := by
  have vc := coValid c
  have va := iValid a
  have vb := iValid b
  cases ec : c.k? with
  | none =>
    rw [Co.k?_none ec] at vc
    rw [show c.typedV a b = false by simp [Co.typedV, ec]]
    refine fn_in ?_; refine acl_in Try.func18 rfl isfn_18 (Nat.le_of_ble_eq_true rfl) (fun R hR => ?_); rw [Try.results18] at hR; refine wg_run ?_; (simp only [Try.f18, go_sem])
    repeat' (first | (first | (((first | apply sp1 | apply sp2 | apply sp3 | apply sp4 | apply sp5 | apply sp6 | apply sp7) <;> intro hb) <;> (simp only [go_sem, hb])) | ((first | apply wm_done | apply wt_done | apply wg_run | refine fk ?_ ?_) <;> (simp only [go_sem]))) | (first | refine cdq ?_ (hc := vc) | refine cmq ?_ (hc := vc) | refine ctq ?_ (hc := vc)); (simp only [go_sem]) | ((first | refine mxq6 [] ?_ | refine mxq5 [] ?_ | refine mxq4 [] ?_ | refine mxq3 [] ?_ | refine mxq2 [] ?_ | refine mxq1 [] ?_ | refine mxq0 [] ?_ | fail); (simp only [go_sem])))
    all_goals (refine hR _ (rat [] (hK := ⟨rfl, rfl⟩)))
  | some k =>
    obtain ⟨rfl, hk⟩ := Co.k?_some ec
    rw [K.ok_valid, hk] at vc
    cases ea : a.valid with
    | false =>
      rw [ea] at va
      rw [show k.co.typedV a b = false by simp [Co.typedV, ec, Ty.t?_none ea]]
      refine fn_in ?_; refine acl_in Try.func18 rfl isfn_18 (Nat.le_of_ble_eq_true rfl) (fun R hR => ?_); rw [Try.results18] at hR; refine wg_run ?_; (simp only [Try.f18, go_sem])
      repeat' (first | (first | (((first | apply sp1 | apply sp2 | apply sp3 | apply sp4 | apply sp5 | apply sp6 | apply sp7) <;> intro hb) <;> (simp only [go_sem, hb])) | ((first | apply wm_done | apply wt_done | apply wg_run | refine fk ?_ ?_) <;> (simp only [go_sem]))) | (first | refine cdq ?_ (hc := vc) | refine cmq ?_ (hc := vc) | refine ctq ?_ (hc := vc)); (simp only [go_sem]) | (first | refine cdq ?_ (hc := va) | refine cmq ?_ (hc := va) | refine ctq ?_ (hc := va)); (simp only [go_sem]) | ((first | refine mxq6 [] ?_ | refine mxq5 [] ?_ | refine mxq4 [] ?_ | refine mxq3 [] ?_ | refine mxq2 [] ?_ | refine mxq1 [] ?_ | refine mxq0 [] ?_ | fail); (simp only [go_sem])))
      all_goals (refine hR _ (rat [] (hK := ⟨rfl, rfl⟩)))
    | true =>
      rw [ea] at va
      obtain ⟨x, rfl, hx⟩ := (Ty.valid_iff a).1 ea
      cases eb : b.valid with
      | false =>
        rw [eb] at vb
        rw [show k.co.typedV x.ty b = false by simp [Co.typedV, ec, Ty.t?_ty hx, Ty.t?_none eb]]
        refine fn_in ?_; refine acl_in Try.func18 rfl isfn_18 (Nat.le_of_ble_eq_true rfl) (fun R hR => ?_); rw [Try.results18] at hR; refine wg_run ?_; (simp only [Try.f18, go_sem])
        repeat' (first | (first | (((first | apply sp1 | apply sp2 | apply sp3 | apply sp4 | apply sp5 | apply sp6 | apply sp7) <;> intro hb) <;> (simp only [go_sem, hb])) | ((first | apply wm_done | apply wt_done | apply wg_run | refine fk ?_ ?_) <;> (simp only [go_sem]))) | (first | refine cdq ?_ (hc := vc) | refine cmq ?_ (hc := vc) | refine ctq ?_ (hc := vc)); (simp only [go_sem]) | (first | refine cdq ?_ (hc := va) | refine cmq ?_ (hc := va) | refine ctq ?_ (hc := va)); (simp only [go_sem]) | (first | refine cdq ?_ (hc := vb) | refine cmq ?_ (hc := vb) | refine ctq ?_ (hc := vb)); (simp only [go_sem]) | ((first | refine mxq6 [] ?_ | refine mxq5 [] ?_ | refine mxq4 [] ?_ | refine mxq3 [] ?_ | refine mxq2 [] ?_ | refine mxq1 [] ?_ | refine mxq0 [] ?_ | fail); (simp only [go_sem])))
        all_goals (refine hR _ (rat [] (hK := ⟨rfl, rfl⟩)))
      | true =>
        rw [eb] at vb
        obtain ⟨y, rfl, hy⟩ := (Ty.valid_iff b).1 eb
        rw [show k.co.typedV x.ty y.ty = k.typed x y by simp [Co.typedV, ec, Ty.t?_ty hx, Ty.t?_ty hy]]
        have hl := iLeads k (by simp only [K.ok, Bool.and_eq_true] at hk; exact hk.1) x y
        refine fn_in ?_; refine acl_in Try.func18 rfl isfn_18 (Nat.le_of_ble_eq_true rfl) (fun R hR => ?_); rw [Try.results18] at hR; refine wg_run ?_; (simp only [Try.f18, go_sem])
        repeat' (first | (first | (((first | apply sp1 | apply sp2 | apply sp3 | apply sp4 | apply sp5 | apply sp6 | apply sp7) <;> intro hb) <;> (simp only [go_sem, hb])) | ((first | apply wm_done | apply wt_done | apply wg_run | refine fk ?_ ?_) <;> (simp only [go_sem]))) | (first | refine cdq ?_ (hc := vc) | refine cmq ?_ (hc := vc) | refine ctq ?_ (hc := vc)); (simp only [go_sem]) | (first | refine cdq ?_ (hc := va) | refine cmq ?_ (hc := va) | refine ctq ?_ (hc := va)); (simp only [go_sem]) | (first | refine cdq ?_ (hc := vb) | refine cmq ?_ (hc := vb) | refine ctq ?_ (hc := vb)); (simp only [go_sem]) | (first | refine cdq ?_ (hc := hl) | refine cmq ?_ (hc := hl) | refine ctq ?_ (hc := hl)); (simp only [go_sem]) | ((first | refine mxq6 [] ?_ | refine mxq5 [] ?_ | refine mxq4 [] ?_ | refine mxq3 [] ?_ | refine mxq2 [] ?_ | refine mxq1 [] ?_ | refine mxq0 [] ?_ | fail); (simp only [go_sem])))
        all_goals (refine hR _ (rat [] (hK := ⟨rfl, rfl⟩)))
end Go.Proofs.Ytbiobfbonpiiiaa
/- Law: casts are coercions. On shadows. -/
namespace Go.Proofs.Grad
theorem T.castV_laws {a b : Ty} {l : Int} {k : K} (h : a.castV b l = some k) : k.ok = true ∧ k.size ≤ 1000 ∧ k.co.typedV a b = true ∧ k.co.ident = a.same b ∧ ∀ i, i < k.co.labsV.length → Sh.num k.co.labsV i = l ∨ Sh.num k.co.labsV i = -l := by
  obtain ⟨x, y, rfl, rfl, hx, hy, c1, hl, rfl⟩ := Ty.castV_some h
  have hok : (T.cast x y l).ok = true := by
    have g1 := T.cast_wf x y l hl
    have g2 := T.cast_depth x y l
    simp only [K.ok, g1, Bool.true_and, decide_eq_true_eq]
    omega
  refine ⟨hok, ?_, ?_, ?_, ?_⟩
  · have h := hok
    simp only [K.ok, Bool.and_eq_true, decide_eq_true_eq] at h
    have := K.size_depth _ 9 h.2
    omega
  · simp only [Co.typedV, K.k?_co hok, Ty.t?_ty hx, Ty.t?_ty hy]
    exact T.cast_typed _ _ _ _ (Nat.lt_succ_self _) c1
  · have e1 : (T.cast x y l).co.ident = (T.cast x y l).ident := by simp [Co.ident, K.k?_co hok]
    rw [e1]
    by_cases hxy : x = y
    · subst hxy
      rw [T.cast_self, (T.idK_ident x).1]
      exact ((Ty.same_iff _ _).2 rfl).symm
    · have e2 : x.ty.same y.ty = false := by
        cases e : x.ty.same y.ty
        · rfl
        · exact absurd (T.ty_inj _ _ ((Ty.same_iff _ _).1 e)) hxy
      rw [e2]
      cases e : (T.cast x y l).ident
      · rfl
      · exact absurd (T.cast_ident x y l c1 e) hxy
  · intro i hi
    have hm := num_mem hi
    rw [K.labsV_co hok] at hm ⊢
    exact T.cast_labels x y l _ (((setL_spec _).2.1 _).1 hm)
end Go.Proofs.Grad
namespace Go.Proofs.Ytbiobfbonpiiiaa
open Go.RowKit Go.Proofs.Sh Go.Proofs.Grad
set_option maxRecDepth 100000
set_option maxHeartbeats 8000000
theorem lCoerceOf (l : List Int) (hc : ∀ k, 0 ≤ byte l k ∧ byte l k < 256) : AFn Try.prog 10 [.one (.sl (byR l))] (.one (.sc (.bool true))) := by
  by_cases hlen : 1048576 < l.length
  · have hg : decide (((l.length : Nat) : Int) > 1048576) = true := by simp; omega
    refine fn_in ?_; refine acl_in Try.func10 rfl isfn_10 (Nat.le_of_ble_eq_true rfl) (fun R hR => ?_); rw [Try.results10] at hR; refine wg_run ?_; (simp only [Try.f10, go_sem, hg])
    (refine hR _ (rat [] (hK := ⟨rfl, rfl⟩)))
  · have hg : decide (((l.length : Nat) : Int) > 1048576) = false := by simp; omega
    have hd := dCoerceOf l ⟨by omega, hc⟩
    refine fn_in ?_; refine acl_in Try.func10 rfl isfn_10 (Nat.le_of_ble_eq_true rfl) (fun R hR => ?_); rw [Try.results10] at hR; refine wg_run ?_; (simp only [Try.f10, go_sem, hg])
    ((first | refine kdq [] ?_ (hc := hd) | refine kmq [] ?_ (hc := hd) | refine ktq [] ?_ (hc := hd)); rintro _ _ ⟨x, y, n, rfl, hx, hy, hn, rfl⟩ <;> (simp only [go_sem]))
    have i1 := iCoerceOf x y n
    have i2 := sCoerceOf x y n
    cases et : x.castV y n with
    | none =>
      rw [et] at i1 i2
      simp only [K.coO, Option.isSome_none] at i1 i2
      have i3 := iSameR Co.zero (by decide)
      repeat' (first | (first | (simp only [go_sem, int_bne]) | (((first | apply sp1 | apply sp2 | apply sp3 | apply sp4 | apply sp5 | apply sp6 | apply sp7) <;> intro hb) <;> (simp only [go_sem, hb, int_bne])) | ((first | apply wm_done | apply wt_done | apply wg_run | refine fk ?_ ?_) <;> (simp only [go_sem, int_bne]))) | (first | refine cdq ?_ (hc := i1) | refine cmq ?_ (hc := i1) | refine ctq ?_ (hc := i1)); (simp only [go_sem]) | (first | refine cdq ?_ (hc := i2) | refine cmq ?_ (hc := i2) | refine ctq ?_ (hc := i2)); (simp only [go_sem]) | (first | refine cdq ?_ (hc := i3) | refine cmq ?_ (hc := i3) | refine ctq ?_ (hc := i3)); (simp only [go_sem]) | ((first | refine mxq6 [] ?_ | refine mxq5 [] ?_ | refine mxq4 [] ?_ | refine mxq3 [] ?_ | refine mxq2 [] ?_ | refine mxq1 [] ?_ | refine mxq0 [] ?_ | fail); (simp only [go_sem, int_bne])) | fail)
      all_goals (refine hR _ (rat [] (hK := ⟨rfl, rfl⟩)))
    | some k =>
      rw [et] at i1 i2
      simp only [K.coO, Option.isSome_some] at i1 i2
      obtain ⟨hok, hks, hty, hid, hlb⟩ := T.castV_laws et
      have hcs : k.co.size ≤ 1000 := by rw [K.co_size]; exact hks
      have i3 := iSameR k.co (by omega)
      have n1 := iCoLabs k.co (by omega)
      have v1 := coValid k.co
      rw [K.ok_valid, hok] at v1
      have v2 := iTyped k.co x y
      rw [hty] at v2
      have v3 := iIdent k.co (by omega)
      rw [hid] at v3
      have v4 := iSame 2000 (by omega) x y (by omega)
      have hL : k.co.labsV.length < 900000 := Co.labsV_len k.co (by omega)
      have hneg : IntKind.i64.wrap (0 - n) = -n := by rw [IntWalk.i64_in _ (by omega)]; omega
      generalize k.co.labsV = L at *
      generalize x.same y = B at *
      repeat' (first | (first | (simp only [go_sem, int_bne]) | (((first | apply sp1 | apply sp2 | apply sp3 | apply sp4 | apply sp5 | apply sp6 | apply sp7) <;> intro hb) <;> (simp only [go_sem, hb, int_bne])) | ((first | apply wm_done | apply wt_done | apply wg_run | refine fk ?_ ?_) <;> (simp only [go_sem, int_bne]))) | (first | refine cdq ?_ (hc := i1) | refine cmq ?_ (hc := i1) | refine ctq ?_ (hc := i1)); (simp only [go_sem]) | (first | refine cdq ?_ (hc := i2) | refine cmq ?_ (hc := i2) | refine ctq ?_ (hc := i2)); (simp only [go_sem]) | (first | refine cdq ?_ (hc := i3) | refine cmq ?_ (hc := i3) | refine ctq ?_ (hc := i3)); (simp only [go_sem]) | (first | refine cdq ?_ (hc := n1) | refine cmq ?_ (hc := n1) | refine ctq ?_ (hc := n1)); (simp only [go_sem]) | ((first | refine mxq6 [] ?_ | refine mxq5 [] ?_ | refine mxq4 [] ?_ | refine mxq3 [] ?_ | refine mxq2 [] ?_ | refine mxq1 [] ?_ | refine mxq0 [] ?_ | fail); (simp only [go_sem, int_bne])) | fail)
      refine wd_for [3, 4, 5, 6, 10, 11] (fun (i : Nat) => [.one (.ptr 2 0 0 0), .one (.ptr 2 1 0 0), .one (.sc (.int .i64 n)), .one (.ptr 4 2 0 0), .one (.sl (intR L)), .one (.sc (.int .i64 (i : Nat)))]) (fun _ => [⟨2, 25, .mut, [tyC x]⟩, ⟨2, 25, .mut, [tyC y]⟩, ⟨4, 30, .mut, [coC k.co]⟩])
        (fun i => i ≤ L.length) (fun i => L.length - i) 0 (Nat.zero_le _) (hat [0, 1, 2] (hI := ⟨rfl, rfl⟩)) ?_
      intro i hi G hG
      refine wg_run ?_
      (simp only [go_sem])
      ((first | apply sp1 | apply sp2 | apply sp3 | apply sp4 | apply sp5 | apply sp6 | apply sp7) <;> intro hb) <;> (simp only [go_sem, hb])
      · have hi1 : i < L.length := by have := of_decide_eq_true hb; omega
        have hw1 := wrap_succ hi1 (by omega)
        have hbi := hb
        cases e1 : (Sh.num L i == n)
        · have e2 : (Sh.num L i == -n) = true := by
            rcases hlb i hi1 with h | h
            · rw [h] at e1; simp at e1
            · rw [h]; simp
          repeat' (first | (first | (simp only [go_sem, hbi, hw1, e1, e2, int_bne, hneg]) | (((first | apply sp1 | apply sp2 | apply sp3 | apply sp4 | apply sp5 | apply sp6 | apply sp7) <;> intro hb) <;> (simp only [go_sem, hb, hbi, hw1, e1, e2, int_bne, hneg])) | ((first | apply wm_done | apply wt_done | apply wg_run | refine fk ?_ ?_) <;> (simp only [go_sem, hbi, hw1, e1, e2, int_bne, hneg]))) | ((first | refine mxq6 [] ?_ | refine mxq5 [] ?_ | refine mxq4 [] ?_ | refine mxq3 [] ?_ | refine mxq2 [] ?_ | refine mxq1 [] ?_ | refine mxq0 [] ?_ | fail); (simp only [go_sem, hbi, e1, e2, int_bne, hneg])) | fail)
          exact hG (i + 1) _ _ (by omega) (by omega) (hat [0, 1, 2] (hI := ⟨rfl, rfl⟩))
        · repeat' (first | (first | (simp only [go_sem, hbi, hw1, e1, int_bne, hneg]) | (((first | apply sp1 | apply sp2 | apply sp3 | apply sp4 | apply sp5 | apply sp6 | apply sp7) <;> intro hb) <;> (simp only [go_sem, hb, hbi, hw1, e1, int_bne, hneg])) | ((first | apply wm_done | apply wt_done | apply wg_run | refine fk ?_ ?_) <;> (simp only [go_sem, hbi, hw1, e1, int_bne, hneg]))) | ((first | refine mxq6 [] ?_ | refine mxq5 [] ?_ | refine mxq4 [] ?_ | refine mxq3 [] ?_ | refine mxq2 [] ?_ | refine mxq1 [] ?_ | refine mxq0 [] ?_ | fail); (simp only [go_sem, hbi, e1, int_bne, hneg])) | fail)
          exact hG (i + 1) _ _ (by omega) (by omega) (hat [0, 1, 2] (hI := ⟨rfl, rfl⟩))
      · clear hG
        repeat' (first | (first | (simp only [go_sem, hb, beq_self_eq_true]) | (((first | apply sp1 | apply sp2 | apply sp3 | apply sp4 | apply sp5 | apply sp6 | apply sp7) <;> intro hb) <;> (simp only [go_sem, hb, hb, beq_self_eq_true])) | ((first | apply wm_done | apply wt_done | apply wg_run | refine fk ?_ ?_) <;> (simp only [go_sem, hb, beq_self_eq_true]))) | ((first | refine mxq6 [] ?_ | refine mxq5 [] ?_ | refine mxq4 [] ?_ | refine mxq3 [] ?_ | refine mxq2 [] ?_ | refine mxq1 [] ?_ | refine mxq0 [] ?_ | fail); (simp only [go_sem, hb])) | (first | refine cdq ?_ (hc := v1) | refine cmq ?_ (hc := v1) | refine ctq ?_ (hc := v1)); (simp only [go_sem]) | (first | refine cdq ?_ (hc := v2) | refine cmq ?_ (hc := v2) | refine ctq ?_ (hc := v2)); (simp only [go_sem]) | (first | refine cdq ?_ (hc := v3) | refine cmq ?_ (hc := v3) | refine ctq ?_ (hc := v3)); (simp only [go_sem]) | (first | refine cdq ?_ (hc := v4) | refine cmq ?_ (hc := v4) | refine ctq ?_ (hc := v4)); (simp only [go_sem]) | fail)
        all_goals (refine hR _ (rat [] (hK := ⟨rfl, rfl⟩)))
end Go.Proofs.Ytbiobfbonpiiiaa
/- From contracts on shadows to calls in worlds; a law's argument of bytes. -/
namespace Go.Proofs.Sh
open Go.RowKit
theorem sim_nil (w : World) : Sim [] [] [] w :=
  ⟨rfl, by simp, by simp, fun i b g h => by simp at h, fun i j b b' g _ h => by simp at h, fun i b g h => by simp at h⟩
theorem law_calls {P : Program} {f : FuncId} {args : List AV} {vs : Array Value} {w : World} (h : AFn P f args (.one (.sc (.bool true)))) (hr : AV.repl [] [] w args vs.toList) :
    Calls P f vs w (fun e w' => e = .returned (.bool true) ∧ Below w.heap.size w w') := by
  refine (h.out.2 [] [] w vs (sim_nil w) hr).mono ?_
  rintro e w' ⟨r, H', μ', v, rfl, ⟨rfl, rfl⟩, hS, hT, hv⟩
  simp only [AV.rep, C.rep] at hv
  refine ⟨by rw [hv.1], hT.keep.os, hT.keep.tape, hT.keep.output, hT.keep.size, fun b hb => hT.keep.block b (by simp [alive]) hb⟩
/-- bytes in memory -/
def Byt (w : World) (q : Option Addr) (n c : Nat) : Prop :=
  n ≤ c ∧ c ≤ maxLen ∧ ∀ i, i < n → ∃ b off, ∃ x : Int, q = some ⟨b, off, none⟩ ∧ b < w.heap.size ∧ w.cell? ⟨b, off + i, none⟩ = some (.int .u8 x) ∧ 0 ≤ x ∧ x ≤ 255
def byAt (w : World) (b off i : Nat) : Int := match w.cell? ⟨b, off + i, none⟩ with | some (.int _ x) => x | _ => 0
theorem repss_by {w : World} {b : Nat} : ∀ (l : List Int) (off : Nat), (∀ i (h : i < l.length), w.cell? ⟨b, off + i, none⟩ = some (.int .u8 l[i])) → C.repss [] [] w 1 (byR l) b off
  | [], _, _ => trivial
  | x :: l, off, h => by
    have h0 : w.cell? ⟨b, off, none⟩ = some (.int .u8 x) := h 0 (by simp)
    refine ⟨rfl, ⟨⟨_, h0, ⟨rfl, rfl⟩⟩, trivial⟩, repss_by l (off + 1) fun i hi => ?_⟩
    have := h (i + 1) (by simpa using hi)
    rw [show off + 1 + i = off + (i + 1) by omega]
    simpa using this
theorem Byt.rep {w : World} {q : Option Addr} {n c : Nat} (h : Byt w q n c) : ∃ l : List Int, (∀ k, 0 ≤ byte l k ∧ byte l k < 256) ∧ AV.rep [] [] w (.one (.sl (byR l))) (.slice q n c) := by
  obtain ⟨h1, h2, h3⟩ := h
  cases n with
  | zero =>
    refine ⟨[], fun k => by simp [byte], ?_⟩
    simp only [AV.rep, C.rep]
    exact ⟨q, c, rfl, by simp [byR], h2, .inl rfl⟩
  | succ n =>
    obtain ⟨b, off, x0, rfl, hb, _⟩ := h3 0 (by omega)
    have h4 : ∀ i, i < n + 1 → w.cell? ⟨b, off + i, none⟩ = some (.int .u8 (byAt w b off i)) ∧ 0 ≤ byAt w b off i ∧ byAt w b off i ≤ 255 := by
      intro i hi
      obtain ⟨b', off', x, e, _, g1, g2, g3⟩ := h3 i hi
      cases e
      simp only [byAt, g1]
      exact ⟨trivial, g2, g3⟩
    refine ⟨(List.range (n + 1)).map (byAt w b off), fun k => ?_, ?_⟩
    · by_cases hk : k < n + 1
      · have := h4 k hk
        simp [byte, hk]; omega
      · simp [byte, hk]
    · simp only [AV.rep, C.rep]
      refine ⟨_, c, by simp [byR_length], by simpa [byR_length] using h1, h2, .inr ⟨b, off, 1, rfl, hb, by simp, repss_by _ _ fun i hi => ?_⟩⟩
      simp at hi
      simpa using (h4 i hi).1
end Go.Proofs.Sh
namespace Go.Proofs.Ytbiobfbonpiiiaa
open Go.RowKit Go.Proofs.Sh
open Go.ChangeShapes Go.WideShapes Go.ChangeAt
theorem own_k : ownKnob Try.prog.godebug = none := by kernel_rfl
theorem laid_k : laidOutB Try.prog = true := by kernel_rfl
variable {H : Type} {enc : TypeId × Value → H} {w : World} {base : Nat} {spare : Nat → Bool} {held : Bool}
theorem add_no {b o k : Nat} : (⟨b, o, none⟩ : Addr).add k = ⟨b, o + k, none⟩ := by
  unfold Addr.add; split <;> simp_all
theorem spot_no {a : Addr} {v : Value} (h : w.cell? a = some v) : a.spot = none := by
  obtain ⟨b, o, s⟩ := a
  cases s with
  | none => rfl
  | some s =>
    simp only [World.cell?] at h
    split at h <;> simp at h
theorem read_Byt {fuel : Nat} {v : Value} {x : DataW H × List MemPlace} (h : DataW.trod enc Try.prog w base spare held fuel 22 [v] = some x) :
    ∃ (q : Option Addr) (n c : Nat), v = .slice q n c ∧ Byt w q n c := by
  have hc1 : Try.prog.cellsOf 5 = 1 := by kernel_rfl
  rcases DataW.trod_slice Try.underlying22 h with ⟨e1, _⟩ | ⟨a, len, cap, elems, rest, m', hm', e1, _, hb, hlc, hcm, hel, hall, _, _⟩
  · simp at e1
    subst e1
    exact ⟨none, 0, 0, rfl, by omega, by simp [maxLen], fun i hi => by omega⟩
  · simp at e1
    subst e1
    have hcell : ∀ i, i < len → ∃ k : Int, w.cell? (a.add i) = some (.int .u8 k) ∧ (Lit.int IntKind.u8 k).wf = true := by
      intro i hi
      have h1 := hall i hi
      rw [hc1, List.getElem?_eq_getElem (by omega), Nat.mul_one] at h1
      cases h2 : w.cells? base (a.add i) 1 with
      | none => rw [h2] at h1; simp at h1
      | some ds =>
        rw [h2] at h1
        simp only [Option.bind_some] at h1
        obtain ⟨k, e0, k1, k2⟩ := DataW.trod_int Try.underlying5 h1
        subst e0
        have h3 : w.cell? (a.add i) = some (.int .u8 k) := by
          unfold World.cells? at h2
          split at h2
          · simp only [List.range_succ, List.range_zero, List.nil_append, List.mapM_cons, List.mapM_nil, Option.pure_def, Option.bind_eq_bind] at h2
            cases h0 : w.cell? ((a.add i).add 0) with
            | none => simp [h0] at h2
            | some u =>
              simp [h0] at h2
              have e0 : (a.add i).add 0 = a.add i := by simp [Addr.add]
              rw [e0] at h0; rw [h0, h2]
          · cases h2
        exact ⟨k, h3, k2⟩
    refine ⟨some a, len, cap, rfl, hlc, hcm, fun i hi => ?_⟩
    have hs : a.spot = none := by
      obtain ⟨k, h3, _⟩ := hcell 0 (by omega)
      have := spot_no h3
      simp [Addr.add] at this
      exact this
    obtain ⟨k, h3, k2⟩ := hcell i hi
    obtain ⟨b, o, s⟩ := a
    simp at hs
    subst hs
    rw [add_no] at h3
    refine ⟨b, o, k, rfl, lt_of_cell h3, h3, ?_⟩
    simp [Lit.wf, IntKind.min, IntKind.max, IntKind.signed, IntKind.bits] at k2
    omega
set_option maxRecDepth 100000 in
theorem open_Byt {v : Value} {d : DataW H} {p : List MemPlace} {r : Reach} {b0 : Nat} (hv : Value.okWide Try.prog w r b0 22 v) (h : DataW.Trod enc Try.prog w base spare held 22 v d p) :
    ∃ (q : Option Addr) (n c : Nat), v = .slice q n c ∧ Byt w q n c := by
  obtain ⟨a, len, cap, rfl⟩ := okWide_slice Try.underlying22 hv
  obtain ⟨fuel, hf⟩ := h
  exact read_Byt hf
end Go.Proofs.Ytbiobfbonpiiiaa
