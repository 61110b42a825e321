/- Texts of the proof, one behind another. -/
import Derived.Test.YtkkijdlgmlffoaaRows
import Derived.ProofKit
import Derived.OpenShut
import Derived.Test.YtkkijdlgmlffoaaKV13
import Derived.Test.YtkkijdlgmlffoaaKV14
set_option linter.unusedSimpArgs false
set_option linter.unusedVariables false
/- The reference's draws of types near a type, and of pairs, on shadows. -/
namespace Go.Proofs.Ytkkijdlgmlffoaa
open Go.RowKit Go.Proofs.Sh Go.Proofs.Grad
set_option maxRecDepth 100000
set_option maxHeartbeats 4000000
/-- a code -/
structure Code8 (l : List Int) : Prop where
  len : l.length < 4611686018427387904
  all : ∀ k, 0 ≤ byte l k ∧ byte l k < 256
/-- a type, not too large -/
def One1 (r : AV) (H' : List Blk) : Prop := ∃ x : Ty, r = .agg (tyC x) ∧ x.size ≤ 1000 ∧ H' = []
theorem dTypeValid (l : List Int) (hl : Code8 l) : ACl Try.prog 60 [.one (.sl (byR l))] [] One1 := by
  have ho := opn l hl.len hl.all
  refine acl_in Try.func60 rfl isfn_60 (Nat.le_of_ble_eq_true rfl) (fun R hR => ?_); rw [Try.results60] at hR; refine wg_run ?_; (simp only [Try.f60, go_sem])
  ((first | refine kdq [] ?_ (hc := ho) | refine kmq [] ?_ (hc := ho) | refine ktq [] ?_ (hc := ho)); rintro _ _ ⟨bs, hB, rfl, rfl⟩ <;> (simp only [go_sem]))
  have ht := l1Type bs hB 0 (by omega)
  ((first | refine kdq [1] ?_ (hc := ht) | refine kmq [1] ?_ (hc := ht) | refine ktq [1] ?_ (hc := ht)); rintro _ _ ⟨x, p, rfl, hx, hp, rfl⟩ <;> (simp only [go_sem]))
  have hx2 := tys 4 x hx
  have hm := l1Mutate bs hB p (by omega) x.ty (by rw [T.ty_size]; omega)
  ((first | refine kdq [1] ?_ (hc := hm) | refine kmq [1] ?_ (hc := hm) | refine ktq [1] ?_ (hc := hm)); rintro _ _ ⟨y, q, rfl, hy, hq, rfl⟩ <;> (simp only [go_sem]))
  rw [T.ty_size] at hy
  exact hR _ (rat [] (hK := ⟨y, rfl, by omega, rfl⟩))
theorem dRefine (l : List Int) (hl : Code8 l) : ACl Try.prog 34 [.one (.sl (byR l))] [] One1 := by
  have ho := dTypeValid l hl
  refine acl_in Try.func34 rfl isfn_34 (Nat.le_of_ble_eq_true rfl) (fun R hR => ?_); rw [Try.results34] at hR; refine wg_run ?_; (simp only [Try.f34, go_sem])
  ((first | refine kdq [] ?_ (hc := ho) | refine kmq [] ?_ (hc := ho) | refine ktq [] ?_ (hc := ho)); rintro _ _ ⟨x, rfl, hx, rfl⟩ <;> (simp only [go_sem]))
  exact hR _ (rat [] (hK := ⟨x, rfl, hx, rfl⟩))
end Go.Proofs.Ytkkijdlgmlffoaa
/- FnRefineType, on shadows. -/
namespace Go.Proofs.Grad
theorem T.anys_count (t : T) : t.anys = t.count := by induction t <;> simp_all [T.anys, T.count]
theorem T.steps_sub (t : T) (h : t.depth ≤ 4) : ∀ x ∈ t.steps 4, x ∈ t.refs ∧ x.depth ≤ 4 := by
  intro x hx
  rw [← T.refs_steps t 4 h] at hx
  have := List.mem_filter.1 hx
  exact ⟨this.1, of_decide_eq_true this.2⟩
theorem T.steps_nodup (t : T) (h : t.depth ≤ 4) : (t.steps 4).Nodup := by
  rw [← T.refs_steps t 4 h]; exact t.refs_nodup.filter _
theorem Ty.same_ne {a b : Ty} (h : a ≠ b) : a.same b = false := by
  cases e : a.same b
  · rfl
  · exact absurd ((Ty.same_iff a b).1 e) h
end Go.Proofs.Grad
namespace Go.Proofs.Ytkkijdlgmlffoaa
open Go.RowKit Go.Proofs.Sh Go.Proofs.Grad
set_option maxRecDepth 100000
set_option maxHeartbeats 8000000
theorem iCountV (t : T) (h : t.depth ≤ 4) : AFn Try.prog 35 [.agg (tyC t.ty)] (.one (.sc (.int .i64 (t.anys : Nat)))) := by
  have hv := iValid t.ty
  rw [T.valid_ty, decide_eq_true h] at hv
  have hc := iCount 1000 (by omega) t.ty (by have h1 := size_depthR t; have h3 : 2 ^ t.depth ≤ 2 ^ 4 := Nat.pow_le_pow_right (by omega) h; rw [T.ty_size]; omega)
  rw [T.count_ty, ← T.anys_count] at hc
  refine fn_in ?_; refine acl_in Try.func35 rfl isfn_35 (Nat.le_of_ble_eq_true rfl) (fun R hR => ?_); rw [Try.results35] at hR; refine wg_run ?_; (simp only [Try.f35, go_sem])
  repeat' (first | (first | (((first | apply sp1 | apply sp2 | apply sp3 | apply sp4 | apply sp5 | apply sp6 | apply sp7) <;> intro hb) <;> (simp only [go_sem, hb])) | ((first | apply wm_done | apply wt_done | apply wg_run | refine fk ?_ ?_) <;> (simp only [go_sem]))) | (first | refine cdq ?_ (hc := hv) | refine cmq ?_ (hc := hv) | refine ctq ?_ (hc := hv)); (simp only [go_sem]) | (first | refine cdq ?_ (hc := hc) | refine cmq ?_ (hc := hc) | refine ctq ?_ (hc := hc)); (simp only [go_sem]) | fail)
  (refine hR _ (rat [] (hK := ⟨rfl, rfl⟩)))
theorem iCountN (t : Ty) (h : t.valid = false) : AFn Try.prog 35 [.agg (tyC t)] (.one (.sc (.int .i64 0))) := by
  have hv := iValid t
  rw [h] at hv
  refine fn_in ?_; refine acl_in Try.func35 rfl isfn_35 (Nat.le_of_ble_eq_true rfl) (fun R hR => ?_); rw [Try.results35] at hR; refine wg_run ?_; (simp only [Try.f35, go_sem])
  repeat' (first | (first | (((first | apply sp1 | apply sp2 | apply sp3 | apply sp4 | apply sp5 | apply sp6 | apply sp7) <;> intro hb) <;> (simp only [go_sem, hb])) | ((first | apply wm_done | apply wt_done | apply wg_run | refine fk ?_ ?_) <;> (simp only [go_sem]))) | (first | refine cdq ?_ (hc := hv) | refine cmq ?_ (hc := hv) | refine ctq ?_ (hc := hv)); (simp only [go_sem]) | fail)
  (refine hR _ (rat [] (hK := ⟨rfl, rfl⟩)))
theorem lRefine (l : List Int) (hc : ∀ k, 0 ≤ byte l k ∧ byte l k < 256) : AFn Try.prog 11 [.one (.sl (byR l))] (.one (.sc (.bool true))) := by
  by_cases hlen : 1048576 < l.length
  · have hg : decide (((l.length : Nat) : Int) > 1048576) = true := by simp; omega
    refine fn_in ?_; refine acl_in Try.func11 rfl isfn_11 (Nat.le_of_ble_eq_true rfl) (fun R hR => ?_); rw [Try.results11] at hR; refine wg_run ?_; (simp only [Try.f11, go_sem, hg])
    (refine hR _ (rat [] (hK := ⟨rfl, rfl⟩)))
  · have hg : decide (((l.length : Nat) : Int) > 1048576) = false := by simp; omega
    have hd := dRefine l ⟨by omega, hc⟩
    refine fn_in ?_; refine acl_in Try.func11 rfl isfn_11 (Nat.le_of_ble_eq_true rfl) (fun R hR => ?_); rw [Try.results11] at hR; refine wg_run ?_; (simp only [Try.f11, go_sem, hg])
    ((first | refine kdq [] ?_ (hc := hd) | refine kmq [] ?_ (hc := hd) | refine ktq [] ?_ (hc := hd)); rintro _ _ ⟨x, rfl, hx, rfl⟩ <;> (simp only [go_sem]))
    cases hv : x.valid
    · have h1 := iRefineN x hv
      have h2 := sRefineN x (by omega) hv
      have h3 := iCountN x hv
      have g1 : decide ((0 : Int) ≤ IntKind.i64.wrap (4 * 0)) = true := by decide
      have g2 : decide ((0 : Int) ≥ IntKind.i64.wrap (2 * 0)) = true := by decide
      repeat' (first | (first | (simp only [go_sem, int_bne, g1, g2]) | (((first | apply sp1 | apply sp2 | apply sp3 | apply sp4 | apply sp5 | apply sp6 | apply sp7) <;> intro hb) <;> (simp only [go_sem, hb, int_bne, g1, g2])) | ((first | apply wm_done | apply wt_done | apply wg_run | refine fk ?_ ?_) <;> (simp only [go_sem, int_bne, g1, g2]))) | (first | (refine wl_next (wg_run ?_); (simp only [go_sem])) | refine wd_rounds 6 ?_) | (first | refine cdq ?_ (hc := h1) | refine cmq ?_ (hc := h1) | refine ctq ?_ (hc := h1)); (simp only [go_sem]) | (first | refine cdq ?_ (hc := h2) | refine cmq ?_ (hc := h2) | refine ctq ?_ (hc := h2)); (simp only [go_sem]) | (first | refine cdq ?_ (hc := h3) | refine cmq ?_ (hc := h3) | refine ctq ?_ (hc := h3)); (simp only [go_sem]) | ((first | refine mxq6 [] ?_ | refine mxq5 [] ?_ | refine mxq4 [] ?_ | refine mxq3 [] ?_ | refine mxq2 [] ?_ | refine mxq1 [] ?_ | refine mxq0 [] ?_ | fail); (simp only [go_sem, int_bne, g1, g2])) | fail)
      all_goals (refine hR _ (rat [] (hK := ⟨rfl, rfl⟩)))
    · obtain ⟨t, rfl, ht⟩ := (Ty.valid_iff x).1 hv
      have h1 := iRefineV t ht
      have h2 := sRefineV t ht
      have h3 := iCountV t ht
      have hsl := t.steps_len 4
      have hal := t.anys_size
      have hsz : t.size < 100 := by have h1 := size_depthR t; have h3 : 2 ^ t.depth ≤ 2 ^ 4 := Nat.pow_le_pow_right (by omega) ht; omega
      have hk : ∀ i, i < ((t.steps 4).map T.ty).length → (kid ((t.steps 4).map T.ty) i).valid = true ∧ onT T.prec (kid ((t.steps 4).map T.ty) i) t.ty = true ∧ onT T.prec t.ty (kid ((t.steps 4).map T.ty) i) = false ∧ (kid ((t.steps 4).map T.ty) i).size < 1000 ∧ ∀ k, k < i → (kid ((t.steps 4).map T.ty) i).same (kid ((t.steps 4).map T.ty) k) = false := by
        intro i hi
        have hi' : i < (t.steps 4).length := by simpa using hi
        have e1 : ∀ j (h : j < (t.steps 4).length), kid ((t.steps 4).map T.ty) j = ((t.steps 4)[j]'h).ty := fun j h => by rw [kid_eq (by simpa using h), List.getElem_map]
        obtain ⟨hm1, hm2⟩ := T.steps_sub t ht _ (List.getElem_mem hi')
        obtain ⟨hp1, hp2⟩ := T.refs_prec t _ hm1
        have hsz2 := t.refs_size _ hm1
        rw [e1 i hi']
        refine ⟨by rw [T.valid_ty, decide_eq_true hm2], by rw [onT_ty _ hm2 ht, hp1], by rw [onT_ty _ ht hm2, hp2], by rw [T.ty_size]; omega, fun k hk => ?_⟩
        rw [e1 k (by omega)]
        refine Ty.same_ne (fun e => ?_)
        have e2 := T.ty_inj _ _ e
        have := (List.getElem_inj (T.steps_nodup t ht)).1 e2
        omega
      have hML : ((t.steps 4).map T.ty).length = (t.steps 4).length := List.length_map _
      generalize (t.steps 4).map T.ty = M at *
      have g1 : decide (((M.length : Nat) : Int) ≤ IntKind.i64.wrap (4 * ((t.anys : Nat) : Int))) = true := by
        rw [IntWalk.i64_in _ (by omega)]; exact decide_eq_true (by omega)
      have g2 : decide (((M.length : Nat) : Int) ≥ IntKind.i64.wrap (2 * ((t.anys : Nat) : Int))) = true := by
        rw [IntWalk.i64_in _ (by omega)]; exact decide_eq_true (by omega)
      repeat' (first | (first | (simp only [go_sem, int_bne]) | (((first | apply sp1 | apply sp2 | apply sp3 | apply sp4 | apply sp5 | apply sp6 | apply sp7) <;> intro hb) <;> (simp only [go_sem, hb, int_bne])) | ((first | apply wm_done | apply wt_done | apply wg_run | refine fk ?_ ?_) <;> (simp only [go_sem, int_bne]))) | (first | refine cdq ?_ (hc := h1) | refine cmq ?_ (hc := h1) | refine ctq ?_ (hc := h1)); (simp only [go_sem]) | (first | refine cdq ?_ (hc := h2) | refine cmq ?_ (hc := h2) | refine ctq ?_ (hc := h2)); (simp only [go_sem]) | fail)
      refine wd_for [3, 4, 5, 6] (fun (i : Nat) => [.one (.ptr 2 0 0 0), .one (.sl (tyR M)), .one (.sl (tyR M)), .one (.sc (.int .i64 (i : Nat)))]) (fun _ => [⟨2, 29, .mut, [tyC t.ty]⟩])
        (fun i => i ≤ M.length) (fun i => M.length - i) 0 (Nat.zero_le _) (hat [0] (hI := ⟨rfl, rfl⟩)) ?_
      intro i hi G hG
      refine wg_run ?_
      (simp only [go_sem])
      ((first | apply sp1 | apply sp2 | apply sp3 | apply sp4 | apply sp5 | apply sp6 | apply sp7) <;> intro hb) <;> (simp only [go_sem, hb])
      · have hi1 : i < M.length := by have := of_decide_eq_true hb; omega
        obtain ⟨f1, f2, f3, f4, f5⟩ := hk i hi1
        have hw1 := wrap_succ hi1 (by omega)
        have c1 := iSame 1000 (by omega) (kid M i) (kid M i) f4
        rw [Ty.same_refl] at c1
        have c2 := iValid (kid M i)
        rw [f1] at c2
        have c3 := iPrecise (kid M i) t.ty
        rw [f2] at c3
        have c4 := iPrecise t.ty (kid M i)
        rw [f3] at c4
        have hbi := hb
        repeat' (first | (first | (simp only [go_sem, hbi]) | (((first | apply sp1 | apply sp2 | apply sp3 | apply sp4 | apply sp5 | apply sp6 | apply sp7) <;> intro hb) <;> (simp only [go_sem, hb, hbi])) | ((first | apply wm_done | apply wt_done | apply wg_run | refine fk ?_ ?_) <;> (simp only [go_sem, hbi]))) | (first | refine cdq ?_ (hc := c1) | refine cmq ?_ (hc := c1) | refine ctq ?_ (hc := c1)); (simp only [go_sem]) | (first | refine cdq ?_ (hc := c2) | refine cmq ?_ (hc := c2) | refine ctq ?_ (hc := c2)); (simp only [go_sem]) | (first | refine cdq ?_ (hc := c3) | refine cmq ?_ (hc := c3) | refine ctq ?_ (hc := c3)); (simp only [go_sem]) | (first | refine cdq ?_ (hc := c4) | refine cmq ?_ (hc := c4) | refine ctq ?_ (hc := c4)); (simp only [go_sem]) | ((first | refine mxq6 [] ?_ | refine mxq5 [] ?_ | refine mxq4 [] ?_ | refine mxq3 [] ?_ | refine mxq2 [] ?_ | refine mxq1 [] ?_ | refine mxq0 [] ?_ | fail); (simp only [go_sem, hbi])) | fail)
        refine wd_for [3, 4, 5, 6, 7] (fun (k : Nat) => [.one (.ptr 2 0 0 0), .one (.sl (tyR M)), .one (.sl (tyR M)), .one (.sc (.int .i64 (i : Nat))), .one (.sc (.int .i64 (k : Nat)))]) (fun _ => [⟨2, 29, .mut, [tyC t.ty]⟩])
          (fun k => k ≤ i) (fun k => i - k) 0 (Nat.zero_le _) (hat [0] (hI := ⟨rfl, rfl⟩)) ?_
        intro k hk2 G2 hG2
        refine wg_run ?_
        (simp only [go_sem])
        ((first | apply sp1 | apply sp2 | apply sp3 | apply sp4 | apply sp5 | apply sp6 | apply sp7) <;> intro hb) <;> (simp only [go_sem, hb])
        · have hk1 : k < i := by have := of_decide_eq_true hb; omega
          have hw2 := wrap_succ hk1 (by omega)
          have hbk : decide ((k : Int) < (M.length : Int)) = true := decide_eq_true (by omega)
          have c5 := iSame 1000 (by omega) (kid M i) (kid M k) f4
          rw [f5 k hk1] at c5
          repeat' (first | (first | (simp only [go_sem, hbi, hbk, hw2]) | (((first | apply sp1 | apply sp2 | apply sp3 | apply sp4 | apply sp5 | apply sp6 | apply sp7) <;> intro hb) <;> (simp only [go_sem, hb, hbi, hbk, hw2])) | ((first | apply wm_done | apply wt_done | apply wg_run | refine fk ?_ ?_) <;> (simp only [go_sem, hbi, hbk, hw2]))) | (first | refine cdq ?_ (hc := c5) | refine cmq ?_ (hc := c5) | refine ctq ?_ (hc := c5)); (simp only [go_sem]) | ((first | refine mxq6 [] ?_ | refine mxq5 [] ?_ | refine mxq4 [] ?_ | refine mxq3 [] ?_ | refine mxq2 [] ?_ | refine mxq1 [] ?_ | refine mxq0 [] ?_ | fail); (simp only [go_sem, hbi, hbk])) | fail)
          exact hG2 (k + 1) _ _ (by omega) (by omega) (hat [0] (hI := ⟨rfl, rfl⟩))
        · clear hG2
          repeat' (first | (first | (simp only [go_sem, hbi, hw1]) | (((first | apply sp1 | apply sp2 | apply sp3 | apply sp4 | apply sp5 | apply sp6 | apply sp7) <;> intro hb) <;> (simp only [go_sem, hb, hbi, hw1])) | ((first | apply wm_done | apply wt_done | apply wg_run | refine fk ?_ ?_) <;> (simp only [go_sem, hbi, hw1]))) | fail)
          exact hG (i + 1) _ _ (by omega) (by omega) (hat [0] (hI := ⟨rfl, rfl⟩))
      · clear hG
        repeat' (first | (first | (simp only [go_sem, g1, g2]) | (((first | apply sp1 | apply sp2 | apply sp3 | apply sp4 | apply sp5 | apply sp6 | apply sp7) <;> intro hb) <;> (simp only [go_sem, hb, g1, g2])) | ((first | apply wm_done | apply wt_done | apply wg_run | refine fk ?_ ?_) <;> (simp only [go_sem, g1, g2]))) | (first | refine cdq ?_ (hc := h3) | refine cmq ?_ (hc := h3) | refine ctq ?_ (hc := h3)); (simp only [go_sem]) | ((first | refine mxq6 [] ?_ | refine mxq5 [] ?_ | refine mxq4 [] ?_ | refine mxq3 [] ?_ | refine mxq2 [] ?_ | refine mxq1 [] ?_ | refine mxq0 [] ?_ | fail); (simp only [go_sem, g1, g2])) | fail)
        all_goals (refine hR _ (rat [] (hK := ⟨rfl, rfl⟩)))
end Go.Proofs.Ytkkijdlgmlffoaa
/- From contracts on shadows to calls in worlds; a law's argument of bytes. -/
namespace Go.Proofs.Sh
open Go.RowKit
theorem sim_nil (w : World) : Sim [] [] [] w :=
  ⟨rfl, by simp, by simp, fun i b g h => by simp at h, fun i j b b' g _ h => by simp at h, fun i b g h => by simp at h⟩
theorem law_calls {P : Program} {f : FuncId} {args : List AV} {vs : Array Value} {w : World} (h : AFn P f args (.one (.sc (.bool true)))) (hr : AV.repl [] [] w args vs.toList) :
    Calls P f vs w (fun e w' => e = .returned (.bool true) ∧ Below w.heap.size w w') := by
  refine (h.out.2 [] [] w vs (sim_nil w) hr).mono ?_
  rintro e w' ⟨r, H', μ', v, rfl, ⟨rfl, rfl⟩, hS, hT, hv⟩
  simp only [AV.rep, C.rep] at hv
  refine ⟨by rw [hv.1], hT.keep.os, hT.keep.tape, hT.keep.output, hT.keep.size, fun b hb => hT.keep.block b (by simp [alive]) hb⟩
/-- bytes in memory -/
def Byt (w : World) (q : Option Addr) (n c : Nat) : Prop :=
  n ≤ c ∧ c ≤ maxLen ∧ ∀ i, i < n → ∃ b off, ∃ x : Int, q = some ⟨b, off, none⟩ ∧ b < w.heap.size ∧ w.cell? ⟨b, off + i, none⟩ = some (.int .u8 x) ∧ 0 ≤ x ∧ x ≤ 255
def byAt (w : World) (b off i : Nat) : Int := match w.cell? ⟨b, off + i, none⟩ with | some (.int _ x) => x | _ => 0
theorem repss_by {w : World} {b : Nat} : ∀ (l : List Int) (off : Nat), (∀ i (h : i < l.length), w.cell? ⟨b, off + i, none⟩ = some (.int .u8 l[i])) → C.repss [] [] w 1 (byR l) b off
  | [], _, _ => trivial
  | x :: l, off, h => by
    have h0 : w.cell? ⟨b, off, none⟩ = some (.int .u8 x) := h 0 (by simp)
    refine ⟨rfl, ⟨⟨_, h0, ⟨rfl, rfl⟩⟩, trivial⟩, repss_by l (off + 1) fun i hi => ?_⟩
    have := h (i + 1) (by simpa using hi)
    rw [show off + 1 + i = off + (i + 1) by omega]
    simpa using this
theorem Byt.rep {w : World} {q : Option Addr} {n c : Nat} (h : Byt w q n c) : ∃ l : List Int, (∀ k, 0 ≤ byte l k ∧ byte l k < 256) ∧ AV.rep [] [] w (.one (.sl (byR l))) (.slice q n c) := by
  obtain ⟨h1, h2, h3⟩ := h
  cases n with
  | zero =>
    refine ⟨[], fun k => by simp [byte], ?_⟩
    simp only [AV.rep, C.rep]
    exact ⟨q, c, rfl, by simp [byR], h2, .inl rfl⟩
  | succ n =>
    obtain ⟨b, off, x0, rfl, hb, _⟩ := h3 0 (by omega)
    have h4 : ∀ i, i < n + 1 → w.cell? ⟨b, off + i, none⟩ = some (.int .u8 (byAt w b off i)) ∧ 0 ≤ byAt w b off i ∧ byAt w b off i ≤ 255 := by
      intro i hi
      obtain ⟨b', off', x, e, _, g1, g2, g3⟩ := h3 i hi
      cases e
      simp only [byAt, g1]
      exact ⟨trivial, g2, g3⟩
    refine ⟨(List.range (n + 1)).map (byAt w b off), fun k => ?_, ?_⟩
    · by_cases hk : k < n + 1
      · have := h4 k hk
        simp [byte, hk]; omega
      · simp [byte, hk]
    · simp only [AV.rep, C.rep]
      refine ⟨_, c, by simp [byR_length], by simpa [byR_length] using h1, h2, .inr ⟨b, off, 1, rfl, hb, by simp, repss_by _ _ fun i hi => ?_⟩⟩
      simp at hi
      simpa using (h4 i hi).1
end Go.Proofs.Sh
namespace Go.Proofs.Ytkkijdlgmlffoaa
open Go.RowKit Go.Proofs.Sh
open Go.ChangeShapes Go.WideShapes Go.ChangeAt
theorem own_k : ownKnob Try.prog.godebug = none := by kernel_rfl
theorem laid_k : laidOutB Try.prog = true := by kernel_rfl
variable {H : Type} {enc : TypeId × Value → H} {w : World} {base : Nat} {spare : Nat → Bool} {held : Bool}
theorem add_no {b o k : Nat} : (⟨b, o, none⟩ : Addr).add k = ⟨b, o + k, none⟩ := by
  unfold Addr.add; split <;> simp_all
theorem spot_no {a : Addr} {v : Value} (h : w.cell? a = some v) : a.spot = none := by
  obtain ⟨b, o, s⟩ := a
  cases s with
  | none => rfl
  | some s =>
    simp only [World.cell?] at h
    split at h <;> simp at h
theorem read_Byt {fuel : Nat} {v : Value} {x : DataW H × List MemPlace} (h : DataW.trod enc Try.prog w base spare held fuel 32 [v] = some x) :
    ∃ (q : Option Addr) (n c : Nat), v = .slice q n c ∧ Byt w q n c := by
  have hc1 : Try.prog.cellsOf 5 = 1 := by kernel_rfl
  rcases DataW.trod_slice Try.underlying32 h with ⟨e1, _⟩ | ⟨a, len, cap, elems, rest, m', hm', e1, _, hb, hlc, hcm, hel, hall, _, _⟩
  · simp at e1
    subst e1
    exact ⟨none, 0, 0, rfl, by omega, by simp [maxLen], fun i hi => by omega⟩
  · simp at e1
    subst e1
    have hcell : ∀ i, i < len → ∃ k : Int, w.cell? (a.add i) = some (.int .u8 k) ∧ (Lit.int IntKind.u8 k).wf = true := by
      intro i hi
      have h1 := hall i hi
      rw [hc1, List.getElem?_eq_getElem (by omega), Nat.mul_one] at h1
      cases h2 : w.cells? base (a.add i) 1 with
      | none => rw [h2] at h1; simp at h1
      | some ds =>
        rw [h2] at h1
        simp only [Option.bind_some] at h1
        obtain ⟨k, e0, k1, k2⟩ := DataW.trod_int Try.underlying5 h1
        subst e0
        have h3 : w.cell? (a.add i) = some (.int .u8 k) := by
          unfold World.cells? at h2
          split at h2
          · simp only [List.range_succ, List.range_zero, List.nil_append, List.mapM_cons, List.mapM_nil, Option.pure_def, Option.bind_eq_bind] at h2
            cases h0 : w.cell? ((a.add i).add 0) with
            | none => simp [h0] at h2
            | some u =>
              simp [h0] at h2
              have e0 : (a.add i).add 0 = a.add i := by simp [Addr.add]
              rw [e0] at h0; rw [h0, h2]
          · cases h2
        exact ⟨k, h3, k2⟩
    refine ⟨some a, len, cap, rfl, hlc, hcm, fun i hi => ?_⟩
    have hs : a.spot = none := by
      obtain ⟨k, h3, _⟩ := hcell 0 (by omega)
      have := spot_no h3
      simp [Addr.add] at this
      exact this
    obtain ⟨k, h3, k2⟩ := hcell i hi
    obtain ⟨b, o, s⟩ := a
    simp at hs
    subst hs
    rw [add_no] at h3
    refine ⟨b, o, k, rfl, lt_of_cell h3, h3, ?_⟩
    simp [Lit.wf, IntKind.min, IntKind.max, IntKind.signed, IntKind.bits] at k2
    omega
set_option maxRecDepth 100000 in
theorem open_Byt {v : Value} {d : DataW H} {p : List MemPlace} {r : Reach} {b0 : Nat} (hv : Value.okWide Try.prog w r b0 32 v) (h : DataW.Trod enc Try.prog w base spare held 32 v d p) :
    ∃ (q : Option Addr) (n c : Nat), v = .slice q n c ∧ Byt w q n c := by
  obtain ⟨a, len, cap, rfl⟩ := okWide_slice Try.underlying32 hv
  obtain ⟨fuel, hf⟩ := h
  exact read_Byt hf
end Go.Proofs.Ytkkijdlgmlffoaa
