/- Texts of the proof, one behind another. -/
import Derived.Test.YtkkijdlgmlffoaaRows
import Derived.ProofKit
import Derived.OpenShut
import Derived.Test.YtkkijdlgmlffoaaKW8
import Derived.Test.YtkkijdlgmlffoaaKW12
import Derived.Test.YtkkijdlgmlffoaaKW13
import Derived.Test.YtkkijdlgmlffoaaKW14
import Derived.Test.YtkkijdlgmlffoaaKW15
set_option linter.unusedSimpArgs false
set_option linter.unusedVariables false
/- The law's marks on owned types and terms. On shadows. -/
namespace Go.Proofs.Ytkkijdlgmlffoaa
open Go.RowKit Go.Proofs.Sh Go.Proofs.Grad
set_option maxRecDepth 100000
set_option maxHeartbeats 8000000
/-- what a marking leaves -/
def Marked (h : List Blk) (d : Nat) (c : C) (R : List (List C)) (ids : List Nat) (n : Nat) (r : AV) (h' : List Blk) : Prop :=
  r = .one (.sc (.int .i64 (n : Nat))) ∧ ow h' d c = some (.sl R, ids) ∧ h.length ≤ h'.length ∧ ∀ b, b < h.length → b ∉ ids → h'[b]? = h[b]?
theorem markTyS (n : Nat) (hn : n ≤ 1000000000) : ∀ (l : List Ty), Ty.sizes l < n → ∀ (h : List Blk) (c : C) (d : Nat) (ids : List Nat) (k : Nat), k + Ty.sizes l < 4000000000 → ow h d c = some (.sl (tyR l), ids) → ids.Nodup →
    ACl Try.prog 32 [.one c, .one (.sc (.int .i64 (k : Nat)))] h (Marked h d c (tyR (Ty.marks l k)) ids (k + Ty.sizes l)) := by
  induction n with
  | zero => intro l h; omega
  | succ n ih =>
    intro l hl h c d ids k hk e hnd
    have triv : l = [] → (c = .sc (.slice none 0 0) ∨ c = .sl []) → ACl Try.prog 32 [.one c, .one (.sc (.int .i64 (k : Nat)))] h (Marked h d c (tyR (Ty.marks l k)) ids (k + Ty.sizes l)) := by
      intro hl0 hc
      subst hl0
      rcases hc with rfl | rfl
      all_goals
        refine acl_in Try.func32 rfl isfn_32 (Nat.le_of_ble_eq_true rfl) (fun R hR => ?_); rw [Try.results32] at hR; refine wg_run ?_; (simp only [Try.f32, go_sem])
        refine wd_rounds 2 (wl_next (wg_run ?_))
        (simp only [go_sem])
        exact hR _ (ret_all (by (simp only [go_sem]); first | done | rfl) ⟨by simp [Ty.sizes], by simpa [Ty.marks] using e, Nat.le_refl _, fun _ _ _ => rfl⟩)
    cases c with
    | row s b m =>
      obtain ⟨d, kb, R, js, rfl, hb, hm, hlen, hs, hrs, hrows, hR', rfl⟩ := ow_row e
      cases hR'
      have hml : m = l.length := by rw [← hlen, ← fzRows_len hrows, tyR_length]
      subst hml
      clear hb hm hlen hs hrs hrows kb
      refine acl_in Try.func32 rfl isfn_32 (Nat.le_of_ble_eq_true rfl) (fun R hR => ?_); rw [Try.results32] at hR; refine wg_run ?_; (simp only [Try.f32, go_sem])
      refine wd_for (σ := Nat × List Blk) [0, 1, 5] (fun x => [.one (.row s b l.length), .one (.sc (.int .i64 ((k + Ty.sizes (l.take x.1) : Nat)))), .one (.sc (.int .i64 (x.1 : Nat)))]) (fun x => x.2)
        (fun x => x.1 ≤ l.length ∧ ow x.2 (d + 1) (.row s b l.length) = some (.sl (tyR (Ty.part l k x.1)), b :: js) ∧ h.length ≤ x.2.length ∧ ∀ y, y < h.length → y ∉ b :: js → x.2[y]? = h[y]?) (fun x => l.length - x.1) (0, h) ⟨Nat.zero_le _, e, Nat.le_refl _, fun _ _ _ => rfl⟩ (head_all (by (simp only [go_sem]); first | done | rfl) ⟨rfl, rfl⟩) ?_
      rintro ⟨i, h1⟩ ⟨hi, hI, hle, hfr⟩ G hG
      simp only at hi hI hle hfr hG ⊢
      refine wg_run ?_
      (simp only [go_sem])
      ((first | apply sp1 | apply sp2 | apply sp3 | apply sp4 | apply sp5 | apply sp6 | apply sp7) <;> intro hb) <;> (simp only [go_sem, hb])
      · have hi1 : i < l.length := by have := of_decide_eq_true hb; omega
        have hin : decide (i < l.length) = true := by simpa using hi1
        obtain ⟨ty, rows, r, E, pre, is, post, g1, g2, g3, g4, g5, g6, g7, g8, g9, g10, g11, upd⟩ := row_upd hI hnd (i := i) (by rw [tyR_length, Ty.part_length]; exact hi1)
        rw [tyR_get, Ty.part_get hi1] at g5
        cases g5
        obtain ⟨ci, rfl, hci⟩ := owL_ty g7
        simp only [List.length_cons, List.length_nil] at g6
        subst g6
        have hbl : b < h1.length := (List.getElem?_eq_some_iff.1 g1).1
        have hset : ∀ X, (h1.set b X)[b]? = some X := fun X => List.getElem?_set_self hbl
        have hrs : ∀ X, (rows.set i X)[i]? = some X := fun X => List.getElem?_set_self (by omega)
        have hsz := Ty.sizes_take hi1
        have hszl := Ty.sizes_take_le l (i + 1)
        have hkp : (kid l i).size = 1 + Ty.sizes (kid l i).kids := by cases kid l i; simp only [Ty.size, Ty.kids]
        have hw1 : IntKind.i64.wrap (((i : Nat) : Int) + 1) = ((i + 1 : Nat) : Int) := wrap_succ hi1 (by have := Ty.length_le_sizes l; omega)
        have hw2 : IntKind.i64.wrap (((k + Ty.sizes (l.take i) : Nat) : Int) + 1) = ((k + Ty.sizes (l.take i) + 1 : Nat) : Int) := by rw [IntWalk.i64_in _ (by omega)]; omega
        repeat' (first | (first | (simp only [go_sem, hb, hin, g1, g4, hset, hrs, hw1, hw2]) | (((first | apply sp1 | apply sp2 | apply sp3 | apply sp4 | apply sp5 | apply sp6 | apply sp7) <;> intro hb) <;> (simp only [go_sem, hb, hb, hin, g1, g4, hset, hrs, hw1, hw2])) | ((first | apply wm_done | apply wt_done | apply wg_run | refine fk ?_ ?_) <;> (simp only [go_sem, hb, hin, g1, g4, hset, hrs, hw1, hw2]))))
        refine wd_any (acalls_full (ih (by omega) (kid l i).kids (by omega) _ ci d is (k + Ty.sizes (l.take i) + 1) (by omega) (ow_frame hci (fun x hx => List.getElem?_set_ne (fun e => g10 (by rw [e]; exact hx)))) g9)) ?_
        rintro _ h2 ⟨rfl, u1, u2, u3⟩
        rw [show k + Ty.sizes (l.take i) + 1 + Ty.sizes (kid l i).kids = k + Ty.sizes (l.take (i + 1)) from by omega]
        rw [List.length_set] at u2 u3
        (simp only [go_sem])
        repeat' (first | (first | (simp only [go_sem, hb, hin, hw1]) | (((first | apply sp1 | apply sp2 | apply sp3 | apply sp4 | apply sp5 | apply sp6 | apply sp7) <;> intro hb) <;> (simp only [go_sem, hb, hb, hin, hw1])) | ((first | apply wm_done | apply wt_done | apply wg_run | refine fk ?_ ?_) <;> (simp only [go_sem, hb, hin, hw1]))))
        refine hG (i + 1, h2) _ _ ⟨hi1, ?_, by show h.length ≤ h2.length; omega, fun y hy hyn => ?_⟩ (by simp only; omega) (head_all (by (simp only [go_sem]); first | done | rfl) ⟨rfl, rfl⟩)
        · have := upd h2 _ (tyC (.mk ((k + Ty.sizes (l.take i) : Nat) : Int) (Ty.marks (kid l i).kids (k + Ty.sizes (l.take i) + 1)))) rfl (by rw [u3 b hbl g10]; exact hset _) (by rw [tyC_eq]; exact owL_two u1) (fun x hx => by
            obtain ⟨x1, x2⟩ := g11 x hx
            have hxl := (owR_lt hI x (by rw [g8]; rcases List.mem_append.1 hx with hx | hx <;> simp [hx]))
            rw [u3 x hxl x1, List.getElem?_set_ne (fun e => x2 e.symm)])
          rw [tyR_set, ← Ty.mark_eq, Ty.part_set hi1] at this
          exact this
        · simp only [List.mem_cons, not_or] at hyn
          rw [u3 y (by omega) (fun hm => hyn.2 (by rw [g8]; simp [hm])), List.getElem?_set_ne (fun e => hyn.1 e.symm)]
          exact hfr y hy (by simp only [List.mem_cons, not_or]; exact hyn)
      · have hi1 : i = l.length := by have := of_decide_eq_false hb; omega
        subst hi1
        refine hR _ (ret_all (by (simp only [go_sem]); first | done | rfl) ⟨by rw [List.take_length], ?_, hle, hfr⟩)
        rw [hI, Ty.part, List.take_length, List.drop_length, List.append_nil]
    | _ =>
      rw [ow_leaf (by simp)] at e
      obtain ⟨rfl, ⟨h1, h2⟩ | ⟨v, h1, hv, h2⟩ | ⟨h1, h2⟩⟩ := leaf_cases e
      · exact triv (by cases l with | nil => rfl | cons => simp [tyR] at h2) (.inl h1)
      · cases h2
      · exact triv (by cases l with | nil => rfl | cons => simp [tyR] at h2) (.inr h1)
theorem markTy (t : Ty) (ht : Ty.sizes t.kids < 1000000000) (h : List Blk) (c : C) (d : Nat) (ids : List Nat) (k : Nat) (hk : k + Ty.sizes t.kids < 4000000000) (kd : Int) (e : ow h d c = some (.sl (tyR t.kids), ids)) (hnd : ids.Nodup) :
    ACl Try.prog 31 [.agg [.sc (.int .i64 kd), c], .one (.sc (.int .i64 (k : Nat)))] h (Marked h d c (tyR (Ty.marks t.kids k)) ids (k + Ty.sizes t.kids)) := by
  refine acl_in Try.func31 rfl isfn_31 (Nat.le_of_ble_eq_true rfl) (fun R hR => ?_); rw [Try.results31] at hR; refine wg_run ?_; (simp only [Try.f31, go_sem])
  repeat' (first | (((first | apply sp1 | apply sp2 | apply sp3 | apply sp4 | apply sp5 | apply sp6 | apply sp7) <;> intro hb) <;> (simp only [go_sem, hb])) | ((first | apply wm_done | apply wt_done | apply wg_run | refine fk ?_ ?_) <;> (simp only [go_sem])))
  refine wd_any (acalls_full (markTyS 1000000000 (by omega) t.kids ht _ c d ids k hk (ow_frame e (fun x hx => List.getElem?_append_left (ow_mut e x hx).lt)) hnd)) ?_
  rintro _ h2 ⟨rfl, u1, u2, u3⟩
  (simp only [go_sem])
  repeat' (first | (((first | apply sp1 | apply sp2 | apply sp3 | apply sp4 | apply sp5 | apply sp6 | apply sp7) <;> intro hb) <;> (simp only [go_sem, hb])) | ((first | apply wm_done | apply wt_done | apply wg_run | refine fk ?_ ?_) <;> (simp only [go_sem])))
  simp only [List.length_append, List.length_cons, List.length_nil] at u2 u3
  exact hR _ (ret_all (by (simp only [go_sem]); first | done | rfl) ⟨rfl, u1, by simp only; omega, fun b hb hm => by simp only; rw [u3 b (by omega) hm, List.getElem?_append_left hb]⟩)
end Go.Proofs.Ytkkijdlgmlffoaa
/- The law's marks, read again. On shadows. -/
namespace Go.Proofs.Grad
open Go.Proofs.Sh
theorem Ty.marks_kid {l : List Ty} {k i : Nat} (h : i < l.length) : kid (Ty.marks l k) i = (kid l i).mark (k + Ty.sizes (l.take i)) := by
  have h1 := Ty.marks_append (l.take i) (l.drop i) k
  rw [List.take_append_drop] at h1
  have hl : (Ty.marks (l.take i) k).length = i := by rw [Ty.marks_length, List.length_take]; omega
  rw [h1, kid, List.getD_eq_getElem?_getD, List.getElem?_append_right (by omega), hl, Nat.sub_self, drop_kid h]
  rfl
theorem Tm.marks_kid {l : List Tm} {k i : Nat} (h : i < l.length) : teKid (Tm.marks l k) i = (teKid l i).mark (k + Tm.mws (l.take i)) := by
  have h1 := Tm.marks_append (l.take i) (l.drop i) k
  rw [List.take_append_drop] at h1
  have hl : (Tm.marks (l.take i) k).length = i := by rw [Tm.marks_length, List.length_take]; omega
  rw [h1, teKid, List.getD_eq_getElem?_getD, List.getElem?_append_right (by omega), hl, Nat.sub_self, tedrop_kid h]
  rfl
end Go.Proofs.Grad
namespace Go.Proofs.Ytkkijdlgmlffoaa
open Go.RowKit Go.Proofs.Sh Go.Proofs.Grad
set_option maxRecDepth 100000
set_option maxHeartbeats 8000000
theorem heldTyS (n : Nat) (hn : n ≤ 1000000000) : ∀ (l : List Ty), Ty.sizes l < n → ∀ k : Nat, k + Ty.sizes l < 4000000000 → AFn Try.prog 33 [.one (.sl (tyR (Ty.marks l k))), .one (.sc (.int .i64 (k : Nat)))] (.one (.sc (.int .i64 ((k + Ty.sizes l : Nat))))) := by
  induction n with
  | zero => intro l h; omega
  | succ n ih =>
    intro l hl k hk
    have hml := Ty.marks_length l k
    refine fn_in ?_; refine acl_in Try.func33 rfl isfn_33 (Nat.le_of_ble_eq_true rfl) (fun R hR => ?_); rw [Try.results33] at hR; refine wg_run ?_; (simp only [Try.f33, go_sem])
    refine wd_for [0, 1, 5] (fun i => [.one (.sl (tyR (Ty.marks l k))), .one (.sc (.int .i64 ((k + Ty.sizes (l.take i) : Nat)))), .one (.sc (.int .i64 (i : Nat)))]) (fun _ => [])
      (fun i => i ≤ l.length) (fun i => l.length - i) 0 (Nat.zero_le _) (head_all (by (simp only [go_sem]); first | done | rfl) ⟨rfl, rfl⟩) ?_
    rintro i hi G hG
    refine wg_run ?_
    (simp only [go_sem, hml])
    ((first | apply sp1 | apply sp2 | apply sp3 | apply sp4 | apply sp5 | apply sp6 | apply sp7) <;> intro hb) <;> (simp only [go_sem, hb])
    · have hi1 : i < l.length := by have := of_decide_eq_true hb; omega
      have hsz := Ty.sizes_take hi1
      have hszl := Ty.sizes_take_le l (i + 1)
      have hkp : (kid l i).size = 1 + Ty.sizes (kid l i).kids := by cases kid l i; simp only [Ty.size, Ty.kids]
      have hw1 : IntKind.i64.wrap (((i : Nat) : Int) + 1) = ((i + 1 : Nat) : Int) := wrap_succ hi1 (by have := Ty.length_le_sizes l; omega)
      have hm := Ty.marks_kid (k := k) hi1
      rw [Ty.mark_eq] at hm
      obtain ⟨K, hK⟩ : ∃ K, K = k + Ty.sizes (l.take i) := ⟨_, rfl⟩
      rw [← hK] at hm
      have hmk : (kid (Ty.marks l k) i).kind = ((K : Nat) : Int) := by rw [hm]; rfl
      have hmi : (kid (Ty.marks l k) i).kids = Ty.marks (kid l i).kids (K + 1) := by rw [hm]; rfl
      have hne : ((K : Int) != (K : Int)) = false := by simp
      have hc := ih (by omega) (kid l i).kids (by omega) (K + 1) (by omega)
      have hw2 : IntKind.i64.wrap (((K : Nat) : Int) + 1) = ((K + 1 : Nat) : Int) := by rw [IntWalk.i64_in _ (by omega)]; omega
      rw [show K + 1 + Ty.sizes (kid l i).kids = k + Ty.sizes (l.take (i + 1)) from by omega] at hc
      have hlt : decide (((k + Ty.sizes (l.take (i + 1)) : Nat) : Int) < 0) = false := by simp; omega
      rw [← hK]
      repeat' (first | (first | (simp only [go_sem, hb, hml, hmk, hmi, hne, hw1, hw2, hlt]) | (((first | apply sp1 | apply sp2 | apply sp3 | apply sp4 | apply sp5 | apply sp6 | apply sp7) <;> intro hb) <;> (simp only [go_sem, hb, hb, hml, hmk, hmi, hne, hw1, hw2, hlt])) | ((first | apply wm_done | apply wt_done | apply wg_run | refine fk ?_ ?_) <;> (simp only [go_sem, hb, hml, hmk, hmi, hne, hw1, hw2, hlt]))) | (first | refine cdq ?_ (hc := hc) | refine cmq ?_ (hc := hc) | refine ctq ?_ (hc := hc)); (simp only [go_sem]))
      exact hG (i + 1) _ _ hi1 (by omega) (head_all (by (simp only [go_sem]); first | done | rfl) ⟨rfl, rfl⟩)
    · have hi1 : i = l.length := by have := of_decide_eq_false hb; omega
      subst hi1
      (refine hR _ (rat [] (hK := ⟨?_, rfl⟩)))
      rw [List.take_length]
end Go.Proofs.Ytkkijdlgmlffoaa
/- RefineType, owned; what the law of its exact row asks. On shadows. -/
namespace Go.Proofs.Sh
open Go.RowKit Go.Proofs.Grad
theorem OwnT.one {p : Nat} {T pre : List Blk} {c e : C} {ids : List Nat} (h : OwnT p T [c] [e] ids) (hp : pre.length = p) : ∃ d, ow (pre ++ T) d c = some (e, ids) := by
  obtain ⟨d, hd⟩ := h.own
  obtain ⟨c1, cs', i, j, e1, g1, g2, e2⟩ := fzL_cons (hd pre hp)
  cases e1
  obtain ⟨e3, e4⟩ := fzL_nil g2
  subst e4
  rw [List.append_nil] at e2
  subst e2
  exact ⟨d, g1⟩
theorem OwnT.lent1 {p : Nat} {T pre : List Blk} {c e : C} {ids : List Nat} (h : OwnT p T [c] [e] ids) (hp : pre.length = p) : Lent (pre ++ T) (.one c) (.one e) ids := by
  obtain ⟨d, hd⟩ := h.one hp
  exact .one hd
end Go.Proofs.Sh
namespace Go.Proofs.Grad
theorem Ty.sizes_le {n : Nat} : ∀ l : List Ty, (∀ x ∈ l, x.size ≤ n) → Ty.sizes l ≤ n * l.length
  | [], _ => by simp [Ty.sizes]
  | x :: l, h => by
    have h1 := h x (by simp)
    have h2 := Ty.sizes_le l (fun y hy => h y (by simp [hy]))
    simp only [Ty.sizes, List.length_cons, Nat.mul_succ]; omega
theorem T.steps_sizes (t : T) (h : t.depth ≤ 4) : Ty.sizes ((t.steps 4).map T.ty) < 100000 := by
  have hsz : t.size < 100 := by have h1 := size_depthR t; have h3 : 2 ^ t.depth ≤ 2 ^ 4 := Nat.pow_le_pow_right (by omega) h; omega
  have h1 := Ty.sizes_le (n := 102) ((t.steps 4).map T.ty) (fun x hx => by
    obtain ⟨y, hy, rfl⟩ := List.mem_map.1 hx
    rw [← T.refs_steps t 4 h] at hy
    have := t.refs_size y (List.mem_filter.1 hy).1
    rw [T.ty_size]; omega)
  have h2 := (t.steps_len 4).2
  have h3 := t.anys_size
  rw [List.length_map] at h1
  omega
end Go.Proofs.Grad
namespace Go.Proofs.Ytkkijdlgmlffoaa
open Go.RowKit Go.Proofs.Sh Go.Proofs.Grad
set_option maxRecDepth 100000
set_option maxHeartbeats 8000000
theorem iRefineO (t : T) (ht : t.depth ≤ 4) : ACl Try.prog 29 [.agg (tyC t.ty)] [] (OwnK [.sl (tyR ((t.steps 4).map T.ty))] Sh.one1) := by
  have hv := iValid t.ty
  rw [T.valid_ty, decide_eq_true ht] at hv
  have hsz : t.size < 100 := by have h1 := size_depthR t; have h3 : 2 ^ t.depth ≤ 2 ^ 4 := Nat.pow_le_pow_right (by omega) ht; omega
  have hr := iRefinedO t (by omega)
  have hal := t.anys_size
  have hrl := t.refs_len
  have hsl := t.steps_len 4
  have hfl : (t.refs.map T.ty).filter (fun x => !(!x.valid)) = (t.steps 4).map T.ty := by
    rw [← T.refs_steps t 4 ht, List.filter_map]
    congr 1
    apply List.filter_congr
    intro x _
    simp only [Function.comp, T.valid_ty, Bool.not_not]
  have hsub : ∀ x ∈ t.steps 4, x ∈ t.refs := by
    intro x hx
    rw [← T.refs_steps t 4 ht] at hx
    exact (List.mem_filter.1 hx).1
  have hor : ACl Try.prog 56 [.one (.sl (tyR ((t.steps 4).map T.ty)))] [] (OwnK [.sl (tyR ((t.steps 4).map T.ty))] Sh.one1) := by
    refine iOwnTysO _ (by rw [List.length_map]; omega) (fun k hk => ?_)
    rw [kid_eq hk, List.getElem_map, T.ty_size]
    have := t.refs_size _ (hsub _ (List.getElem_mem (by simpa using hk)))
    omega
  generalize hLL : t.refs.map T.ty = L at *
  generalize (t.steps 4).map T.ty = M at *
  have hLl : L.length < 1000000 := by rw [← hLL, List.length_map]; omega
  cases L with
  | nil =>
    have hr0 : AFn Try.prog 58 [.agg (tyC t.ty)] (.one (.sl [])) := by
      have := iRefined t (by omega)
      rw [hLL] at this; exact this
    have hd := iDelNil 59
    have hM : M = [] := by rw [← hfl]; rfl
    subst hM
    refine acl_in Try.func29 rfl isfn_29 (Nat.le_of_ble_eq_true rfl) (fun R hR => ?_); rw [Try.results29] at hR; refine wg_run ?_; (simp only [Try.f29, go_sem])
    repeat' (first | (first | (((first | apply sp1 | apply sp2 | apply sp3 | apply sp4 | apply sp5 | apply sp6 | apply sp7) <;> intro hb) <;> (simp only [go_sem, hb])) | ((first | apply wm_done | apply wt_done | apply wg_run | refine fk ?_ ?_) <;> (simp only [go_sem]))) | (first | refine cdq ?_ (hc := hv) | refine cmq ?_ (hc := hv) | refine ctq ?_ (hc := hv)); (simp only [go_sem]) | (first | refine cdq ?_ (hc := hr0) | refine cmq ?_ (hc := hr0) | refine ctq ?_ (hc := hr0)); (simp only [go_sem]) | (first | refine cdq ?_ (hc := hd) | refine cmq ?_ (hc := hd) | refine ctq ?_ (hc := hd)); (simp only [go_sem]) | fail)
    refine wd_any (acalls_ownP (by (simp only [go_sem]); first | done | rfl) hor one1_ren) ?_
    rintro _ _ ⟨cs, d, ids, rfl, e1, e2, e3, T, rfl⟩
    obtain ⟨c, cs', i, j, rfl, g1, g2, rfl⟩ := fzL_cons e1
    obtain ⟨rfl, rfl⟩ := fzL_nil g2
    rw [List.append_nil] at e1 e2
    simp only [Sh.one1, List.getD_cons_zero]
    (simp only [go_sem])
    repeat' (first | (first | (((first | apply sp1 | apply sp2 | apply sp3 | apply sp4 | apply sp5 | apply sp6 | apply sp7) <;> intro hb) <;> (simp only [go_sem, hb])) | ((first | apply wm_done | apply wt_done | apply wg_run | refine fk ?_ ?_) <;> (simp only [go_sem]))) | fail)
    exact hR _ (ret_ownK (F := Sh.one1) (cs := [c]) (d := d) (by (simp only [go_sem]); first | done | rfl) e1 e2 (prVs_one1 e1))
  | cons y L =>
    have hd := iDelT 59 (fun x => !x.valid) (y :: L) (by omega) (by simp) iPred
    rw [hfl] at hd
    have hr1 : ACl Try.prog 58 [.agg (tyC t.ty)] [] (fun r H' => r = .one (.row 2 0 (y :: L).length) ∧ H' = [⟨2, 29, .mut, tyR (y :: L)⟩]) := by
      refine hr.mono ?_
      rintro r H' (⟨h, _⟩ | ⟨_, h1, h2⟩)
      · cases h
      · exact ⟨h1, h2⟩
    generalize (y :: L) = L' at *
    refine acl_in Try.func29 rfl isfn_29 (Nat.le_of_ble_eq_true rfl) (fun R hR => ?_); rw [Try.results29] at hR; refine wg_run ?_; (simp only [Try.f29, go_sem])
    repeat' (first | (first | (simp only [go_sem, List.getD_cons_zero]) | (((first | apply sp1 | apply sp2 | apply sp3 | apply sp4 | apply sp5 | apply sp6 | apply sp7) <;> intro hb) <;> (simp only [go_sem, hb, List.getD_cons_zero])) | ((first | apply wm_done | apply wt_done | apply wg_run | refine fk ?_ ?_) <;> (simp only [go_sem, List.getD_cons_zero]))) | (first | refine cdq ?_ (hc := hv) | refine cmq ?_ (hc := hv) | refine ctq ?_ (hc := hv)); (simp only [go_sem]) | ((first | refine kdq [] ?_ (hc := hr1) | refine kmq [] ?_ (hc := hr1) | refine ktq [] ?_ (hc := hr1)); rintro _ _ ⟨rfl, rfl⟩ <;> (simp only [go_sem])) | ((first | refine kdq [1] ?_ (hc := hd) | refine kmq [1] ?_ (hc := hd) | refine ktq [1] ?_ (hc := hd)); rintro _ _ ⟨rfl, rfl⟩ <;> (simp only [go_sem])) | fail)
    refine wd_any (acalls_ownP (by (simp only [go_sem]); first | done | rfl) hor one1_ren) ?_
    rintro _ _ ⟨cs, d, ids, rfl, e1, e2, e3, T, rfl⟩
    obtain ⟨c, cs', i, j, rfl, g1, g2, rfl⟩ := fzL_cons e1
    obtain ⟨rfl, rfl⟩ := fzL_nil g2
    rw [List.append_nil] at e1 e2
    simp only [Sh.one1, List.getD_cons_zero]
    (simp only [go_sem])
    repeat' (first | (first | (((first | apply sp1 | apply sp2 | apply sp3 | apply sp4 | apply sp5 | apply sp6 | apply sp7) <;> intro hb) <;> (simp only [go_sem, hb])) | ((first | apply wm_done | apply wt_done | apply wg_run | refine fk ?_ ?_) <;> (simp only [go_sem]))) | fail)
    exact hR _ (ret_ownK (F := Sh.one1) (cs := [c]) (d := d) (by (simp only [go_sem]); first | done | rfl) e1 e2 (prVs_one1 e1))
theorem iRefineNO (t : Ty) (h : t.valid = false) : ACl Try.prog 29 [.agg (tyC t)] [] (OwnK [.sl (tyR [])] Sh.one1) := by
  have hv := iValid t
  rw [h] at hv
  refine acl_in Try.func29 rfl isfn_29 (Nat.le_of_ble_eq_true rfl) (fun R hR => ?_); rw [Try.results29] at hR; refine wg_run ?_; (simp only [Try.f29, go_sem])
  repeat' (first | (first | (((first | apply sp1 | apply sp2 | apply sp3 | apply sp4 | apply sp5 | apply sp6 | apply sp7) <;> intro hb) <;> (simp only [go_sem, hb])) | ((first | apply wm_done | apply wt_done | apply wg_run | refine fk ?_ ?_) <;> (simp only [go_sem]))) | (first | refine cdq ?_ (hc := hv) | refine cmq ?_ (hc := hv) | refine ctq ?_ (hc := hv)); (simp only [go_sem]) | fail)
  exact hR _ (ret_ownK (F := Sh.one1) (cs := [.sc (.slice none 0 0)]) (d := 0) (ids := []) (by (simp only [go_sem]); first | done | rfl) rfl List.nodup_nil (prVs_one1 (d := 0) (enc := [.sl []]) rfl))
/-- a type is marked -/
theorem markOwnY {t : Ty} {p k : Nat} {pre T : List Blk} {cs : List C} {ids : List Nat} (h : OwnT p T cs (tyC t) ids) (hp : pre.length = p) (hk0 : Ty.sizes t.kids < 1000000000) (hk : k + Ty.sizes t.kids < 4000000000) :
    ∃ ks, ACalls Try.prog 31 [.agg cs, .one (.sc (.int .i64 (k : Nat)))] (pre ++ T) ks (fun r h' => ∃ T', r = .one (.sc (.int .i64 ((k + Ty.sizes t.kids : Nat)))) ∧ h' = pre ++ T' ∧ T.length ≤ T'.length ∧ (∀ i, i < T.length → i + p ∉ ids → T'[i]? = T[i]?) ∧ OwnT p T' cs (tyC (.mk t.kind (Ty.marks t.kids k))) ids) := by
  obtain ⟨d, hd⟩ := h.own
  have h1 := hd pre hp
  obtain ⟨c, rfl, hc⟩ := owL_ty h1
  refine acalls_changeT hp h.ge h.nodup ⟨d, (markTy t hk0 _ c d ids k hk t.kind hc h.nodup).mono fun r h' ⟨e1, e2, e3, e4⟩ => ⟨e1, ?_, e3, e4⟩⟩
  rw [tyC_eq]
  exact owL_two e2
/-- a list of types is marked -/
theorem markOwnYS {l : List Ty} {p k : Nat} {pre T : List Blk} {c : C} {ids : List Nat} (h : OwnT p T [c] [.sl (tyR l)] ids) (hp : pre.length = p) (hk0 : Ty.sizes l < 1000000000) (hk : k + Ty.sizes l < 4000000000) :
    ∃ ks, ACalls Try.prog 32 [.one c, .one (.sc (.int .i64 (k : Nat)))] (pre ++ T) ks (fun r h' => ∃ T', r = .one (.sc (.int .i64 ((k + Ty.sizes l : Nat)))) ∧ h' = pre ++ T' ∧ T.length ≤ T'.length ∧ (∀ i, i < T.length → i + p ∉ ids → T'[i]? = T[i]?) ∧ OwnT p T' [c] [.sl (tyR (Ty.marks l k))] ids) := by
  obtain ⟨d, hd⟩ := h.one hp
  exact acalls_changeT hp h.ge h.nodup ⟨d, (markTyS 1000000000 (by omega) l hk0 _ c d ids k hk hd h.nodup).mono fun r h' ⟨e1, e2, e3, e4⟩ => ⟨e1, owL_one e2, e3, e4⟩⟩
end Go.Proofs.Ytkkijdlgmlffoaa
/- A law's arguments that are types and terms, read as shadows. -/
namespace Go.Proofs.Sh
open Go.RowKit Go.Proofs.Grad
theorem simNil (w : World) : Sim [] [] [] w :=
  ⟨rfl, by simp, by simp, fun i b g h => by simp at h, fun i j b b' g _ h => by simp at h, fun i b g h => by simp at h⟩
theorem lawCalls {P : Program} {f : FuncId} {args : List AV} {vs : Array Value} {w : World} (h : AFn P f args (.one (.sc (.bool true)))) (hr : AV.repl [] [] w args vs.toList) :
    Calls P f vs w (fun e w' => e = .returned (.bool true) ∧ Below w.heap.size w w') := by
  refine (h.out.2 [] [] w vs (simNil w) hr).mono ?_
  rintro e w' ⟨r, H', μ', v, rfl, ⟨rfl, rfl⟩, hS, hT, hv⟩
  simp only [AV.rep, C.rep] at hv
  refine ⟨by rw [hv.1], hT.keep.os, hT.keep.tape, hT.keep.output, hT.keep.size, fun b hb => hT.keep.block b (by simp [alive]) hb⟩
variable {w : World}
theorem reps_of {b : Nat} : ∀ {cs : List C} {ds : List Value} {off : Nat}, C.repl [] [] w cs ds → (∀ i, i < ds.length → w.cell? ⟨b, off + i, none⟩ = ds[i]?) → C.reps [] [] w cs b off
  | [], _, _, _, _ => trivial
  | c :: cs, ds, off, h, hc => by
    simp only [C.repl] at h
    obtain ⟨u, us, rfl, h1, h2⟩ := h
    refine ⟨⟨u, hc 0 (by simp), h1⟩, reps_of h2 fun i hi => ?_⟩
    have := hc (i + 1) (by simpa using hi)
    rw [show off + 1 + i = off + (i + 1) by omega]
    simpa using this
theorem repss_of {T : Type} (f : T → List C) {s b : Nat} (hf : ∀ t, (f t).length = s) : ∀ (l : List T) (off : Nat), (∀ i (hi : i < l.length), C.reps [] [] w (f l[i]) b (off + i * s)) → C.repss [] [] w s (l.map f) b off
  | [], _, _ => trivial
  | t :: l, off, h => by
    have h0 := h 0 (by simp)
    rw [Nat.zero_mul, Nat.add_zero] at h0
    refine ⟨hf t, h0, repss_of f hf l (off + s) fun i hi => ?_⟩
    have := h (i + 1) (by simpa using hi)
    rw [show off + s + i * s = off + (i + 1) * s by rw [Nat.add_mul]; omega]
    simpa using this
theorem add_plain {b o k : Nat} : (⟨b, o, none⟩ : Addr).add k = ⟨b, o + k, none⟩ := by
  unfold Addr.add; split <;> simp_all
theorem spot_plain {a : Addr} {v : Value} (h : w.cell? a = some v) : a.spot = none := by
  obtain ⟨b, o, s⟩ := a
  cases s with
  | none => rfl
  | some s =>
    simp only [World.cell?] at h
    split at h <;> simp at h
theorem sl_rep {T : Type} (f : T → List C) {s base : Nat} (hs : 0 < s) (hf : ∀ t, (f t).length = s) {a : Addr} {cap : Nat} (l : List T) (h : ∀ i (hi : i < l.length), ∃ ds, w.cells? base (a.add (i * s)) s = some ds ∧ C.repl [] [] w (f l[i]) ds) (hlc : l.length ≤ cap) (hcm : cap ≤ maxLen) :
    C.rep [] [] w (.sl (l.map f)) (.slice (some a) l.length cap) := by
  simp only [C.rep]
  refine ⟨some a, cap, by rw [List.length_map], by simpa using hlc, hcm, ?_⟩
  cases hl : l with
  | nil => exact .inl rfl
  | cons t0 l0 =>
    have h0 : 0 < l.length := by rw [hl]; simp
    obtain ⟨ds, g, _⟩ := h 0 h0
    obtain ⟨_, g2, g3⟩ := World.cells?_some g
    have g4 := g3 0 hs
    have : ∃ v, ds[0]? = some v := ⟨ds[0], List.getElem?_eq_getElem (by omega)⟩
    obtain ⟨v, hv⟩ := this
    rw [hv] at g4
    have hsp : a.spot = none := by
      have := spot_plain g4
      simp [Addr.add] at this
      exact this
    obtain ⟨b, o, sp⟩ := a
    simp at hsp
    subst hsp
    rw [add_plain, add_plain] at g4
    refine .inr ⟨b, o, s, rfl, lt_of_cell g4, by simp, ?_⟩
    rw [← hl]
    refine repss_of f hf l o fun i hi => ?_
    obtain ⟨ds, g, gr⟩ := h i hi
    obtain ⟨_, g2, g3⟩ := World.cells?_some g
    refine reps_of gr fun j hj => ?_
    have := g3 j (by omega)
    simpa [add_plain] using this
theorem listAll {α : Type} {n : Nat} {P : Nat → α → Prop} (h : ∀ i, i < n → ∃ x, P i x) : ∃ l : List α, l.length = n ∧ ∀ i (hi : i < l.length), P i l[i] := by
  induction n with
  | zero => exact ⟨[], rfl, by simp⟩
  | succ n ih =>
    obtain ⟨l, hl, hp⟩ := ih fun i hi => h i (by omega)
    obtain ⟨x, hx⟩ := h n (by omega)
    refine ⟨l ++ [x], by simp [hl], fun i hi => ?_⟩
    by_cases hil : i < l.length
    · rw [List.getElem_append_left hil]; exact hp i hil
    · have : i = l.length := by simp at hi; omega
      subst this
      rw [List.getElem_append_right (by omega)]
      simp only [Nat.sub_self, List.getElem_cons_zero]
      rw [hl]; exact hx
theorem tyR_map (l : List Ty) : tyR l = l.map tyC := by
  induction l with
  | nil => rfl
  | cons t l ih => simp [tyR, ih]
theorem rep_nil {s : Nat} : C.rep [] [] w (.sl []) (.slice none 0 s) ↔ s ≤ maxLen := by
  simp only [C.rep, List.length_nil]
  exact ⟨fun ⟨_, c, e, _, h, _⟩ => by cases e; exact h, fun h => ⟨none, s, rfl, Nat.zero_le _, h, .inl trivial⟩⟩
end Go.Proofs.Sh
namespace Go.Proofs.Ytkkijdlgmlffoaa
open Go.RowKit Go.Proofs.Sh Go.Proofs.Grad
open Go.ChangeShapes Go.WideShapes Go.ChangeAt
theorem ownKT : ownKnob Try.prog.godebug = none := by kernel_rfl
theorem laidKT : laidOutB Try.prog = true := by kernel_rfl
variable {H : Type} {enc : TypeId × Value → H} {w : World} {base : Nat} {spare : Nat → Bool} {held : Bool}
set_option maxRecDepth 100000 in
theorem opn_Ty : ∀ (n fuel : Nat) (cs : List Value) (x : DataW H × List MemPlace), fuel ≤ n → DataW.trod enc Try.prog w base spare held fuel 24 cs = some x → ∃ t : Ty, C.repl [] [] w (tyC t) cs ∧ t.fits := by
  intro n
  induction n with
  | zero =>
    intro fuel cs x hf h
    obtain rfl : fuel = 0 := by omega
    simp [DataW.trod] at h
  | succ n ih =>
    intro fuel cs x hf h
    obtain ⟨xs, m, hm, hx, hl, hlen, hfs⟩ := DataW.trod_struct Try.underlying24 h
    have hc : Try.prog.cellsOf 24 = 2 := by kernel_rfl
    have hc1 : Try.prog.cellsOf 3 = 1 := by kernel_rfl
    have hc2 : Try.prog.cellsOf 22 = 1 := by kernel_rfl
    rw [hc] at hl
    match cs, hl with
    | [c0, c1], _ =>
      have f0 : DataW.trod enc Try.prog w base spare held m 3 (([c0, c1].drop 0).take (Try.prog.cellsOf 3)) = xs[0]? := hfs 0 _ rfl
      have f1 : DataW.trod enc Try.prog w base spare held m 22 (([c0, c1].drop 1).take (Try.prog.cellsOf 22)) = xs[1]? := hfs 1 _ rfl
      rw [hc1] at f0
      rw [hc2] at f1
      simp at hlen
      rw [List.getElem?_eq_getElem (by omega)] at f0 f1
      simp at f0 f1
      obtain ⟨k, e0, _, _⟩ := DataW.trod_int Try.underlying3 f0
      simp at e0
      subst e0
      rcases DataW.trod_slice Try.underlying22 f1 with ⟨e1, _⟩ | ⟨a, len, cap, elems, rest, m', hm', e1, _, hb, hlc, hcm, hel, hall, _, _⟩
      · simp at e1
        subst e1
        refine ⟨.mk k [], ?_, ⟨by simp, trivial⟩⟩
        simp only [tyC, tyR, C.repl]
        exact ⟨_, _, rfl, ⟨rfl, rfl⟩, _, _, rfl, rep_nil.2 (by simp [maxLen]), rfl⟩
      · simp at e1
        subst e1
        have hkid : ∀ i, i < len → ∃ t : Ty, (∃ ds, w.cells? base (a.add (i * 2)) 2 = some ds ∧ C.repl [] [] w (tyC t) ds) ∧ t.fits := by
          intro i hi
          have h1 := hall i hi
          rw [hc, List.getElem?_eq_getElem (by omega)] at h1
          cases h2 : w.cells? base (a.add (i * 2)) 2 with
          | none => rw [h2] at h1; simp at h1
          | some ds =>
            rw [h2] at h1
            simp only [Option.bind_some] at h1
            obtain ⟨t, hr, hf⟩ := ih m' ds _ (by omega) h1
            exact ⟨t, ⟨ds, rfl, hr⟩, hf⟩
        obtain ⟨l, hl, hp⟩ := listAll hkid
        subst hl
        refine ⟨.mk k l, ?_, ⟨by simp only [maxLen] at hcm; omega, Ty.fitss_of fun i hi => (hp i hi).2⟩⟩
        simp only [tyC, C.repl]
        refine ⟨_, _, rfl, ⟨rfl, rfl⟩, _, _, rfl, ?_, rfl⟩
        rw [tyR_map]
        exact sl_rep tyC (by omega) tyC_length l (fun i hi => (hp i hi).1) hlc hcm
set_option maxRecDepth 100000 in
theorem open_TyS {v : Value} {d : DataW H} {p : List MemPlace} {r : Reach} {b0 : Nat} (hv : Value.okWide Try.prog w r b0 24 v) (h : DataW.Trod enc Try.prog w base spare held 24 v d p) : ∃ t : Ty, AV.rep [] [] w (.agg (tyC t)) v ∧ t.fits := by
  obtain ⟨cs, rfl, _⟩ := okWide_struct Try.underlying24 hv
  obtain ⟨fuel, hu⟩ := h
  obtain ⟨t, hr, hf⟩ := opn_Ty fuel fuel _ _ (Nat.le_refl _) hu
  refine ⟨t, ?_, hf⟩
  simp only [AV.rep]
  exact ⟨cs, rfl, hr⟩
theorem repl_one {c : C} {v : Value} (h : C.rep [] [] w c v) : C.repl [] [] w [c] [v] := by simp only [C.repl]; exact ⟨v, [], rfl, h, rfl⟩
end Go.Proofs.Ytkkijdlgmlffoaa
