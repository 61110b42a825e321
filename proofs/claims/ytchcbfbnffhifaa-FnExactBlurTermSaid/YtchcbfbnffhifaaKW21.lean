/- Texts of the proof, one behind another. -/
import Derived.Test.YtchcbfbnffhifaaRows
import Derived.ProofKit
import Derived.OpenShut
import Derived.Test.YtchcbfbnffhifaaKW8
import Derived.Test.YtchcbfbnffhifaaKW11
import Derived.Test.YtchcbfbnffhifaaKW16
import Derived.Test.YtchcbfbnffhifaaKW19
import Derived.Test.YtchcbfbnffhifaaKW20
set_option linter.unusedSimpArgs false
set_option linter.unusedVariables false
/- The law's marks on owned types and terms. On shadows. -/
namespace Go.Proofs.Ytchcbfbnffhifaa
open Go.RowKit Go.Proofs.Sh Go.Proofs.Grad
set_option maxRecDepth 100000
set_option maxHeartbeats 8000000
/-- what a marking leaves -/
def Marked (h : List Blk) (d : Nat) (c : C) (R : List (List C)) (ids : List Nat) (n : Nat) (r : AV) (h' : List Blk) : Prop :=
  r = .one (.sc (.int .i64 (n : Nat))) ∧ ow h' d c = some (.sl R, ids) ∧ h.length ≤ h'.length ∧ ∀ b, b < h.length → b ∉ ids → h'[b]? = h[b]?
theorem markTyS (n : Nat) (hn : n ≤ 1000000000) : ∀ (l : List Ty), Ty.sizes l < n → ∀ (h : List Blk) (c : C) (d : Nat) (ids : List Nat) (k : Nat), k + Ty.sizes l < 4000000000 → ow h d c = some (.sl (tyR l), ids) → ids.Nodup →
    ACl Try.prog 126 [.one c, .one (.sc (.int .i64 (k : Nat)))] h (Marked h d c (tyR (Ty.marks l k)) ids (k + Ty.sizes l)) := by
  induction n with
  | zero => intro l h; omega
  | succ n ih =>
    intro l hl h c d ids k hk e hnd
    have triv : l = [] → (c = .sc (.slice none 0 0) ∨ c = .sl []) → ACl Try.prog 126 [.one c, .one (.sc (.int .i64 (k : Nat)))] h (Marked h d c (tyR (Ty.marks l k)) ids (k + Ty.sizes l)) := by
      intro hl0 hc
      subst hl0
      rcases hc with rfl | rfl
      all_goals
        refine acl_in Try.func126 rfl isfn_126 (Nat.le_of_ble_eq_true rfl) (fun R hR => ?_); rw [Try.results126] at hR; refine wg_run ?_; (simp only [Try.f126, go_sem])
        refine wd_rounds 2 (wl_next (wg_run ?_))
        (simp only [go_sem])
        exact hR _ (ret_all (by (simp only [go_sem]); first | done | rfl) ⟨by simp [Ty.sizes], by simpa [Ty.marks] using e, Nat.le_refl _, fun _ _ _ => rfl⟩)
    cases c with
    | row s b m =>
      obtain ⟨d, kb, R, js, rfl, hb, hm, hlen, hs, hrs, hrows, hR', rfl⟩ := ow_row e
      cases hR'
      have hml : m = l.length := by rw [← hlen, ← fzRows_len hrows, tyR_length]
      subst hml
      clear hb hm hlen hs hrs hrows kb
      refine acl_in Try.func126 rfl isfn_126 (Nat.le_of_ble_eq_true rfl) (fun R hR => ?_); rw [Try.results126] at hR; refine wg_run ?_; (simp only [Try.f126, go_sem])
      refine wd_for (σ := Nat × List Blk) [0, 1, 5] (fun x => [.one (.row s b l.length), .one (.sc (.int .i64 ((k + Ty.sizes (l.take x.1) : Nat)))), .one (.sc (.int .i64 (x.1 : Nat)))]) (fun x => x.2)
        (fun x => x.1 ≤ l.length ∧ ow x.2 (d + 1) (.row s b l.length) = some (.sl (tyR (Ty.part l k x.1)), b :: js) ∧ h.length ≤ x.2.length ∧ ∀ y, y < h.length → y ∉ b :: js → x.2[y]? = h[y]?) (fun x => l.length - x.1) (0, h) ⟨Nat.zero_le _, e, Nat.le_refl _, fun _ _ _ => rfl⟩ (head_all (by (simp only [go_sem]); first | done | rfl) ⟨rfl, rfl⟩) ?_
      rintro ⟨i, h1⟩ ⟨hi, hI, hle, hfr⟩ G hG
      simp only at hi hI hle hfr hG ⊢
      refine wg_run ?_
      (simp only [go_sem])
      ((first | apply sp1 | apply sp2 | apply sp3 | apply sp4 | apply sp5 | apply sp6 | apply sp7) <;> intro hb) <;> (simp only [go_sem, hb])
      · have hi1 : i < l.length := by have := of_decide_eq_true hb; omega
        have hin : decide (i < l.length) = true := by simpa using hi1
        obtain ⟨ty, rows, r, E, pre, is, post, g1, g2, g3, g4, g5, g6, g7, g8, g9, g10, g11, upd⟩ := row_upd hI hnd (i := i) (by rw [tyR_length, Ty.part_length]; exact hi1)
        rw [tyR_get, Ty.part_get hi1] at g5
        cases g5
        obtain ⟨ci, rfl, hci⟩ := owL_ty g7
        simp only [List.length_cons, List.length_nil] at g6
        subst g6
        have hbl : b < h1.length := (List.getElem?_eq_some_iff.1 g1).1
        have hset : ∀ X, (h1.set b X)[b]? = some X := fun X => List.getElem?_set_self hbl
        have hrs : ∀ X, (rows.set i X)[i]? = some X := fun X => List.getElem?_set_self (by omega)
        have hsz := Ty.sizes_take hi1
        have hszl := Ty.sizes_take_le l (i + 1)
        have hkp : (kid l i).size = 1 + Ty.sizes (kid l i).kids := by cases kid l i; simp only [Ty.size, Ty.kids]
        have hw1 : IntKind.i64.wrap (((i : Nat) : Int) + 1) = ((i + 1 : Nat) : Int) := wrap_succ hi1 (by have := Ty.length_le_sizes l; omega)
        have hw2 : IntKind.i64.wrap (((k + Ty.sizes (l.take i) : Nat) : Int) + 1) = ((k + Ty.sizes (l.take i) + 1 : Nat) : Int) := by rw [IntWalk.i64_in _ (by omega)]; omega
        repeat' (first | (first | (simp only [go_sem, hb, hin, g1, g4, hset, hrs, hw1, hw2]) | (((first | apply sp1 | apply sp2 | apply sp3 | apply sp4 | apply sp5 | apply sp6 | apply sp7) <;> intro hb) <;> (simp only [go_sem, hb, hb, hin, g1, g4, hset, hrs, hw1, hw2])) | ((first | apply wm_done | apply wt_done | apply wg_run | refine fk ?_ ?_) <;> (simp only [go_sem, hb, hin, g1, g4, hset, hrs, hw1, hw2]))))
        refine wd_any (acalls_full (ih (by omega) (kid l i).kids (by omega) _ ci d is (k + Ty.sizes (l.take i) + 1) (by omega) (ow_frame hci (fun x hx => List.getElem?_set_ne (fun e => g10 (by rw [e]; exact hx)))) g9)) ?_
        rintro _ h2 ⟨rfl, u1, u2, u3⟩
        rw [show k + Ty.sizes (l.take i) + 1 + Ty.sizes (kid l i).kids = k + Ty.sizes (l.take (i + 1)) from by omega]
        rw [List.length_set] at u2 u3
        (simp only [go_sem])
        repeat' (first | (first | (simp only [go_sem, hb, hin, hw1]) | (((first | apply sp1 | apply sp2 | apply sp3 | apply sp4 | apply sp5 | apply sp6 | apply sp7) <;> intro hb) <;> (simp only [go_sem, hb, hb, hin, hw1])) | ((first | apply wm_done | apply wt_done | apply wg_run | refine fk ?_ ?_) <;> (simp only [go_sem, hb, hin, hw1]))))
        refine hG (i + 1, h2) _ _ ⟨hi1, ?_, by show h.length ≤ h2.length; omega, fun y hy hyn => ?_⟩ (by simp only; omega) (head_all (by (simp only [go_sem]); first | done | rfl) ⟨rfl, rfl⟩)
        · have := upd h2 _ (tyC (.mk ((k + Ty.sizes (l.take i) : Nat) : Int) (Ty.marks (kid l i).kids (k + Ty.sizes (l.take i) + 1)))) rfl (by rw [u3 b hbl g10]; exact hset _) (by rw [tyC_eq]; exact owL_two u1) (fun x hx => by
            obtain ⟨x1, x2⟩ := g11 x hx
            have hxl := (owR_lt hI x (by rw [g8]; rcases List.mem_append.1 hx with hx | hx <;> simp [hx]))
            rw [u3 x hxl x1, List.getElem?_set_ne (fun e => x2 e.symm)])
          rw [tyR_set, ← Ty.mark_eq, Ty.part_set hi1] at this
          exact this
        · simp only [List.mem_cons, not_or] at hyn
          rw [u3 y (by omega) (fun hm => hyn.2 (by rw [g8]; simp [hm])), List.getElem?_set_ne (fun e => hyn.1 e.symm)]
          exact hfr y hy (by simp only [List.mem_cons, not_or]; exact hyn)
      · have hi1 : i = l.length := by have := of_decide_eq_false hb; omega
        subst hi1
        refine hR _ (ret_all (by (simp only [go_sem]); first | done | rfl) ⟨by rw [List.take_length], ?_, hle, hfr⟩)
        rw [hI, Ty.part, List.take_length, List.drop_length, List.append_nil]
    | _ =>
      rw [ow_leaf (by simp)] at e
      obtain ⟨rfl, ⟨h1, h2⟩ | ⟨v, h1, hv, h2⟩ | ⟨h1, h2⟩⟩ := leaf_cases e
      · exact triv (by cases l with | nil => rfl | cons => simp [tyR] at h2) (.inl h1)
      · cases h2
      · exact triv (by cases l with | nil => rfl | cons => simp [tyR] at h2) (.inr h1)
theorem markTmS (n : Nat) (hn : n ≤ 1000000000) : ∀ (l : List Tm), Tm.mws l < n → ∀ (h : List Blk) (c : C) (d : Nat) (ids : List Nat) (k : Nat), 0 < k → k + Tm.mws l < 1000000000 → ow h d c = some (.sl (teR l), ids) → ids.Nodup →
    ACl Try.prog 78 [.one c, .one (.sc (.int .i64 (k : Nat)))] h (Marked h d c (teR (Tm.marks l k)) ids (k + Tm.mws l)) := by
  induction n with
  | zero => intro l h; omega
  | succ n ih =>
    intro l hl h c d ids k hk0 hk e hnd
    have triv : l = [] → (c = .sc (.slice none 0 0) ∨ c = .sl []) → ACl Try.prog 78 [.one c, .one (.sc (.int .i64 (k : Nat)))] h (Marked h d c (teR (Tm.marks l k)) ids (k + Tm.mws l)) := by
      intro hl0 hc
      subst hl0
      rcases hc with rfl | rfl
      all_goals
        refine acl_in Try.func78 rfl isfn_78 (Nat.le_of_ble_eq_true rfl) (fun R hR => ?_); rw [Try.results78] at hR; refine wg_run ?_; (simp only [Try.f78, go_sem])
        refine wd_rounds 2 (wl_next (wg_run ?_))
        (simp only [go_sem])
        exact hR _ (ret_all (by (simp only [go_sem]); first | done | rfl) ⟨by simp [Tm.mws], by simpa [Tm.marks] using e, Nat.le_refl _, fun _ _ _ => rfl⟩)
    cases c with
    | row s b m =>
      obtain ⟨d, kb, R, js, rfl, hb, hm, hlen, hs, hrs, hrows, hR', rfl⟩ := ow_row e
      cases hR'
      have hml : m = l.length := by rw [← hlen, ← fzRows_len hrows, teR_length]
      subst hml
      clear hb hm hlen hs hrs hrows kb
      refine acl_in Try.func78 rfl isfn_78 (Nat.le_of_ble_eq_true rfl) (fun R hR => ?_); rw [Try.results78] at hR; refine wg_run ?_; (simp only [Try.f78, go_sem])
      refine wd_for (σ := Nat × List Blk) [0, 1, 5] (fun x => [.one (.row s b l.length), .one (.sc (.int .i64 ((k + Tm.mws (l.take x.1) : Nat)))), .one (.sc (.int .i64 (x.1 : Nat)))]) (fun x => x.2)
        (fun x => x.1 ≤ l.length ∧ ow x.2 (d + 1) (.row s b l.length) = some (.sl (teR (Tm.part l k x.1)), b :: js) ∧ h.length ≤ x.2.length ∧ ∀ y, y < h.length → y ∉ b :: js → x.2[y]? = h[y]?) (fun x => l.length - x.1) (0, h) ⟨Nat.zero_le _, e, Nat.le_refl _, fun _ _ _ => rfl⟩ (head_all (by (simp only [go_sem]); first | done | rfl) ⟨rfl, rfl⟩) ?_
      rintro ⟨i, h1⟩ ⟨hi, hI, hle, hfr⟩ G hG
      simp only at hi hI hle hfr hG ⊢
      refine wg_run ?_
      (simp only [go_sem])
      ((first | apply sp1 | apply sp2 | apply sp3 | apply sp4 | apply sp5 | apply sp6 | apply sp7) <;> intro hb) <;> (simp only [go_sem, hb])
      · have hi1 : i < l.length := by have := of_decide_eq_true hb; omega
        have hin : decide (i < l.length) = true := by simpa using hi1
        obtain ⟨ty, rows, r, E, pre, is, post, g1, g2, g3, g4, g5, g6, g7, g8, g9, g10, g11, upd⟩ := row_upd hI hnd (i := i) (by rw [teR_length, Tm.part_length]; exact hi1)
        rw [teR_get, Tm.part_get hi1] at g5
        cases g5
        obtain ⟨c1, c2, c3, i1, i2, i3, rfl, rfl, hc1, hc2, hc3⟩ := owL_te g7
        have g6 : 9 = s := g6
        subst g6
        simp only [teO] at g4
        have hbl : b < h1.length := (List.getElem?_eq_some_iff.1 g1).1
        have hset : ∀ X, (h1.set b X)[b]? = some X := fun X => List.getElem?_set_self hbl
        have hrs : ∀ X, (rows.set i X)[i]? = some X := fun X => List.getElem?_set_self (by omega)
        have hsz := Tm.mws_take hi1
        have hszl := Tm.mws_take_le l (i + 1)
        have hkp := (teKid l i).mw_eq
        have hw1 : IntKind.i64.wrap (((i : Nat) : Int) + 1) = ((i + 1 : Nat) : Int) := wrap_succ hi1 (by have := Tm.len_mws l; omega)
        obtain ⟨K, hK⟩ : ∃ K, K = k + Tm.mws (l.take i) := ⟨_, rfl⟩
        rw [← hK]
        have hw2 : ∀ j : Nat, j < 1000000000 → IntKind.i64.wrap (((j : Nat) : Int) + 1) = ((j + 1 : Nat) : Int) := fun j hj => by rw [IntWalk.i64_in _ (by omega)]; omega
        have w1 := hw2 K (by omega)
        have w2 := hw2 (K + 1) (by omega)
        have w3 := hw2 (K + 2) (by omega)
        have w4 := hw2 (K + 3) (by omega)
        have hmt := markText (K + 1) (by omega) (by omega)
        repeat' (first | (first | (simp only [go_sem, hb, hin, g1, g4, hset, hrs, hw1, w1, w2, w3, w4, List.set_set]) | (((first | apply sp1 | apply sp2 | apply sp3 | apply sp4 | apply sp5 | apply sp6 | apply sp7) <;> intro hb) <;> (simp only [go_sem, hb, hb, hin, g1, g4, hset, hrs, hw1, w1, w2, w3, w4, List.set_set])) | ((first | apply wm_done | apply wt_done | apply wg_run | refine fk ?_ ?_) <;> (simp only [go_sem, hb, hin, g1, g4, hset, hrs, hw1, w1, w2, w3, w4, List.set_set]))) | (first | refine cdq ?_ (hc := hmt) | refine cmq ?_ (hc := hmt) | refine ctq ?_ (hc := hmt)); (simp only [go_sem]))
        obtain ⟨n1, n23, n123⟩ := List.nodup_append.1 g9
        obtain ⟨n2, n3, n23'⟩ := List.nodup_append.1 n23
        have hb1 : b ∉ i1 := fun hm => g10 (by simp [hm])
        have hb2 : b ∉ i2 := fun hm => g10 (by simp [hm])
        have hb3 : b ∉ i3 := fun hm => g10 (by simp [hm])
        have ne1 : ∀ x, x ∈ i1 → x ∉ i2 ∧ x ∉ i3 := fun x hx => ⟨fun hm => n123 x hx x (by simp [hm]) rfl, fun hm => n123 x hx x (by simp [hm]) rfl⟩
        have ne2 : ∀ x, x ∈ i2 → x ∉ i1 ∧ x ∉ i3 := fun x hx => ⟨fun hm => (ne1 x hm).1 hx, fun hm => n23' x hx x hm rfl⟩
        have ne3 : ∀ x, x ∈ i3 → x ∉ i1 ∧ x ∉ i2 := fun x hx => ⟨fun hm => (ne1 x hm).2 hx, fun hm => (ne2 x hm).2 hx⟩
        have set_ne : ∀ (g : List Blk) (X : Blk) (x : Nat), x ≠ b → (g.set b X)[x]? = g[x]? := fun g X x hx => List.getElem?_set_ne (fun e => hx e.symm)
        have lt1 : ∀ x, x ∈ i1 ++ (i2 ++ i3) → x < h1.length := fun x hx => owR_lt hI x (by rw [g8]; exact List.mem_append.2 (.inr (List.mem_append.2 (.inl hx))))
        have l1 : ∀ x, x ∈ i1 → x < h1.length := fun x hx => lt1 x (by simp [hx])
        have l2 : ∀ x, x ∈ i2 → x < h1.length := fun x hx => lt1 x (by simp [hx])
        have l3 : ∀ x, x ∈ i3 → x < h1.length := fun x hx => lt1 x (by simp [hx])
        refine wd_any (acalls_full (markTyS 1000000000 (by omega) (teKid l i).type.kids (by omega) _ c1 d i1 (K + 3 + 1) (by omega) (ow_frame hc1 (fun x hx => set_ne _ _ x (fun e => hb1 (e ▸ hx)))) n1)) ?_
        rintro _ h2 ⟨rfl, u1, u2, u3⟩
        rw [List.length_set] at u2 u3
        have h2b := (u3 b hbl hb1).trans (hset _)
        have hbl2 : b < h2.length := by omega
        have hset2 : ∀ X, (h2.set b X)[b]? = some X := fun X => List.getElem?_set_self hbl2
        have w5 := hw2 (K + 3 + 1 + Ty.sizes (teKid l i).type.kids) (by omega)
        (simp only [go_sem])
        repeat' (first | (first | (simp only [go_sem, hb, hin, h2b, hset2, hrs, hw1, w5, List.set_set]) | (((first | apply sp1 | apply sp2 | apply sp3 | apply sp4 | apply sp5 | apply sp6 | apply sp7) <;> intro hb) <;> (simp only [go_sem, hb, hb, hin, h2b, hset2, hrs, hw1, w5, List.set_set])) | ((first | apply wm_done | apply wt_done | apply wg_run | refine fk ?_ ?_) <;> (simp only [go_sem, hb, hin, h2b, hset2, hrs, hw1, w5, List.set_set]))))
        refine wd_any (acalls_full (markTyS 1000000000 (by omega) (teKid l i).frm.kids (by omega) _ c2 d i2 (K + 3 + 1 + Ty.sizes (teKid l i).type.kids + 1) (by omega) (ow_frame hc2 (fun x hx => by
          have hxb : x ≠ b := fun e => hb2 (e ▸ hx)
          rw [set_ne _ _ x hxb, u3 x (l2 x hx) (ne2 x hx).1, set_ne _ _ x hxb])) n2)) ?_
        rintro _ h3 ⟨rfl, v1, v2, v3⟩
        rw [List.length_set] at v2 v3
        have h3b := (v3 b hbl2 hb2).trans (hset2 _)
        have hbl3 : b < h3.length := by omega
        have hset3 : ∀ X, (h3.set b X)[b]? = some X := fun X => List.getElem?_set_self hbl3
        have w6 := hw2 (K + 3 + 1 + Ty.sizes (teKid l i).type.kids + 1 + Ty.sizes (teKid l i).frm.kids) (by omega)
        (simp only [go_sem])
        repeat' (first | (first | (simp only [go_sem, hb, hin, h3b, hset3, hrs, hw1, w6, List.set_set]) | (((first | apply sp1 | apply sp2 | apply sp3 | apply sp4 | apply sp5 | apply sp6 | apply sp7) <;> intro hb) <;> (simp only [go_sem, hb, hb, hin, h3b, hset3, hrs, hw1, w6, List.set_set])) | ((first | apply wm_done | apply wt_done | apply wg_run | refine fk ?_ ?_) <;> (simp only [go_sem, hb, hin, h3b, hset3, hrs, hw1, w6, List.set_set]))))
        refine wd_any (acalls_full (ih (by omega) (teKid l i).kids (by omega) _ c3 d i3 (K + 3 + 1 + Ty.sizes (teKid l i).type.kids + 1 + Ty.sizes (teKid l i).frm.kids + 1) (by omega) (by omega) (ow_frame hc3 (fun x hx => by
          have hxb : x ≠ b := fun e => hb3 (e ▸ hx)
          rw [set_ne _ _ x hxb, v3 x (by have := l3 x hx; omega) (ne3 x hx).2, set_ne _ _ x hxb, u3 x (l3 x hx) (ne3 x hx).1, set_ne _ _ x hxb])) n3)) ?_
        rintro _ h4 ⟨rfl, q1, q2, q3⟩
        rw [List.length_set] at q2 q3
        have h4b := (q3 b hbl3 hb3).trans (hset3 _)
        rw [show K + 3 + 1 + Ty.sizes (teKid l i).type.kids + 1 + Ty.sizes (teKid l i).frm.kids + 1 + Tm.mws (teKid l i).kids = k + Tm.mws (l.take (i + 1)) from by omega]
        (simp only [go_sem])
        repeat' (first | (first | (simp only [go_sem, hb, hin, hw1]) | (((first | apply sp1 | apply sp2 | apply sp3 | apply sp4 | apply sp5 | apply sp6 | apply sp7) <;> intro hb) <;> (simp only [go_sem, hb, hb, hin, hw1])) | ((first | apply wm_done | apply wt_done | apply wg_run | refine fk ?_ ?_) <;> (simp only [go_sem, hb, hin, hw1]))))
        have hother : ∀ x, x ≠ b → x < h1.length → x ∉ i1 → x ∉ i2 → x ∉ i3 → h4[x]? = h1[x]? := fun x hxb hxl m1 m2 m3 => by
          rw [q3 x (by omega) m3, set_ne _ _ x hxb, v3 x (by omega) m2, set_ne _ _ x hxb, u3 x hxl m1, set_ne _ _ x hxb]
        refine hG (i + 1, h4) _ _ ⟨hi1, ?_, by show h.length ≤ h4.length; omega, fun y hy hyn => ?_⟩ (by simp only; omega) (head_all (by (simp only [go_sem]); first | done | rfl) ⟨rfl, rfl⟩)
        · have z1 : ow h4 d c1 = some (.sl (tyR (Ty.marks (teKid l i).type.kids (K + 4))), i1) := ow_frame u1 (fun x hx => by
            have hxb : x ≠ b := fun e => hb1 (e ▸ hx)
            have := l1 x hx
            rw [q3 x (by omega) (ne1 x hx).2, set_ne _ _ x hxb, v3 x (by omega) (ne1 x hx).1, set_ne _ _ x hxb])
          have z2 : ow h4 d c2 = some (.sl (tyR (Ty.marks (teKid l i).frm.kids (K + 4 + Ty.sizes (teKid l i).type.kids + 1))), i2) := ow_frame v1 (fun x hx => by
            have hxb : x ≠ b := fun e => hb2 (e ▸ hx)
            have := l2 x hx
            rw [q3 x (by omega) (ne2 x hx).2, set_ne _ _ x hxb])
          have := upd h4 _ (teC ((teKid l i).mark K)) rfl h4b (by
            rw [Tm.mark_eq, teC_eq]
            simp only [fzL, ow_int, ow_str, z1, z2, q1, List.nil_append, List.append_nil]
            rfl) (fun x hx => by
            obtain ⟨x1, x2⟩ := g11 x hx
            simp only [List.mem_append, not_or] at x1
            exact hother x x2 (owR_lt hI x (by rw [g8]; rcases List.mem_append.1 hx with hx | hx <;> simp [hx])) x1.1 x1.2.1 x1.2.2)
          rw [teR_set, hK, Tm.part_set hi1] at this
          exact this
        · simp only [List.mem_cons, not_or] at hyn
          have hyj := hyn.2
          rw [g8] at hyj
          simp only [List.mem_append, not_or] at hyj
          rw [hother y hyn.1 (by omega) hyj.2.1.1 hyj.2.1.2.1 hyj.2.1.2.2]
          exact hfr y hy (by simp only [List.mem_cons, not_or]; exact hyn)
      · have hi1 : i = l.length := by have := of_decide_eq_false hb; omega
        subst hi1
        refine hR _ (ret_all (by (simp only [go_sem]); first | done | rfl) ⟨by rw [List.take_length], ?_, hle, hfr⟩)
        rw [hI, Tm.part, List.take_length, List.drop_length, List.append_nil]
    | _ =>
      rw [ow_leaf (by simp)] at e
      obtain ⟨rfl, ⟨h1, h2⟩ | ⟨v, h1, hv, h2⟩ | ⟨h1, h2⟩⟩ := leaf_cases e
      · exact triv (by cases l with | nil => rfl | cons => simp [teR] at h2) (.inl h1)
      · cases h2
      · exact triv (by cases l with | nil => rfl | cons => simp [teR] at h2) (.inr h1)
theorem markTy (t : Ty) (ht : Ty.sizes t.kids < 1000000000) (h : List Blk) (c : C) (d : Nat) (ids : List Nat) (k : Nat) (hk : k + Ty.sizes t.kids < 4000000000) (kd : Int) (e : ow h d c = some (.sl (tyR t.kids), ids)) (hnd : ids.Nodup) :
    ACl Try.prog 77 [.agg [.sc (.int .i64 kd), c], .one (.sc (.int .i64 (k : Nat)))] h (Marked h d c (tyR (Ty.marks t.kids k)) ids (k + Ty.sizes t.kids)) := by
  refine acl_in Try.func77 rfl isfn_77 (Nat.le_of_ble_eq_true rfl) (fun R hR => ?_); rw [Try.results77] at hR; refine wg_run ?_; (simp only [Try.f77, go_sem])
  repeat' (first | (((first | apply sp1 | apply sp2 | apply sp3 | apply sp4 | apply sp5 | apply sp6 | apply sp7) <;> intro hb) <;> (simp only [go_sem, hb])) | ((first | apply wm_done | apply wt_done | apply wg_run | refine fk ?_ ?_) <;> (simp only [go_sem])))
  refine wd_any (acalls_full (markTyS 1000000000 (by omega) t.kids ht _ c d ids k hk (ow_frame e (fun x hx => List.getElem?_append_left (ow_mut e x hx).lt)) hnd)) ?_
  rintro _ h2 ⟨rfl, u1, u2, u3⟩
  (simp only [go_sem])
  repeat' (first | (((first | apply sp1 | apply sp2 | apply sp3 | apply sp4 | apply sp5 | apply sp6 | apply sp7) <;> intro hb) <;> (simp only [go_sem, hb])) | ((first | apply wm_done | apply wt_done | apply wg_run | refine fk ?_ ?_) <;> (simp only [go_sem])))
  simp only [List.length_append, List.length_cons, List.length_nil] at u2 u3
  exact hR _ (ret_all (by (simp only [go_sem]); first | done | rfl) ⟨rfl, u1, by simp only; omega, fun b hb hm => by simp only; rw [u3 b (by omega) hm, List.getElem?_append_left hb]⟩)
/-- a term whose operands and types are marked -/
def _root_.Go.Proofs.Grad.Tm.markT (t : Tm) (k : Nat) : Tm := .mk t.kind t.name t.num (.mk t.type.kind (Ty.marks t.type.kids k)) (.mk t.frm.kind (Ty.marks t.frm.kids (k + Ty.sizes t.type.kids))) t.label (Tm.marks t.kids (k + Ty.sizes t.type.kids + Ty.sizes t.frm.kids))
def _root_.Go.Proofs.Grad.Tm.mwT (t : Tm) : Nat := Ty.sizes t.type.kids + Ty.sizes t.frm.kids + Tm.mws t.kids
/-- what a marking leaves of a struct -/
def MarkedL (h : List Blk) (d : Nat) (cs enc : List C) (ids : List Nat) (n : Nat) (r : AV) (h' : List Blk) : Prop :=
  r = .one (.sc (.int .i64 (n : Nat))) ∧ fzL (ow h' d) cs = some (enc, ids) ∧ h.length ≤ h'.length ∧ ∀ b, b < h.length → b ∉ ids → h'[b]? = h[b]?
theorem markTm (t : Tm) (h : List Blk) (cs : List C) (d : Nat) (ids : List Nat) (k : Nat) (hk0 : 0 < k) (hk : k + t.mwT < 1000000000) (e : fzL (ow h d) cs = some (teC t, ids)) (hnd : ids.Nodup) :
    ACl Try.prog 34 [.agg cs, .one (.sc (.int .i64 (k : Nat)))] h (MarkedL h d cs (teC (t.markT k)) ids (k + t.mwT)) := by
  have hm : t.mwT = Ty.sizes t.type.kids + Ty.sizes t.frm.kids + Tm.mws t.kids := rfl
  have hlt : ∀ x ∈ ids, x < h.length := fun x hx => (owL_mut e x hx).lt
  obtain ⟨c1, c2, c3, i1, i2, i3, rfl, rfl, hc1, hc2, hc3⟩ := owL_te e
  obtain ⟨n1, n23, n123⟩ := List.nodup_append.1 hnd
  obtain ⟨n2, n3, n23'⟩ := List.nodup_append.1 n23
  have ne1 : ∀ x, x ∈ i1 → x ∉ i2 ∧ x ∉ i3 := fun x hx => ⟨fun hm => n123 x hx x (by simp [hm]) rfl, fun hm => n123 x hx x (by simp [hm]) rfl⟩
  have ne2 : ∀ x, x ∈ i2 → x ∉ i1 ∧ x ∉ i3 := fun x hx => ⟨fun hm => (ne1 x hm).1 hx, fun hm => n23' x hx x hm rfl⟩
  have ne3 : ∀ x, x ∈ i3 → x ∉ i1 ∧ x ∉ i2 := fun x hx => ⟨fun hm => (ne1 x hm).2 hx, fun hm => (ne2 x hm).2 hx⟩
  have l1 : ∀ x, x ∈ i1 → x < h.length := fun x hx => hlt x (by simp [hx])
  have l2 : ∀ x, x ∈ i2 → x < h.length := fun x hx => hlt x (by simp [hx])
  have l3 : ∀ x, x ∈ i3 → x < h.length := fun x hx => hlt x (by simp [hx])
  unfold teO
  refine acl_in Try.func34 rfl isfn_34 (Nat.le_of_ble_eq_true rfl) (fun R hR => ?_); rw [Try.results34] at hR; refine wg_run ?_; (simp only [Try.f34, go_sem])
  repeat' (first | (((first | apply sp1 | apply sp2 | apply sp3 | apply sp4 | apply sp5 | apply sp6 | apply sp7) <;> intro hb) <;> (simp only [go_sem, hb])) | ((first | apply wm_done | apply wt_done | apply wg_run | refine fk ?_ ?_) <;> (simp only [go_sem])))
  have hA : ∀ x, x < h.length → ∀ X : Blk, (h ++ [X])[x]? = h[x]? := fun x hx X => List.getElem?_append_left hx
  refine wd_any (acalls_full (markTy t.type (by omega) _ c1 d i1 k (by omega) t.type.kind (ow_frame hc1 (fun x hx => hA x (l1 x hx) _)) n1)) ?_
  rintro _ h2 ⟨rfl, u1, u2, u3⟩
  simp only [List.length_append, List.length_cons, List.length_nil] at u2 u3
  have hb2 := (u3 h.length (by omega) (fun hm => by have := l1 _ hm; omega)).trans (app_len h _)
  (simp only [go_sem])
  repeat' (first | (first | (simp only [go_sem, hb2]) | (((first | apply sp1 | apply sp2 | apply sp3 | apply sp4 | apply sp5 | apply sp6 | apply sp7) <;> intro hb) <;> (simp only [go_sem, hb, hb2])) | ((first | apply wm_done | apply wt_done | apply wg_run | refine fk ?_ ?_) <;> (simp only [go_sem, hb2]))))
  refine wd_any (acalls_full (markTy t.frm (by omega) _ c2 d i2 (k + Ty.sizes t.type.kids) (by omega) t.frm.kind (ow_frame hc2 (fun x hx => by
    have := l2 x hx
    rw [u3 x (by omega) (ne2 x hx).1, hA x this])) n2)) ?_
  rintro _ h3 ⟨rfl, v1, v2, v3⟩
  have hb3 := (v3 h.length (by omega) (fun hm => by have := l2 _ hm; omega)).trans hb2
  (simp only [go_sem])
  repeat' (first | (first | (simp only [go_sem, hb3]) | (((first | apply sp1 | apply sp2 | apply sp3 | apply sp4 | apply sp5 | apply sp6 | apply sp7) <;> intro hb) <;> (simp only [go_sem, hb, hb3])) | ((first | apply wm_done | apply wt_done | apply wg_run | refine fk ?_ ?_) <;> (simp only [go_sem, hb3]))))
  refine wd_any (acalls_full (markTmS 1000000000 (by omega) t.kids (by omega) _ c3 d i3 (k + Ty.sizes t.type.kids + Ty.sizes t.frm.kids) (by omega) (by omega) (ow_frame hc3 (fun x hx => by
    have := l3 x hx
    rw [v3 x (by omega) (ne3 x hx).2, u3 x (by omega) (ne3 x hx).1, hA x this])) n3)) ?_
  rintro _ h4 ⟨rfl, q1, q2, q3⟩
  rw [show k + Ty.sizes t.type.kids + Ty.sizes t.frm.kids + Tm.mws t.kids = k + t.mwT from by omega]
  (simp only [go_sem])
  repeat' (first | (((first | apply sp1 | apply sp2 | apply sp3 | apply sp4 | apply sp5 | apply sp6 | apply sp7) <;> intro hb) <;> (simp only [go_sem, hb])) | ((first | apply wm_done | apply wt_done | apply wg_run | refine fk ?_ ?_) <;> (simp only [go_sem])))
  refine hR _ (ret_all (by (simp only [go_sem]); first | done | rfl) ⟨rfl, ?_, by simp only; omega, fun b hb hn => ?_⟩)
  · have z1 := ow_frame (h' := h4) u1 (fun x hx => by have := l1 x hx; rw [q3 x (by omega) (ne1 x hx).2, v3 x (by omega) (ne1 x hx).1])
    have z2 := ow_frame (h' := h4) v1 (fun x hx => by have := l2 x hx; rw [q3 x (by omega) (ne2 x hx).2])
    rw [teC_eq]
    simp only [fzL, ow_int, ow_str, z1, z2, q1, List.nil_append, List.append_nil, Tm.markT]
    rfl
  · simp only [List.mem_append, not_or] at hn
    simp only
    rw [q3 b (by omega) hn.2.2, v3 b (by omega) hn.2.1, u3 b (by omega) hn.1, hA b hb]
end Go.Proofs.Ytchcbfbnffhifaa
/- The law's marks, read again. On shadows. -/
namespace Go.Proofs.Grad
open Go.Proofs.Sh
theorem Ty.marks_kid {l : List Ty} {k i : Nat} (h : i < l.length) : kid (Ty.marks l k) i = (kid l i).mark (k + Ty.sizes (l.take i)) := by
  have h1 := Ty.marks_append (l.take i) (l.drop i) k
  rw [List.take_append_drop] at h1
  have hl : (Ty.marks (l.take i) k).length = i := by rw [Ty.marks_length, List.length_take]; omega
  rw [h1, kid, List.getD_eq_getElem?_getD, List.getElem?_append_right (by omega), hl, Nat.sub_self, drop_kid h]
  rfl
theorem Tm.marks_kid {l : List Tm} {k i : Nat} (h : i < l.length) : teKid (Tm.marks l k) i = (teKid l i).mark (k + Tm.mws (l.take i)) := by
  have h1 := Tm.marks_append (l.take i) (l.drop i) k
  rw [List.take_append_drop] at h1
  have hl : (Tm.marks (l.take i) k).length = i := by rw [Tm.marks_length, List.length_take]; omega
  rw [h1, teKid, List.getD_eq_getElem?_getD, List.getElem?_append_right (by omega), hl, Nat.sub_self, tedrop_kid h]
  rfl
end Go.Proofs.Grad
namespace Go.Proofs.Ytchcbfbnffhifaa
open Go.RowKit Go.Proofs.Sh Go.Proofs.Grad
set_option maxRecDepth 100000
set_option maxHeartbeats 8000000
theorem heldTyS (n : Nat) (hn : n ≤ 1000000000) : ∀ (l : List Ty), Ty.sizes l < n → ∀ k : Nat, k + Ty.sizes l < 4000000000 → AFn Try.prog 128 [.one (.sl (tyR (Ty.marks l k))), .one (.sc (.int .i64 (k : Nat)))] (.one (.sc (.int .i64 ((k + Ty.sizes l : Nat))))) := by
  induction n with
  | zero => intro l h; omega
  | succ n ih =>
    intro l hl k hk
    have hml := Ty.marks_length l k
    refine fn_in ?_; refine acl_in Try.func128 rfl isfn_128 (Nat.le_of_ble_eq_true rfl) (fun R hR => ?_); rw [Try.results128] at hR; refine wg_run ?_; (simp only [Try.f128, go_sem])
    refine wd_for [0, 1, 5] (fun i => [.one (.sl (tyR (Ty.marks l k))), .one (.sc (.int .i64 ((k + Ty.sizes (l.take i) : Nat)))), .one (.sc (.int .i64 (i : Nat)))]) (fun _ => [])
      (fun i => i ≤ l.length) (fun i => l.length - i) 0 (Nat.zero_le _) (head_all (by (simp only [go_sem]); first | done | rfl) ⟨rfl, rfl⟩) ?_
    rintro i hi G hG
    refine wg_run ?_
    (simp only [go_sem, hml])
    ((first | apply sp1 | apply sp2 | apply sp3 | apply sp4 | apply sp5 | apply sp6 | apply sp7) <;> intro hb) <;> (simp only [go_sem, hb])
    · have hi1 : i < l.length := by have := of_decide_eq_true hb; omega
      have hsz := Ty.sizes_take hi1
      have hszl := Ty.sizes_take_le l (i + 1)
      have hkp : (kid l i).size = 1 + Ty.sizes (kid l i).kids := by cases kid l i; simp only [Ty.size, Ty.kids]
      have hw1 : IntKind.i64.wrap (((i : Nat) : Int) + 1) = ((i + 1 : Nat) : Int) := wrap_succ hi1 (by have := Ty.length_le_sizes l; omega)
      have hm := Ty.marks_kid (k := k) hi1
      rw [Ty.mark_eq] at hm
      obtain ⟨K, hK⟩ : ∃ K, K = k + Ty.sizes (l.take i) := ⟨_, rfl⟩
      rw [← hK] at hm
      have hmk : (kid (Ty.marks l k) i).kind = ((K : Nat) : Int) := by rw [hm]; rfl
      have hmi : (kid (Ty.marks l k) i).kids = Ty.marks (kid l i).kids (K + 1) := by rw [hm]; rfl
      have hne : ((K : Int) != (K : Int)) = false := by simp
      have hc := ih (by omega) (kid l i).kids (by omega) (K + 1) (by omega)
      have hw2 : IntKind.i64.wrap (((K : Nat) : Int) + 1) = ((K + 1 : Nat) : Int) := by rw [IntWalk.i64_in _ (by omega)]; omega
      rw [show K + 1 + Ty.sizes (kid l i).kids = k + Ty.sizes (l.take (i + 1)) from by omega] at hc
      have hlt : decide (((k + Ty.sizes (l.take (i + 1)) : Nat) : Int) < 0) = false := by simp; omega
      rw [← hK]
      repeat' (first | (first | (simp only [go_sem, hb, hml, hmk, hmi, hne, hw1, hw2, hlt]) | (((first | apply sp1 | apply sp2 | apply sp3 | apply sp4 | apply sp5 | apply sp6 | apply sp7) <;> intro hb) <;> (simp only [go_sem, hb, hb, hml, hmk, hmi, hne, hw1, hw2, hlt])) | ((first | apply wm_done | apply wt_done | apply wg_run | refine fk ?_ ?_) <;> (simp only [go_sem, hb, hml, hmk, hmi, hne, hw1, hw2, hlt]))) | (first | refine cdq ?_ (hc := hc) | refine cmq ?_ (hc := hc) | refine ctq ?_ (hc := hc)); (simp only [go_sem]))
      exact hG (i + 1) _ _ hi1 (by omega) (head_all (by (simp only [go_sem]); first | done | rfl) ⟨rfl, rfl⟩)
    · have hi1 : i = l.length := by have := of_decide_eq_false hb; omega
      subst hi1
      (refine hR _ (rat [] (hK := ⟨?_, rfl⟩)))
      rw [List.take_length]
theorem heldTy (l : List Ty) (hl : Ty.sizes l < 1000000000) (k : Nat) (hk : k + Ty.sizes l < 4000000000) (kd : Int) : AFn Try.prog 79 [.agg [.sc (.int .i64 kd), .sl (tyR (Ty.marks l k))], .one (.sc (.int .i64 (k : Nat)))] (.one (.sc (.int .i64 ((k + Ty.sizes l : Nat))))) := by
  have hc := heldTyS 1000000000 (by omega) l hl k hk
  have hlt : decide (((k + Ty.sizes l : Nat) : Int) < 0) = false := by simp; omega
  refine fn_in ?_; refine acl_in Try.func79 rfl isfn_79 (Nat.le_of_ble_eq_true rfl) (fun R hR => ?_); rw [Try.results79] at hR; refine wg_run ?_; (simp only [Try.f79, go_sem])
  repeat' (first | (first | (simp only [go_sem, hlt]) | (((first | apply sp1 | apply sp2 | apply sp3 | apply sp4 | apply sp5 | apply sp6 | apply sp7) <;> intro hb) <;> (simp only [go_sem, hb, hlt])) | ((first | apply wm_done | apply wt_done | apply wg_run | refine fk ?_ ?_) <;> (simp only [go_sem, hlt]))) | (first | refine cdq ?_ (hc := hc) | refine cmq ?_ (hc := hc) | refine ctq ?_ (hc := hc)); (simp only [go_sem]))
  (refine hR _ (rat [] (hK := ⟨rfl, rfl⟩)))
theorem heldTmS (n : Nat) (hn : n ≤ 1000000000) : ∀ (l : List Tm), Tm.mws l < n → ∀ k : Nat, 0 < k → k + Tm.mws l < 1000000000 → AFn Try.prog 80 [.one (.sl (teR (Tm.marks l k))), .one (.sc (.int .i64 (k : Nat)))] (.one (.sc (.int .i64 ((k + Tm.mws l : Nat))))) := by
  induction n with
  | zero => intro l h; omega
  | succ n ih =>
    intro l hl k hk0 hk
    have hml := Tm.marks_length l k
    refine fn_in ?_; refine acl_in Try.func80 rfl isfn_80 (Nat.le_of_ble_eq_true rfl) (fun R hR => ?_); rw [Try.results80] at hR; refine wg_run ?_; (simp only [Try.f80, go_sem])
    refine wd_for [0, 1, 5] (fun i => [.one (.sl (teR (Tm.marks l k))), .one (.sc (.int .i64 ((k + Tm.mws (l.take i) : Nat)))), .one (.sc (.int .i64 (i : Nat)))]) (fun _ => [])
      (fun i => i ≤ l.length) (fun i => l.length - i) 0 (Nat.zero_le _) (head_all (by (simp only [go_sem]); first | done | rfl) ⟨rfl, rfl⟩) ?_
    rintro i hi G hG
    refine wg_run ?_
    (simp only [go_sem, hml])
    ((first | apply sp1 | apply sp2 | apply sp3 | apply sp4 | apply sp5 | apply sp6 | apply sp7) <;> intro hb) <;> (simp only [go_sem, hb])
    · have hi1 : i < l.length := by have := of_decide_eq_true hb; omega
      have hsz := Tm.mws_take hi1
      have hszl := Tm.mws_take_le l (i + 1)
      have hkp := (teKid l i).mw_eq
      have hw1 : IntKind.i64.wrap (((i : Nat) : Int) + 1) = ((i + 1 : Nat) : Int) := wrap_succ hi1 (by have := Tm.len_mws l; omega)
      have hm := Tm.marks_kid (k := k) hi1
      rw [Tm.mark_eq] at hm
      obtain ⟨K, hK⟩ : ∃ K, K = k + Tm.mws (l.take i) := ⟨_, rfl⟩
      rw [← hK] at hm
      obtain ⟨st, hst⟩ : ∃ st, st = Ty.sizes (teKid l i).type.kids := ⟨_, rfl⟩
      obtain ⟨sf, hsf⟩ : ∃ sf, sf = Ty.sizes (teKid l i).frm.kids := ⟨_, rfl⟩
      rw [← hst, ← hsf] at hkp hm
      have m0 : (teKid (Tm.marks l k) i).kind = ((K : Nat) : Int) := by rw [hm]; rfl
      have m1 : (teKid (Tm.marks l k) i).name = mkT (K + 1) := by rw [hm]; rfl
      have m2 : (teKid (Tm.marks l k) i).num = ((K + 2 : Nat) : Int) := by rw [hm]; rfl
      have m3 : (teKid (Tm.marks l k) i).type.kind = ((K + 3 : Nat) : Int) := by rw [hm]; rfl
      have m4 : (teKid (Tm.marks l k) i).type.kids = Ty.marks (teKid l i).type.kids (K + 4) := by rw [hm]; rfl
      have m5 : (teKid (Tm.marks l k) i).frm.kind = ((K + 4 + st : Nat) : Int) := by rw [hm]; rfl
      have m6 : (teKid (Tm.marks l k) i).frm.kids = Ty.marks (teKid l i).frm.kids (K + 4 + st + 1) := by rw [hm]; rfl
      have m7 : (teKid (Tm.marks l k) i).label = ((K + 4 + st + 1 + sf : Nat) : Int) := by rw [hm]; rfl
      have m8 : (teKid (Tm.marks l k) i).kids = Tm.marks (teKid l i).kids (K + 4 + st + 1 + sf + 1) := by rw [hm]; rfl
      have hne : ∀ j : Nat, ((j : Int) != (j : Int)) = false := fun j => by simp
      have hne2 : ∀ b : ByteArray, (!(b.toList == b.toList)) = false := fun b => by simp
      have hw2 : ∀ j : Nat, j < 1000000000 → IntKind.i64.wrap (((j : Nat) : Int) + 1) = ((j + 1 : Nat) : Int) := fun j hj => by rw [IntWalk.i64_in _ (by omega)]; omega
      have w1 := hw2 K (by omega)
      have w2 := hw2 (K + 1) (by omega)
      have w3 := hw2 (K + 2) (by omega)
      have w4 := hw2 (K + 3) (by omega)
      have w5 := hw2 (K + 4 + st) (by omega)
      have w6 := hw2 (K + 4 + st + 1 + sf) (by omega)
      have hmt := markText (K + 1) (by omega) (by omega)
      have h1 := heldTyS 1000000000 (by omega) (teKid l i).type.kids (by omega) (K + 4) (by omega)
      have h2 := heldTyS 1000000000 (by omega) (teKid l i).frm.kids (by omega) (K + 4 + st + 1) (by omega)
      rw [← hst] at h1
      rw [← hsf] at h2
      have h3 := ih (by omega) (teKid l i).kids (by omega) (K + 4 + st + 1 + sf + 1) (by omega) (by omega)
      rw [show K + 4 + st + 1 + sf + 1 + Tm.mws (teKid l i).kids = k + Tm.mws (l.take (i + 1)) from by omega] at h3
      have hlt : ∀ j : Nat, decide ((j : Int) < 0) = false := fun j => by simp
      rw [← hK]
      repeat' (first | (first | (simp only [go_sem, hb, hml, m0, m1, m2, m3, m4, m5, m6, m7, m8, hne, hne2, hw1, w1, w2, w3, w4, w5, w6, hlt]) | (((first | apply sp1 | apply sp2 | apply sp3 | apply sp4 | apply sp5 | apply sp6 | apply sp7) <;> intro hb) <;> (simp only [go_sem, hb, hb, hml, m0, m1, m2, m3, m4, m5, m6, m7, m8, hne, hne2, hw1, w1, w2, w3, w4, w5, w6, hlt])) | ((first | apply wm_done | apply wt_done | apply wg_run | refine fk ?_ ?_) <;> (simp only [go_sem, hb, hml, m0, m1, m2, m3, m4, m5, m6, m7, m8, hne, hne2, hw1, w1, w2, w3, w4, w5, w6, hlt]))) | ((first | refine mxq6 [] ?_ | refine mxq5 [] ?_ | refine mxq4 [] ?_ | refine mxq3 [] ?_ | refine mxq2 [] ?_ | refine mxq1 [] ?_ | refine mxq0 [] ?_ | fail); (simp only [go_sem, hml, m1])) | (first | refine cdq ?_ (hc := hmt) | refine cmq ?_ (hc := hmt) | refine ctq ?_ (hc := hmt)); (simp only [go_sem]) | (first | refine cdq ?_ (hc := h1) | refine cmq ?_ (hc := h1) | refine ctq ?_ (hc := h1)); (simp only [go_sem]) | (first | refine cdq ?_ (hc := h2) | refine cmq ?_ (hc := h2) | refine ctq ?_ (hc := h2)); (simp only [go_sem]) | (first | refine cdq ?_ (hc := h3) | refine cmq ?_ (hc := h3) | refine ctq ?_ (hc := h3)); (simp only [go_sem]))
      exact hG (i + 1) _ _ hi1 (by omega) (head_all (by (simp only [go_sem]); first | done | rfl) ⟨rfl, rfl⟩)
    · have hi1 : i = l.length := by have := of_decide_eq_false hb; omega
      subst hi1
      (refine hR _ (rat [] (hK := ⟨?_, rfl⟩)))
      rw [List.take_length]
theorem heldTm (t : Tm) (k : Nat) (hk0 : 0 < k) (hk : k + t.mwT < 1000000000) : AFn Try.prog 35 [.agg (teC (t.markT k)), .one (.sc (.int .i64 (k : Nat)))] (.one (.sc (.int .i64 ((k + t.mwT : Nat))))) := by
  have hm : t.mwT = Ty.sizes t.type.kids + Ty.sizes t.frm.kids + Tm.mws t.kids := rfl
  have h1 := heldTy t.type.kids (by omega) k (by omega) t.type.kind
  have h2 := heldTy t.frm.kids (by omega) (k + Ty.sizes t.type.kids) (by omega) t.frm.kind
  have h3 := heldTmS 1000000000 (by omega) t.kids (by omega) (k + Ty.sizes t.type.kids + Ty.sizes t.frm.kids) (by omega) (by omega)
  rw [show k + Ty.sizes t.type.kids + Ty.sizes t.frm.kids + Tm.mws t.kids = k + t.mwT from by omega] at h3
  have hlt : ∀ j : Nat, decide ((j : Int) < 0) = false := fun j => by simp
  rw [teC_eq]
  simp only [Tm.markT, go_sem]
  simp only [Ty.kind, Ty.kids]
  refine fn_in ?_; refine acl_in Try.func35 rfl isfn_35 (Nat.le_of_ble_eq_true rfl) (fun R hR => ?_); rw [Try.results35] at hR; refine wg_run ?_; (simp only [Try.f35, go_sem])
  repeat' (first | (first | (simp only [go_sem, hlt]) | (((first | apply sp1 | apply sp2 | apply sp3 | apply sp4 | apply sp5 | apply sp6 | apply sp7) <;> intro hb) <;> (simp only [go_sem, hb, hlt])) | ((first | apply wm_done | apply wt_done | apply wg_run | refine fk ?_ ?_) <;> (simp only [go_sem, hlt]))) | (first | refine cdq ?_ (hc := h1) | refine cmq ?_ (hc := h1) | refine ctq ?_ (hc := h1)); (simp only [go_sem]) | (first | refine cdq ?_ (hc := h2) | refine cmq ?_ (hc := h2) | refine ctq ?_ (hc := h2)); (simp only [go_sem]) | (first | refine cdq ?_ (hc := h3) | refine cmq ?_ (hc := h3) | refine ctq ?_ (hc := h3)); (simp only [go_sem]))
  (refine hR _ (rat [] (hK := ⟨rfl, rfl⟩)))
theorem mwT_le (t : Tm) : t.mwT ≤ 6 * t.size := by
  have h1 := Ty.sizes_kids t.type; have h2 := Ty.sizes_kids t.frm; have h3 := Tm.mws_le t.kids
  cases t
  simp only [Tm.mwT, Tm.size, Tm.type, Tm.frm, Tm.kids] at *; omega
/-- a term is marked -/
theorem markOwn {t : Tm} {p k : Nat} {pre T : List Blk} {cs : List C} {ids : List Nat} (h : OwnT p T cs (teC t) ids) (hp : pre.length = p) (hk0 : 0 < k) (hk : k + t.mwT < 1000000000) :
    ∃ ks, ACalls Try.prog 34 [.agg cs, .one (.sc (.int .i64 (k : Nat)))] (pre ++ T) ks (fun r h' => ∃ T', r = .one (.sc (.int .i64 ((k + t.mwT : Nat)))) ∧ h' = pre ++ T' ∧ T.length ≤ T'.length ∧ (∀ i, i < T.length → i + p ∉ ids → T'[i]? = T[i]?) ∧ OwnT p T' cs (teC (t.markT k)) ids) := by
  obtain ⟨d, hd⟩ := h.own
  exact acalls_changeT hp h.ge h.nodup ⟨d, (markTm t _ cs d ids k hk0 hk (hd pre hp) h.nodup)⟩
end Go.Proofs.Ytchcbfbnffhifaa
/- A law's arguments that are types and terms, read as shadows. -/
namespace Go.Proofs.Sh
open Go.RowKit Go.Proofs.Grad
theorem simNil (w : World) : Sim [] [] [] w :=
  ⟨rfl, by simp, by simp, fun i b g h => by simp at h, fun i j b b' g _ h => by simp at h, fun i b g h => by simp at h⟩
theorem lawCalls {P : Program} {f : FuncId} {args : List AV} {vs : Array Value} {w : World} (h : AFn P f args (.one (.sc (.bool true)))) (hr : AV.repl [] [] w args vs.toList) :
    Calls P f vs w (fun e w' => e = .returned (.bool true) ∧ Below w.heap.size w w') := by
  refine (h.out.2 [] [] w vs (simNil w) hr).mono ?_
  rintro e w' ⟨r, H', μ', v, rfl, ⟨rfl, rfl⟩, hS, hT, hv⟩
  simp only [AV.rep, C.rep] at hv
  refine ⟨by rw [hv.1], hT.keep.os, hT.keep.tape, hT.keep.output, hT.keep.size, fun b hb => hT.keep.block b (by simp [alive]) hb⟩
variable {w : World}
theorem reps_of {b : Nat} : ∀ {cs : List C} {ds : List Value} {off : Nat}, C.repl [] [] w cs ds → (∀ i, i < ds.length → w.cell? ⟨b, off + i, none⟩ = ds[i]?) → C.reps [] [] w cs b off
  | [], _, _, _, _ => trivial
  | c :: cs, ds, off, h, hc => by
    simp only [C.repl] at h
    obtain ⟨u, us, rfl, h1, h2⟩ := h
    refine ⟨⟨u, hc 0 (by simp), h1⟩, reps_of h2 fun i hi => ?_⟩
    have := hc (i + 1) (by simpa using hi)
    rw [show off + 1 + i = off + (i + 1) by omega]
    simpa using this
theorem repss_of {T : Type} (f : T → List C) {s b : Nat} (hf : ∀ t, (f t).length = s) : ∀ (l : List T) (off : Nat), (∀ i (hi : i < l.length), C.reps [] [] w (f l[i]) b (off + i * s)) → C.repss [] [] w s (l.map f) b off
  | [], _, _ => trivial
  | t :: l, off, h => by
    have h0 := h 0 (by simp)
    rw [Nat.zero_mul, Nat.add_zero] at h0
    refine ⟨hf t, h0, repss_of f hf l (off + s) fun i hi => ?_⟩
    have := h (i + 1) (by simpa using hi)
    rw [show off + s + i * s = off + (i + 1) * s by rw [Nat.add_mul]; omega]
    simpa using this
theorem add_plain {b o k : Nat} : (⟨b, o, none⟩ : Addr).add k = ⟨b, o + k, none⟩ := by
  unfold Addr.add; split <;> simp_all
theorem spot_plain {a : Addr} {v : Value} (h : w.cell? a = some v) : a.spot = none := by
  obtain ⟨b, o, s⟩ := a
  cases s with
  | none => rfl
  | some s =>
    simp only [World.cell?] at h
    split at h <;> simp at h
theorem sl_rep {T : Type} (f : T → List C) {s base : Nat} (hs : 0 < s) (hf : ∀ t, (f t).length = s) {a : Addr} {cap : Nat} (l : List T) (h : ∀ i (hi : i < l.length), ∃ ds, w.cells? base (a.add (i * s)) s = some ds ∧ C.repl [] [] w (f l[i]) ds) (hlc : l.length ≤ cap) (hcm : cap ≤ maxLen) :
    C.rep [] [] w (.sl (l.map f)) (.slice (some a) l.length cap) := by
  simp only [C.rep]
  refine ⟨some a, cap, by rw [List.length_map], by simpa using hlc, hcm, ?_⟩
  cases hl : l with
  | nil => exact .inl rfl
  | cons t0 l0 =>
    have h0 : 0 < l.length := by rw [hl]; simp
    obtain ⟨ds, g, _⟩ := h 0 h0
    obtain ⟨_, g2, g3⟩ := World.cells?_some g
    have g4 := g3 0 hs
    have : ∃ v, ds[0]? = some v := ⟨ds[0], List.getElem?_eq_getElem (by omega)⟩
    obtain ⟨v, hv⟩ := this
    rw [hv] at g4
    have hsp : a.spot = none := by
      have := spot_plain g4
      simp [Addr.add] at this
      exact this
    obtain ⟨b, o, sp⟩ := a
    simp at hsp
    subst hsp
    rw [add_plain, add_plain] at g4
    refine .inr ⟨b, o, s, rfl, lt_of_cell g4, by simp, ?_⟩
    rw [← hl]
    refine repss_of f hf l o fun i hi => ?_
    obtain ⟨ds, g, gr⟩ := h i hi
    obtain ⟨_, g2, g3⟩ := World.cells?_some g
    refine reps_of gr fun j hj => ?_
    have := g3 j (by omega)
    simpa [add_plain] using this
theorem listAll {α : Type} {n : Nat} {P : Nat → α → Prop} (h : ∀ i, i < n → ∃ x, P i x) : ∃ l : List α, l.length = n ∧ ∀ i (hi : i < l.length), P i l[i] := by
  induction n with
  | zero => exact ⟨[], rfl, by simp⟩
  | succ n ih =>
    obtain ⟨l, hl, hp⟩ := ih fun i hi => h i (by omega)
    obtain ⟨x, hx⟩ := h n (by omega)
    refine ⟨l ++ [x], by simp [hl], fun i hi => ?_⟩
    by_cases hil : i < l.length
    · rw [List.getElem_append_left hil]; exact hp i hil
    · have : i = l.length := by simp at hi; omega
      subst this
      rw [List.getElem_append_right (by omega)]
      simp only [Nat.sub_self, List.getElem_cons_zero]
      rw [hl]; exact hx
theorem tyR_map (l : List Ty) : tyR l = l.map tyC := by
  induction l with
  | nil => rfl
  | cons t l ih => simp [tyR, ih]
theorem teR_map (l : List Tm) : teR l = l.map teC := by
  induction l with
  | nil => rfl
  | cons t l ih => simp [teR, ih]
theorem rep_nil {s : Nat} : C.rep [] [] w (.sl []) (.slice none 0 s) ↔ s ≤ maxLen := by
  simp only [C.rep, List.length_nil]
  exact ⟨fun ⟨_, c, e, _, h, _⟩ => by cases e; exact h, fun h => ⟨none, s, rfl, Nat.zero_le _, h, .inl trivial⟩⟩
end Go.Proofs.Sh
namespace Go.Proofs.Ytchcbfbnffhifaa
open Go.RowKit Go.Proofs.Sh Go.Proofs.Grad
open Go.ChangeShapes Go.WideShapes Go.ChangeAt
theorem ownKT : ownKnob Try.prog.godebug = none := by kernel_rfl
theorem laidKT : laidOutB Try.prog = true := by kernel_rfl
variable {H : Type} {enc : TypeId × Value → H} {w : World} {base : Nat} {spare : Nat → Bool} {held : Bool}
set_option maxRecDepth 100000 in
theorem opn_Ty : ∀ (n fuel : Nat) (cs : List Value) (x : DataW H × List MemPlace), fuel ≤ n → DataW.trod enc Try.prog w base spare held fuel 24 cs = some x → ∃ t : Ty, C.repl [] [] w (tyC t) cs ∧ t.fits := by
  intro n
  induction n with
  | zero =>
    intro fuel cs x hf h
    obtain rfl : fuel = 0 := by omega
    simp [DataW.trod] at h
  | succ n ih =>
    intro fuel cs x hf h
    obtain ⟨xs, m, hm, hx, hl, hlen, hfs⟩ := DataW.trod_struct Try.underlying24 h
    have hc : Try.prog.cellsOf 24 = 2 := by kernel_rfl
    have hc1 : Try.prog.cellsOf 3 = 1 := by kernel_rfl
    have hc2 : Try.prog.cellsOf 22 = 1 := by kernel_rfl
    rw [hc] at hl
    match cs, hl with
    | [c0, c1], _ =>
      have f0 : DataW.trod enc Try.prog w base spare held m 3 (([c0, c1].drop 0).take (Try.prog.cellsOf 3)) = xs[0]? := hfs 0 _ rfl
      have f1 : DataW.trod enc Try.prog w base spare held m 22 (([c0, c1].drop 1).take (Try.prog.cellsOf 22)) = xs[1]? := hfs 1 _ rfl
      rw [hc1] at f0
      rw [hc2] at f1
      simp at hlen
      rw [List.getElem?_eq_getElem (by omega)] at f0 f1
      simp at f0 f1
      obtain ⟨k, e0, _, _⟩ := DataW.trod_int Try.underlying3 f0
      simp at e0
      subst e0
      rcases DataW.trod_slice Try.underlying22 f1 with ⟨e1, _⟩ | ⟨a, len, cap, elems, rest, m', hm', e1, _, hb, hlc, hcm, hel, hall, _, _⟩
      · simp at e1
        subst e1
        refine ⟨.mk k [], ?_, ⟨by simp, trivial⟩⟩
        simp only [tyC, tyR, C.repl]
        exact ⟨_, _, rfl, ⟨rfl, rfl⟩, _, _, rfl, rep_nil.2 (by simp [maxLen]), rfl⟩
      · simp at e1
        subst e1
        have hkid : ∀ i, i < len → ∃ t : Ty, (∃ ds, w.cells? base (a.add (i * 2)) 2 = some ds ∧ C.repl [] [] w (tyC t) ds) ∧ t.fits := by
          intro i hi
          have h1 := hall i hi
          rw [hc, List.getElem?_eq_getElem (by omega)] at h1
          cases h2 : w.cells? base (a.add (i * 2)) 2 with
          | none => rw [h2] at h1; simp at h1
          | some ds =>
            rw [h2] at h1
            simp only [Option.bind_some] at h1
            obtain ⟨t, hr, hf⟩ := ih m' ds _ (by omega) h1
            exact ⟨t, ⟨ds, rfl, hr⟩, hf⟩
        obtain ⟨l, hl, hp⟩ := listAll hkid
        subst hl
        refine ⟨.mk k l, ?_, ⟨by simp only [maxLen] at hcm; omega, Ty.fitss_of fun i hi => (hp i hi).2⟩⟩
        simp only [tyC, C.repl]
        refine ⟨_, _, rfl, ⟨rfl, rfl⟩, _, _, rfl, ?_, rfl⟩
        rw [tyR_map]
        exact sl_rep tyC (by omega) tyC_length l (fun i hi => (hp i hi).1) hlc hcm
set_option maxRecDepth 100000 in
theorem open_IntS {v : Value} {d : DataW H} {p : List MemPlace} {r : Reach} {b0 : Nat} (hv : Value.okWide Try.prog w r b0 3 v) (h : DataW.Trod enc Try.prog w base spare held 3 v d p) : ∃ k : Int, v = .int .i64 k ∧ (-9223372036854775808 ≤ k ∧ k ≤ 9223372036854775807) := by
  obtain ⟨k, e, _, _, k2⟩ := Go.ChangeShapes.open_int Try.underlying3 hv h
  refine ⟨k, e, ?_⟩
  simp [Lit.wf, IntKind.min, IntKind.max, IntKind.signed, IntKind.bits] at k2
  omega
theorem repl_one {c : C} {v : Value} (h : C.rep [] [] w c v) : C.repl [] [] w [c] [v] := by simp only [C.repl]; exact ⟨v, [], rfl, h, rfl⟩
set_option maxRecDepth 100000 in
theorem opn_Tm : ∀ (n fuel : Nat) (cs : List Value) (x : DataW H × List MemPlace), fuel ≤ n → DataW.trod enc Try.prog w base spare held fuel 27 cs = some x → ∃ t : Tm, C.repl [] [] w (teC t) cs ∧ t.fits := by
  intro n
  induction n with
  | zero =>
    intro fuel cs x hf h
    obtain rfl : fuel = 0 := by omega
    simp [DataW.trod] at h
  | succ n ih =>
    intro fuel cs x hf h
    obtain ⟨xs, m, hm, hx, hl, hlen, hfs⟩ := DataW.trod_struct Try.underlying27 h
    have hc : Try.prog.cellsOf 27 = 9 := by kernel_rfl
    have hc1 : Try.prog.cellsOf 3 = 1 := by kernel_rfl
    have hc2 : Try.prog.cellsOf 24 = 2 := by kernel_rfl
    have hc3 : Try.prog.cellsOf 9 = 1 := by kernel_rfl
    have hc4 : Try.prog.cellsOf 25 = 1 := by kernel_rfl
    rw [hc] at hl
    match cs, hl with
    | [c0, c1, c2, c3, c4, c5, c6, c7, c8], _ =>
      have f0 : DataW.trod enc Try.prog w base spare held m 3 (([c0, c1, c2, c3, c4, c5, c6, c7, c8].drop 0).take (Try.prog.cellsOf 3)) = xs[0]? := hfs 0 _ rfl
      have f1 : DataW.trod enc Try.prog w base spare held m 9 (([c0, c1, c2, c3, c4, c5, c6, c7, c8].drop 1).take (Try.prog.cellsOf 9)) = xs[1]? := hfs 1 _ rfl
      have f2 : DataW.trod enc Try.prog w base spare held m 3 (([c0, c1, c2, c3, c4, c5, c6, c7, c8].drop 2).take (Try.prog.cellsOf 3)) = xs[2]? := hfs 2 _ rfl
      have f3 : DataW.trod enc Try.prog w base spare held m 24 (([c0, c1, c2, c3, c4, c5, c6, c7, c8].drop 3).take (Try.prog.cellsOf 24)) = xs[3]? := hfs 3 _ rfl
      have f4 : DataW.trod enc Try.prog w base spare held m 24 (([c0, c1, c2, c3, c4, c5, c6, c7, c8].drop 5).take (Try.prog.cellsOf 24)) = xs[4]? := hfs 4 _ rfl
      have f5 : DataW.trod enc Try.prog w base spare held m 3 (([c0, c1, c2, c3, c4, c5, c6, c7, c8].drop 7).take (Try.prog.cellsOf 3)) = xs[5]? := hfs 5 _ rfl
      have f6 : DataW.trod enc Try.prog w base spare held m 25 (([c0, c1, c2, c3, c4, c5, c6, c7, c8].drop 8).take (Try.prog.cellsOf 25)) = xs[6]? := hfs 6 _ rfl
      rw [hc1] at f0 f2 f5
      rw [hc2] at f3 f4
      rw [hc3] at f1
      rw [hc4] at f6
      simp at hlen
      rw [List.getElem?_eq_getElem (by omega)] at f0 f1 f2 f3 f4 f5 f6
      simp at f0 f1 f2 f3 f4 f5 f6
      obtain ⟨k0, e0, _, _⟩ := DataW.trod_int Try.underlying3 f0
      obtain ⟨k2, e2, _, _⟩ := DataW.trod_int Try.underlying3 f2
      obtain ⟨k5, e5, _, _⟩ := DataW.trod_int Try.underlying3 f5
      obtain ⟨s, e1, _, hns⟩ := DataW.trod_string Try.underlying9 f1
      obtain ⟨t3, r3, ft3⟩ := opn_Ty m m _ _ (Nat.le_refl _) f3
      obtain ⟨t4, r4, ft4⟩ := opn_Ty m m _ _ (Nat.le_refl _) f4
      simp at e0 e1 e2 e5
      subst e0 e1 e2 e5
      rw [tyC_eq] at r3 r4
      simp only [C.repl] at r3 r4
      obtain ⟨u3, us3, g3, a3, u4, us4, g4, a4, g5⟩ := r3
      obtain ⟨u5, us5, g6, a5, u6, us6, g7, a6, g8⟩ := r4
      subst g5; subst g4; simp at g3; obtain ⟨rfl, rfl⟩ := g3
      subst g8; subst g7; simp at g6; obtain ⟨rfl, rfl⟩ := g6
      rcases DataW.trod_slice Try.underlying25 f6 with ⟨e1, _⟩ | ⟨a, len, cap, elems, rest, m', hm', e1, _, hb, hlc, hcm, hel, hall, _, _⟩
      · simp at e1
        subst e1
        refine ⟨.mk k0 s k2 t3 t4 k5 [], ?_, ⟨by simp only [maxLen] at hns; omega, ft3, ft4, by simp, trivial⟩⟩
        simp only [teC, teR, C.repl]
        exact ⟨_, _, rfl, ⟨rfl, rfl⟩, _, _, rfl, ⟨rfl, rfl⟩, _, _, rfl, ⟨rfl, rfl⟩, _, _, rfl, a3, _, _, rfl, a4, _, _, rfl, a5, _, _, rfl, a6, _, _, rfl, ⟨rfl, rfl⟩, _, _, rfl, rep_nil.2 (by simp [maxLen]), rfl⟩
      · simp at e1
        subst e1
        have hkid : ∀ i, i < len → ∃ t : Tm, (∃ ds, w.cells? base (a.add (i * 9)) 9 = some ds ∧ C.repl [] [] w (teC t) ds) ∧ t.fits := by
          intro i hi
          have h1 := hall i hi
          rw [hc, List.getElem?_eq_getElem (by omega)] at h1
          cases h2 : w.cells? base (a.add (i * 9)) 9 with
          | none => rw [h2] at h1; simp at h1
          | some ds =>
            rw [h2] at h1
            simp only [Option.bind_some] at h1
            obtain ⟨t, hr, hf⟩ := ih m' ds _ (by omega) h1
            exact ⟨t, ⟨ds, rfl, hr⟩, hf⟩
        obtain ⟨l, hl, hp⟩ := listAll hkid
        subst hl
        refine ⟨.mk k0 s k2 t3 t4 k5 l, ?_, ⟨by simp only [maxLen] at hns; omega, ft3, ft4, by simp only [maxLen] at hcm; omega, Tm.fitss_of fun i hi => (hp i hi).2⟩⟩
        simp only [teC, C.repl]
        refine ⟨_, _, rfl, ⟨rfl, rfl⟩, _, _, rfl, ⟨rfl, rfl⟩, _, _, rfl, ⟨rfl, rfl⟩, _, _, rfl, a3, _, _, rfl, a4, _, _, rfl, a5, _, _, rfl, a6, _, _, rfl, ⟨rfl, rfl⟩, _, _, rfl, ?_, rfl⟩
        rw [teR_map]
        exact sl_rep teC (by omega) teC_length l (fun i hi => (hp i hi).1) hlc hcm
set_option maxRecDepth 100000 in
theorem open_TmS {v : Value} {d : DataW H} {p : List MemPlace} {r : Reach} {b0 : Nat} (hv : Value.okWide Try.prog w r b0 27 v) (h : DataW.Trod enc Try.prog w base spare held 27 v d p) : ∃ t : Tm, AV.rep [] [] w (.agg (teC t)) v ∧ t.fits := by
  obtain ⟨cs, rfl, _⟩ := okWide_struct Try.underlying27 hv
  obtain ⟨fuel, hu⟩ := h
  obtain ⟨t, hr, hf⟩ := opn_Tm fuel fuel _ _ (Nat.le_refl _) hu
  refine ⟨t, ?_, hf⟩
  simp only [AV.rep]
  exact ⟨cs, rfl, hr⟩
end Go.Proofs.Ytchcbfbnffhifaa
