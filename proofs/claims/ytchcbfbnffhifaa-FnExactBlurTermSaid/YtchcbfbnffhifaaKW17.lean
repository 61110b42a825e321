/- Texts of the proof, one behind another. -/
import Derived.Test.YtchcbfbnffhifaaKW11
import Derived.Test.YtchcbfbnffhifaaKW16
set_option linter.unusedSimpArgs false
set_option linter.unusedVariables false
/- Retyped terms, owned. On shadows. -/
namespace Go.Proofs.Grad
mutual
/-- a term with the types of a list, and those that are left -/
def Tm.ret : Tm → List Ty → Tm × List Ty
  | .mk k n m t f l ks, L => match hasTy k, L with
    | true, u :: L' => (.mk k n m u f l (Tm.rets ks L').1, (Tm.rets ks L').2)
    | true, [] => (.mk k n m t f l ks, [])
    | false, L => (.mk k n m t f l (Tm.rets ks L).1, (Tm.rets ks L).2)
def Tm.rets : List Tm → List Ty → List Tm × List Ty
  | [], L => ([], L)
  | a :: l, L => ((a.ret L).1 :: (Tm.rets l (a.ret L).2).1, (Tm.rets l (a.ret L).2).2)
end
theorem Tm.rets_append : ∀ (l m : List Tm) (L : List Ty), Tm.rets (l ++ m) L = ((Tm.rets l L).1 ++ (Tm.rets m (Tm.rets l L).2).1, (Tm.rets m (Tm.rets l L).2).2)
  | [], m, L => rfl
  | a :: l, m, L => by simp only [List.cons_append, Tm.rets, Tm.rets_append l m]
theorem Tm.rets_take {l : List Tm} {k : Nat} (h : k < l.length) (L : List Ty) : Tm.rets (l.take (k + 1)) L = ((Tm.rets (l.take k) L).1 ++ [((Sh.teKid l k).ret (Tm.rets (l.take k) L).2).1], ((Sh.teKid l k).ret (Tm.rets (l.take k) L).2).2) := by
  rw [Sh.tetake_kid h, Tm.rets_append]; rfl
theorem Tm.typess_take_le (l : List Tm) : ∀ k, (Tm.typess (l.take k)).length ≤ (Tm.typess l).length := by
  induction l with
  | nil => intro k; simp [Tm.typess]
  | cons x l ih => intro k; cases k with
    | zero => simp [Tm.typess]
    | succ k => have := ih k; simp only [List.take_succ_cons, Tm.typess, List.length_append]; omega
theorem Tm.rets_len : ∀ (l : List Tm) (L : List Ty), (Tm.rets l L).1.length = l.length
  | [], L => rfl
  | a :: l, L => by simp only [Tm.rets, List.length_cons, Tm.rets_len l]
mutual
theorem Tm.ret_rest : ∀ (t : Tm) (L : List Ty), t.types.length ≤ L.length → (t.ret L).2 = L.drop t.types.length
  | .mk k n m t f l ks, L, h => by
    simp only [Tm.types, List.length_append] at h ⊢
    unfold Tm.ret
    cases e : hasTy k with
    | true =>
      have e1 : ownTys k t = [t] := by unfold ownTys; rw [e]
      rw [e1] at h ⊢
      cases L with
      | nil => simp at h
      | cons u L =>
        simp only [List.length_cons, List.length_nil] at h ⊢
        rw [Tm.rets_rest ks L (by omega), show 0 + 1 + (Tm.typess ks).length = (Tm.typess ks).length + 1 from by omega, List.drop_succ_cons]
    | false =>
      have e1 : ownTys k t = [] := by unfold ownTys; rw [e]
      rw [e1] at h ⊢
      simp only [List.length_nil, Nat.zero_add] at h ⊢
      exact Tm.rets_rest ks L h
theorem Tm.rets_rest : ∀ (l : List Tm) (L : List Ty), (Tm.typess l).length ≤ L.length → (Tm.rets l L).2 = L.drop (Tm.typess l).length
  | [], L, _ => rfl
  | a :: l, L, h => by
    simp only [Tm.typess, List.length_append] at h ⊢
    simp only [Tm.rets]
    have h1 := Tm.ret_rest a L (by omega)
    rw [Tm.rets_rest l _ (by rw [h1, List.length_drop]; omega), h1, List.drop_drop]
end
theorem Tm.ret_u {k : Int} (hk : hasTy k = false) (n : ByteArray) (m : Int) (t f : Ty) (l : Int) (ks : List Tm) (L : List Ty) : (Tm.mk k n m t f l ks).ret L = (.mk k n m t f l (Tm.rets ks L).1, (Tm.rets ks L).2) := by unfold Tm.ret; rw [hk]
theorem Tm.ret_t {k : Int} (hk : hasTy k = true) (n : ByteArray) (m : Int) (t f u : Ty) (l : Int) (ks : List Tm) (L : List Ty) : (Tm.mk k n m t f l ks).ret (u :: L) = (.mk k n m u f l (Tm.rets ks L).1, (Tm.rets ks L).2) := by unfold Tm.ret; rw [hk]
theorem E.ret_tm (e : E) : ∀ L : List T, e.noC = true → e.nt ≤ L.length → e.tm.ret (L.map T.ty) = ((e.wt L).1.tm, (e.wt L).2.map T.ty) := by
  induction e with
  | cast _ _ _ a ih => intro L h; simp [E.noC] at h
  | lam x t a ih | asc t a ih =>
    intro L hn hz
    simp only [E.nt] at hz
    cases L with
    | nil => simp at hz
    | cons u L =>
      have := ih L hn (by simp only [List.length_cons] at hz; omega)
      simp only [E.tm, List.map_cons, E.wt]
      rw [Tm.ret_t rfl]
      simp only [Tm.rets, this]
  | fst a ih | snd a ih =>
    intro L hn hz
    have := ih L hn hz
    simp only [E.tm, nd, E.wt]
    rw [Tm.ret_u rfl]
    simp only [Tm.rets, this]
  | app a b iha ihb | add a b iha ihb | less a b iha ihb | pair a b iha ihb =>
    intro L hn hz
    simp only [E.noC, Bool.and_eq_true] at hn
    simp only [E.nt] at hz
    have h1 := iha L hn.1 (by omega)
    have h2 := ihb (a.wt L).2 hn.2 (by rw [len_rest (by omega)]; omega)
    simp only [E.tm, nd, E.wt]
    rw [Tm.ret_u rfl]
    simp only [Tm.rets, h1, h2]
  | ite a b c iha ihb ihc =>
    intro L hn hz
    simp only [E.noC, Bool.and_eq_true] at hn
    simp only [E.nt] at hz
    have l1 := len_rest (e := a) (l := L) (by omega)
    have h1 := iha L hn.1 (by omega)
    have h2 := ihb (a.wt L).2 hn.2.1 (by rw [l1]; omega)
    have h3 := ihc (b.wt (a.wt L).2).2 hn.2.2 (by rw [len_rest (by rw [l1]; omega), l1]; omega)
    simp only [E.tm, nd, E.wt]
    rw [Tm.ret_u rfl]
    simp only [Tm.rets, h1, h2, h3]
  | _ => intro L _ _; simp only [E.tm, nd, E.wt]; rw [Tm.ret_u rfl]; rfl
theorem E.plain_node (e : E) (h : e.noC = true) (hh : hasTy e.tm.kind = false) : e.tm.type = noTy ∧ e.tm.frm = noTy := by
  cases e <;> first | exact ⟨rfl, rfl⟩ | (simp [E.noC] at h; done) | (simp [E.tm, Tm.kind, hasTy] at hh; done)
theorem E.typed_node (e : E) (h : e.noC = true) (hh : hasTy e.tm.kind = true) : ∃ (n : ByteArray) (ty : Ty) (x : E), e.tm = .mk e.tm.kind n 0 ty noTy 0 [x.tm] ∧ x.noC = true := by
  cases e with
  | lam x t a => exact ⟨_, _, a, rfl, h⟩
  | asc t a => exact ⟨_, _, a, rfl, h⟩
  | cast _ _ _ a => simp [E.noC] at h
  | _ => simp [E.tm, nd, Tm.kind, hasTy] at hh
theorem E.kid_noC (e : E) (h : e.noC = true) {k : Nat} (hk : k < e.tm.kids.length) : ∃ x : E, x.tm = Sh.teKid e.tm.kids k ∧ x.noC = true := by
  have key : ∀ x ∈ e.kids, x.noC = true := by
    intro x hx
    cases e <;> simp only [E.kids, List.mem_cons, List.not_mem_nil, or_false] at hx <;> simp only [E.noC, Bool.and_eq_true] at h <;> (try (rcases hx with rfl | rfl | rfl)) <;> (try (rcases hx with rfl | rfl)) <;> (try subst hx) <;> simp_all
  have hkids : e.tm.kids = e.kids.map E.tm := by cases e <;> rfl
  rw [hkids] at hk ⊢
  rw [Sh.teKid_eq hk]
  rw [List.length_map] at hk
  exact ⟨e.kids[k], by simp, key _ (List.getElem_mem hk)⟩
end Go.Proofs.Grad
namespace Go.Proofs.Ytchcbfbnffhifaa
open Go.RowKit Go.Proofs.Sh Go.Proofs.Grad
set_option maxRecDepth 100000
set_option maxHeartbeats 8000000
theorem iRetO (n : Nat) (hn : n ≤ 1000000000) : ∀ t : Tm, t.size < n → (∃ e : E, e.tm = t ∧ e.noC = true) → ∀ L : List Ty, (∀ u ∈ L, u.size < 1000) → t.types.length ≤ L.length → ACl Try.prog 134 [.agg (teC t), .one (.sl (tyR L))] [] (OwnK (teC (t.ret L).1) (pairF (tyR (t.ret L).2))) := by
  induction n with
  | zero => intro t h; omega
  | succ n ih =>
    intro t h hj L hL hlen
    have hh := iHasType t
    have hl := telen_lt t
    cases hty : hasTy t.kind
    · rw [hty] at hh
      obtain ⟨e, he, hnC⟩ := hj
      have hpl := E.plain_node e hnC (by rw [he]; exact hty)
      have hkids := fun k (hk : k < e.tm.kids.length) => E.kid_noC e hnC hk
      rw [he] at hpl hkids
      clear he hnC
      obtain ⟨kd, nmx, m, ty, fr, l, ks⟩ := t
      simp only [Tm.type, Tm.frm, Tm.kids, Tm.kind] at hpl hkids hty hl
      obtain ⟨rfl, rfl⟩ := hpl
      have hret : (Tm.mk kd nmx m noTy noTy l ks).ret L = (.mk kd nmx m noTy noTy l (Tm.rets ks L).1, (Tm.rets ks L).2) := by unfold Tm.ret; rw [hty]
      rw [hret]
      have htl : (Tm.typess ks).length ≤ L.length := by
        simp only [Tm.types, List.length_append] at hlen; omega
      have hle := fun k => Tm.typess_take_le ks k
      simp only [noTy] at hh ⊢
      refine acl_in Try.func134 rfl isfn_134 (Nat.le_of_ble_eq_true rfl) (fun R hR => ?_); rw [Try.results134] at hR; refine wg_run ?_; (simp only [Try.f134, go_sem])
      repeat' (first | (first | (((first | apply sp1 | apply sp2 | apply sp3 | apply sp4 | apply sp5 | apply sp6 | apply sp7) <;> intro hb) <;> (simp only [go_sem, hb])) | ((first | apply wm_done | apply wt_done | apply wg_run | refine fk ?_ ?_) <;> (simp only [go_sem]))) | (first | refine cdq ?_ (hc := hh) | refine cmq ?_ (hc := hh) | refine ctq ?_ (hc := hh)); (simp only [go_sem]) | fail)
      refine wd_for (σ := Nat × C × List Blk) [1, 2, 4, 6, 23, 24, 25] (fun x => [.one (.sl (tyR (Tm.rets (ks.take x.1) L).2)), .one (.ptr 9 0 0 0), .one (.ptr 9 1 0 0), .one (.ptr 9 2 0 0), .one (.sl (teR ks)), .one (.sc (.int .i64 ks.length)), .one (.sc (.int .i64 (x.1 : Nat)))])
        (fun x => ⟨9, 35, .mut, [teC (Tm.mk kd nmx m (.mk 0 []) (.mk 0 []) l ks)]⟩ :: ⟨9, 35, .mut, [[.sc (.int .i64 0), .sc (.string { data := { toList := [] } }), .sc (.int .i64 0), .sc (.int .i64 0), .sc (.slice none 0 0), .sc (.int .i64 0), .sc (.slice none 0 0), .sc (.int .i64 0), .sc (.slice none 0 0)]]⟩ :: ⟨9, 35, .mut, [[.sc (.int .i64 kd), .sc (.string nmx), .sc (.int .i64 m), .sc (.int .i64 0), .sl [], .sc (.int .i64 0), .sl [], .sc (.int .i64 l), x.2.1]]⟩ :: x.2.2)
        (fun x => x.1 ≤ ks.length ∧ Grown 9 35 3 (teR (Tm.rets (ks.take x.1) L).1) x.2.1 x.2.2) (fun x => ks.length - x.1) (0, .sc (.slice none 0 0), []) ⟨Nat.zero_le _, .inl ⟨rfl, rfl⟩⟩ (head_all (by (simp only [go_sem]); first | done | rfl) ⟨rfl, rfl⟩) ?_
      rintro ⟨k, c, T⟩ ⟨hk, hG⟩ G hGo
      simp only at hk hG hGo ⊢
      refine wg_run ?_
      (simp only [go_sem])
      ((first | apply sp1 | apply sp2 | apply sp3 | apply sp4 | apply sp5 | apply sp6 | apply sp7) <;> intro hb) <;> (simp only [go_sem, hb])
      · have hk1 : k < ks.length := by have := of_decide_eq_true hb; omega
        have hrl := Tm.rets_rest (ks.take k) L (by have := hle k; omega)
        have hkl : (teKid ks k).types.length ≤ (Tm.rets (ks.take k) L).2.length := by
          have h1 := hle (k + 1)
          rw [Tm.typess_take hk1, List.length_append] at h1
          rw [hrl, List.length_drop]; omega
        have hkL : ∀ u ∈ (Tm.rets (ks.take k) L).2, u.size < 1000 := by rw [hrl]; exact fun u hu => hL u (List.mem_of_mem_drop hu)
        have hc := ih (by omega) (teKid ks k) (by have := teKid_lt (t := Tm.mk kd nmx m noTy noTy l ks) hk1; simp only [Tm.kids] at this; omega) (hkids k hk1) (Tm.rets (ks.take k) L).2 hkL hkl
        repeat' (first | (first | (simp only [go_sem, hb]) | (((first | apply sp1 | apply sp2 | apply sp3 | apply sp4 | apply sp5 | apply sp6 | apply sp7) <;> intro hb) <;> (simp only [go_sem, hb, hb])) | ((first | apply wm_done | apply wt_done | apply wg_run | refine fk ?_ ?_) <;> (simp only [go_sem, hb]))) | fail)
        refine wd_any (acalls_ownS (by (simp only [go_sem]); first | done | rfl) hc (pairF_ren _)) ?_
        rintro _ h' ⟨cs, d, ids, rfl, e1, e2, e3, e4, e5⟩
        obtain ⟨T', rfl, f1, f2⟩ := pre3 e4 e5
        have hcs : cs.length = 9 := by rw [← fzL_len e1, teC_length]
        have htk : cs.take 9 = cs := List.take_of_length_le (by omega)
        have hlen1 : (Tm.rets (ks.take k) L).1.length = k := by rw [Tm.rets_len, List.length_take]; omega
        have hcap : (k + 1) * 128 ≤ 140737488355328 := by omega
        have hw1 : IntKind.i64.wrap (((k : Nat) : Int) + 1) = ((k + 1 : Nat) : Int) := wrap_succ hk1 (by omega)
        have hge : ∀ b ∈ ids, 3 + T.length ≤ b := fun b hb => by have := (e3 b hb).1; simp only [List.length_cons, List.length_append, List.length_nil] at this; omega
        have e1' := owL_pre (pre := [_, _, _]) (pre' := [_, _, _]) (T' := T' ++ [⟨9, 35, .mut, [cs]⟩]) rfl (fun i hi => List.getElem?_append_left hi) e1 (fun b hb => by have := hge b hb; simp only [List.length_cons, List.length_nil]; omega)
        simp only [List.length_append, List.length_cons, List.length_nil] at f1
        have hL1 : (T' ++ [(⟨9, 35, .mut, [cs]⟩ : Blk)]).length + 1 + 3 = T'.length + 1 + 1 + 1 + 1 + 1 := by simp
        rcases hG.more (pre := [_, _, _]) rfl (by simp only [List.length_append]; omega : T.length ≤ (T' ++ [(⟨9, 35, .mut, [cs]⟩ : Blk)]).length) (fun i hi => by rw [List.getElem?_append_left (by omega), f2 i (by simp; omega), List.getElem?_append_left hi]) e1' hcs e2 hge with ⟨rfl, h0, hy⟩ | ⟨j, rows, rfl, hpos, hj, hrl2, hrs, hy⟩
        · rw [hL1] at hy
          simp only [pairF]
          (simp only [go_sem, hcs])
          repeat' (first | (first | (simp only [go_sem, hcs, htk, hw1, hlen1, hcap]) | (((first | apply sp1 | apply sp2 | apply sp3 | apply sp4 | apply sp5 | apply sp6 | apply sp7) <;> intro hb) <;> (simp only [go_sem, hb, hcs, htk, hw1, hlen1, hcap])) | ((first | apply wm_done | apply wt_done | apply wg_run | refine fk ?_ ?_) <;> (simp only [go_sem, hcs, htk, hw1, hlen1, hcap]))) | fail)
          refine hGo (k + 1, _, _) _ _ ⟨by omega, ?_⟩ (by simp only; omega) (head_all (by (simp only [go_sem]); first | done | rfl) ⟨?_, rfl⟩)
          · simp only [Tm.rets_take hk1, teR_append, teR]
            exact hy _
          · simp only [Tm.rets_take hk1]
        · have hj2 := fun U => get_app hj U
          rw [hL1] at hy
          rw [teR_length, hlen1] at hrl2 hpos hy
          simp only [pairF]
          (simp only [go_sem, hcs, hj, hj2, hlen1])
          repeat' (first | (first | (simp only [go_sem, hcs, htk, hw1, hlen1, hcap, hj, hj2, hrl2, hrs]) | (((first | apply sp1 | apply sp2 | apply sp3 | apply sp4 | apply sp5 | apply sp6 | apply sp7) <;> intro hb) <;> (simp only [go_sem, hb, hcs, htk, hw1, hlen1, hcap, hj, hj2, hrl2, hrs])) | ((first | apply wm_done | apply wt_done | apply wg_run | refine fk ?_ ?_) <;> (simp only [go_sem, hcs, htk, hw1, hlen1, hcap, hj, hj2, hrl2, hrs]))) | fail)
          refine hGo (k + 1, _, _) _ _ ⟨by omega, ?_⟩ (by simp only; omega) (head_all (by (simp only [go_sem]); first | done | rfl) ⟨?_, rfl⟩)
          · simp only [Tm.rets_take hk1, teR_append, teR]
            exact hy _
          · simp only [Tm.rets_take hk1]
      · have hk1 : k = ks.length := by have := of_decide_eq_false hb; omega
        rw [hk1, List.take_length] at hG
        rw [hk1, List.take_length]
        obtain ⟨d0, js, g1, g2, g3⟩ := hG.ow
        repeat' (first | (first | (simp only [go_sem, hb]) | (((first | apply sp1 | apply sp2 | apply sp3 | apply sp4 | apply sp5 | apply sp6 | apply sp7) <;> intro hb) <;> (simp only [go_sem, hb, hb])) | ((first | apply wm_done | apply wt_done | apply wg_run | refine fk ?_ ?_) <;> (simp only [go_sem, hb]))) | fail)
        obtain ⟨d, hd⟩ := owL_te_of (t := .mk kd nmx m noTy noTy l (Tm.rets ks L).1) (h := [_, _, _] ++ T) (c1 := .sl []) (c2 := .sl []) (d1 := 0) (d2 := 0) (i1 := []) (i2 := []) rfl rfl (g1 [_, _, _] rfl)
        refine hR _ (ret_ownK (F := pairF (tyR (Tm.rets ks L).2)) (d := d) (ids := js) (by (simp only [go_sem]); first | done | rfl) ?_ g2 (fun _ => prVs_pairF))
        exact hd
    · rw [hty] at hh
      obtain ⟨e, he, hnC⟩ := hj
      obtain ⟨nmx, ty, x, hx, hxC⟩ := E.typed_node e hnC (by rw [he]; exact hty)
      rw [he] at hx
      have htl : (ownTys t.kind t.type ++ Tm.typess t.kids).length ≤ L.length := by rw [← Tm.types_eq]; exact hlen
      generalize t.kind = kd at *
      subst hx
      clear he hnC
      simp only [Tm.type, Tm.kids] at htl
      have e1 : ownTys kd ty = [ty] := by unfold ownTys; rw [hty]
      rw [e1] at htl
      simp only [Tm.typess, List.append_nil, List.length_append, List.length_cons, List.length_nil] at htl
      cases L with
      | nil => simp at htl
      | cons u L =>
      simp only [List.length_cons] at htl
      have ho := iOwnTyO 1000 (by omega) u (hL u (by simp))
      have hc := ih (by omega) x.tm (by simp only [Tm.size, Tm.sizes] at h; omega) ⟨x, rfl, hxC⟩ L (fun v hv => hL v (by simp [hv])) (by omega)
      rw [Tm.ret_t hty]
      simp only [Tm.rets]
      have htk0 : (tyR L).take L.length = tyR L := List.take_of_length_le (by rw [tyR_length]; exact Nat.le_refl _)
      generalize (x.tm.ret L).2 = L2 at *
      generalize (x.tm.ret L).1 = x2 at *
      generalize x.tm = x1 at *
      clear ih hL hlen
      simp only [noTy, tyR] at hh ⊢
      refine acl_in Try.func134 rfl isfn_134 (Nat.le_of_ble_eq_true rfl) (fun R hR => ?_); rw [Try.results134] at hR; refine wg_run ?_; (simp only [Try.f134, go_sem])
      repeat' (first | (first | (simp only [go_sem, htk0]) | (((first | apply sp1 | apply sp2 | apply sp3 | apply sp4 | apply sp5 | apply sp6 | apply sp7) <;> intro hb) <;> (simp only [go_sem, hb, htk0])) | ((first | apply wm_done | apply wt_done | apply wg_run | refine fk ?_ ?_) <;> (simp only [go_sem, htk0]))) | (first | refine cdq ?_ (hc := hh) | refine cmq ?_ (hc := hh) | refine ctq ?_ (hc := hh)); (simp only [go_sem]) | ((first | refine mxq6 [] ?_ | refine mxq5 [] ?_ | refine mxq4 [] ?_ | refine mxq3 [] ?_ | refine mxq2 [] ?_ | refine mxq1 [] ?_ | refine mxq0 [] ?_ | fail); (simp only [go_sem, htk0])) | fail)
      refine wm_any (acalls_own (.cons (.same (by (simp only [go_sem]); first | done | rfl)) .nil) ho (fun _ h => h) ren_agg) (by (simp only [go_sem]); first | done | rfl) (by (simp only [go_sem]); first | done | rfl) ?_
      rintro _ h' ⟨cs1, d1, ids1, rfl, a1, a2, a3, a4, a5⟩
      obtain ⟨T1, rfl, b1, b2⟩ := pre3 (T := []) a4 a5
      obtain ⟨c1, rfl, z1⟩ := owL_ty a1
      have hx1 : ∀ b ∈ ids1, 3 ≤ b ∧ b < T1.length + 3 := fun b hb => by have := a3 b hb; simp only [List.length_cons, List.length_nil] at this; omega
      clear a3 a4 a5 a1
      (simp only [go_sem, htk0])
      repeat' (first | (first | (simp only [go_sem, htk0]) | (((first | apply sp1 | apply sp2 | apply sp3 | apply sp4 | apply sp5 | apply sp6 | apply sp7) <;> intro hb) <;> (simp only [go_sem, hb, htk0])) | ((first | apply wm_done | apply wt_done | apply wg_run | refine fk ?_ ?_) <;> (simp only [go_sem, htk0]))) | (first | (refine wl_next (wg_run ?_); (simp only [go_sem])) | refine wd_rounds 6 ?_) | fail)
      refine wd_any (acalls_ownS (by (simp only [go_sem]); first | done | rfl) hc (pairF_ren _)) ?_
      rintro _ h' ⟨cs, d, ids, rfl, p1, p2, p3, p4, p5⟩
      obtain ⟨T2, rfl, q1, q2⟩ := pre3 p4 p5
      have hcs : cs.length = 9 := by rw [← fzL_len p1, teC_length]
      have htk : cs.take 9 = cs := List.take_of_length_le (by omega)
      have hx2 : ∀ b ∈ ids, T1.length + 3 ≤ b ∧ b < T2.length + 3 := fun b hb => by have := p3 b hb; simp only [List.length_cons, List.length_append, List.length_nil] at this; omega
      simp only [List.length_append, List.length_cons, List.length_nil] at q1
      have hkid := fun (pre : List Blk) (hp : pre.length = 3) => (own_grow0 (ty := 35) (y := ⟨9, 35, .mut, [cs]⟩) (owL_pre (pre := [_, _, _]) (pre' := pre) (T' := T2 ++ [⟨9, 35, .mut, [cs]⟩]) (by rw [hp]; rfl) (fun i hi => List.getElem?_append_left hi) p1 (fun b hb => by have := hx2 b hb; simp only [List.length_cons, List.length_nil]; omega)) hcs p2 (fun b hb => by have := hx2 b hb; simp only [List.length_append, List.length_cons, List.length_nil]; omega)).1
      have htyp := fun (pre : List Blk) (hp : pre.length = 3) => ow_pre (pre := [_, _, _]) (pre' := pre) (T' := T2 ++ [⟨9, 35, .mut, [cs]⟩] ++ [⟨9, 35, .mut, [cs]⟩] ++ [⟨9, 35, .mut, [cs]⟩]) (by rw [hp]; rfl) (fun i hi => by rw [List.append_assoc, List.append_assoc, List.getElem?_append_left (by omega), q2 i (by simp; omega), List.getElem?_append_left hi]) z1 (fun b hb => by have := hx1 b hb; simp only [List.length_cons, List.length_nil]; omega)
      have hkid2 : ∀ pre : List Blk, pre.length = 3 → Sh.ow (pre ++ (T2 ++ [⟨9, 35, .mut, [cs]⟩] ++ [⟨9, 35, .mut, [cs]⟩] ++ [⟨9, 35, .mut, [cs]⟩])) (d + 1) (.row 9 (T2.length + 1 + 1 + 1 + 1 + 1) 1) = some (.sl (teR [x2]), (T2.length + 1 + 1 + 1 + 1 + 1) :: ids) := fun pre hp => by
        have h := hkid pre hp
        have hl : (pre ++ (T2 ++ [(⟨9, 35, .mut, [cs]⟩ : Blk)])).length + 1 = T2.length + 1 + 1 + 1 + 1 + 1 := by simp [hp]; omega
        rw [hl] at h
        simpa only [List.append_assoc, teR] using h
      simp only [pairF]
      (simp only [go_sem, hcs])
      repeat' (first | (first | (simp only [go_sem, hcs, htk]) | (((first | apply sp1 | apply sp2 | apply sp3 | apply sp4 | apply sp5 | apply sp6 | apply sp7) <;> intro hb) <;> (simp only [go_sem, hb, hcs, htk])) | ((first | apply wm_done | apply wt_done | apply wg_run | refine fk ?_ ?_) <;> (simp only [go_sem, hcs, htk]))) | (first | (refine wl_next (wg_run ?_); (simp only [go_sem])) | refine wd_rounds 6 ?_) | fail)
      obtain ⟨d9, hd⟩ := owL_te_of (t := .mk kd nmx 0 u noTy 0 [x2]) (h := [_, _, _] ++ (T2 ++ [⟨9, 35, .mut, [cs]⟩] ++ [⟨9, 35, .mut, [cs]⟩] ++ [⟨9, 35, .mut, [cs]⟩])) (c2 := .sl []) (d2 := 0) (i2 := []) (htyp [_, _, _] rfl) rfl (hkid2 [_, _, _] rfl)
      refine hR _ (ret_ownK (F := pairF (tyR L2)) (d := d9) (ids := ids1 ++ ([] ++ ((T2.length + 1 + 1 + 1 + 1 + 1) :: ids))) (by (simp only [go_sem]); first | done | rfl) ?_ ?_ (fun _ => prVs_pairF))
      · exact hd
      · refine List.nodup_append.2 ⟨a2, List.nodup_cons.2 ⟨fun hm => by have := hx2 _ hm; omega, p2⟩, fun x hx y hy e => ?_⟩
        subst e
        have h1 := hx1 _ hx
        rcases List.mem_cons.1 hy with rfl | hy
        · omega
        · have := hx2 _ hy; omega
end Go.Proofs.Ytchcbfbnffhifaa
