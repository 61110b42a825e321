/- Texts of the proof, one behind another. -/
import Derived.Test.YtchcbfbnffhifaaKW7
import Derived.Test.YtchcbfbnffhifaaKW8
import Derived.Test.YtchcbfbnffhifaaKW10
import Derived.Test.YtchcbfbnffhifaaKW17
import Derived.Test.YtchcbfbnffhifaaKW18
set_option linter.unusedSimpArgs false
set_option linter.unusedVariables false
/- Blurred terms, owned. On shadows. -/
namespace Go.Proofs.Grad
/-- when a term is blurred, and what BlurTerm yields -/
def BlurG (x : Tm) (m : Int) (w : E × Nat) : Prop := x = w.1.tm ∧ m = (w.2 : Nat) ∧ w.1.okT = true ∧ w.2 < 2 ^ w.1.nt
noncomputable def blurTt (x : Tm) (m : Int) : Tm := by
  classical
  exact if h : ∃ w, BlurG x m w then ((Classical.choose h).1.blur (Classical.choose h).2).tm else tm0
noncomputable def blurTb (x : Tm) (m : Int) : Bool := by
  classical
  exact decide (∃ w, BlurG x m w)
theorem blurT_E {e : E} {n : Nat} (h1 : e.okT = true) (h2 : n < 2 ^ e.nt) : blurTt e.tm (n : Nat) = (e.blur n).tm ∧ blurTb e.tm (n : Nat) = true := by
  have h : ∃ w, BlurG e.tm (n : Nat) w := ⟨(e, n), rfl, rfl, h1, h2⟩
  have hs := Classical.choose_spec h
  unfold blurTt blurTb
  refine ⟨?_, by simp [h]⟩
  rw [dif_pos h, ← E.tm_inj _ _ hs.1, show (Classical.choose h).2 = n from by have := hs.2.1; omega]
theorem blurT_bad {x : Tm} {m : Int} (h : ¬ ∃ w, BlurG x m w) : blurTt x m = tm0 ∧ blurTb x m = false := by
  unfold blurTt blurTb
  exact ⟨by rw [dif_neg h], by simp [h]⟩
theorem blurTt_size (x : Tm) (m : Int) : (blurTt x m).size < 100000000 := by
  by_cases h : ∃ w, BlurG x m w
  · obtain ⟨⟨e, n⟩, rfl, rfl, h1, h2⟩ := h
    rw [(blurT_E h1 h2).1]; have := E.size_okT (E.blur_okT h1 n); simp only [] at *; omega
  · rw [(blurT_bad h).1]; simp [tm0, noTy, Tm.size, Ty.size, Ty.sizes, Tm.sizes]
end Go.Proofs.Grad
namespace Go.Proofs.Ytchcbfbnffhifaa
open Go.RowKit Go.Proofs.Sh Go.Proofs.Grad
set_option maxRecDepth 100000
set_option maxHeartbeats 16000000
theorem iBlurredO (e : E) (h : e.okT = true) (m : Nat) (hm : m < 2 ^ 62) : ACl Try.prog 92 [.agg (teC e.tm), .one (.sc (.int .i64 (m : Nat)))] [] (OwnK (teC (e.blur m).tm) .agg) := by
  have h' := h
  simp only [E.okT, Bool.and_eq_true, decide_eq_true_eq] at h'
  have hz := E.size_okT h
  have hd := E.tl_depth e h'.1 h'.2.1
  have hc := iTypesO 100000 (by omega) e.tm (by omega)
  have ht := E.types_tm e h'.2.1
  have hnl := e.tl_length
  have hn30 : e.nt ≤ 30 := nt30 h
  have hret := iRetO 100000 (by omega) e.tm (by omega) ⟨e, rfl, h'.2.1⟩ ((blurL m e.tl).map T.ty) (fun u hu => by
    obtain ⟨t, ht, rfl⟩ := List.mem_map.1 hu
    have := T.ty_s16 (blurL_depth m hd t ht); omega) (by rw [ht, List.length_map, List.length_map, blurL_length]; exact Nat.le_refl _)
  rw [ht] at hc
  rw [E.ret_tm e _ h'.2.1 (by rw [blurL_length, hnl]; exact Nat.le_refl _)] at hret
  have hb1 := base 1
  rw [show (e.wt (blurL m e.tl)).1 = e.blur m from rfl] at hret
  simp only [] at hret
  generalize (e.wt (blurL m e.tl)).2 = L2 at hret
  generalize e.tl = L at *
  generalize e.tm = t at *
  generalize (e.blur m).tm = t2 at *
  refine acl_in Try.func92 rfl isfn_92 (Nat.le_of_ble_eq_true rfl) (fun R hR => ?_); rw [Try.results92] at hR; refine wg_run ?_; (simp only [Try.f92, go_sem])
  repeat' (first | (first | (((first | apply sp1 | apply sp2 | apply sp3 | apply sp4 | apply sp5 | apply sp6 | apply sp7) <;> intro hb) <;> (simp only [go_sem, hb])) | ((first | apply wm_done | apply wt_done | apply wg_run | refine fk ?_ ?_) <;> (simp only [go_sem]))) | ((first | refine kdq [] ?_ (hc := hc) | refine kmq [] ?_ (hc := hc) | refine ktq [] ?_ (hc := hc)); rintro _ _ (⟨hL0, rfl, rfl⟩ | ⟨rfl, rfl, hL0⟩) <;> (simp only [go_sem])) | fail)
  · have hb0 : blurL m L = [] := by rw [← List.length_eq_zero_iff, blurL_length]; simpa using hL0
    rw [hb0] at hret
    simp only [List.map_nil, tyR] at hret
    repeat' (first | (first | (((first | apply sp1 | apply sp2 | apply sp3 | apply sp4 | apply sp5 | apply sp6 | apply sp7) <;> intro hb) <;> (simp only [go_sem, hb])) | ((first | apply wm_done | apply wt_done | apply wg_run | refine fk ?_ ?_) <;> (simp only [go_sem]))) | (first | (refine wl_next (wg_run ?_); (simp only [go_sem])) | refine wd_rounds 6 ?_) | ((first | refine mxq6 [] ?_ | refine mxq5 [] ?_ | refine mxq4 [] ?_ | refine mxq3 [] ?_ | refine mxq2 [] ?_ | refine mxq1 [] ?_ | refine mxq0 [] ?_ | fail); (simp only [go_sem])) | fail)
    refine wd_any (acalls_ownS (by (simp only [go_sem]); first | done | rfl) hret (pairF_ren _)) ?_
    rintro _ h' ⟨cs, d, ids, rfl, p1, p2, p3, p4, p5⟩
    obtain ⟨T2, rfl, q1, q2⟩ := pre2 (T := []) p4 p5
    have hcs : cs.length = 9 := by rw [← fzL_len p1, teC_length]
    have htk : cs.take 9 = cs := List.take_of_length_le (by omega)
    simp only [pairF]
    (simp only [go_sem, hcs])
    repeat' (first | (first | (simp only [go_sem, hcs, htk]) | (((first | apply sp1 | apply sp2 | apply sp3 | apply sp4 | apply sp5 | apply sp6 | apply sp7) <;> intro hb) <;> (simp only [go_sem, hb, hcs, htk])) | ((first | apply wm_done | apply wt_done | apply wg_run | refine fk ?_ ?_) <;> (simp only [go_sem, hcs, htk]))) | fail)
    refine hR _ (ret_ownK (F := .agg) (d := d) (ids := ids) (cs := cs) (by (simp only [go_sem, hcs, htk]); first | done | rfl) ?_ p2 (fun _ => prVs_agg))
    refine owL_frame (h := _ :: _ :: T2) p1 (fun b hb => ?_)
    have hb2 := p3 b hb
    simp only [List.length_cons, List.length_nil] at hb2
    obtain ⟨b, rfl⟩ : ∃ x, b = x + 2 := ⟨b - 2, by omega⟩
    exact List.getElem?_append_left (by omega)
  · simp only [List.length_map] at hL0 ⊢
    refine wd_for [1, 2, 4, 5, 12, 13] (fun k => [.one (.sc (.int .i64 (m : Nat))), .one (.ptr 9 0 0 0), .one (.ptr 9 1 0 0), .one (.row 2 2 L.length), .one (.sc (.int .i64 (L.length : Nat))), .one (.sc (.int .i64 (k : Nat)))])
      (fun k => [⟨9, 35, .mut, [teC t]⟩, ⟨9, 35, .mut, [[.sc (.int .i64 0), .sc (.string { data := { toList := [] } }), .sc (.int .i64 0), .sc (.int .i64 0), .sc (.slice none 0 0), .sc (.int .i64 0), .sc (.slice none 0 0), .sc (.int .i64 0), .sc (.slice none 0 0)]]⟩, ⟨2, 32, .mut, tyR ((blurK m L k).map T.ty)⟩])
      (fun k => k ≤ L.length) (fun k => L.length - k) 0 (Nat.zero_le _) (hat [0, 1, 2] (hI := ⟨rfl, by rw [blurK_zero]⟩)) ?_
    rintro k hk G hG
    refine wg_run ?_
    (simp only [go_sem])
    ((first | apply sp1 | apply sp2 | apply sp3 | apply sp4 | apply sp5 | apply sp6 | apply sp7) <;> intro hb) <;> (simp only [go_sem, hb])
    · have hk1 : k < L.length := by have := of_decide_eq_true hb; omega
      have hw1 := wrap_succ hk1 (by omega)
      have hin : decide (k < L.length) = true := by simpa using hk1
      obtain ⟨c1, c2, hg⟩ : ∃ c1 c2, (tyR ((blurK m L k).map T.ty))[k]? = some [c1, c2] := by
        rw [tyR_get, List.getElem?_map, blurK_get m L k k hk1]
        exact ⟨_, _, congrArg some (tyC_eq _)⟩
      have hd := hb
      clear hb
      repeat' (first | (simp only [go_sem, hw1, hd, hin]) | ((first | refine mxq6 [] ?_ | refine mxq5 [] ?_ | refine mxq4 [] ?_ | refine mxq3 [] ?_ | refine mxq2 [] ?_ | refine mxq1 [] ?_ | refine mxq0 [] ?_ | fail); (simp only [go_sem, hw1, hd, hin])) | ((first | apply wm_done | apply wt_done | apply wg_run) <;> (simp only [go_sem, hw1, hd, hin])) | fail)
      ((first | apply sp1 | apply sp2 | apply sp3 | apply sp4 | apply sp5 | apply sp6 | apply sp7) <;> intro hb)
      · have htb : m.testBit k = true := by rw [← bit_at m k hm (by omega)]; exact hb
        have hset := tyRset ((blurK m L k).map T.ty) k T.any.ty
        rw [← List.map_set, blurK_set m L hk1 htb] at hset
        simp only [T.ty] at hset
        clear hb
        repeat' (first | (first | (simp only [go_sem, hw1, hd, hin, hg, hset]) | (((first | apply sp1 | apply sp2 | apply sp3 | apply sp4 | apply sp5 | apply sp6 | apply sp7) <;> intro hb) <;> (simp only [go_sem, hb, hw1, hd, hin, hg, hset])) | ((first | apply wm_done | apply wt_done | apply wg_run | refine fk ?_ ?_) <;> (simp only [go_sem, hw1, hd, hin, hg, hset]))) | (first | refine cdq ?_ (hc := hb1) | refine cmq ?_ (hc := hb1) | refine ctq ?_ (hc := hb1)); (simp only [go_sem]) | ((first | refine mxq6 [] ?_ | refine mxq5 [] ?_ | refine mxq4 [] ?_ | refine mxq3 [] ?_ | refine mxq2 [] ?_ | refine mxq1 [] ?_ | refine mxq0 [] ?_ | fail); (simp only [go_sem, hw1, hd, hin, hg, hset])) | fail)
        exact hG (k + 1) _ _ (by omega) (by omega) (hat [0, 1, 2] (hI := ⟨rfl, rfl⟩))
      · have htb : m.testBit k = false := by rw [← bit_at m k hm (by omega)]; exact hb
        clear hb
        repeat' (first | (first | (simp only [go_sem, hw1, hd, hin]) | (((first | apply sp1 | apply sp2 | apply sp3 | apply sp4 | apply sp5 | apply sp6 | apply sp7) <;> intro hb) <;> (simp only [go_sem, hb, hw1, hd, hin])) | ((first | apply wm_done | apply wt_done | apply wg_run | refine fk ?_ ?_) <;> (simp only [go_sem, hw1, hd, hin]))) | ((first | refine mxq6 [] ?_ | refine mxq5 [] ?_ | refine mxq4 [] ?_ | refine mxq3 [] ?_ | refine mxq2 [] ?_ | refine mxq1 [] ?_ | refine mxq0 [] ?_ | fail); (simp only [go_sem, hw1, hd, hin])) | fail)
        exact hG (k + 1) _ _ (by omega) (by omega) (hat [0, 1, 2] (hI := ⟨rfl, by rw [blurK_keep m L hk1 htb]⟩))
    · have hb0 : blurK m L k = blurL m L := blurK_all m L (by have := of_decide_eq_false hb; omega)
      rw [hb0]
      have hlb : (blurL m L).length = L.length := blurL_length m L
      have htkL : (tyR ((blurL m L).map T.ty)).take L.length = tyR ((blurL m L).map T.ty) := List.take_of_length_le (by rw [tyR_length, List.length_map, hlb]; exact Nat.le_refl _)
      clear hG
      repeat' (first | (first | (simp only [go_sem, hb, hlb, htkL, List.length_map]) | (((first | apply sp1 | apply sp2 | apply sp3 | apply sp4 | apply sp5 | apply sp6 | apply sp7) <;> intro hb) <;> (simp only [go_sem, hb, hb, hlb, htkL, List.length_map])) | ((first | apply wm_done | apply wt_done | apply wg_run | refine fk ?_ ?_) <;> (simp only [go_sem, hb, hlb, htkL, List.length_map]))) | fail)
      refine wd_any (acalls_ownS (by (simp only [go_sem, hlb, htkL, List.length_map]); first | done | rfl) hret (pairF_ren _)) ?_
      rintro _ h' ⟨cs, d, ids, rfl, p1, p2, p3, p4, p5⟩
      obtain ⟨T2, rfl, q1, q2⟩ := pre3 (T := []) p4 p5
      have hcs : cs.length = 9 := by rw [← fzL_len p1, teC_length]
      have htk : cs.take 9 = cs := List.take_of_length_le (by omega)
      simp only [pairF]
      (simp only [go_sem, hcs])
      repeat' (first | (first | (simp only [go_sem, hcs, htk]) | (((first | apply sp1 | apply sp2 | apply sp3 | apply sp4 | apply sp5 | apply sp6 | apply sp7) <;> intro hb) <;> (simp only [go_sem, hb, hcs, htk])) | ((first | apply wm_done | apply wt_done | apply wg_run | refine fk ?_ ?_) <;> (simp only [go_sem, hcs, htk]))) | fail)
      refine hR _ (ret_ownK (F := .agg) (d := d) (ids := ids) (cs := cs) (by (simp only [go_sem, hcs, htk]); first | done | rfl) ?_ p2 (fun _ => prVs_agg))
      refine owL_frame (h := _ :: _ :: _ :: T2) p1 (fun b hb => ?_)
      have hb2 := p3 b hb
      simp only [List.length_cons, List.length_nil] at hb2
      obtain ⟨b, rfl⟩ : ∃ x, b = x + 3 := ⟨b - 3, by omega⟩
      exact List.getElem?_append_left (by omega)
theorem iBlurTermO (e : E) (h : e.okT = true) (m : Nat) (hm : m < 2 ^ e.nt) : ACl Try.prog 41 [.agg (teC e.tm), .one (.sc (.int .i64 (m : Nat)))] [] (OwnK (teC (e.blur m).tm) (boolF true)) := by
  have hn30 := nt30 h
  have hp30 : 2 ^ e.nt ≤ 2 ^ 30 := Nat.pow_le_pow_right (by omega) hn30
  have h' := h
  simp only [E.okT, Bool.and_eq_true, decide_eq_true_eq] at h'
  have hz := E.size_okT h
  have h1 := iTermV e.tm
  rw [E.termV_tm, h] at h1
  have h2 := iTypes 100000 (by omega) e.tm (by omega)
  rw [E.types_tm e h'.2.1] at h2
  have ho := iBlurredO e h m (by omega)
  have hs := shl_at e.nt (by omega)
  have hnl := e.tl_length
  have hs2 : IntKind.i64.wrap (((2 ^ e.nt : Nat) : Int) - 1) = ((2 ^ e.nt - 1 : Nat) : Int) := by
    generalize 2 ^ e.nt = x at *
    rw [IntWalk.i64_in _ (by omega)]; omega
  have h3 := within (m : Nat) 0 ((2 ^ e.nt - 1 : Nat) : Int)
  rw [show (decide ((0 : Int) ≤ (m : Nat)) && decide (((m : Nat) : Int) ≤ ((2 ^ e.nt - 1 : Nat) : Int))) = true from by simp; omega] at h3
  generalize (2 ^ e.nt - 1) = y at *
  generalize 2 ^ e.nt = x at *
  generalize (e.blur m).tm = t2 at *
  generalize e.tm = t at *
  generalize e.tl = L at *
  generalize e.nt = n at *
  subst hnl
  refine acl_in Try.func41 rfl isfn_41 (Nat.le_of_ble_eq_true rfl) (fun R hR => ?_); rw [Try.results41] at hR; refine wg_run ?_; (simp only [Try.f41, go_sem])
  repeat' (first | (first | (simp only [go_sem, hs, hs2, List.length_map]) | (((first | apply sp1 | apply sp2 | apply sp3 | apply sp4 | apply sp5 | apply sp6 | apply sp7) <;> intro hb) <;> (simp only [go_sem, hb, hs, hs2, List.length_map])) | ((first | apply wm_done | apply wt_done | apply wg_run | refine fk ?_ ?_) <;> (simp only [go_sem, hs, hs2, List.length_map]))) | (first | refine cdq ?_ (hc := h1) | refine cmq ?_ (hc := h1) | refine ctq ?_ (hc := h1)); (simp only [go_sem]) | (first | refine cdq ?_ (hc := h2) | refine cmq ?_ (hc := h2) | refine ctq ?_ (hc := h2)); (simp only [go_sem]) | (first | refine cd (hp := (by (simp only [go_sem, hs, hs2]); first | done | rfl)) (hc := h3) (hK := ?_) | refine cm (hp := (by (simp only [go_sem, hs, hs2]); first | done | rfl)) (hc := h3) (hK := ?_) | refine ct (hp := (by (simp only [go_sem, hs, hs2]); first | done | rfl)) (hc := h3) (hK := ?_)); (simp only [go_sem, hs, hs2]) | ((first | refine mxq6 [] ?_ | refine mxq5 [] ?_ | refine mxq4 [] ?_ | refine mxq3 [] ?_ | refine mxq2 [] ?_ | refine mxq1 [] ?_ | refine mxq0 [] ?_ | fail); (simp only [go_sem, hs, hs2, List.length_map])) | fail)
  refine wd_any (acalls_ownT (p := 2) (pre := [_, _]) (T := []) rfl (.cons (.same (by (simp only [go_sem]); first | done | rfl)) (.cons (.same rfl) .nil)) ho WF.agg.flat WF.agg.ren) ?_
  rintro _ _ ⟨cs, T, ids, rfl, rfl, -, -, O, -⟩
  have hcs : cs.length = 9 := by rw [O.len, teC_length]
  have htk : cs.take 9 = cs := List.take_of_length_le (by omega)
  (simp only [go_sem, hcs])
  repeat' (first | (first | (simp only [go_sem, hcs, htk]) | (((first | apply sp1 | apply sp2 | apply sp3 | apply sp4 | apply sp5 | apply sp6 | apply sp7) <;> intro hb) <;> (simp only [go_sem, hb, hcs, htk])) | ((first | apply wm_done | apply wt_done | apply wg_run | refine fk ?_ ?_) <;> (simp only [go_sem, hcs, htk]))) | fail)
  exact hR _ (ret_ownT (pre := [_, _]) (cs := cs) (WF.bool true) O rfl rfl (by (simp only [go_sem, hcs, htk]); first | done | rfl))
/-- BlurTerm at terms as they come, in the program (its result owned) and in the reference -/
theorem blurBoth (x : Tm) (hx : x.size < 1000000000) (m : Int) :
    ACl Try.prog 41 [.agg (teC x), .one (.sc (.int .i64 m))] [] (OwnK (teC (blurTt x m)) (boolF (blurTb x m))) ∧
    AFn Try.prog 40 [.agg (teC x), .one (.sc (.int .i64 m))] (boolF (blurTb x m) (teC (blurTt x m))) := by
  by_cases h : ∃ w, BlurG x m w
  · obtain ⟨⟨e, n⟩, rfl, rfl, h1, h2⟩ := h
    obtain ⟨g1, g2⟩ := blurT_E h1 h2
    simp only [] at g1 g2 ⊢
    rw [g1, g2]
    exact ⟨iBlurTermO e h1 n h2, sBlurTerm e h1 n h2⟩
  · obtain ⟨g1, g2⟩ := blurT_bad h
    rw [g1, g2]
    cases e1 : x.termV with
    | false => exact ⟨own_none (iBlurBad x e1 m), sBlurBad x e1 (by omega) m⟩
    | true =>
      obtain ⟨e, rfl, ho⟩ := Tm.termV_E e1
      have hr : m < 0 ∨ ((2 ^ e.nt : Nat) : Int) ≤ m := by
        refine Decidable.byContradiction fun hn => h ⟨(e, m.toNat), rfl, ?_, ho, ?_⟩
        · show m = ((m.toNat : Nat) : Int); omega
        · show m.toNat < 2 ^ e.nt; generalize 2 ^ e.nt = z at *; omega
      exact ⟨own_none (iBlurNot e ho m hr), sBlurNot e ho m hr⟩
end Go.Proofs.Ytchcbfbnffhifaa
/- Trees whose lengths fit into the machine's numbers; their weights. -/
namespace Go.Proofs.Grad
mutual
def Ty.fits : Ty → Prop | .mk _ l => l.length ≤ 9223372036854775807 ∧ Ty.fitss l
def Ty.fitss : List Ty → Prop | [] => True | t :: l => t.fits ∧ Ty.fitss l
end
mutual
def Tm.fits : Tm → Prop | .mk _ n _ t f _ l => n.size ≤ 9223372036854775807 ∧ t.fits ∧ f.fits ∧ l.length ≤ 9223372036854775807 ∧ Tm.fitss l
def Tm.fitss : List Tm → Prop | [] => True | t :: l => t.fits ∧ Tm.fitss l
end
mutual
def Co.fits : Co → Prop | .mk _ _ _ l => l.length ≤ 9223372036854775807 ∧ Co.fitss l
def Co.fitss : List Co → Prop | [] => True | t :: l => t.fits ∧ Co.fitss l
end
theorem Ty.fitss_mem {t : Ty} : ∀ {l : List Ty}, Ty.fitss l → t ∈ l → t.fits
  | x :: l, h, hm => by
    rcases List.mem_cons.1 hm with rfl | hm
    · exact h.1
    · exact Ty.fitss_mem h.2 hm
theorem Tm.fitss_mem {t : Tm} : ∀ {l : List Tm}, Tm.fitss l → t ∈ l → t.fits
  | x :: l, h, hm => by
    rcases List.mem_cons.1 hm with rfl | hm
    · exact h.1
    · exact Tm.fitss_mem h.2 hm
theorem Co.fitss_mem {t : Co} : ∀ {l : List Co}, Co.fitss l → t ∈ l → t.fits
  | x :: l, h, hm => by
    rcases List.mem_cons.1 hm with rfl | hm
    · exact h.1
    · exact Co.fitss_mem h.2 hm
theorem Ty.fitss_of : ∀ {l : List Ty}, (∀ i (h : i < l.length), l[i].fits) → Ty.fitss l
  | [], _ => trivial
  | x :: l, h => ⟨h 0 (by simp), Ty.fitss_of fun i hi => h (i + 1) (by simpa using hi)⟩
theorem Tm.fitss_of : ∀ {l : List Tm}, (∀ i (h : i < l.length), l[i].fits) → Tm.fitss l
  | [], _ => trivial
  | x :: l, h => ⟨h 0 (by simp), Tm.fitss_of fun i hi => h (i + 1) (by simpa using hi)⟩
theorem Co.fitss_of : ∀ {l : List Co}, (∀ i (h : i < l.length), l[i].fits) → Co.fitss l
  | [], _ => trivial
  | x :: l, h => ⟨h 0 (by simp), Co.fitss_of fun i hi => h (i + 1) (by simpa using hi)⟩
mutual
def Ty.wt : Ty → Nat | .mk _ l => Ty.wts l
def Ty.wts : List Ty → Nat | [] => 0 | t :: l => 1 + t.wt + Ty.wts l
end
mutual
def Tm.wt : Tm → Nat | .mk _ n _ t f _ l => n.size + (t.wt + (f.wt + Tm.wts l))
def Tm.wts : List Tm → Nat | [] => 0 | t :: l => 1 + t.wt + Tm.wts l
end
mutual
def Co.wt : Co → Nat | .mk _ _ _ l => Co.wts l
def Co.wts : List Co → Nat | [] => 0 | t :: l => 1 + t.wt + Co.wts l
end
mutual
theorem Ty.size_wt : ∀ t : Ty, t.size = 1 + t.wt
  | .mk _ l => by simp only [Ty.size, Ty.wt, Ty.sizes_wts l]
theorem Ty.sizes_wts : ∀ l : List Ty, Ty.sizes l = Ty.wts l
  | [] => rfl
  | t :: l => by simp only [Ty.sizes, Ty.wts, Ty.size_wt t, Ty.sizes_wts l]
end
mutual
theorem Co.size_wt : ∀ t : Co, t.size = 1 + t.wt
  | .mk _ _ _ l => by simp only [Co.size, Co.wt, Co.sizes_wts l]
theorem Co.sizes_wts : ∀ l : List Co, Co.sizes l = Co.wts l
  | [] => rfl
  | t :: l => by simp only [Co.sizes, Co.wts, Co.size_wt t, Co.sizes_wts l]
end
mutual
theorem Tm.size_wt : ∀ t : Tm, t.size ≤ 3 + 3 * t.wt
  | .mk _ _ _ t f _ l => by
    have := Tm.sizes_wts l
    have := Ty.size_wt t
    have := Ty.size_wt f
    simp only [Tm.size, Tm.wt]; omega
theorem Tm.sizes_wts : ∀ l : List Tm, Tm.sizes l ≤ 3 * Tm.wts l
  | [] => by simp [Tm.sizes, Tm.wts]
  | t :: l => by have := Tm.size_wt t; have := Tm.sizes_wts l; simp only [Tm.sizes, Tm.wts]; omega
end
end Go.Proofs.Grad
/- Types: the helpers of the exact laws, on shadows. -/
namespace Go.Proofs.Sh
open Go.RowKit Go.Proofs.Grad

/-! ### trees from memory: lengths fit -/
def szR (x : Nat) (left : Int) : Int := if (x : Int) ≤ left then left - x else -1
theorem szR_neg {x : Nat} {left : Int} (h : decide (szR x left < 0) = true) : szR x left = -1 := by
  have h := of_decide_eq_true h
  unfold szR at h ⊢
  split <;> rename_i h' <;> simp [h'] at h ⊢
  omega
theorem tyall2_kid {f : Ty → Ty → Bool} {a b : List Ty} {i : Nat} (ha : i < a.length) (hb : i < b.length) : all2 f (a.drop i) (b.drop i) = (f (kid a i) (kid b i) && all2 f (a.drop (i + 1)) (b.drop (i + 1))) := by
  rw [drop_kid ha, drop_kid hb]; rfl
theorem tyall2_end {f : Ty → Ty → Bool} {a b : List Ty} {i : Nat} (ha : ¬ i < a.length) (hb : a.length = b.length) : all2 f (a.drop i) (b.drop i) = true := by
  rw [List.drop_eq_nil_of_le (by omega), List.drop_eq_nil_of_le (by omega)]; rfl

/-! ### sizes -/
theorem tyw_mem {l : List Ty} {k : Nat} (h : k < l.length) : Ty.wts (l.take (k + 1)) = Ty.wts (l.take k) + (1 + (kid l k).wt) := by
  rw [take_kid h]
  induction l.take k with
  | nil => simp [Ty.wts]
  | cons x m ih => simp only [List.cons_append, Ty.wts, ih]; omega
theorem tyw_rest (l : List Ty) : ∀ k, k ≤ l.length → Ty.wts (l.take k) + (l.length - k) ≤ Ty.wts l := by
  induction l with
  | nil => intro k _; simp [Ty.wts]
  | cons x l ih =>
    intro k hk
    cases k with
    | zero => have := ih 0 (by omega); simp [Ty.wts] at this ⊢; omega
    | succ k => have := ih k (by simpa using hk); simp [Ty.wts] at this ⊢; omega
theorem tyw_fit {l : List Ty} (h : Ty.fitss l) {k : Nat} (hk : k < l.length) : (kid l k).fits := by
  rw [kid_eq hk]; exact Ty.fitss_mem h (List.getElem_mem hk)

/-! ### lists filled from the front -/
def tyF (l : List Ty) (k : Nat) : List (List C) := tyR (l.take k) ++ List.replicate (l.length - k) [.sc (.int .i64 0), .sc (.slice none 0 0)]
theorem tyF_0 (l : List Ty) : tyF l 0 = List.replicate l.length [.sc (.int .i64 0), .sc (.slice none 0 0)] := by simp [tyF, tyR]
theorem tyF_get {l : List Ty} {k : Nat} (h : k < l.length) : (tyF l k)[k]? = some [.sc (.int .i64 0), .sc (.slice none 0 0)] := by
  have e : (tyR (l.take k)).length = k := by rw [tyR_length, List.length_take]; omega
  rw [tyF, List.getElem?_append_right (by omega), e, Nat.sub_self, List.getElem?_replicate, if_pos (by omega)]
theorem tyF_set {l : List Ty} {k : Nat} (h : k < l.length) : (tyF l k).set k (tyC (kid l k)) = tyF l (k + 1) := by
  have e : (tyR (l.take k)).length = k := by rw [tyR_length, List.length_take]; omega
  rw [tyF, tyF, List.set_append_right _ _ (by omega), e, Nat.sub_self, show l.length - k = (l.length - (k + 1)) + 1 by omega, List.replicate_succ, List.set_cons_zero, tyR_take h, List.append_assoc]
  rfl
theorem tyF_end (l : List Ty) : tyF l l.length = tyR l := by simp [tyF]
@[go_sem] theorem tyF_pr (h : List Blk) (ks : List Nat) (l : List Ty) (k : Nat) : prRs h ks (tyF l k) = some (tyF l k, []) := by
  have h1 : ∀ n, prRs h ks (List.replicate n [.sc (.int .i64 0), .sc (.slice none 0 0)]) = some (List.replicate n [.sc (.int .i64 0), .sc (.slice none 0 0)], []) := by
    intro n
    induction n with
    | zero => rfl
    | succ n ih => rw [List.replicate_succ, prRs, ih]; rfl
  have h2 : ∀ (m : List Ty) n, prRs h ks (tyR m ++ List.replicate n [.sc (.int .i64 0), .sc (.slice none 0 0)]) = some (tyR m ++ List.replicate n [.sc (.int .i64 0), .sc (.slice none 0 0)], []) := by
    intro m n
    induction m with
    | nil => exact h1 n
    | cons x m ih => rw [tyR, List.cons_append, prRs, ih, prL, if_pos (tyC_treeL x)]; rfl
  exact h2 _ _
@[go_sem] theorem tyF_rows (l : List Ty) (k : Nat) : rowsLen 2 (tyF l k) = true := by
  have : ∀ n, rowsLen 2 (List.replicate n [.sc (.int .i64 0), .sc (.slice none 0 0)]) = true := by
    intro n
    induction n with
    | zero => rfl
    | succ n ih => rw [List.replicate_succ, rowsLen_cons, ih]; rfl
  rw [tyF, rowsLen_append, tyR_len, this]; rfl
end Go.Proofs.Sh
namespace Go.Proofs.Ytchcbfbnffhifaa
open Go.RowKit Go.Proofs.Sh Go.Proofs.Grad
set_option maxRecDepth 100000
set_option maxHeartbeats 4000000

theorem szTyS (n : Nat) (ih : ∀ t : Ty, t.size < n → t.fits → ∀ left : Int, 0 ≤ left → left ≤ 1048576 → AFn Try.prog 44 [.agg (tyC t), .one (.sc (.int .i64 left))] (.one (.sc (.int .i64 (szR t.wt left)))))
    (l : List Ty) (hn : Ty.sizes l < n) (hlen : l.length ≤ 9223372036854775807) (hf : Ty.fitss l) (left : Int) (h0 : 0 ≤ left) (h1 : left ≤ 1048576) : AFn Try.prog 95 [.one (.sl (tyR l)), .one (.sc (.int .i64 left))] (.one (.sc (.int .i64 (szR (Ty.wts l) left)))) := by
  have hw0 : IntKind.i64.wrap (left - (l.length : Int)) = left - (l.length : Int) := IntWalk.i64_in _ (by omega)
  have hge := tyw_rest l 0 (Nat.zero_le _)
  simp only [List.take_zero, Ty.wts] at hge
  by_cases hfit : (l.length : Int) ≤ left
  · have d0 : decide (left - (l.length : Int) < 0) = false := by simp; omega
    refine fn_in ?_; refine acl_in Try.func95 rfl isfn_95 (Nat.le_of_ble_eq_true rfl) (fun R hR => ?_); rw [Try.results95] at hR; refine wg_run ?_; (simp only [Try.f95, go_sem, hw0, d0])
    refine wd_for [0, 1, 5] (fun k => [.one (.sl (tyR l)), .one (.sc (.int .i64 (left - (l.length : Int) - ((Ty.wts (l.take k) : Int) - (k : Int))))), .one (.sc (.int .i64 (k : Nat)))]) (fun _ => [])
      (fun k => k ≤ l.length ∧ (Ty.wts (l.take k) : Int) + (l.length : Int) ≤ left + (k : Int)) (fun k => l.length - k) 0 ⟨Nat.zero_le _, by simp [Ty.wts]; omega⟩ (hat [] (hI := ⟨by simp [Ty.wts], rfl⟩)) ?_
    rintro k ⟨hk, hs⟩ G hG
    refine wg_run ?_
    (simp only [go_sem])
    have hr := tyw_rest l k hk
    ((first | apply sp1 | apply sp2 | apply sp3 | apply sp4 | apply sp5 | apply sp6 | apply sp7) <;> intro hb) <;> (simp only [go_sem, hb])
    · have hk1 : k < l.length := by have := of_decide_eq_true hb; omega
      have hw1 := wrap_succ hk1 (by omega)
      have hm := tyw_mem hk1
      have hr1 := tyw_rest l (k + 1) hk1
      have hc := ih (kid l k) (by rw [kid_eq hk1]; have := Ty.sizes_mem (List.getElem_mem hk1); omega) (tyw_fit hf hk1) (left - (l.length : Int) - ((Ty.wts (l.take k) : Int) - (k : Int))) (by omega) (by omega)
      by_cases hfk : ((kid l k).wt : Int) ≤ left - (l.length : Int) - ((Ty.wts (l.take k) : Int) - (k : Int))
      · have he : szR (kid l k).wt (left - (l.length : Int) - ((Ty.wts (l.take k) : Int) - (k : Int))) = left - (l.length : Int) - ((Ty.wts (l.take (k + 1)) : Int) - ((k + 1 : Nat) : Int)) := by
          unfold szR; rw [if_pos hfk, hm]; omega
        rw [he] at hc
        have d1 : decide (left - (l.length : Int) - ((Ty.wts (l.take (k + 1)) : Int) - ((k + 1 : Nat) : Int)) < 0) = false := by simp; omega
        (first | refine cdq ?_ (hc := hc) | refine cmq ?_ (hc := hc) | refine ctq ?_ (hc := hc)); (simp only [go_sem])
        repeat' (first | (simp only [go_sem, hw1, d1]) | (((first | apply sp1 | apply sp2 | apply sp3 | apply sp4 | apply sp5 | apply sp6 | apply sp7) <;> intro hb) <;> (simp only [go_sem, hb, hw1, d1])) | ((first | apply wm_done | apply wt_done | apply wg_run | refine fk ?_ ?_) <;> (simp only [go_sem, hw1, d1])))
        exact hG (k + 1) _ _ ⟨by omega, by omega⟩ (by omega) (hat [] (hI := ⟨rfl, rfl⟩))
      · have he : szR (kid l k).wt (left - (l.length : Int) - ((Ty.wts (l.take k) : Int) - (k : Int))) = -1 := by
          unfold szR; rw [if_neg hfk]
        rw [he] at hc
        have he2 : szR (Ty.wts l) left = -1 := by unfold szR; rw [if_neg (by omega)]
        (first | refine cdq ?_ (hc := hc) | refine cmq ?_ (hc := hc) | refine ctq ?_ (hc := hc)); (simp only [go_sem])
        repeat' (first | (simp only [go_sem, hw1]) | (((first | apply sp1 | apply sp2 | apply sp3 | apply sp4 | apply sp5 | apply sp6 | apply sp7) <;> intro hb) <;> (simp only [go_sem, hb, hw1])) | ((first | apply wm_done | apply wt_done | apply wg_run | refine fk ?_ ?_) <;> (simp only [go_sem, hw1])))
        (refine hR _ (rat [] (hK := ⟨?_, rfl⟩)))
        rw [he2]
    · have hk1 : k = l.length := by have := of_decide_eq_false hb; omega
      subst hk1
      rw [List.take_length] at hs hr
      have he2 : szR (Ty.wts l) left = left - (l.length : Int) - ((Ty.wts l : Int) - (l.length : Int)) := by unfold szR; rw [if_pos (by omega)]; omega
      rw [List.take_length]
      (refine hR _ (rat [] (hK := ⟨?_, rfl⟩)))
      rw [he2]
  · have d0 : decide (left - (l.length : Int) < 0) = true := by simp; omega
    have he2 : szR (Ty.wts l) left = -1 := by unfold szR; rw [if_neg (by omega)]
    refine fn_in ?_; refine acl_in Try.func95 rfl isfn_95 (Nat.le_of_ble_eq_true rfl) (fun R hR => ?_); rw [Try.results95] at hR; refine wg_run ?_; (simp only [Try.f95, go_sem, hw0, d0])
    (refine hR _ (rat [] (hK := ⟨?_, rfl⟩)))
    rw [he2]

/-! ### equality -/
theorem eqTyS (n : Nat) (ih : ∀ a b : Ty, a.size < n → AFn Try.prog 50 [.agg (tyC a), .agg (tyC b)] (.one (.sc (.bool (a.same b))))) (l m : List Ty) (hn : Ty.sizes l < n) (hlen : l.length < 4611686018427387904) :
    AFn Try.prog 98 [.one (.sl (tyR l)), .one (.sl (tyR m))] (.one (.sc (.bool (Ty.sames l m)))) := by
  rw [Ty.sames_all2]
  by_cases hlm : l.length = m.length
  · have hb0 : ((l.length : Int) == (m.length : Int)) = true := by simp; omega
    refine fn_in ?_; refine acl_in Try.func98 rfl isfn_98 (Nat.le_of_ble_eq_true rfl) (fun R hR => ?_); rw [Try.results98] at hR; refine wg_run ?_; (simp only [Try.f98, go_sem, hb0, int_bne])
    refine wd_for [0, 1, 5] (fun k => [.one (.sl (tyR l)), .one (.sl (tyR m)), .one (.sc (.int .i64 (k : Nat)))]) (fun _ => [])
      (fun k => k ≤ l.length ∧ all2 Ty.same (l.drop k) (m.drop k) = all2 Ty.same l m) (fun k => l.length - k) 0 ⟨Nat.zero_le _, rfl⟩ (hat [] (hI := ⟨rfl, rfl⟩)) ?_
    rintro k ⟨hk, hs⟩ G hG
    refine wg_run ?_
    (simp only [go_sem])
    ((first | apply sp1 | apply sp2 | apply sp3 | apply sp4 | apply sp5 | apply sp6 | apply sp7) <;> intro hb) <;> (simp only [go_sem, hb])
    · have hk1 : k < l.length := by have := of_decide_eq_true hb; omega
      have hk2 : decide ((k : Int) < (m.length : Int)) = true := by simp; omega
      have hw1 := wrap_succ hk1 (by omega)
      rw [tyall2_kid hk1 (by omega)] at hs
      have hc := ih (kid l k) (kid m k) (by rw [kid_eq hk1]; have := Ty.sizes_mem (List.getElem_mem hk1); omega)
      repeat' (first | (first | (simp only [go_sem, hb, hk2, hw1]) | (((first | apply sp1 | apply sp2 | apply sp3 | apply sp4 | apply sp5 | apply sp6 | apply sp7) <;> intro hb) <;> (simp only [go_sem, hb, hb, hk2, hw1])) | ((first | apply wm_done | apply wt_done | apply wg_run | refine fk ?_ ?_) <;> (simp only [go_sem, hb, hk2, hw1]))) | ((first | refine mxq6 [] ?_ | refine mxq5 [] ?_ | refine mxq4 [] ?_ | refine mxq3 [] ?_ | refine mxq2 [] ?_ | refine mxq1 [] ?_ | refine mxq0 [] ?_ | fail); (simp only [go_sem, hb, hk2])) | (first | refine cdq ?_ (hc := hc) | refine cmq ?_ (hc := hc) | refine ctq ?_ (hc := hc)); (simp only [go_sem]))
      · exact hG (k + 1) _ _ ⟨by omega, by simpa [hb] using hs⟩ (by omega) (hat [] (hI := ⟨rfl, rfl⟩))
      · (refine hR _ (rat [] (hK := ⟨?_, rfl⟩)))
        simpa [hb] using hs
    · have hk1 : ¬ k < l.length := by have := of_decide_eq_false hb; omega
      rw [tyall2_end hk1 hlm] at hs
      (refine hR _ (rat [] (hK := ⟨?_, rfl⟩)))
      rw [hs]
  · have hb0 : ((l.length : Int) == (m.length : Int)) = false := by simp; omega
    refine fn_in ?_; refine acl_in Try.func98 rfl isfn_98 (Nat.le_of_ble_eq_true rfl) (fun R hR => ?_); rw [Try.results98] at hR; refine wg_run ?_; (simp only [Try.f98, go_sem, hb0, int_bne])
    (refine hR _ (rat [] (hK := ⟨?_, rfl⟩)))
    rw [all2_len hlm]

/-! ### copies from the law's types to the program's -/
theorem toTyS (n : Nat) (ih : ∀ t : Ty, t.size < n → AFn Try.prog 47 [.agg (tyC t)] (.agg (tyC t))) (l : List Ty) (hn : Ty.sizes l < n) (hlen : l.length < 1099511627776) :
    AFn Try.prog 97 [.one (.sl (tyR l))] (.one (.sl (tyR l))) := by
  have hcap : decide ((32 : Int) * (l.length : Int) ≤ 140737488355328 ∧ (l.length : Int) ≤ 140737488355328) = true := by simp; omega
  refine fn_in ?_; refine acl_in Try.func97 rfl isfn_97 (Nat.le_of_ble_eq_true rfl) (fun R hR => ?_); rw [Try.results97] at hR; refine wg_run ?_; (simp only [Try.f97, go_sem, hcap])
  rw [← tyF_0 l]
  refine wd_for [0, 3, 4] (fun k => [.one (.sl (tyR l)), .one (.row 2 0 l.length), .one (.sc (.int .i64 (k : Nat)))]) (fun k => [⟨2, 32, .mut, tyF l k⟩])
    (fun k => k ≤ l.length) (fun k => l.length - k) 0 (Nat.zero_le _) (head_at [0] (by (simp only [go_sem]); first | done | rfl) (by (simp only [go_sem]); generalize treeRows _ = b; cases b <;> rfl) ⟨rfl, rfl⟩) ?_
  rintro k hk G hG
  refine wg_run ?_
  (simp only [go_sem])
  ((first | apply sp1 | apply sp2 | apply sp3 | apply sp4 | apply sp5 | apply sp6 | apply sp7) <;> intro hb) <;> (simp only [go_sem, hb])
  · have hk1 : k < l.length := by have := of_decide_eq_true hb; omega
    have hw1 := wrap_succ hk1 (by omega)
    have hc := ih (kid l k) (by rw [kid_eq hk1]; have := Ty.sizes_mem (List.getElem_mem hk1); omega)
    have hkn : decide (k < l.length) = true := by simpa using hk1
    repeat' (first | (first | (simp only [go_sem, hb, hw1, hkn, tyF_get hk1, tyF_set hk1]) | (((first | apply sp1 | apply sp2 | apply sp3 | apply sp4 | apply sp5 | apply sp6 | apply sp7) <;> intro hb) <;> (simp only [go_sem, hb, hb, hw1, hkn, tyF_get hk1, tyF_set hk1])) | ((first | apply wm_done | apply wt_done | apply wg_run | refine fk ?_ ?_) <;> (simp only [go_sem, hb, hw1, hkn, tyF_get hk1, tyF_set hk1]))) | ((first | refine mxq6 [] ?_ | refine mxq5 [] ?_ | refine mxq4 [] ?_ | refine mxq3 [] ?_ | refine mxq2 [] ?_ | refine mxq1 [] ?_ | refine mxq0 [] ?_ | fail); (simp only [go_sem, hb, hkn, tyF_get hk1, tyF_set hk1])) | (first | refine cdq ?_ (hc := hc) | refine cmq ?_ (hc := hc) | refine ctq ?_ (hc := hc)); (simp only [go_sem]))
    exact hG (k + 1) _ _ (by omega) (by omega) (head_at [0] (by (simp only [go_sem]); first | done | rfl) (by (simp only [go_sem]); generalize treeRows _ = b; cases b <;> rfl) ⟨rfl, rfl⟩)
  · have hk1 : k = l.length := by have := of_decide_eq_false hb; omega
    subst hk1
    rw [tyF_end]
    (refine hR _ (rat [] (hK := ⟨?_, rfl⟩)))
    rfl

theorem szTy (n : Nat) : ∀ t : Ty, t.size < n → t.fits → ∀ left : Int, 0 ≤ left → left ≤ 1048576 → AFn Try.prog 44 [.agg (tyC t), .one (.sc (.int .i64 left))] (.one (.sc (.int .i64 (szR t.wt left)))) := by
  induction n with
  | zero => intro t h; omega
  | succ n ih =>
    intro t h hf left h0 h1
    have hc := szTyS n ih t.kids (by cases t; simp only [Ty.size, Ty.kids] at *; omega) (by cases t; exact hf.1) (by cases t; exact hf.2) left h0 h1
    have e : t.wt = Ty.wts t.kids := by cases t; rfl
    rw [← e] at hc
    refine fn_in ?_; refine acl_in Try.func44 rfl isfn_44 (Nat.le_of_ble_eq_true rfl) (fun R hR => ?_); rw [Try.results44] at hR; refine wg_run ?_; (simp only [Try.f44, go_sem])
    (first | refine cdq ?_ (hc := hc) | refine cmq ?_ (hc := hc) | refine ctq ?_ (hc := hc)); (simp only [go_sem])
    repeat' (first | (((first | apply sp1 | apply sp2 | apply sp3 | apply sp4 | apply sp5 | apply sp6 | apply sp7) <;> intro hb) <;> (simp only [go_sem, hb])) | ((first | apply wm_done | apply wt_done | apply wg_run | refine fk ?_ ?_) <;> (simp only [go_sem])))
    · (refine hR _ (rat [] (hK := ⟨?_, rfl⟩)))
      rw [szR_neg hb]
    · (refine hR _ (rat [] (hK := ⟨rfl, rfl⟩)))
theorem eqTy (n : Nat) (hn : n ≤ 4611686018427387904) : ∀ a b : Ty, a.size < n → AFn Try.prog 50 [.agg (tyC a), .agg (tyC b)] (.one (.sc (.bool (a.same b)))) := by
  induction n with
  | zero => intro a b h; omega
  | succ n ih =>
    intro a b h
    have hc := eqTyS n (ih (by omega)) a.kids b.kids (by cases a; simp only [Ty.size, Ty.kids] at *; omega) (by have := Ty.length_le_sizes a.kids; cases a; simp only [Ty.size, Ty.kids] at *; omega)
    have e : a.same b = (a.kind == b.kind && Ty.sames a.kids b.kids) := by cases a; cases b; rfl
    rw [e]
    refine fn_in ?_; refine acl_in Try.func50 rfl isfn_50 (Nat.le_of_ble_eq_true rfl) (fun R hR => ?_); rw [Try.results50] at hR; refine wg_run ?_; (simp only [Try.f50, go_sem])
    repeat' (first | (first | (simp only [go_sem, int_bne]) | (((first | apply sp1 | apply sp2 | apply sp3 | apply sp4 | apply sp5 | apply sp6 | apply sp7) <;> intro hb) <;> (simp only [go_sem, hb, int_bne])) | ((first | apply wm_done | apply wt_done | apply wg_run | refine fk ?_ ?_) <;> (simp only [go_sem, int_bne]))) | (first | refine cdq ?_ (hc := hc) | refine cmq ?_ (hc := hc) | refine ctq ?_ (hc := hc)); (simp only [go_sem]) | ((first | refine mxq6 [] ?_ | refine mxq5 [] ?_ | refine mxq4 [] ?_ | refine mxq3 [] ?_ | refine mxq2 [] ?_ | refine mxq1 [] ?_ | refine mxq0 [] ?_ | fail); (simp only [go_sem])))
    all_goals (refine hR _ (rat [] (hK := ⟨?_, rfl⟩)))
    all_goals simp_all
theorem toTy (n : Nat) (hn : n ≤ 1099511627776) : ∀ t : Ty, t.size < n → AFn Try.prog 47 [.agg (tyC t)] (.agg (tyC t)) := by
  induction n with
  | zero => intro t h; omega
  | succ n ih =>
    intro t h
    have hc := toTyS n (ih (by omega)) t.kids (by cases t; simp only [Ty.size, Ty.kids] at *; omega) (by have := Ty.length_le_sizes t.kids; cases t; simp only [Ty.size, Ty.kids] at *; omega)
    refine fn_in ?_; refine acl_in Try.func47 rfl isfn_47 (Nat.le_of_ble_eq_true rfl) (fun R hR => ?_); rw [Try.results47] at hR; refine wg_run ?_; (simp only [Try.f47, go_sem])
    repeat' (first | (first | (((first | apply sp1 | apply sp2 | apply sp3 | apply sp4 | apply sp5 | apply sp6 | apply sp7) <;> intro hb) <;> (simp only [go_sem, hb])) | ((first | apply wm_done | apply wt_done | apply wg_run | refine fk ?_ ?_) <;> (simp only [go_sem]))) | (first | refine cdq ?_ (hc := hc) | refine cmq ?_ (hc := hc) | refine ctq ?_ (hc := hc)); (simp only [go_sem]) | ((first | refine mxq6 [] ?_ | refine mxq5 [] ?_ | refine mxq4 [] ?_ | refine mxq3 [] ?_ | refine mxq2 [] ?_ | refine mxq1 [] ?_ | refine mxq0 [] ?_ | fail); (simp only [go_sem])))
    (refine hR _ (rat [] (hK := ⟨?_, rfl⟩)))
    rw [tyC_eq]
end Go.Proofs.Ytchcbfbnffhifaa
