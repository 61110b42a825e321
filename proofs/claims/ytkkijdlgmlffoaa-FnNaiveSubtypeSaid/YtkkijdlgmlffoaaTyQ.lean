/- The walks of Consistent, Precise, CountAny, IsStatic. -/
import Derived.Test.YtkkijdlgmlffoaaTyX
import Derived.Test.YtkkijdlgmlffoaaTyR
namespace Go.Proofs.Ytkkijdlgmlffoaa
open Go.RowKit Go.Proofs.Grad

set_option maxHeartbeats 400000 in
theorem iCons (a b : Ty) (w : World) (q c q' c') (hr : TysRep [] w a.kids q c) (hr' : TysRep [] w b.kids q' c') :
    Calls Try.prog 22 #[.agg #[.int .i64 a.kind, .slice q a.kids.length c], .agg #[.int .i64 b.kind, .slice q' b.kids.length c']] w (RetB w (onT T.cons a b)) := by
  have hA := fun (w' : World) (E : Ext w w') => iValid a w' q c (hr.keep (Keep.of_below E.below))
  have hB := fun (w' : World) (E : Ext w w') => iValid b w' q' c' (hr'.keep (Keep.of_below E.below))
  have hC : a.valid = true → b.valid = true → ∀ (w' : World) (E : Ext w w'), Calls Try.prog 45 #[.agg #[.int .i64 a.kind, .slice q a.kids.length c], .agg #[.int .i64 b.kind, .slice q' b.kids.length c']] w' (RetB w' (onT T.cons a b)) := by
    intro h1 h2 w' E
    obtain ⟨x, rfl, hx⟩ := (Ty.valid_iff a).1 h1
    obtain ⟨y, rfl, hy⟩ := (Ty.valid_iff b).1 h2
    rw [onT_ty T.cons hx hy, ← T.cons_ty]
    exact cons (x.ty.size + 1) x.ty y.ty w' q c q' c' (Nat.lt_succ_self _) (hr.keep (Keep.of_below E.below)) (hr'.keep (Keep.of_below E.below))
  have HA := Lib.hid hA; have HB := Lib.hid hB
  rw [onT_and]
  generalize onT T.cons a b = bb at *
  cases ha : a.valid
  · rw [ha] at HA
    clear hA hB hC hr hr' HB ha
    go_enter Try.func22, Try.ntmps22
    go_wp2_with fail
    refine (HA.out _ (((Ext.refl w).alloc _).alloc _)).mono ?_
    rintro e w1 ⟨rfl, hb⟩
    go_wp2_with fail
    go_ret
    exact ⟨rfl, ((((Ext.refl w).alloc _).alloc _).trans hb).below⟩
  · rw [ha] at HA
    cases hv : b.valid
    · rw [hv] at HB
      clear hA hB hC hr hr' ha hv
      go_enter Try.func22, Try.ntmps22
      go_wp2_with fail
      refine (HA.out _ (((Ext.refl w).alloc _).alloc _)).mono ?_
      rintro e w1 ⟨rfl, hb⟩
      have E1 := (((Ext.refl w).alloc _).alloc _).trans hb
      obtain ⟨hc1, hf1⟩ := bcell hb
      go_wp2_with fail
      refine (HB.out _ E1).mono ?_
      rintro e w2 ⟨rfl, hb2⟩
      go_wp2_with fail
      go_ret
      exact ⟨rfl, (E1.trans hb2).below⟩
    · rw [hv] at HB
      have HC := Lib.hid (hC ha hv)
      clear hA hB hC hr hr' ha hv
      go_enter Try.func22, Try.ntmps22
      go_wp2_with fail
      refine (HA.out _ (((Ext.refl w).alloc _).alloc _)).mono ?_
      rintro e w1 ⟨rfl, hb⟩
      have E1 := (((Ext.refl w).alloc _).alloc _).trans hb
      obtain ⟨hc1, hf1⟩ := bcell hb
      have hs1 := hb.size
      simp at hs1
      go_wp2_with fail
      refine (HB.out _ E1).mono ?_
      rintro e w2 ⟨rfl, hb2⟩
      have E2 := E1.trans hb2
      obtain ⟨hc2, hf2⟩ := bcell hb2
      have hs2 : w.heap.size < w1.heap.size := by omega
      have hs3 : w.heap.size + 1 < w1.heap.size := by omega
      go_wp2_with fail
      refine (HC.out _ E2).mono ?_
      rintro e w3 ⟨rfl, hb3⟩
      go_wp2_with fail
      go_ret
      exact ⟨by simp, (E2.trans hb3).below⟩

set_option maxHeartbeats 400000 in
theorem iPrec (a b : Ty) (w : World) (q c q' c') (hr : TysRep [] w a.kids q c) (hr' : TysRep [] w b.kids q' c') :
    Calls Try.prog 24 #[.agg #[.int .i64 a.kind, .slice q a.kids.length c], .agg #[.int .i64 b.kind, .slice q' b.kids.length c']] w (RetB w (onT T.prec a b)) := by
  have hA := fun (w' : World) (E : Ext w w') => iValid a w' q c (hr.keep (Keep.of_below E.below))
  have hB := fun (w' : World) (E : Ext w w') => iValid b w' q' c' (hr'.keep (Keep.of_below E.below))
  have hC : a.valid = true → b.valid = true → ∀ (w' : World) (E : Ext w w'), Calls Try.prog 51 #[.agg #[.int .i64 a.kind, .slice q a.kids.length c], .agg #[.int .i64 b.kind, .slice q' b.kids.length c']] w' (RetB w' (onT T.prec a b)) := by
    intro h1 h2 w' E
    obtain ⟨x, rfl, hx⟩ := (Ty.valid_iff a).1 h1
    obtain ⟨y, rfl, hy⟩ := (Ty.valid_iff b).1 h2
    rw [onT_ty T.prec hx hy, ← T.prec_ty]
    exact prec (x.ty.size + 1) x.ty y.ty w' q c q' c' (Nat.lt_succ_self _) (hr.keep (Keep.of_below E.below)) (hr'.keep (Keep.of_below E.below))
  have HA := Lib.hid hA; have HB := Lib.hid hB
  rw [onT_and]
  generalize onT T.prec a b = bb at *
  cases ha : a.valid
  · rw [ha] at HA
    clear hA hB hC hr hr' HB ha
    go_enter Try.func24, Try.ntmps24
    go_wp2_with fail
    refine (HA.out _ (((Ext.refl w).alloc _).alloc _)).mono ?_
    rintro e w1 ⟨rfl, hb⟩
    go_wp2_with fail
    go_ret
    exact ⟨rfl, ((((Ext.refl w).alloc _).alloc _).trans hb).below⟩
  · rw [ha] at HA
    cases hv : b.valid
    · rw [hv] at HB
      clear hA hB hC hr hr' ha hv
      go_enter Try.func24, Try.ntmps24
      go_wp2_with fail
      refine (HA.out _ (((Ext.refl w).alloc _).alloc _)).mono ?_
      rintro e w1 ⟨rfl, hb⟩
      have E1 := (((Ext.refl w).alloc _).alloc _).trans hb
      obtain ⟨hc1, hf1⟩ := bcell hb
      go_wp2_with fail
      refine (HB.out _ E1).mono ?_
      rintro e w2 ⟨rfl, hb2⟩
      go_wp2_with fail
      go_ret
      exact ⟨rfl, (E1.trans hb2).below⟩
    · rw [hv] at HB
      have HC := Lib.hid (hC ha hv)
      clear hA hB hC hr hr' ha hv
      go_enter Try.func24, Try.ntmps24
      go_wp2_with fail
      refine (HA.out _ (((Ext.refl w).alloc _).alloc _)).mono ?_
      rintro e w1 ⟨rfl, hb⟩
      have E1 := (((Ext.refl w).alloc _).alloc _).trans hb
      obtain ⟨hc1, hf1⟩ := bcell hb
      have hs1 := hb.size
      simp at hs1
      go_wp2_with fail
      refine (HB.out _ E1).mono ?_
      rintro e w2 ⟨rfl, hb2⟩
      have E2 := E1.trans hb2
      obtain ⟨hc2, hf2⟩ := bcell hb2
      have hs2 : w.heap.size < w1.heap.size := by omega
      have hs3 : w.heap.size + 1 < w1.heap.size := by omega
      go_wp2_with fail
      refine (HC.out _ E2).mono ?_
      rintro e w3 ⟨rfl, hb3⟩
      go_wp2_with fail
      go_ret
      exact ⟨by simp, (E2.trans hb3).below⟩

end Go.Proofs.Ytkkijdlgmlffoaa
