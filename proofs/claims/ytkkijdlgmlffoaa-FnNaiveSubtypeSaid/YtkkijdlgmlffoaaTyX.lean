/- The walks of the functions on types that check validity first. -/
import Derived.Test.YtkkijdlgmlffoaaTyP
import Derived.Test.YtkkijdlgmlffoaaTyV
import Derived.Test.YtkkijdlgmlffoaaOnT
namespace Go.Proofs.Ytkkijdlgmlffoaa
open Go.RowKit Go.Proofs.Grad


set_option maxHeartbeats 400000 in
theorem iSubPos (a b : Ty) (w : World) (q c q' c') (hr : TysRep [] w a.kids q c) (hr' : TysRep [] w b.kids q' c') :
    Calls Try.prog 20 #[.agg #[.int .i64 a.kind, .slice q a.kids.length c], .agg #[.int .i64 b.kind, .slice q' b.kids.length c']] w (RetB w (onT T.pos a b)) := by
  have hA := fun (w' : World) (E : Ext w w') => iValid a w' q c (hr.keep (Keep.of_below E.below))
  have hB := fun (w' : World) (E : Ext w w') => iValid b w' q' c' (hr'.keep (Keep.of_below E.below))
  have hC : a.valid = true → b.valid = true → ∀ (w' : World) (E : Ext w w'), Calls Try.prog 44 #[.agg #[.int .i64 a.kind, .slice q a.kids.length c], .agg #[.int .i64 b.kind, .slice q' b.kids.length c']] w' (RetB w' (onT T.pos a b)) := by
    intro h1 h2 w' E
    obtain ⟨x, rfl, hx⟩ := (Ty.valid_iff a).1 h1
    obtain ⟨y, rfl, hy⟩ := (Ty.valid_iff b).1 h2
    rw [onT_ty T.pos hx hy, T.ty_kind, T.ty_kind]
    exact (pos_neg _).1 x y w' q c q' c' (Nat.lt_succ_self _) (hr.keep (Keep.of_below E.below)) (hr'.keep (Keep.of_below E.below))
  have HA := Lib.hid hA; have HB := Lib.hid hB
  rw [onT_and]
  generalize onT T.pos a b = bb at *
  cases ha : a.valid
  · rw [ha] at HA
    clear hA hB hC hr hr' HB ha
    go_enter Try.func20, Try.ntmps20
    go_wp2_with fail
    refine (HA.out _ (((Ext.refl w).alloc _).alloc _)).mono ?_
    rintro e w1 ⟨rfl, hb⟩
    go_wp2_with fail
    go_ret
    exact ⟨rfl, ((((Ext.refl w).alloc _).alloc _).trans hb).below⟩
  · rw [ha] at HA
    cases hv : b.valid
    · rw [hv] at HB
      clear hA hB hC hr hr' ha hv
      go_enter Try.func20, Try.ntmps20
      go_wp2_with fail
      refine (HA.out _ (((Ext.refl w).alloc _).alloc _)).mono ?_
      rintro e w1 ⟨rfl, hb⟩
      have E1 := (((Ext.refl w).alloc _).alloc _).trans hb
      obtain ⟨hc1, hf1⟩ := bcell hb
      go_wp2_with fail
      refine (HB.out _ E1).mono ?_
      rintro e w2 ⟨rfl, hb2⟩
      go_wp2_with fail
      go_ret
      exact ⟨rfl, (E1.trans hb2).below⟩
    · rw [hv] at HB
      have HC := Lib.hid (hC ha hv)
      clear hA hB hC hr hr' ha hv
      go_enter Try.func20, Try.ntmps20
      go_wp2_with fail
      refine (HA.out _ (((Ext.refl w).alloc _).alloc _)).mono ?_
      rintro e w1 ⟨rfl, hb⟩
      have E1 := (((Ext.refl w).alloc _).alloc _).trans hb
      obtain ⟨hc1, hf1⟩ := bcell hb
      have hs1 := hb.size
      simp at hs1
      go_wp2_with fail
      refine (HB.out _ E1).mono ?_
      rintro e w2 ⟨rfl, hb2⟩
      have E2 := E1.trans hb2
      obtain ⟨hc2, hf2⟩ := bcell hb2
      have hs2 : w.heap.size < w1.heap.size := by omega
      have hs3 : w.heap.size + 1 < w1.heap.size := by omega
      go_wp2_with fail
      refine (HC.out _ E2).mono ?_
      rintro e w3 ⟨rfl, hb3⟩
      go_wp2_with fail
      go_ret
      exact ⟨by simp, (E2.trans hb3).below⟩

set_option maxHeartbeats 400000 in
theorem iSubNeg (a b : Ty) (w : World) (q c q' c') (hr : TysRep [] w a.kids q c) (hr' : TysRep [] w b.kids q' c') :
    Calls Try.prog 18 #[.agg #[.int .i64 a.kind, .slice q a.kids.length c], .agg #[.int .i64 b.kind, .slice q' b.kids.length c']] w (RetB w (onT T.neg a b)) := by
  have hA := fun (w' : World) (E : Ext w w') => iValid a w' q c (hr.keep (Keep.of_below E.below))
  have hB := fun (w' : World) (E : Ext w w') => iValid b w' q' c' (hr'.keep (Keep.of_below E.below))
  have hC : a.valid = true → b.valid = true → ∀ (w' : World) (E : Ext w w'), Calls Try.prog 42 #[.agg #[.int .i64 a.kind, .slice q a.kids.length c], .agg #[.int .i64 b.kind, .slice q' b.kids.length c']] w' (RetB w' (onT T.neg a b)) := by
    intro h1 h2 w' E
    obtain ⟨x, rfl, hx⟩ := (Ty.valid_iff a).1 h1
    obtain ⟨y, rfl, hy⟩ := (Ty.valid_iff b).1 h2
    rw [onT_ty T.neg hx hy, T.ty_kind, T.ty_kind]
    exact (pos_neg _).2 x y w' q c q' c' (Nat.lt_succ_self _) (hr.keep (Keep.of_below E.below)) (hr'.keep (Keep.of_below E.below))
  have HA := Lib.hid hA; have HB := Lib.hid hB
  rw [onT_and]
  generalize onT T.neg a b = bb at *
  cases ha : a.valid
  · rw [ha] at HA
    clear hA hB hC hr hr' HB ha
    go_enter Try.func18, Try.ntmps18
    go_wp2_with fail
    refine (HA.out _ (((Ext.refl w).alloc _).alloc _)).mono ?_
    rintro e w1 ⟨rfl, hb⟩
    go_wp2_with fail
    go_ret
    exact ⟨rfl, ((((Ext.refl w).alloc _).alloc _).trans hb).below⟩
  · rw [ha] at HA
    cases hv : b.valid
    · rw [hv] at HB
      clear hA hB hC hr hr' ha hv
      go_enter Try.func18, Try.ntmps18
      go_wp2_with fail
      refine (HA.out _ (((Ext.refl w).alloc _).alloc _)).mono ?_
      rintro e w1 ⟨rfl, hb⟩
      have E1 := (((Ext.refl w).alloc _).alloc _).trans hb
      obtain ⟨hc1, hf1⟩ := bcell hb
      go_wp2_with fail
      refine (HB.out _ E1).mono ?_
      rintro e w2 ⟨rfl, hb2⟩
      go_wp2_with fail
      go_ret
      exact ⟨rfl, (E1.trans hb2).below⟩
    · rw [hv] at HB
      have HC := Lib.hid (hC ha hv)
      clear hA hB hC hr hr' ha hv
      go_enter Try.func18, Try.ntmps18
      go_wp2_with fail
      refine (HA.out _ (((Ext.refl w).alloc _).alloc _)).mono ?_
      rintro e w1 ⟨rfl, hb⟩
      have E1 := (((Ext.refl w).alloc _).alloc _).trans hb
      obtain ⟨hc1, hf1⟩ := bcell hb
      have hs1 := hb.size
      simp at hs1
      go_wp2_with fail
      refine (HB.out _ E1).mono ?_
      rintro e w2 ⟨rfl, hb2⟩
      have E2 := E1.trans hb2
      obtain ⟨hc2, hf2⟩ := bcell hb2
      have hs2 : w.heap.size < w1.heap.size := by omega
      have hs3 : w.heap.size + 1 < w1.heap.size := by omega
      go_wp2_with fail
      refine (HC.out _ E2).mono ?_
      rintro e w3 ⟨rfl, hb3⟩
      go_wp2_with fail
      go_ret
      exact ⟨by simp, (E2.trans hb3).below⟩

set_option maxHeartbeats 400000 in
theorem iSub (a b : Ty) (w : World) (q c q' c') (hr : TysRep [] w a.kids q c) (hr' : TysRep [] w b.kids q' c') :
    Calls Try.prog 15 #[.agg #[.int .i64 a.kind, .slice q a.kids.length c], .agg #[.int .i64 b.kind, .slice q' b.kids.length c']] w (RetB w (onT T.sub a b)) := by
  have hA := fun (w' : World) (E : Ext w w') => iValid a w' q c (hr.keep (Keep.of_below E.below))
  have hB := fun (w' : World) (E : Ext w w') => iValid b w' q' c' (hr'.keep (Keep.of_below E.below))
  have hC : a.valid = true → b.valid = true → ∀ (w' : World) (E : Ext w w'), Calls Try.prog 40 #[.agg #[.int .i64 a.kind, .slice q a.kids.length c], .agg #[.int .i64 b.kind, .slice q' b.kids.length c']] w' (RetB w' (onT T.sub a b)) := by
    intro h1 h2 w' E
    obtain ⟨x, rfl, hx⟩ := (Ty.valid_iff a).1 h1
    obtain ⟨y, rfl, hy⟩ := (Ty.valid_iff b).1 h2
    rw [onT_ty T.sub hx hy, T.ty_kind, T.ty_kind]
    exact sub _ x y w' q c q' c' (Nat.lt_succ_self _) (hr.keep (Keep.of_below E.below)) (hr'.keep (Keep.of_below E.below))
  have HA := Lib.hid hA; have HB := Lib.hid hB
  rw [onT_and]
  generalize onT T.sub a b = bb at *
  cases ha : a.valid
  · rw [ha] at HA
    clear hA hB hC hr hr' HB ha
    go_enter Try.func15, Try.ntmps15
    go_wp2_with fail
    refine (HA.out _ (((Ext.refl w).alloc _).alloc _)).mono ?_
    rintro e w1 ⟨rfl, hb⟩
    go_wp2_with fail
    go_ret
    exact ⟨rfl, ((((Ext.refl w).alloc _).alloc _).trans hb).below⟩
  · rw [ha] at HA
    cases hv : b.valid
    · rw [hv] at HB
      clear hA hB hC hr hr' ha hv
      go_enter Try.func15, Try.ntmps15
      go_wp2_with fail
      refine (HA.out _ (((Ext.refl w).alloc _).alloc _)).mono ?_
      rintro e w1 ⟨rfl, hb⟩
      have E1 := (((Ext.refl w).alloc _).alloc _).trans hb
      obtain ⟨hc1, hf1⟩ := bcell hb
      go_wp2_with fail
      refine (HB.out _ E1).mono ?_
      rintro e w2 ⟨rfl, hb2⟩
      go_wp2_with fail
      go_ret
      exact ⟨rfl, (E1.trans hb2).below⟩
    · rw [hv] at HB
      have HC := Lib.hid (hC ha hv)
      clear hA hB hC hr hr' ha hv
      go_enter Try.func15, Try.ntmps15
      go_wp2_with fail
      refine (HA.out _ (((Ext.refl w).alloc _).alloc _)).mono ?_
      rintro e w1 ⟨rfl, hb⟩
      have E1 := (((Ext.refl w).alloc _).alloc _).trans hb
      obtain ⟨hc1, hf1⟩ := bcell hb
      have hs1 := hb.size
      simp at hs1
      go_wp2_with fail
      refine (HB.out _ E1).mono ?_
      rintro e w2 ⟨rfl, hb2⟩
      have E2 := E1.trans hb2
      obtain ⟨hc2, hf2⟩ := bcell hb2
      have hs2 : w.heap.size < w1.heap.size := by omega
      have hs3 : w.heap.size + 1 < w1.heap.size := by omega
      go_wp2_with fail
      refine (HC.out _ E2).mono ?_
      rintro e w3 ⟨rfl, hb3⟩
      go_wp2_with fail
      go_ret
      exact ⟨by simp, (E2.trans hb3).below⟩

set_option maxHeartbeats 400000 in
theorem sSubPos (a b : Ty) (w : World) (q c q' c') (hr : TysRep [] w a.kids q c) (hr' : TysRep [] w b.kids q' c') :
    Calls Try.prog 19 #[.agg #[.int .i64 a.kind, .slice q a.kids.length c], .agg #[.int .i64 b.kind, .slice q' b.kids.length c']] w (RetB w (onT T.pos a b)) := by
  have hA := fun (w' : World) (E : Ext w w') => sValid a w' q c (hr.keep (Keep.of_below E.below))
  have hB := fun (w' : World) (E : Ext w w') => sValid b w' q' c' (hr'.keep (Keep.of_below E.below))
  have hC : a.valid = true → b.valid = true → ∀ (w' : World) (E : Ext w w'), Calls Try.prog 43 #[.agg #[.int .i64 a.kind, .slice q a.kids.length c], .agg #[.int .i64 b.kind, .slice q' b.kids.length c']] w' (RetB w' (onT T.pos a b)) := by
    intro h1 h2 w' E
    obtain ⟨x, rfl, hx⟩ := (Ty.valid_iff a).1 h1
    obtain ⟨y, rfl, hy⟩ := (Ty.valid_iff b).1 h2
    rw [onT_ty T.pos hx hy, T.ty_kind, T.ty_kind]
    exact (pn8 _).1 x y w' q c q' c' (Nat.lt_succ_self _) (hr.keep (Keep.of_below E.below)) (hr'.keep (Keep.of_below E.below))
  have HA := Lib.hid hA; have HB := Lib.hid hB
  rw [onT_and]
  generalize onT T.pos a b = bb at *
  cases ha : a.valid
  · rw [ha] at HA
    clear hA hB hC hr hr' HB ha
    go_enter Try.func19, Try.ntmps19
    go_wp2_with fail
    refine (HA.out _ (((Ext.refl w).alloc _).alloc _)).mono ?_
    rintro e w1 ⟨rfl, hb⟩
    go_wp2_with fail
    go_ret
    exact ⟨rfl, ((((Ext.refl w).alloc _).alloc _).trans hb).below⟩
  · rw [ha] at HA
    cases hv : b.valid
    · rw [hv] at HB
      clear hA hB hC hr hr' ha hv
      go_enter Try.func19, Try.ntmps19
      go_wp2_with fail
      refine (HA.out _ (((Ext.refl w).alloc _).alloc _)).mono ?_
      rintro e w1 ⟨rfl, hb⟩
      have E1 := (((Ext.refl w).alloc _).alloc _).trans hb
      obtain ⟨hc1, hf1⟩ := bcell hb
      go_wp2_with fail
      refine (HB.out _ E1).mono ?_
      rintro e w2 ⟨rfl, hb2⟩
      go_wp2_with fail
      go_ret
      exact ⟨rfl, (E1.trans hb2).below⟩
    · rw [hv] at HB
      have HC := Lib.hid (hC ha hv)
      clear hA hB hC hr hr' ha hv
      go_enter Try.func19, Try.ntmps19
      go_wp2_with fail
      refine (HA.out _ (((Ext.refl w).alloc _).alloc _)).mono ?_
      rintro e w1 ⟨rfl, hb⟩
      have E1 := (((Ext.refl w).alloc _).alloc _).trans hb
      obtain ⟨hc1, hf1⟩ := bcell hb
      have hs1 := hb.size
      simp at hs1
      go_wp2_with fail
      refine (HB.out _ E1).mono ?_
      rintro e w2 ⟨rfl, hb2⟩
      have E2 := E1.trans hb2
      obtain ⟨hc2, hf2⟩ := bcell hb2
      have hs2 : w.heap.size < w1.heap.size := by omega
      have hs3 : w.heap.size + 1 < w1.heap.size := by omega
      go_wp2_with fail
      refine (HC.out _ E2).mono ?_
      rintro e w3 ⟨rfl, hb3⟩
      go_wp2_with fail
      go_ret
      exact ⟨by simp, (E2.trans hb3).below⟩

set_option maxHeartbeats 400000 in
theorem sSubNeg (a b : Ty) (w : World) (q c q' c') (hr : TysRep [] w a.kids q c) (hr' : TysRep [] w b.kids q' c') :
    Calls Try.prog 17 #[.agg #[.int .i64 a.kind, .slice q a.kids.length c], .agg #[.int .i64 b.kind, .slice q' b.kids.length c']] w (RetB w (onT T.neg a b)) := by
  have hA := fun (w' : World) (E : Ext w w') => sValid a w' q c (hr.keep (Keep.of_below E.below))
  have hB := fun (w' : World) (E : Ext w w') => sValid b w' q' c' (hr'.keep (Keep.of_below E.below))
  have hC : a.valid = true → b.valid = true → ∀ (w' : World) (E : Ext w w'), Calls Try.prog 41 #[.agg #[.int .i64 a.kind, .slice q a.kids.length c], .agg #[.int .i64 b.kind, .slice q' b.kids.length c']] w' (RetB w' (onT T.neg a b)) := by
    intro h1 h2 w' E
    obtain ⟨x, rfl, hx⟩ := (Ty.valid_iff a).1 h1
    obtain ⟨y, rfl, hy⟩ := (Ty.valid_iff b).1 h2
    rw [onT_ty T.neg hx hy, T.ty_kind, T.ty_kind]
    exact (pn8 _).2 x y w' q c q' c' (Nat.lt_succ_self _) (hr.keep (Keep.of_below E.below)) (hr'.keep (Keep.of_below E.below))
  have HA := Lib.hid hA; have HB := Lib.hid hB
  rw [onT_and]
  generalize onT T.neg a b = bb at *
  cases ha : a.valid
  · rw [ha] at HA
    clear hA hB hC hr hr' HB ha
    go_enter Try.func17, Try.ntmps17
    go_wp2_with fail
    refine (HA.out _ (((Ext.refl w).alloc _).alloc _)).mono ?_
    rintro e w1 ⟨rfl, hb⟩
    go_wp2_with fail
    go_ret
    exact ⟨rfl, ((((Ext.refl w).alloc _).alloc _).trans hb).below⟩
  · rw [ha] at HA
    cases hv : b.valid
    · rw [hv] at HB
      clear hA hB hC hr hr' ha hv
      go_enter Try.func17, Try.ntmps17
      go_wp2_with fail
      refine (HA.out _ (((Ext.refl w).alloc _).alloc _)).mono ?_
      rintro e w1 ⟨rfl, hb⟩
      have E1 := (((Ext.refl w).alloc _).alloc _).trans hb
      obtain ⟨hc1, hf1⟩ := bcell hb
      go_wp2_with fail
      refine (HB.out _ E1).mono ?_
      rintro e w2 ⟨rfl, hb2⟩
      go_wp2_with fail
      go_ret
      exact ⟨rfl, (E1.trans hb2).below⟩
    · rw [hv] at HB
      have HC := Lib.hid (hC ha hv)
      clear hA hB hC hr hr' ha hv
      go_enter Try.func17, Try.ntmps17
      go_wp2_with fail
      refine (HA.out _ (((Ext.refl w).alloc _).alloc _)).mono ?_
      rintro e w1 ⟨rfl, hb⟩
      have E1 := (((Ext.refl w).alloc _).alloc _).trans hb
      obtain ⟨hc1, hf1⟩ := bcell hb
      have hs1 := hb.size
      simp at hs1
      go_wp2_with fail
      refine (HB.out _ E1).mono ?_
      rintro e w2 ⟨rfl, hb2⟩
      have E2 := E1.trans hb2
      obtain ⟨hc2, hf2⟩ := bcell hb2
      have hs2 : w.heap.size < w1.heap.size := by omega
      have hs3 : w.heap.size + 1 < w1.heap.size := by omega
      go_wp2_with fail
      refine (HC.out _ E2).mono ?_
      rintro e w3 ⟨rfl, hb3⟩
      go_wp2_with fail
      go_ret
      exact ⟨by simp, (E2.trans hb3).below⟩

set_option maxHeartbeats 400000 in
theorem sSub (a b : Ty) (w : World) (q c q' c') (hr : TysRep [] w a.kids q c) (hr' : TysRep [] w b.kids q' c') :
    Calls Try.prog 13 #[.agg #[.int .i64 a.kind, .slice q a.kids.length c], .agg #[.int .i64 b.kind, .slice q' b.kids.length c']] w (RetB w (onT T.sub a b)) := by
  have hA := fun (w' : World) (E : Ext w w') => sValid a w' q c (hr.keep (Keep.of_below E.below))
  have hB := fun (w' : World) (E : Ext w w') => sValid b w' q' c' (hr'.keep (Keep.of_below E.below))
  have hC : a.valid = true → b.valid = true → ∀ (w' : World) (E : Ext w w'), Calls Try.prog 38 #[.agg #[.int .i64 a.kind, .slice q a.kids.length c], .agg #[.int .i64 b.kind, .slice q' b.kids.length c']] w' (RetB w' (onT T.sub a b)) := by
    intro h1 h2 w' E
    obtain ⟨x, rfl, hx⟩ := (Ty.valid_iff a).1 h1
    obtain ⟨y, rfl, hy⟩ := (Ty.valid_iff b).1 h2
    rw [onT_ty T.sub hx hy, T.ty_kind, T.ty_kind]
    exact s8 _ x y w' q c q' c' (Nat.lt_succ_self _) (hr.keep (Keep.of_below E.below)) (hr'.keep (Keep.of_below E.below))
  have HA := Lib.hid hA; have HB := Lib.hid hB
  rw [onT_and]
  generalize onT T.sub a b = bb at *
  cases ha : a.valid
  · rw [ha] at HA
    clear hA hB hC hr hr' HB ha
    go_enter Try.func13, Try.ntmps13
    go_wp2_with fail
    refine (HA.out _ (((Ext.refl w).alloc _).alloc _)).mono ?_
    rintro e w1 ⟨rfl, hb⟩
    go_wp2_with fail
    go_ret
    exact ⟨rfl, ((((Ext.refl w).alloc _).alloc _).trans hb).below⟩
  · rw [ha] at HA
    cases hv : b.valid
    · rw [hv] at HB
      clear hA hB hC hr hr' ha hv
      go_enter Try.func13, Try.ntmps13
      go_wp2_with fail
      refine (HA.out _ (((Ext.refl w).alloc _).alloc _)).mono ?_
      rintro e w1 ⟨rfl, hb⟩
      have E1 := (((Ext.refl w).alloc _).alloc _).trans hb
      obtain ⟨hc1, hf1⟩ := bcell hb
      go_wp2_with fail
      refine (HB.out _ E1).mono ?_
      rintro e w2 ⟨rfl, hb2⟩
      go_wp2_with fail
      go_ret
      exact ⟨rfl, (E1.trans hb2).below⟩
    · rw [hv] at HB
      have HC := Lib.hid (hC ha hv)
      clear hA hB hC hr hr' ha hv
      go_enter Try.func13, Try.ntmps13
      go_wp2_with fail
      refine (HA.out _ (((Ext.refl w).alloc _).alloc _)).mono ?_
      rintro e w1 ⟨rfl, hb⟩
      have E1 := (((Ext.refl w).alloc _).alloc _).trans hb
      obtain ⟨hc1, hf1⟩ := bcell hb
      have hs1 := hb.size
      simp at hs1
      go_wp2_with fail
      refine (HB.out _ E1).mono ?_
      rintro e w2 ⟨rfl, hb2⟩
      have E2 := E1.trans hb2
      obtain ⟨hc2, hf2⟩ := bcell hb2
      have hs2 : w.heap.size < w1.heap.size := by omega
      have hs3 : w.heap.size + 1 < w1.heap.size := by omega
      go_wp2_with fail
      refine (HC.out _ E2).mono ?_
      rintro e w3 ⟨rfl, hb3⟩
      go_wp2_with fail
      go_ret
      exact ⟨by simp, (E2.trans hb3).below⟩
end Go.Proofs.Ytkkijdlgmlffoaa
