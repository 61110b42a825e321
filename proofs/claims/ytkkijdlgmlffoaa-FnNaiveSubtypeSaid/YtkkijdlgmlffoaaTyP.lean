/- The walks of the functions on valid types: subtyping, the reference's. -/
import Derived.Test.YtkkijdlgmlffoaaTyN
import Derived.Test.YtkkijdlgmlffoaaTyG
namespace Go.Proofs.Ytkkijdlgmlffoaa
open Go.RowKit Go.Proofs.Grad


set_option maxHeartbeats 800000 in
theorem p8_fn (n : Nat) (ihs : BinT 43 T.pos n) (iho : BinT 41 T.neg n) (a b x y : T) (w : World) (q c q' c') (h1 : x.size + a.size < n) (h2 : b.size + y.size < n)
    (hr : TysRep [] w (T.fn a b).ty.kids q c) (hr' : TysRep [] w (T.fn x y).ty.kids q' c') :
    Calls Try.prog 43 #[.agg #[.int .i64 4, .slice q 2 c], .agg #[.int .i64 4, .slice q' 2 c']] w (RetB w (T.neg x a && T.pos b y)) := by
  obtain ⟨d, o, rfl, hd, c0, ⟨p1, e1, c1, r1⟩, c2, ⟨p2, e2, c3, r2⟩⟩ := hr.two
  obtain ⟨d', o', rfl, hd', c0', ⟨p1', e1', c1', r1'⟩, c2', ⟨p2', e2', c3', r2'⟩⟩ := hr'.two
  simp only [T.ty_kind] at c0 c2 c0' c2'
  obtain ⟨g1, g2, g3⟩ := les hd
  obtain ⟨g1', g2', g3'⟩ := les hd'
  have HO := fun (w' : World) (E : Ext w w') => iho x a w' p1' e1' p1 e1 h1 (r1'.keep (Keep.of_below E.below)) (r1.keep (Keep.of_below E.below))
  have HS := fun (w' : World) (E : Ext w w') => ihs b y w' p2 e2 p2' e2' h2 (r2.keep (Keep.of_below E.below)) (r2'.keep (Keep.of_below E.below))
  have HO' := Lib.hid HO; have HS' := Lib.hid HS
  clear HO HS hr hr' ihs iho h1 h2 r1 r2 r1' r2'
  generalize T.neg x a = b1 at *
  generalize T.pos b y = b2 at *
  cases b1
  · go_enter Try.func43, Try.ntmps43
    go_wp2_with fail
    refine region_mix 0 (by kernel_rfl) (by kernel_rfl) ?_
    repeat (first | (refine mix_skip (by rfl) (fun K hK => ?_); go_simp; refine hK _ ?_; clear hK K) | (refine mix_free rfl (fun K hK => ?_); go_simp; refine hK _ ?_; clear hK K) | (refine mix_read rfl rfl (fun K hK => ?_); go_simp; refine hK _ ?_; clear hK K))
    (refine mix_loud rfl (fun K K' hK hK' => ?_); go_simp)
    refine (HO'.out _ ((((Ext.refl w).alloc _).alloc _).trans (Below.drew (Below.refl _ _)))).mono ?_
    rintro e w1 ⟨rfl, hb⟩
    have E1 := (Ext.refl_drew _).trans hb
    refine hK _ _ E1 ?_
    clear hK hK' K K'
    repeat (first | (refine mix_skip (by rfl) (fun K hK => ?_); go_simp; refine hK _ ?_; clear hK K) | (refine mix_free rfl (fun K hK => ?_); go_simp; refine hK _ ?_; clear hK K) | (refine mix_read rfl rfl (fun K hK => ?_); go_simp; refine hK _ ?_; clear hK K))
    refine mix_nil ?_
    go_wp2_with fail
    go_ret
    exact ⟨rfl, ((((Ext.refl w).alloc _).alloc _).trans E1.below).below⟩
  · go_enter Try.func43, Try.ntmps43
    go_wp2_with fail
    refine region_mix 0 (by kernel_rfl) (by kernel_rfl) ?_
    repeat (first | (refine mix_skip (by rfl) (fun K hK => ?_); go_simp; refine hK _ ?_; clear hK K) | (refine mix_free rfl (fun K hK => ?_); go_simp; refine hK _ ?_; clear hK K) | (refine mix_read rfl rfl (fun K hK => ?_); go_simp; refine hK _ ?_; clear hK K))
    (refine mix_loud rfl (fun K K' hK hK' => ?_); go_simp)
    refine (HO'.out _ ((((Ext.refl w).alloc _).alloc _).trans (Below.drew (Below.refl _ _)))).mono ?_
    rintro e w1 ⟨rfl, hb⟩
    have E1 := (Ext.refl_drew _).trans hb
    refine hK _ _ E1 ?_
    clear hK hK' K K'
    repeat (first | (refine mix_skip (by rfl) (fun K hK => ?_); go_simp; refine hK _ ?_; clear hK K) | (refine mix_free rfl (fun K hK => ?_); go_simp; refine hK _ ?_; clear hK K) | (refine mix_read rfl rfl (fun K hK => ?_); go_simp; refine hK _ ?_; clear hK K))
    (refine mix_loud rfl (fun K K' hK hK' => ?_); go_simp)
    refine (HS'.out _ ((((Ext.refl w).alloc _).alloc _).trans E1.below)).mono ?_
    rintro e w2 ⟨rfl, hb2⟩
    have E2 := E1.trans hb2
    refine hK _ _ E2 ?_
    clear hK hK' K K'
    repeat (first | (refine mix_skip (by rfl) (fun K hK => ?_); go_simp; refine hK _ ?_; clear hK K) | (refine mix_free rfl (fun K hK => ?_); go_simp; refine hK _ ?_; clear hK K) | (refine mix_read rfl rfl (fun K hK => ?_); go_simp; refine hK _ ?_; clear hK K))
    refine mix_nil ?_
    go_wp2_with fail
    go_ret
    exact ⟨by simp, ((((Ext.refl w).alloc _).alloc _).trans E2.below).below⟩


set_option maxHeartbeats 800000 in
theorem p8_pr (n : Nat) (ihs : BinT 43 T.pos n) (iho : BinT 41 T.neg n) (a b x y : T) (w : World) (q c q' c') (h1 : a.size + x.size < n) (h2 : b.size + y.size < n)
    (hr : TysRep [] w (T.pr a b).ty.kids q c) (hr' : TysRep [] w (T.pr x y).ty.kids q' c') :
    Calls Try.prog 43 #[.agg #[.int .i64 5, .slice q 2 c], .agg #[.int .i64 5, .slice q' 2 c']] w (RetB w (T.pos a x && T.pos b y)) := by
  obtain ⟨d, o, rfl, hd, c0, ⟨p1, e1, c1, r1⟩, c2, ⟨p2, e2, c3, r2⟩⟩ := hr.two
  obtain ⟨d', o', rfl, hd', c0', ⟨p1', e1', c1', r1'⟩, c2', ⟨p2', e2', c3', r2'⟩⟩ := hr'.two
  simp only [T.ty_kind] at c0 c2 c0' c2'
  obtain ⟨g1, g2, g3⟩ := les hd
  obtain ⟨g1', g2', g3'⟩ := les hd'
  have HO := fun (w' : World) (E : Ext w w') => ihs a x w' p1 e1 p1' e1' h1 (r1.keep (Keep.of_below E.below)) (r1'.keep (Keep.of_below E.below))
  have HS := fun (w' : World) (E : Ext w w') => ihs b y w' p2 e2 p2' e2' h2 (r2.keep (Keep.of_below E.below)) (r2'.keep (Keep.of_below E.below))
  have HO' := Lib.hid HO; have HS' := Lib.hid HS
  clear HO HS hr hr' ihs iho h1 h2 r1 r2 r1' r2'
  generalize T.pos a x = b1 at *
  generalize T.pos b y = b2 at *
  cases b1
  · go_enter Try.func43, Try.ntmps43
    go_wp2_with fail
    refine region_mix 0 (by kernel_rfl) (by kernel_rfl) ?_
    repeat (first | (refine mix_skip (by rfl) (fun K hK => ?_); go_simp; refine hK _ ?_; clear hK K) | (refine mix_free rfl (fun K hK => ?_); go_simp; refine hK _ ?_; clear hK K) | (refine mix_read rfl rfl (fun K hK => ?_); go_simp; refine hK _ ?_; clear hK K))
    (refine mix_loud rfl (fun K K' hK hK' => ?_); go_simp)
    refine (HO'.out _ ((((Ext.refl w).alloc _).alloc _).trans (Below.drew (Below.refl _ _)))).mono ?_
    rintro e w1 ⟨rfl, hb⟩
    have E1 := (Ext.refl_drew _).trans hb
    refine hK _ _ E1 ?_
    clear hK hK' K K'
    repeat (first | (refine mix_skip (by rfl) (fun K hK => ?_); go_simp; refine hK _ ?_; clear hK K) | (refine mix_free rfl (fun K hK => ?_); go_simp; refine hK _ ?_; clear hK K) | (refine mix_read rfl rfl (fun K hK => ?_); go_simp; refine hK _ ?_; clear hK K))
    refine mix_nil ?_
    go_wp2_with fail
    go_ret
    exact ⟨rfl, ((((Ext.refl w).alloc _).alloc _).trans E1.below).below⟩
  · go_enter Try.func43, Try.ntmps43
    go_wp2_with fail
    refine region_mix 0 (by kernel_rfl) (by kernel_rfl) ?_
    repeat (first | (refine mix_skip (by rfl) (fun K hK => ?_); go_simp; refine hK _ ?_; clear hK K) | (refine mix_free rfl (fun K hK => ?_); go_simp; refine hK _ ?_; clear hK K) | (refine mix_read rfl rfl (fun K hK => ?_); go_simp; refine hK _ ?_; clear hK K))
    (refine mix_loud rfl (fun K K' hK hK' => ?_); go_simp)
    refine (HO'.out _ ((((Ext.refl w).alloc _).alloc _).trans (Below.drew (Below.refl _ _)))).mono ?_
    rintro e w1 ⟨rfl, hb⟩
    have E1 := (Ext.refl_drew _).trans hb
    refine hK _ _ E1 ?_
    clear hK hK' K K'
    repeat (first | (refine mix_skip (by rfl) (fun K hK => ?_); go_simp; refine hK _ ?_; clear hK K) | (refine mix_free rfl (fun K hK => ?_); go_simp; refine hK _ ?_; clear hK K) | (refine mix_read rfl rfl (fun K hK => ?_); go_simp; refine hK _ ?_; clear hK K))
    (refine mix_loud rfl (fun K K' hK hK' => ?_); go_simp)
    refine (HS'.out _ ((((Ext.refl w).alloc _).alloc _).trans E1.below)).mono ?_
    rintro e w2 ⟨rfl, hb2⟩
    have E2 := E1.trans hb2
    refine hK _ _ E2 ?_
    clear hK hK' K K'
    repeat (first | (refine mix_skip (by rfl) (fun K hK => ?_); go_simp; refine hK _ ?_; clear hK K) | (refine mix_free rfl (fun K hK => ?_); go_simp; refine hK _ ?_; clear hK K) | (refine mix_read rfl rfl (fun K hK => ?_); go_simp; refine hK _ ?_; clear hK K))
    refine mix_nil ?_
    go_wp2_with fail
    go_ret
    exact ⟨by simp, ((((Ext.refl w).alloc _).alloc _).trans E2.below).below⟩


set_option maxHeartbeats 800000 in
theorem p8_at (n : Nat) (ihs : BinT 43 T.pos n) (iho : BinT 41 T.neg n) (a b : T) (ha : a ≠ .any) (hb : b ≠ .any) (hp : Parts n a b) (w : World) (q c q' c') (hr : TysRep [] w a.ty.kids q c) (hr' : TysRep [] w b.ty.kids q' c') :
    Calls Try.prog 43 #[.agg #[.int .i64 a.kind, .slice q a.ty.kids.length c], .agg #[.int .i64 b.kind, .slice q' b.ty.kids.length c']] w (RetB w (subF T.pos T.neg a b)) := by
  have hk1 : (a.kind == 1) = false := by rw [T.kind_one]; simp [ha]
  have hk2 : (b.kind == 1) = false := by rw [T.kind_one]; simp [hb]
  have off : a.kind ≠ b.kind → Calls Try.prog 43 #[.agg #[.int .i64 a.kind, .slice q a.ty.kids.length c], .agg #[.int .i64 b.kind, .slice q' b.ty.kids.length c']] w (RetB w false) := by
    intro h
    have h1 : (a.kind != b.kind) = true := by simp [h]
    clear h hp hr hr' ihs iho ha hb
    generalize a.kind = k at *
    generalize b.kind = k' at *
    go_enter Try.func43, Try.ntmps43
    go_wp2_with fail
    go_ret
    exact ⟨rfl, (((Ext.refl w).alloc _).alloc _).below⟩
  have on : a.kind = b.kind → a.kind ≠ 4 → a.kind ≠ 5 → Calls Try.prog 43 #[.agg #[.int .i64 a.kind, .slice q a.ty.kids.length c], .agg #[.int .i64 b.kind, .slice q' b.ty.kids.length c']] w (RetB w true) := by
    intro h h4 h5
    rw [← h]
    have h6 : (a.kind == 4) = false := by simp [h4]
    have h7 : (a.kind != 5) = true := by simp [h5]
    clear h hp hr hr' ihs iho h4 h5 ha hb hk2
    generalize a.kind = k at *
    go_enter Try.func43, Try.ntmps43
    go_wp2_with fail
    refine region_mix 0 (by kernel_rfl) (by kernel_rfl) ?_
    repeat (first | (first | (refine mix_skip (by rfl) (fun K hK => ?_); go_simp; refine hK _ ?_; clear hK K) | (refine mix_free rfl (fun K hK => ?_); go_simp; refine hK _ ?_; clear hK K) | (refine mix_read rfl rfl (fun K hK => ?_); go_simp; refine hK _ ?_; clear hK K)) | (refine mix_loud rfl (fun K K' hK hK' => ?_); go_simp; refine hK' _ ?_; clear hK hK' K K'))
    refine mix_nil ?_
    go_wp2_with fail
    go_ret
    exact ⟨by simp, (((Ext.refl w).alloc _).alloc _).drew.below⟩
  cases a <;> cases b
  case any.any => exact absurd rfl ha
  case any.int => exact absurd rfl ha
  case any.bool => exact absurd rfl ha
  case any.fn => exact absurd rfl ha
  case any.pr => exact absurd rfl ha
  case int.any => exact absurd rfl hb
  case bool.any => exact absurd rfl hb
  case fn.any => exact absurd rfl hb
  case pr.any => exact absurd rfl hb
  case fn.fn a b x y => exact p8_fn n ihs iho a b x y w q c q' c' (by have := hp a (by simp [T.kids]) x (by simp [T.kids]); omega) (hp b (by simp [T.kids]) y (by simp [T.kids])) hr hr'
  case pr.pr a b x y => exact p8_pr n ihs iho a b x y w q c q' c' (hp a (by simp [T.kids]) x (by simp [T.kids])) (hp b (by simp [T.kids]) y (by simp [T.kids])) hr hr'
  all_goals first
    | exact off (by simp [T.kind])
    | exact on rfl (by simp [T.kind]) (by simp [T.kind])


set_option maxHeartbeats 800000 in
theorem n8_fn (n : Nat) (ihs : BinT 41 T.neg n) (iho : BinT 43 T.pos n) (a b x y : T) (w : World) (q c q' c') (h1 : x.size + a.size < n) (h2 : b.size + y.size < n)
    (hr : TysRep [] w (T.fn a b).ty.kids q c) (hr' : TysRep [] w (T.fn x y).ty.kids q' c') :
    Calls Try.prog 41 #[.agg #[.int .i64 4, .slice q 2 c], .agg #[.int .i64 4, .slice q' 2 c']] w (RetB w (T.pos x a && T.neg b y)) := by
  obtain ⟨d, o, rfl, hd, c0, ⟨p1, e1, c1, r1⟩, c2, ⟨p2, e2, c3, r2⟩⟩ := hr.two
  obtain ⟨d', o', rfl, hd', c0', ⟨p1', e1', c1', r1'⟩, c2', ⟨p2', e2', c3', r2'⟩⟩ := hr'.two
  simp only [T.ty_kind] at c0 c2 c0' c2'
  obtain ⟨g1, g2, g3⟩ := les hd
  obtain ⟨g1', g2', g3'⟩ := les hd'
  have HO := fun (w' : World) (E : Ext w w') => iho x a w' p1' e1' p1 e1 h1 (r1'.keep (Keep.of_below E.below)) (r1.keep (Keep.of_below E.below))
  have HS := fun (w' : World) (E : Ext w w') => ihs b y w' p2 e2 p2' e2' h2 (r2.keep (Keep.of_below E.below)) (r2'.keep (Keep.of_below E.below))
  have HO' := Lib.hid HO; have HS' := Lib.hid HS
  clear HO HS hr hr' ihs iho h1 h2 r1 r2 r1' r2'
  generalize T.pos x a = b1 at *
  generalize T.neg b y = b2 at *
  cases b1
  · go_enter Try.func41, Try.ntmps41
    go_wp2_with fail
    refine region_mix 0 (by kernel_rfl) (by kernel_rfl) ?_
    repeat (first | (refine mix_skip (by rfl) (fun K hK => ?_); go_simp; refine hK _ ?_; clear hK K) | (refine mix_free rfl (fun K hK => ?_); go_simp; refine hK _ ?_; clear hK K) | (refine mix_read rfl rfl (fun K hK => ?_); go_simp; refine hK _ ?_; clear hK K))
    (refine mix_loud rfl (fun K K' hK hK' => ?_); go_simp)
    refine (HO'.out _ ((((Ext.refl w).alloc _).alloc _).trans (Below.drew (Below.refl _ _)))).mono ?_
    rintro e w1 ⟨rfl, hb⟩
    have E1 := (Ext.refl_drew _).trans hb
    refine hK _ _ E1 ?_
    clear hK hK' K K'
    repeat (first | (refine mix_skip (by rfl) (fun K hK => ?_); go_simp; refine hK _ ?_; clear hK K) | (refine mix_free rfl (fun K hK => ?_); go_simp; refine hK _ ?_; clear hK K) | (refine mix_read rfl rfl (fun K hK => ?_); go_simp; refine hK _ ?_; clear hK K))
    refine mix_nil ?_
    go_wp2_with fail
    go_ret
    exact ⟨rfl, ((((Ext.refl w).alloc _).alloc _).trans E1.below).below⟩
  · go_enter Try.func41, Try.ntmps41
    go_wp2_with fail
    refine region_mix 0 (by kernel_rfl) (by kernel_rfl) ?_
    repeat (first | (refine mix_skip (by rfl) (fun K hK => ?_); go_simp; refine hK _ ?_; clear hK K) | (refine mix_free rfl (fun K hK => ?_); go_simp; refine hK _ ?_; clear hK K) | (refine mix_read rfl rfl (fun K hK => ?_); go_simp; refine hK _ ?_; clear hK K))
    (refine mix_loud rfl (fun K K' hK hK' => ?_); go_simp)
    refine (HO'.out _ ((((Ext.refl w).alloc _).alloc _).trans (Below.drew (Below.refl _ _)))).mono ?_
    rintro e w1 ⟨rfl, hb⟩
    have E1 := (Ext.refl_drew _).trans hb
    refine hK _ _ E1 ?_
    clear hK hK' K K'
    repeat (first | (refine mix_skip (by rfl) (fun K hK => ?_); go_simp; refine hK _ ?_; clear hK K) | (refine mix_free rfl (fun K hK => ?_); go_simp; refine hK _ ?_; clear hK K) | (refine mix_read rfl rfl (fun K hK => ?_); go_simp; refine hK _ ?_; clear hK K))
    (refine mix_loud rfl (fun K K' hK hK' => ?_); go_simp)
    refine (HS'.out _ ((((Ext.refl w).alloc _).alloc _).trans E1.below)).mono ?_
    rintro e w2 ⟨rfl, hb2⟩
    have E2 := E1.trans hb2
    refine hK _ _ E2 ?_
    clear hK hK' K K'
    repeat (first | (refine mix_skip (by rfl) (fun K hK => ?_); go_simp; refine hK _ ?_; clear hK K) | (refine mix_free rfl (fun K hK => ?_); go_simp; refine hK _ ?_; clear hK K) | (refine mix_read rfl rfl (fun K hK => ?_); go_simp; refine hK _ ?_; clear hK K))
    refine mix_nil ?_
    go_wp2_with fail
    go_ret
    exact ⟨by simp, ((((Ext.refl w).alloc _).alloc _).trans E2.below).below⟩


set_option maxHeartbeats 800000 in
theorem n8_pr (n : Nat) (ihs : BinT 41 T.neg n) (iho : BinT 43 T.pos n) (a b x y : T) (w : World) (q c q' c') (h1 : a.size + x.size < n) (h2 : b.size + y.size < n)
    (hr : TysRep [] w (T.pr a b).ty.kids q c) (hr' : TysRep [] w (T.pr x y).ty.kids q' c') :
    Calls Try.prog 41 #[.agg #[.int .i64 5, .slice q 2 c], .agg #[.int .i64 5, .slice q' 2 c']] w (RetB w (T.neg a x && T.neg b y)) := by
  obtain ⟨d, o, rfl, hd, c0, ⟨p1, e1, c1, r1⟩, c2, ⟨p2, e2, c3, r2⟩⟩ := hr.two
  obtain ⟨d', o', rfl, hd', c0', ⟨p1', e1', c1', r1'⟩, c2', ⟨p2', e2', c3', r2'⟩⟩ := hr'.two
  simp only [T.ty_kind] at c0 c2 c0' c2'
  obtain ⟨g1, g2, g3⟩ := les hd
  obtain ⟨g1', g2', g3'⟩ := les hd'
  have HO := fun (w' : World) (E : Ext w w') => ihs a x w' p1 e1 p1' e1' h1 (r1.keep (Keep.of_below E.below)) (r1'.keep (Keep.of_below E.below))
  have HS := fun (w' : World) (E : Ext w w') => ihs b y w' p2 e2 p2' e2' h2 (r2.keep (Keep.of_below E.below)) (r2'.keep (Keep.of_below E.below))
  have HO' := Lib.hid HO; have HS' := Lib.hid HS
  clear HO HS hr hr' ihs iho h1 h2 r1 r2 r1' r2'
  generalize T.neg a x = b1 at *
  generalize T.neg b y = b2 at *
  cases b1
  · go_enter Try.func41, Try.ntmps41
    go_wp2_with fail
    refine region_mix 0 (by kernel_rfl) (by kernel_rfl) ?_
    repeat (first | (refine mix_skip (by rfl) (fun K hK => ?_); go_simp; refine hK _ ?_; clear hK K) | (refine mix_free rfl (fun K hK => ?_); go_simp; refine hK _ ?_; clear hK K) | (refine mix_read rfl rfl (fun K hK => ?_); go_simp; refine hK _ ?_; clear hK K))
    (refine mix_loud rfl (fun K K' hK hK' => ?_); go_simp)
    refine (HO'.out _ ((((Ext.refl w).alloc _).alloc _).trans (Below.drew (Below.refl _ _)))).mono ?_
    rintro e w1 ⟨rfl, hb⟩
    have E1 := (Ext.refl_drew _).trans hb
    refine hK _ _ E1 ?_
    clear hK hK' K K'
    repeat (first | (refine mix_skip (by rfl) (fun K hK => ?_); go_simp; refine hK _ ?_; clear hK K) | (refine mix_free rfl (fun K hK => ?_); go_simp; refine hK _ ?_; clear hK K) | (refine mix_read rfl rfl (fun K hK => ?_); go_simp; refine hK _ ?_; clear hK K))
    refine mix_nil ?_
    go_wp2_with fail
    go_ret
    exact ⟨rfl, ((((Ext.refl w).alloc _).alloc _).trans E1.below).below⟩
  · go_enter Try.func41, Try.ntmps41
    go_wp2_with fail
    refine region_mix 0 (by kernel_rfl) (by kernel_rfl) ?_
    repeat (first | (refine mix_skip (by rfl) (fun K hK => ?_); go_simp; refine hK _ ?_; clear hK K) | (refine mix_free rfl (fun K hK => ?_); go_simp; refine hK _ ?_; clear hK K) | (refine mix_read rfl rfl (fun K hK => ?_); go_simp; refine hK _ ?_; clear hK K))
    (refine mix_loud rfl (fun K K' hK hK' => ?_); go_simp)
    refine (HO'.out _ ((((Ext.refl w).alloc _).alloc _).trans (Below.drew (Below.refl _ _)))).mono ?_
    rintro e w1 ⟨rfl, hb⟩
    have E1 := (Ext.refl_drew _).trans hb
    refine hK _ _ E1 ?_
    clear hK hK' K K'
    repeat (first | (refine mix_skip (by rfl) (fun K hK => ?_); go_simp; refine hK _ ?_; clear hK K) | (refine mix_free rfl (fun K hK => ?_); go_simp; refine hK _ ?_; clear hK K) | (refine mix_read rfl rfl (fun K hK => ?_); go_simp; refine hK _ ?_; clear hK K))
    (refine mix_loud rfl (fun K K' hK hK' => ?_); go_simp)
    refine (HS'.out _ ((((Ext.refl w).alloc _).alloc _).trans E1.below)).mono ?_
    rintro e w2 ⟨rfl, hb2⟩
    have E2 := E1.trans hb2
    refine hK _ _ E2 ?_
    clear hK hK' K K'
    repeat (first | (refine mix_skip (by rfl) (fun K hK => ?_); go_simp; refine hK _ ?_; clear hK K) | (refine mix_free rfl (fun K hK => ?_); go_simp; refine hK _ ?_; clear hK K) | (refine mix_read rfl rfl (fun K hK => ?_); go_simp; refine hK _ ?_; clear hK K))
    refine mix_nil ?_
    go_wp2_with fail
    go_ret
    exact ⟨by simp, ((((Ext.refl w).alloc _).alloc _).trans E2.below).below⟩


set_option maxHeartbeats 800000 in
theorem n8_at (n : Nat) (ihs : BinT 41 T.neg n) (iho : BinT 43 T.pos n) (a b : T) (ha : a ≠ .any) (hb : b ≠ .any) (hp : Parts n a b) (w : World) (q c q' c') (hr : TysRep [] w a.ty.kids q c) (hr' : TysRep [] w b.ty.kids q' c') :
    Calls Try.prog 41 #[.agg #[.int .i64 a.kind, .slice q a.ty.kids.length c], .agg #[.int .i64 b.kind, .slice q' b.ty.kids.length c']] w (RetB w (subF T.neg T.pos a b)) := by
  have hk1 : (a.kind == 1) = false := by rw [T.kind_one]; simp [ha]
  have hk2 : (b.kind == 1) = false := by rw [T.kind_one]; simp [hb]
  have off : a.kind ≠ b.kind → Calls Try.prog 41 #[.agg #[.int .i64 a.kind, .slice q a.ty.kids.length c], .agg #[.int .i64 b.kind, .slice q' b.ty.kids.length c']] w (RetB w false) := by
    intro h
    have h1 : (a.kind != b.kind) = true := by simp [h]
    clear h hp hr hr' ihs iho ha hb
    generalize a.kind = k at *
    generalize b.kind = k' at *
    go_enter Try.func41, Try.ntmps41
    go_wp2_with fail
    go_ret
    exact ⟨rfl, (((Ext.refl w).alloc _).alloc _).below⟩
  have on : a.kind = b.kind → a.kind ≠ 4 → a.kind ≠ 5 → Calls Try.prog 41 #[.agg #[.int .i64 a.kind, .slice q a.ty.kids.length c], .agg #[.int .i64 b.kind, .slice q' b.ty.kids.length c']] w (RetB w true) := by
    intro h h4 h5
    rw [← h]
    have h6 : (a.kind == 4) = false := by simp [h4]
    have h7 : (a.kind != 5) = true := by simp [h5]
    clear h hp hr hr' ihs iho h4 h5 ha hb hk2
    generalize a.kind = k at *
    go_enter Try.func41, Try.ntmps41
    go_wp2_with fail
    refine region_mix 0 (by kernel_rfl) (by kernel_rfl) ?_
    repeat (first | (first | (refine mix_skip (by rfl) (fun K hK => ?_); go_simp; refine hK _ ?_; clear hK K) | (refine mix_free rfl (fun K hK => ?_); go_simp; refine hK _ ?_; clear hK K) | (refine mix_read rfl rfl (fun K hK => ?_); go_simp; refine hK _ ?_; clear hK K)) | (refine mix_loud rfl (fun K K' hK hK' => ?_); go_simp; refine hK' _ ?_; clear hK hK' K K'))
    refine mix_nil ?_
    go_wp2_with fail
    go_ret
    exact ⟨by simp, (((Ext.refl w).alloc _).alloc _).drew.below⟩
  cases a <;> cases b
  case any.any => exact absurd rfl ha
  case any.int => exact absurd rfl ha
  case any.bool => exact absurd rfl ha
  case any.fn => exact absurd rfl ha
  case any.pr => exact absurd rfl ha
  case int.any => exact absurd rfl hb
  case bool.any => exact absurd rfl hb
  case fn.any => exact absurd rfl hb
  case pr.any => exact absurd rfl hb
  case fn.fn a b x y => exact n8_fn n ihs iho a b x y w q c q' c' (by have := hp a (by simp [T.kids]) x (by simp [T.kids]); omega) (hp b (by simp [T.kids]) y (by simp [T.kids])) hr hr'
  case pr.pr a b x y => exact n8_pr n ihs iho a b x y w q c q' c' (hp a (by simp [T.kids]) x (by simp [T.kids])) (hp b (by simp [T.kids]) y (by simp [T.kids])) hr hr'
  all_goals first
    | exact off (by simp [T.kind])
    | exact on rfl (by simp [T.kind]) (by simp [T.kind])


set_option maxHeartbeats 800000 in
theorem s8_fn (n : Nat) (ihs : BinT 38 T.sub n) (iho : BinT 38 T.sub n) (a b x y : T) (w : World) (q c q' c') (h1 : x.size + a.size < n) (h2 : b.size + y.size < n)
    (hr : TysRep [] w (T.fn a b).ty.kids q c) (hr' : TysRep [] w (T.fn x y).ty.kids q' c') :
    Calls Try.prog 38 #[.agg #[.int .i64 4, .slice q 2 c], .agg #[.int .i64 4, .slice q' 2 c']] w (RetB w (T.sub x a && T.sub b y)) := by
  obtain ⟨d, o, rfl, hd, c0, ⟨p1, e1, c1, r1⟩, c2, ⟨p2, e2, c3, r2⟩⟩ := hr.two
  obtain ⟨d', o', rfl, hd', c0', ⟨p1', e1', c1', r1'⟩, c2', ⟨p2', e2', c3', r2'⟩⟩ := hr'.two
  simp only [T.ty_kind] at c0 c2 c0' c2'
  obtain ⟨g1, g2, g3⟩ := les hd
  obtain ⟨g1', g2', g3'⟩ := les hd'
  have HO := fun (w' : World) (E : Ext w w') => iho x a w' p1' e1' p1 e1 h1 (r1'.keep (Keep.of_below E.below)) (r1.keep (Keep.of_below E.below))
  have HS := fun (w' : World) (E : Ext w w') => ihs b y w' p2 e2 p2' e2' h2 (r2.keep (Keep.of_below E.below)) (r2'.keep (Keep.of_below E.below))
  have HO' := Lib.hid HO; have HS' := Lib.hid HS
  clear HO HS hr hr' ihs iho h1 h2 r1 r2 r1' r2'
  generalize T.sub x a = b1 at *
  generalize T.sub b y = b2 at *
  cases b1
  · go_enter Try.func38, Try.ntmps38
    go_wp2_with fail
    refine region_mix 0 (by kernel_rfl) (by kernel_rfl) ?_
    repeat (first | (refine mix_skip (by rfl) (fun K hK => ?_); go_simp; refine hK _ ?_; clear hK K) | (refine mix_free rfl (fun K hK => ?_); go_simp; refine hK _ ?_; clear hK K) | (refine mix_read rfl rfl (fun K hK => ?_); go_simp; refine hK _ ?_; clear hK K))
    (refine mix_loud rfl (fun K K' hK hK' => ?_); go_simp)
    refine (HO'.out _ ((((Ext.refl w).alloc _).alloc _).trans (Below.drew (Below.refl _ _)))).mono ?_
    rintro e w1 ⟨rfl, hb⟩
    have E1 := (Ext.refl_drew _).trans hb
    refine hK _ _ E1 ?_
    clear hK hK' K K'
    repeat (first | (refine mix_skip (by rfl) (fun K hK => ?_); go_simp; refine hK _ ?_; clear hK K) | (refine mix_free rfl (fun K hK => ?_); go_simp; refine hK _ ?_; clear hK K) | (refine mix_read rfl rfl (fun K hK => ?_); go_simp; refine hK _ ?_; clear hK K))
    refine mix_nil ?_
    go_wp2_with fail
    go_ret
    exact ⟨rfl, ((((Ext.refl w).alloc _).alloc _).trans E1.below).below⟩
  · go_enter Try.func38, Try.ntmps38
    go_wp2_with fail
    refine region_mix 0 (by kernel_rfl) (by kernel_rfl) ?_
    repeat (first | (refine mix_skip (by rfl) (fun K hK => ?_); go_simp; refine hK _ ?_; clear hK K) | (refine mix_free rfl (fun K hK => ?_); go_simp; refine hK _ ?_; clear hK K) | (refine mix_read rfl rfl (fun K hK => ?_); go_simp; refine hK _ ?_; clear hK K))
    (refine mix_loud rfl (fun K K' hK hK' => ?_); go_simp)
    refine (HO'.out _ ((((Ext.refl w).alloc _).alloc _).trans (Below.drew (Below.refl _ _)))).mono ?_
    rintro e w1 ⟨rfl, hb⟩
    have E1 := (Ext.refl_drew _).trans hb
    refine hK _ _ E1 ?_
    clear hK hK' K K'
    repeat (first | (refine mix_skip (by rfl) (fun K hK => ?_); go_simp; refine hK _ ?_; clear hK K) | (refine mix_free rfl (fun K hK => ?_); go_simp; refine hK _ ?_; clear hK K) | (refine mix_read rfl rfl (fun K hK => ?_); go_simp; refine hK _ ?_; clear hK K))
    (refine mix_loud rfl (fun K K' hK hK' => ?_); go_simp)
    refine (HS'.out _ ((((Ext.refl w).alloc _).alloc _).trans E1.below)).mono ?_
    rintro e w2 ⟨rfl, hb2⟩
    have E2 := E1.trans hb2
    refine hK _ _ E2 ?_
    clear hK hK' K K'
    repeat (first | (refine mix_skip (by rfl) (fun K hK => ?_); go_simp; refine hK _ ?_; clear hK K) | (refine mix_free rfl (fun K hK => ?_); go_simp; refine hK _ ?_; clear hK K) | (refine mix_read rfl rfl (fun K hK => ?_); go_simp; refine hK _ ?_; clear hK K))
    refine mix_nil ?_
    go_wp2_with fail
    go_ret
    exact ⟨by simp, ((((Ext.refl w).alloc _).alloc _).trans E2.below).below⟩


set_option maxHeartbeats 800000 in
theorem s8_pr (n : Nat) (ihs : BinT 38 T.sub n) (iho : BinT 38 T.sub n) (a b x y : T) (w : World) (q c q' c') (h1 : a.size + x.size < n) (h2 : b.size + y.size < n)
    (hr : TysRep [] w (T.pr a b).ty.kids q c) (hr' : TysRep [] w (T.pr x y).ty.kids q' c') :
    Calls Try.prog 38 #[.agg #[.int .i64 5, .slice q 2 c], .agg #[.int .i64 5, .slice q' 2 c']] w (RetB w (T.sub a x && T.sub b y)) := by
  obtain ⟨d, o, rfl, hd, c0, ⟨p1, e1, c1, r1⟩, c2, ⟨p2, e2, c3, r2⟩⟩ := hr.two
  obtain ⟨d', o', rfl, hd', c0', ⟨p1', e1', c1', r1'⟩, c2', ⟨p2', e2', c3', r2'⟩⟩ := hr'.two
  simp only [T.ty_kind] at c0 c2 c0' c2'
  obtain ⟨g1, g2, g3⟩ := les hd
  obtain ⟨g1', g2', g3'⟩ := les hd'
  have HO := fun (w' : World) (E : Ext w w') => ihs a x w' p1 e1 p1' e1' h1 (r1.keep (Keep.of_below E.below)) (r1'.keep (Keep.of_below E.below))
  have HS := fun (w' : World) (E : Ext w w') => ihs b y w' p2 e2 p2' e2' h2 (r2.keep (Keep.of_below E.below)) (r2'.keep (Keep.of_below E.below))
  have HO' := Lib.hid HO; have HS' := Lib.hid HS
  clear HO HS hr hr' ihs iho h1 h2 r1 r2 r1' r2'
  generalize T.sub a x = b1 at *
  generalize T.sub b y = b2 at *
  cases b1
  · go_enter Try.func38, Try.ntmps38
    go_wp2_with fail
    refine region_mix 0 (by kernel_rfl) (by kernel_rfl) ?_
    repeat (first | (refine mix_skip (by rfl) (fun K hK => ?_); go_simp; refine hK _ ?_; clear hK K) | (refine mix_free rfl (fun K hK => ?_); go_simp; refine hK _ ?_; clear hK K) | (refine mix_read rfl rfl (fun K hK => ?_); go_simp; refine hK _ ?_; clear hK K))
    (refine mix_loud rfl (fun K K' hK hK' => ?_); go_simp)
    refine (HO'.out _ ((((Ext.refl w).alloc _).alloc _).trans (Below.drew (Below.refl _ _)))).mono ?_
    rintro e w1 ⟨rfl, hb⟩
    have E1 := (Ext.refl_drew _).trans hb
    refine hK _ _ E1 ?_
    clear hK hK' K K'
    repeat (first | (refine mix_skip (by rfl) (fun K hK => ?_); go_simp; refine hK _ ?_; clear hK K) | (refine mix_free rfl (fun K hK => ?_); go_simp; refine hK _ ?_; clear hK K) | (refine mix_read rfl rfl (fun K hK => ?_); go_simp; refine hK _ ?_; clear hK K))
    refine mix_nil ?_
    go_wp2_with fail
    go_ret
    exact ⟨rfl, ((((Ext.refl w).alloc _).alloc _).trans E1.below).below⟩
  · go_enter Try.func38, Try.ntmps38
    go_wp2_with fail
    refine region_mix 0 (by kernel_rfl) (by kernel_rfl) ?_
    repeat (first | (refine mix_skip (by rfl) (fun K hK => ?_); go_simp; refine hK _ ?_; clear hK K) | (refine mix_free rfl (fun K hK => ?_); go_simp; refine hK _ ?_; clear hK K) | (refine mix_read rfl rfl (fun K hK => ?_); go_simp; refine hK _ ?_; clear hK K))
    (refine mix_loud rfl (fun K K' hK hK' => ?_); go_simp)
    refine (HO'.out _ ((((Ext.refl w).alloc _).alloc _).trans (Below.drew (Below.refl _ _)))).mono ?_
    rintro e w1 ⟨rfl, hb⟩
    have E1 := (Ext.refl_drew _).trans hb
    refine hK _ _ E1 ?_
    clear hK hK' K K'
    repeat (first | (refine mix_skip (by rfl) (fun K hK => ?_); go_simp; refine hK _ ?_; clear hK K) | (refine mix_free rfl (fun K hK => ?_); go_simp; refine hK _ ?_; clear hK K) | (refine mix_read rfl rfl (fun K hK => ?_); go_simp; refine hK _ ?_; clear hK K))
    (refine mix_loud rfl (fun K K' hK hK' => ?_); go_simp)
    refine (HS'.out _ ((((Ext.refl w).alloc _).alloc _).trans E1.below)).mono ?_
    rintro e w2 ⟨rfl, hb2⟩
    have E2 := E1.trans hb2
    refine hK _ _ E2 ?_
    clear hK hK' K K'
    repeat (first | (refine mix_skip (by rfl) (fun K hK => ?_); go_simp; refine hK _ ?_; clear hK K) | (refine mix_free rfl (fun K hK => ?_); go_simp; refine hK _ ?_; clear hK K) | (refine mix_read rfl rfl (fun K hK => ?_); go_simp; refine hK _ ?_; clear hK K))
    refine mix_nil ?_
    go_wp2_with fail
    go_ret
    exact ⟨by simp, ((((Ext.refl w).alloc _).alloc _).trans E2.below).below⟩


set_option maxHeartbeats 800000 in
theorem s8_at (n : Nat) (ihs : BinT 38 T.sub n) (iho : BinT 38 T.sub n) (a b : T) (ha : a ≠ .any) (hb : b ≠ .any) (hp : Parts n a b) (w : World) (q c q' c') (hr : TysRep [] w a.ty.kids q c) (hr' : TysRep [] w b.ty.kids q' c') :
    Calls Try.prog 38 #[.agg #[.int .i64 a.kind, .slice q a.ty.kids.length c], .agg #[.int .i64 b.kind, .slice q' b.ty.kids.length c']] w (RetB w (subF T.sub T.sub a b)) := by
  have hk1 : (a.kind == 1) = false := by rw [T.kind_one]; simp [ha]
  have hk2 : (b.kind == 1) = false := by rw [T.kind_one]; simp [hb]
  have off : a.kind ≠ b.kind → Calls Try.prog 38 #[.agg #[.int .i64 a.kind, .slice q a.ty.kids.length c], .agg #[.int .i64 b.kind, .slice q' b.ty.kids.length c']] w (RetB w false) := by
    intro h
    have h1 : (a.kind != b.kind) = true := by simp [h]
    clear h hp hr hr' ihs iho ha hb
    generalize a.kind = k at *
    generalize b.kind = k' at *
    go_enter Try.func38, Try.ntmps38
    go_wp2_with fail
    go_ret
    exact ⟨rfl, (((Ext.refl w).alloc _).alloc _).below⟩
  have on : a.kind = b.kind → a.kind ≠ 4 → a.kind ≠ 5 → Calls Try.prog 38 #[.agg #[.int .i64 a.kind, .slice q a.ty.kids.length c], .agg #[.int .i64 b.kind, .slice q' b.ty.kids.length c']] w (RetB w true) := by
    intro h h4 h5
    rw [← h]
    have h6 : (a.kind == 4) = false := by simp [h4]
    have h7 : (a.kind != 5) = true := by simp [h5]
    clear h hp hr hr' ihs iho h4 h5 ha hb hk2
    generalize a.kind = k at *
    go_enter Try.func38, Try.ntmps38
    go_wp2_with fail
    refine region_mix 0 (by kernel_rfl) (by kernel_rfl) ?_
    repeat (first | (first | (refine mix_skip (by rfl) (fun K hK => ?_); go_simp; refine hK _ ?_; clear hK K) | (refine mix_free rfl (fun K hK => ?_); go_simp; refine hK _ ?_; clear hK K) | (refine mix_read rfl rfl (fun K hK => ?_); go_simp; refine hK _ ?_; clear hK K)) | (refine mix_loud rfl (fun K K' hK hK' => ?_); go_simp; refine hK' _ ?_; clear hK hK' K K'))
    refine mix_nil ?_
    go_wp2_with fail
    go_ret
    exact ⟨by simp, (((Ext.refl w).alloc _).alloc _).drew.below⟩
  cases a <;> cases b
  case any.any => exact absurd rfl ha
  case any.int => exact absurd rfl ha
  case any.bool => exact absurd rfl ha
  case any.fn => exact absurd rfl ha
  case any.pr => exact absurd rfl ha
  case int.any => exact absurd rfl hb
  case bool.any => exact absurd rfl hb
  case fn.any => exact absurd rfl hb
  case pr.any => exact absurd rfl hb
  case fn.fn a b x y => exact s8_fn n ihs iho a b x y w q c q' c' (by have := hp a (by simp [T.kids]) x (by simp [T.kids]); omega) (hp b (by simp [T.kids]) y (by simp [T.kids])) hr hr'
  case pr.pr a b x y => exact s8_pr n ihs iho a b x y w q c q' c' (hp a (by simp [T.kids]) x (by simp [T.kids])) (hp b (by simp [T.kids]) y (by simp [T.kids])) hr hr'
  all_goals first
    | exact off (by simp [T.kind])
    | exact on rfl (by simp [T.kind]) (by simp [T.kind])


theorem p8_step (n : Nat) (ihp : BinT 43 T.pos n) (ihn : BinT 41 T.neg n) : BinT 43 T.pos (n + 1) := by
  intro a b w q c q' c' hn hr hr'
  by_cases hb : b = .any
  · subst hb
    rw [T.pos_any, show T.any.kind = 1 from rfl]
    clear hn hr hr' ihp ihn
    generalize a.kind = k
    go_enter Try.func43, Try.ntmps43
    go_wp2_with fail
    go_ret
    exact ⟨rfl, (((Ext.refl w).alloc _).alloc _).below⟩
  · by_cases ha : a = .any
    · subst ha
      rw [T.any_pos, show decide (b = .any) = false from by simp [hb], show T.any.kind = 1 from rfl]
      have hk := T.kind_one b
      rw [show decide (b = .any) = false from by simp [hb]] at hk
      have hk2 : (1 != b.kind) = true := by simp at hk ⊢; omega
      clear hn hr hr' ihp ihn hb
      generalize b.kind = k at *
      go_enter Try.func43, Try.ntmps43
      go_wp2_with fail
      go_ret
      exact ⟨rfl, (((Ext.refl w).alloc _).alloc _).below⟩
    · rw [T.pos_eq a b hb]
      exact p8_at n ihp ihn a b ha hb (parts_self hn) w q c q' c' hr hr'


set_option maxHeartbeats 800000 in
theorem sub_at (n : Nat) (ih : BinT 40 T.sub n) (a b : T) (ha : a ≠ .any) (hb : b ≠ .any) (hp : Parts n a b) (w : World) (q c q' c') (hr : TysRep [] w a.ty.kids q c) (hr' : TysRep [] w b.ty.kids q' c') :
    Calls Try.prog 40 #[.agg #[.int .i64 a.kind, .slice q a.ty.kids.length c], .agg #[.int .i64 b.kind, .slice q' b.ty.kids.length c']] w (RetB w (subF T.sub T.sub a b)) := by
  have hk1 : (a.kind == 1) = false := by rw [T.kind_one]; simp [ha]
  have hk2 : (b.kind == 1) = false := by rw [T.kind_one]; simp [hb]
  have hC := fun (w' : World) (E : Ext w w') => sub_any 40 40 fn_sub fn_sub T.sub T.sub n ih ih a b w' q c q' c' hp (hr.keep (Keep.of_below E.below)) (hr'.keep (Keep.of_below E.below))
  generalize subF T.sub T.sub a b = bb at *
  have HC := Lib.hid hC
  clear hC ha hb hp hr hr' ih
  generalize a.kind = k at *
  generalize b.kind = k' at *
  go_enter Try.func40, Try.ntmps40
  go_wp2_with fail
  refine (HC.out _ (((Ext.refl w).alloc _).alloc _)).mono ?_
  rintro e w1 ⟨rfl, hb⟩
  go_wp2_with fail
  go_ret
  exact ⟨by simp, ((((Ext.refl w).alloc _).alloc _).trans hb).below⟩


set_option maxHeartbeats 800000 in
theorem sub_step (n : Nat) (ih : BinT 40 T.sub n) : BinT 40 T.sub (n + 1) := by
  intro a b w q c q' c' hn hr hr'
  by_cases ha : a = .any
  · subst ha
    rw [T.any_sub]
    have hk := T.kind_one b
    generalize decide (b = T.any) = bb at *
    rw [show T.any.kind = 1 from rfl]
    clear hn hr hr'
    generalize b.kind = k at *
    cases bb
    all_goals
      go_enter Try.func40, Try.ntmps40
      go_wp2_with fail
      all_goals go_ret
      all_goals exact ⟨by simp [*], (((Ext.refl w).alloc _).alloc _).below⟩
  · by_cases hb : b = .any
    · subst hb
      rw [T.sub_ground a ha]
      have hg : a.ground ≠ .any := by cases a <;> simp [T.ground] at ha ⊢
      have hk1 : (a.kind == 1) = false := by rw [T.kind_one]; simp [ha]
      have hG := fun (w' : World) => ground [] a w' (by simp)
      have hC := fun (w' : World) (E : Ext w w') q1 c1 (h1 : TysRep [] w' a.ground.ty.kids q1 c1) => sub_at n ih a a.ground ha hg (parts_ground (by simpa [T.size] using hn)) w' q c q1 c1 (hr.keep (Keep.of_below E.below)) h1
      have HC := Lib.hid hC; have HG := Lib.hid hG
      clear hC hG hn hr hr' ha
      rw [show T.any.kind = 1 from rfl]
      generalize subF T.sub T.sub a a.ground = bb at *
      generalize hgr : a.ground = g at *
      generalize a.kind = k at *
      generalize a.ty.kids.length = m at *
      clear hgr
      go_enter Try.func40, Try.ntmps40
      go_wp2_with fail
      refine region_mix 0 (by kernel_rfl) (by kernel_rfl) ?_
      repeat (first | (refine mix_skip (by rfl) (fun K hK => ?_); go_simp; refine hK _ ?_; clear hK K) | (refine mix_free rfl (fun K hK => ?_); go_simp; refine hK _ ?_; clear hK K) | (refine mix_read rfl rfl (fun K hK => ?_); go_simp; refine hK _ ?_; clear hK K))
      (refine mix_loud rfl (fun K K' hK hK' => ?_); go_simp)
      refine (HG.out _).mono ?_
      rintro e w1 ⟨q1, c1, rfl, r1, hb1⟩
      have E1 := (Ext.refl_drew _).trans hb1
      refine hK _ _ E1 ?_
      clear hK hK' K K'
      rw [T.ty_kind] at *
      (refine mix_loud rfl (fun K K' hK hK' => ?_); go_simp)
      refine (HC.out _ ((((Ext.refl w).alloc _).alloc _).trans E1.below) _ _ r1).mono ?_
      rintro e w2 ⟨rfl, hb2⟩
      have E2 := E1.trans hb2
      refine hK _ _ E2 ?_
      clear hK hK' K K'
      repeat (first | (refine mix_skip (by rfl) (fun K hK => ?_); go_simp; refine hK _ ?_; clear hK K) | (refine mix_free rfl (fun K hK => ?_); go_simp; refine hK _ ?_; clear hK K) | (refine mix_read rfl rfl (fun K hK => ?_); go_simp; refine hK _ ?_; clear hK K))
      refine mix_nil ?_
      go_wp2_with fail
      go_ret
      exact ⟨rfl, ((((Ext.refl w).alloc _).alloc _).trans E2.below).below⟩
    · rw [T.sub_eq a b ha hb]
      exact sub_at n ih a b ha hb (parts_self hn) w q c q' c' hr hr'


set_option maxHeartbeats 800000 in
theorem n8_step (n : Nat) (ihp : BinT 43 T.pos n) (ihn : BinT 41 T.neg n) : BinT 41 T.neg (n + 1) := by
  intro a b w q c q' c' hn hr hr'
  by_cases ha : a = .any
  · subst ha
    rw [T.any_neg, show T.any.kind = 1 from rfl]
    clear hn hr hr'
    generalize b.kind = k at *
    go_enter Try.func41, Try.ntmps41
    go_wp2_with fail
    go_ret
    exact ⟨rfl, (((Ext.refl w).alloc _).alloc _).below⟩
  · by_cases hb : b = .any
    · subst hb
      rw [T.neg_ground a ha]
      have hg : a.ground ≠ .any := by cases a <;> simp [T.ground] at ha ⊢
      have hk1 : (a.kind == 1) = false := by rw [T.kind_one]; simp [ha]
      have hG := fun (w' : World) (E : Ext w w') => sGround a w' q c (hr.keep (Keep.of_below E.below))
      have hC := fun (w' : World) (E : Ext w w') q1 c1 (h1 : TysRep [] w' a.ground.ty.kids q1 c1) => n8_at n ihn ihp a a.ground ha hg (parts_ground (by simpa [T.size] using hn)) w' q c q1 c1 (hr.keep (Keep.of_below E.below)) h1
      have HC := Lib.hid hC; have HG := Lib.hid hG
      clear hC hG hn hr hr' ha
      rw [show T.any.kind = 1 from rfl]
      generalize subF T.neg T.pos a a.ground = bb at *
      generalize hgr : a.ground = g at *
      generalize a.kind = k at *
      generalize a.ty.kids.length = m at *
      clear hgr
      go_enter Try.func41, Try.ntmps41
      go_wp2_with fail
      refine region_mix 0 (by kernel_rfl) (by kernel_rfl) ?_
      repeat (first | (refine mix_skip (by rfl) (fun K hK => ?_); go_simp; refine hK _ ?_; clear hK K) | (refine mix_free rfl (fun K hK => ?_); go_simp; refine hK _ ?_; clear hK K) | (refine mix_read rfl rfl (fun K hK => ?_); go_simp; refine hK _ ?_; clear hK K))
      (refine mix_loud rfl (fun K K' hK hK' => ?_); go_simp)
      refine (HG.out _ ((((Ext.refl w).alloc _).alloc _).trans (Below.drew (Below.refl _ _)))).mono ?_
      rintro e w1 ⟨q1, c1, rfl, r1, hb1⟩
      have E1 := (Ext.refl_drew _).trans hb1
      refine hK _ _ E1 ?_
      clear hK hK' K K'
      rw [T.ty_kind] at *
      (refine mix_loud rfl (fun K K' hK hK' => ?_); go_simp)
      refine (HC.out _ ((((Ext.refl w).alloc _).alloc _).trans E1.below) _ _ r1).mono ?_
      rintro e w2 ⟨rfl, hb2⟩
      have E2 := E1.trans hb2
      refine hK _ _ E2 ?_
      clear hK hK' K K'
      repeat (first | (refine mix_skip (by rfl) (fun K hK => ?_); go_simp; refine hK _ ?_; clear hK K) | (refine mix_free rfl (fun K hK => ?_); go_simp; refine hK _ ?_; clear hK K) | (refine mix_read rfl rfl (fun K hK => ?_); go_simp; refine hK _ ?_; clear hK K))
      refine mix_nil ?_
      go_wp2_with fail
      go_ret
      exact ⟨rfl, ((((Ext.refl w).alloc _).alloc _).trans E2.below).below⟩
    · rw [T.neg_eq a b ha hb]
      exact n8_at n ihn ihp a b ha hb (parts_self hn) w q c q' c' hr hr'


set_option maxHeartbeats 800000 in
theorem s8_step (n : Nat) (ih : BinT 38 T.sub n) : BinT 38 T.sub (n + 1) := by
  intro a b w q c q' c' hn hr hr'
  by_cases ha : a = .any
  · subst ha
    rw [T.any_sub]
    have hk := T.kind_one b
    generalize decide (b = T.any) = bb at *
    rw [show T.any.kind = 1 from rfl]
    clear hn hr hr'
    generalize b.kind = k at *
    cases bb
    all_goals
      go_enter Try.func38, Try.ntmps38
      go_wp2_with fail
      all_goals go_ret
      all_goals exact ⟨by simp [*], (((Ext.refl w).alloc _).alloc _).below⟩
  · by_cases hb : b = .any
    · subst hb
      rw [T.sub_ground a ha]
      have hg : a.ground ≠ .any := by cases a <;> simp [T.ground] at ha ⊢
      have hk1 : (a.kind == 1) = false := by rw [T.kind_one]; simp [ha]
      have hG := fun (w' : World) (E : Ext w w') => sGround a w' q c (hr.keep (Keep.of_below E.below))
      have hC := fun (w' : World) (E : Ext w w') q1 c1 (h1 : TysRep [] w' a.ground.ty.kids q1 c1) => s8_at n ih ih a a.ground ha hg (parts_ground (by simpa [T.size] using hn)) w' q c q1 c1 (hr.keep (Keep.of_below E.below)) h1
      have HC := Lib.hid hC; have HG := Lib.hid hG
      clear hC hG hn hr hr' ha
      rw [show T.any.kind = 1 from rfl]
      generalize subF T.sub T.sub a a.ground = bb at *
      generalize hgr : a.ground = g at *
      generalize a.kind = k at *
      generalize a.ty.kids.length = m at *
      clear hgr
      go_enter Try.func38, Try.ntmps38
      go_wp2_with fail
      refine region_mix 0 (by kernel_rfl) (by kernel_rfl) ?_
      repeat (first | (refine mix_skip (by rfl) (fun K hK => ?_); go_simp; refine hK _ ?_; clear hK K) | (refine mix_free rfl (fun K hK => ?_); go_simp; refine hK _ ?_; clear hK K) | (refine mix_read rfl rfl (fun K hK => ?_); go_simp; refine hK _ ?_; clear hK K))
      (refine mix_loud rfl (fun K K' hK hK' => ?_); go_simp)
      refine (HG.out _ ((((Ext.refl w).alloc _).alloc _).trans (Below.drew (Below.refl _ _)))).mono ?_
      rintro e w1 ⟨q1, c1, rfl, r1, hb1⟩
      have E1 := (Ext.refl_drew _).trans hb1
      refine hK _ _ E1 ?_
      clear hK hK' K K'
      rw [T.ty_kind] at *
      (refine mix_loud rfl (fun K K' hK hK' => ?_); go_simp)
      refine (HC.out _ ((((Ext.refl w).alloc _).alloc _).trans E1.below) _ _ r1).mono ?_
      rintro e w2 ⟨rfl, hb2⟩
      have E2 := E1.trans hb2
      refine hK _ _ E2 ?_
      clear hK hK' K K'
      repeat (first | (refine mix_skip (by rfl) (fun K hK => ?_); go_simp; refine hK _ ?_; clear hK K) | (refine mix_free rfl (fun K hK => ?_); go_simp; refine hK _ ?_; clear hK K) | (refine mix_read rfl rfl (fun K hK => ?_); go_simp; refine hK _ ?_; clear hK K))
      refine mix_nil ?_
      go_wp2_with fail
      go_ret
      exact ⟨rfl, ((((Ext.refl w).alloc _).alloc _).trans E2.below).below⟩
    · rw [T.sub_eq a b ha hb]
      exact s8_at n ih ih a b ha hb (parts_self hn) w q c q' c' hr hr'


theorem sub (n : Nat) : BinT 40 T.sub n := by
  induction n with
  | zero => exact fun a b w q c q' c' hn => by omega
  | succ n ih => exact sub_step n ih
theorem s8 (n : Nat) : BinT 38 T.sub n := by
  induction n with
  | zero => exact fun a b w q c q' c' hn => by omega
  | succ n ih => exact s8_step n ih
theorem pn8 (n : Nat) : BinT 43 T.pos n ∧ BinT 41 T.neg n := by
  induction n with
  | zero => exact ⟨fun a b w q c q' c' hn => by omega, fun a b w q c q' c' hn => by omega⟩
  | succ n ih => exact ⟨p8_step n ih.1 ih.2, n8_step n ih.1 ih.2⟩
end Go.Proofs.Ytkkijdlgmlffoaa
