/- The walks of the functions on valid types: subtyping, the three relations. -/
import Derived.Test.YtkkijdlgmlffoaaTyS
namespace Go.Proofs.Ytkkijdlgmlffoaa
open Go.RowKit Go.Proofs.Grad

theorem fn_pos : IsFn Try.prog 44 := by intro args w; kernel_rfl
theorem fn_neg : IsFn Try.prog 42 := by intro args w; kernel_rfl
theorem fn_sub : IsFn Try.prog 40 := by intro args w; kernel_rfl

theorem T.kind_one (a : T) : (a.kind == 1) = decide (a = .any) := by cases a <;> simp [T.kind]
theorem parts_self {n : Nat} {a b : T} (h : a.size + b.size < n + 1) : Parts n a b := by
  intro x hx y hy
  cases a <;> cases b <;> simp [T.kids, T.size] at hx hy h <;> rcases hx with rfl | rfl <;> rcases hy with rfl | rfl <;> omega
theorem parts_ground {n : Nat} {a : T} (h : a.size + 1 < n + 1) : Parts n a a.ground := by
  intro x hx y hy
  cases a <;> simp [T.kids, T.size, T.ground] at hx hy h <;> rcases hx with rfl | rfl <;> subst hy <;> simp [T.size] <;> omega

set_option maxHeartbeats 800000 in
theorem pos_step (n : Nat) (ihp : BinT 44 T.pos n) (ihn : BinT 42 T.neg n) : BinT 44 T.pos (n + 1) := by
  intro a b w q c q' c' hn hr hr'
  have hk := T.kind_one b
  have hC := fun (w' : World) (E : Ext w w') => sub_any 44 42 fn_pos fn_neg T.pos T.neg n ihp ihn a b w' q c q' c' (parts_self hn) (hr.keep (Keep.of_below E.below)) (hr'.keep (Keep.of_below E.below))
  by_cases hb : b = .any
  · have hk1 : (b.kind == 1) = true := by rw [hk]; simp [hb]
    have hres : a.pos b = true := by rw [hb]; exact T.pos_any a
    rw [hres]
    clear hC hk hb hres hn hr hr' ihp ihn
    generalize b.kind = k at *
    go_enter Try.func44, Try.ntmps44
    go_wp2_with fail
    go_ret
    exact ⟨by simp, (((Ext.refl w).alloc _).alloc _).below⟩
  · have hk1 : (b.kind == 1) = false := by rw [hk]; simp [hb]
    rw [T.pos_eq a b hb]
    generalize subF T.pos T.neg a b = bb at *
    have HC := Lib.hid hC
    clear hC hk hb hn hr hr' ihp ihn
    generalize b.kind = k at *
    go_enter Try.func44, Try.ntmps44
    go_wp2_with fail
    refine (HC.out _ (((Ext.refl w).alloc _).alloc _)).mono ?_
    rintro e w1 ⟨rfl, hb⟩
    go_wp2_with fail
    go_ret
    exact ⟨by simp, ((((Ext.refl w).alloc _).alloc _).trans hb).below⟩

set_option maxHeartbeats 800000 in
/-- 'negative', and 'subtype', where neither type is unknown -/
theorem neg_at (n : Nat) (ihp : BinT 44 T.pos n) (ihn : BinT 42 T.neg n) (a b : T) (ha : a ≠ .any) (hb : b ≠ .any) (hp : Parts n a b) (w : World) (q c q' c') (hr : TysRep [] w a.ty.kids q c) (hr' : TysRep [] w b.ty.kids q' c') :
    Calls Try.prog 42 #[.agg #[.int .i64 a.kind, .slice q a.ty.kids.length c], .agg #[.int .i64 b.kind, .slice q' b.ty.kids.length c']] w (RetB w (subF T.neg T.pos a b)) := by
  have hk1 : (a.kind == 1) = false := by rw [T.kind_one]; simp [ha]
  have hk2 : (b.kind == 1) = false := by rw [T.kind_one]; simp [hb]
  have hC := fun (w' : World) (E : Ext w w') => sub_any 42 44 fn_neg fn_pos T.neg T.pos n ihn ihp a b w' q c q' c' hp (hr.keep (Keep.of_below E.below)) (hr'.keep (Keep.of_below E.below))
  generalize subF T.neg T.pos a b = bb at *
  have HC := Lib.hid hC
  clear hC ha hb hp hr hr' ihp ihn
  generalize a.kind = k at *
  generalize b.kind = k' at *
  go_enter Try.func42, Try.ntmps42
  go_wp2_with fail
  refine (HC.out _ (((Ext.refl w).alloc _).alloc _)).mono ?_
  rintro e w1 ⟨rfl, hb⟩
  go_wp2_with fail
  go_ret
  exact ⟨by simp, ((((Ext.refl w).alloc _).alloc _).trans hb).below⟩

set_option maxHeartbeats 800000 in
theorem neg_step (n : Nat) (ihp : BinT 44 T.pos n) (ihn : BinT 42 T.neg n) : BinT 42 T.neg (n + 1) := by
  intro a b w q c q' c' hn hr hr'
  by_cases ha : a = .any
  · subst ha
    rw [T.any_neg]
    clear hn hr hr' ihp ihn
    rw [show T.any.kind = 1 from rfl]
    generalize b.kind = k at *
    go_enter Try.func42, Try.ntmps42
    go_wp2_with fail
    go_ret
    exact ⟨rfl, (((Ext.refl w).alloc _).alloc _).below⟩
  · by_cases hb : b = .any
    · subst hb
      rw [T.neg_ground a ha]
      have hg : a.ground ≠ .any := by cases a <;> simp [T.ground] at ha ⊢
      have hk1 : (a.kind == 1) = false := by rw [T.kind_one]; simp [ha]
      have hG := fun (w' : World) => ground [] a w' (by simp)
      have hC := fun (w' : World) (E : Ext w w') q1 c1 (h1 : TysRep [] w' a.ground.ty.kids q1 c1) => neg_at n ihp ihn a a.ground ha hg (parts_ground (by simpa [T.size] using hn)) w' q c q1 c1 (hr.keep (Keep.of_below E.below)) h1
      have HC := Lib.hid hC; have HG := Lib.hid hG
      clear hC hG hn hr hr' ihp ihn ha
      rw [show T.any.kind = 1 from rfl]
      generalize subF T.neg T.pos a a.ground = bb at *
      generalize hgr : a.ground = g at *
      generalize a.kind = k at *
      generalize a.ty.kids.length = m at *
      clear hgr
      go_enter Try.func42, Try.ntmps42
      go_wp2_with fail
      refine region_mix 0 (by kernel_rfl) (by kernel_rfl) ?_
      repeat (first | (refine mix_skip (by rfl) (fun K hK => ?_); go_simp; refine hK _ ?_; clear hK K) | (refine mix_free rfl (fun K hK => ?_); go_simp; refine hK _ ?_; clear hK K) | (refine mix_read rfl rfl (fun K hK => ?_); go_simp; refine hK _ ?_; clear hK K))
      (refine mix_loud rfl (fun K K' hK hK' => ?_); go_simp)
      refine (HG.out _).mono ?_
      rintro e w1 ⟨q1, c1, rfl, r1, hb1⟩
      have E1 := (Ext.refl_drew _).trans hb1
      refine hK _ _ E1 ?_
      clear hK hK' K K'
      rw [T.ty_kind] at *
      (refine mix_loud rfl (fun K K' hK hK' => ?_); go_simp)
      refine (HC.out _ ((((Ext.refl w).alloc _).alloc _).trans E1.below) _ _ r1).mono ?_
      rintro e w2 ⟨rfl, hb2⟩
      have E2 := E1.trans hb2
      refine hK _ _ E2 ?_
      clear hK hK' K K'
      repeat (first | (refine mix_skip (by rfl) (fun K hK => ?_); go_simp; refine hK _ ?_; clear hK K) | (refine mix_free rfl (fun K hK => ?_); go_simp; refine hK _ ?_; clear hK K) | (refine mix_read rfl rfl (fun K hK => ?_); go_simp; refine hK _ ?_; clear hK K))
      refine mix_nil ?_
      go_wp2_with fail
      go_ret
      exact ⟨rfl, ((((Ext.refl w).alloc _).alloc _).trans E2.below).below⟩
    · rw [T.neg_eq a b ha hb]
      exact neg_at n ihp ihn a b ha hb (parts_self hn) w q c q' c' hr hr'

theorem pos_neg (n : Nat) : BinT 44 T.pos n ∧ BinT 42 T.neg n := by
  induction n with
  | zero => exact ⟨fun a b w q c q' c' hn => by omega, fun a b w q c q' c' hn => by omega⟩
  | succ n ih => exact ⟨pos_step n ih.1 ih.2, neg_step n ih.1 ih.2⟩
end Go.Proofs.Ytkkijdlgmlffoaa
