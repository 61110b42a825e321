/- The walks of the functions on valid types: subtyping. -/
import Derived.Test.YtkkijdlgmlffoaaOwn
namespace Go.Proofs.Ytkkijdlgmlffoaa
open Go.RowKit Go.Proofs.Grad

theorem base (k : Int) (w : World) (L : List Nat) : Calls Try.prog 75 #[.int .i64 k] w (RetTyR L w (.mk k [])) := by
  go_enter Try.func75, Try.ntmps75
  go_wp2_with fail
  refine bodyPost_ret (v := .agg #[.int .i64 k, .slice none 0 0]) (by simp [results, Try.results75, go_sem]) rfl ⟨none, 0, rfl, TysRep.nil _ _, ((Ext.refl w).alloc _).below⟩

theorem both (L : List Nat) (k : Int) (x y : Ty) (w : World) (q c q' c') (hL : ∀ x ∈ L, x < w.heap.size) (hx : TysRep L w x.kids q c) (hy : TysRep L w y.kids q' c') :
   Calls Try.prog 78 #[.int .i64 k, .agg #[.int .i64 x.kind, .slice q x.kids.length c], .agg #[.int .i64 y.kind, .slice q' y.kids.length c']] w (RetTyR L w (.mk k [x, y])) := by
  go_enter Try.func78, Try.ntmps78
  go_wp2_with fail
  refine bodyPost_ret (v := .agg #[.int .i64 k, .slice (some ⟨w.heap.size + 1 + 1 + 1, 0, none⟩) 2 2]) (by simp [results, Try.results78, go_sem]) rfl ⟨some ⟨w.heap.size + 1 + 1 + 1, 0, none⟩, 2, rfl, ?_, ((((Ext.refl w).alloc _).alloc _).alloc _ |>.alloc _).below⟩
  have E : Ext w ((((w.alloc (.cells #[.int .i64 x.kind, .slice q x.kids.length c] 29)).alloc (.cells #[.int .i64 y.kind, .slice q' y.kids.length c'] 29)).alloc (.cells #[.int .i64 k, .slice (some ⟨w.heap.size + 1 + 1 + 1, 0, none⟩) 2 2] 29)).alloc (.cells #[.int .i64 x.kind, .slice q x.kids.length c, .int .i64 y.kind, .slice q' y.kids.length c'] 29)) := (((Ext.refl w).alloc _).alloc _).alloc _ |>.alloc _
  refine TysRep.of_two (fun h => by have := hL _ h; omega) ?_ ?_ (hx.keep (Keep.of_below E.below)) ?_ ?_ (hy.keep (Keep.of_below E.below)) (by omega) (by simp [maxLen])
  all_goals exact cell_new (by simp) rfl

/-- the ground type of a kind that is no unknown type's -/
theorem ground (L : List Nat) (a : T) (w : World) (hL : ∀ x ∈ L, x < w.heap.size) : Calls Try.prog 63 #[.int .i64 a.kind] w (RetTyR L w a.ground.ty) := by
  have two : ∀ k : Int, (k = 4 ∨ k = 5) → Calls Try.prog 63 #[.int .i64 k] w (RetTyR L w (.mk k [.mk 1 [], .mk 1 []])) := by
    intro k hk
    rcases hk with rfl | rfl
    all_goals
      go_enter Try.func63, Try.ntmps63
      go_wp2_with fail
      refine (base 1 _ (w.heap.size :: L)).mono ?_
      rintro e w1 ⟨q1, d1, rfl, r1, hb1⟩
      have E1 := ((Ext.refl w).alloc _).trans hb1
      go_wp2_with fail
      refine (base 1 _ (w.heap.size :: L)).mono ?_
      rintro e w2 ⟨q2, d2, rfl, r2, hb2⟩
      have E2 := E1.trans hb2
      have hs1 := hb1.size
      have hs2 := hb2.size
      simp at hs1
      go_wp2_with fail
      refine (both (w.heap.size :: L) _ (.mk 1 []) (.mk 1 []) w2 q1 d1 q2 d2 (fun x hx => by
        rcases List.mem_cons.1 hx with rfl | hx
        · omega
        · have := hL x hx; omega) (r1.keep (Keep.of_below hb2)) r2).mono ?_
      rintro e w3 ⟨q3, d3, rfl, r3, hb3⟩
      have E3 := E2.trans hb3
      have hbx := hb1.trans ((hb2.mono hb1.size).trans (hb3.mono (by have := hb1.size; have := hb2.size; omega)))
      obtain ⟨hc, hf⟩ := bcell hbx
      have hsz : w.heap.size < w3.heap.size := by have := hbx.size; simp at this; omega
      clear hb1 hb2 hb3 r1 r2 hs1 hs2
      go_wp2_with fail
      exact bodyPost_ret (v := .agg #[.int .i64 _, .slice q3 2 d3]) (by simp [results, Try.results63, go_sem, Ty.kids, *]) rfl ⟨q3, d3, rfl, r3.cell.cell.drop, (E3.below.setCell (by simp) _).setCell (by simp) _⟩
  cases a
  case fn x y => exact two 4 (.inl rfl)
  case pr x y => exact two 5 (.inr rfl)
  all_goals (
    go_enter Try.func63, Try.ntmps63
    go_wp2_with fail
    refine (base _ _ (w.heap.size :: L)).mono ?_
    rintro e w1 ⟨q1, d1, rfl, r1, hb1⟩
    obtain ⟨hc, hf⟩ := bcell hb1
    have hsz : w.heap.size < w1.heap.size := by have := hb1.size; simp at this; omega
    go_wp2_with fail
    exact bodyPost_ret (v := .agg #[.int .i64 _, .slice q1 0 d1]) (by simp [results, Try.results63, go_sem, Ty.kids, Ty.kind, T.ground, T.ty, T.kind, *]) rfl ⟨q1, d1, rfl, r1.cell.cell.drop, ((((Ext.refl w).alloc _).trans hb1).below.setCell (by simp) _).setCell (by simp) _⟩)

def BinT (f : FuncId) (R : T → T → Bool) (n : Nat) : Prop := ∀ (a b : T) (w : World) q c q' c', a.size + b.size < n → TysRep [] w a.ty.kids q c → TysRep [] w b.ty.kids q' c' →
    Calls Try.prog f #[.agg #[.int .i64 a.kind, .slice q a.ty.kids.length c], .agg #[.int .i64 b.kind, .slice q' b.ty.kids.length c']] w (RetB w (R a b))

set_option maxHeartbeats 800000 in
theorem sub_fn (fs fo : FuncId) (hs : IsFn Try.prog fs) (ho : IsFn Try.prog fo) (S O : T → T → Bool) (n : Nat) (ihs : BinT fs S n) (iho : BinT fo O n) (a b x y : T) (w : World) (q c q' c') (h1 : x.size + a.size < n) (h2 : b.size + y.size < n)
    (hr : TysRep [] w (T.fn a b).ty.kids q c) (hr' : TysRep [] w (T.fn x y).ty.kids q' c') :
    Calls Try.prog 64 #[.agg #[.int .i64 4, .slice q 2 c], .agg #[.int .i64 4, .slice q' 2 c'], .func (.func fs) #[] #[], .func (.func fo) #[] #[]] w (RetB w (O x a && S b y)) := by
  unfold IsFn at hs ho
  obtain ⟨d, o, rfl, hd, c0, ⟨p1, e1, c1, r1⟩, c2, ⟨p2, e2, c3, r2⟩⟩ := hr.two
  obtain ⟨d', o', rfl, hd', c0', ⟨p1', e1', c1', r1'⟩, c2', ⟨p2', e2', c3', r2'⟩⟩ := hr'.two
  simp only [T.ty_kind] at c0 c2 c0' c2'
  obtain ⟨g1, g2, g3⟩ := les hd
  obtain ⟨g1', g2', g3'⟩ := les hd'
  have HO := fun (w' : World) (E : Ext w w') => iho x a w' p1' e1' p1 e1 h1 (r1'.keep (Keep.of_below E.below)) (r1.keep (Keep.of_below E.below))
  have HS := fun (w' : World) (E : Ext w w') => ihs b y w' p2 e2 p2' e2' h2 (r2.keep (Keep.of_below E.below)) (r2'.keep (Keep.of_below E.below))
  have HO' := Lib.hid HO; have HS' := Lib.hid HS
  clear HO HS hr hr' ihs iho h1 h2 r1 r2 r1' r2'
  generalize O x a = b1 at *
  generalize S b y = b2 at *
  cases b1
  · go_enter Try.func64, Try.ntmps64
    go_wp2_with fail
    refine region_mix 0 (by kernel_rfl) (by kernel_rfl) ?_
    repeat (first | (refine mix_skip (by rfl) (fun K hK => ?_); go_simp; refine hK _ ?_; clear hK K) | (refine mix_free rfl (fun K hK => ?_); go_simp; refine hK _ ?_; clear hK K) | (refine mix_read rfl rfl (fun K hK => ?_); go_simp; refine hK _ ?_; clear hK K))
    (refine mix_loud rfl (fun K K' hK hK' => ?_); go_simp)
    refine (HO'.out _ ((((Ext.refl w).alloc _).alloc _).trans (Below.drew (Below.refl _ _)))).mono ?_
    rintro e w1 ⟨rfl, hb⟩
    have E1 := (Ext.refl_drew _).trans hb
    refine hK _ _ E1 ?_
    clear hK hK' K K'
    repeat (first | (refine mix_skip (by rfl) (fun K hK => ?_); go_simp; refine hK _ ?_; clear hK K) | (refine mix_free rfl (fun K hK => ?_); go_simp; refine hK _ ?_; clear hK K) | (refine mix_read rfl rfl (fun K hK => ?_); go_simp; refine hK _ ?_; clear hK K))
    refine mix_nil ?_
    go_wp2_with fail
    go_ret
    exact ⟨rfl, ((((Ext.refl w).alloc _).alloc _).trans E1.below).below⟩
  · go_enter Try.func64, Try.ntmps64
    go_wp2_with fail
    refine region_mix 0 (by kernel_rfl) (by kernel_rfl) ?_
    repeat (first | (refine mix_skip (by rfl) (fun K hK => ?_); go_simp; refine hK _ ?_; clear hK K) | (refine mix_free rfl (fun K hK => ?_); go_simp; refine hK _ ?_; clear hK K) | (refine mix_read rfl rfl (fun K hK => ?_); go_simp; refine hK _ ?_; clear hK K))
    (refine mix_loud rfl (fun K K' hK hK' => ?_); go_simp)
    refine (HO'.out _ ((((Ext.refl w).alloc _).alloc _).trans (Below.drew (Below.refl _ _)))).mono ?_
    rintro e w1 ⟨rfl, hb⟩
    have E1 := (Ext.refl_drew _).trans hb
    refine hK _ _ E1 ?_
    clear hK hK' K K'
    repeat (first | (refine mix_skip (by rfl) (fun K hK => ?_); go_simp; refine hK _ ?_; clear hK K) | (refine mix_free rfl (fun K hK => ?_); go_simp; refine hK _ ?_; clear hK K) | (refine mix_read rfl rfl (fun K hK => ?_); go_simp; refine hK _ ?_; clear hK K))
    (refine mix_loud rfl (fun K K' hK hK' => ?_); go_simp)
    refine (HS'.out _ ((((Ext.refl w).alloc _).alloc _).trans E1.below)).mono ?_
    rintro e w2 ⟨rfl, hb2⟩
    have E2 := E1.trans hb2
    refine hK _ _ E2 ?_
    clear hK hK' K K'
    repeat (first | (refine mix_skip (by rfl) (fun K hK => ?_); go_simp; refine hK _ ?_; clear hK K) | (refine mix_free rfl (fun K hK => ?_); go_simp; refine hK _ ?_; clear hK K) | (refine mix_read rfl rfl (fun K hK => ?_); go_simp; refine hK _ ?_; clear hK K))
    refine mix_nil ?_
    go_wp2_with fail
    go_ret
    exact ⟨by simp, ((((Ext.refl w).alloc _).alloc _).trans E2.below).below⟩
set_option maxHeartbeats 800000 in
theorem sub_pr (fs fo : FuncId) (hs : IsFn Try.prog fs) (S : T → T → Bool) (n : Nat) (ihs : BinT fs S n) (a b x y : T) (w : World) (q c q' c') (h1 : a.size + x.size < n) (h2 : b.size + y.size < n)
    (hr : TysRep [] w (T.pr a b).ty.kids q c) (hr' : TysRep [] w (T.pr x y).ty.kids q' c') :
    Calls Try.prog 64 #[.agg #[.int .i64 5, .slice q 2 c], .agg #[.int .i64 5, .slice q' 2 c'], .func (.func fs) #[] #[], .func (.func fo) #[] #[]] w (RetB w (S a x && S b y)) := by
  unfold IsFn at hs
  obtain ⟨d, o, rfl, hd, c0, ⟨p1, e1, c1, r1⟩, c2, ⟨p2, e2, c3, r2⟩⟩ := hr.two
  obtain ⟨d', o', rfl, hd', c0', ⟨p1', e1', c1', r1'⟩, c2', ⟨p2', e2', c3', r2'⟩⟩ := hr'.two
  simp only [T.ty_kind] at c0 c2 c0' c2'
  obtain ⟨g1, g2, g3⟩ := les hd
  obtain ⟨g1', g2', g3'⟩ := les hd'
  have HO := fun (w' : World) (E : Ext w w') => ihs a x w' p1 e1 p1' e1' h1 (r1.keep (Keep.of_below E.below)) (r1'.keep (Keep.of_below E.below))
  have HS := fun (w' : World) (E : Ext w w') => ihs b y w' p2 e2 p2' e2' h2 (r2.keep (Keep.of_below E.below)) (r2'.keep (Keep.of_below E.below))
  have HO' := Lib.hid HO; have HS' := Lib.hid HS
  clear HO HS hr hr' ihs h1 h2 r1 r2 r1' r2'
  generalize S a x = b1 at *
  generalize S b y = b2 at *
  cases b1
  · go_enter Try.func64, Try.ntmps64
    go_wp2_with fail
    refine region_mix 0 (by kernel_rfl) (by kernel_rfl) ?_
    repeat (first | (refine mix_skip (by rfl) (fun K hK => ?_); go_simp; refine hK _ ?_; clear hK K) | (refine mix_free rfl (fun K hK => ?_); go_simp; refine hK _ ?_; clear hK K) | (refine mix_read rfl rfl (fun K hK => ?_); go_simp; refine hK _ ?_; clear hK K))
    (refine mix_loud rfl (fun K K' hK hK' => ?_); go_simp)
    refine (HO'.out _ ((((Ext.refl w).alloc _).alloc _).trans (Below.drew (Below.refl _ _)))).mono ?_
    rintro e w1 ⟨rfl, hb⟩
    have E1 := (Ext.refl_drew _).trans hb
    refine hK _ _ E1 ?_
    clear hK hK' K K'
    repeat (first | (refine mix_skip (by rfl) (fun K hK => ?_); go_simp; refine hK _ ?_; clear hK K) | (refine mix_free rfl (fun K hK => ?_); go_simp; refine hK _ ?_; clear hK K) | (refine mix_read rfl rfl (fun K hK => ?_); go_simp; refine hK _ ?_; clear hK K))
    refine mix_nil ?_
    go_wp2_with fail
    go_ret
    exact ⟨rfl, ((((Ext.refl w).alloc _).alloc _).trans E1.below).below⟩
  · go_enter Try.func64, Try.ntmps64
    go_wp2_with fail
    refine region_mix 0 (by kernel_rfl) (by kernel_rfl) ?_
    repeat (first | (refine mix_skip (by rfl) (fun K hK => ?_); go_simp; refine hK _ ?_; clear hK K) | (refine mix_free rfl (fun K hK => ?_); go_simp; refine hK _ ?_; clear hK K) | (refine mix_read rfl rfl (fun K hK => ?_); go_simp; refine hK _ ?_; clear hK K))
    (refine mix_loud rfl (fun K K' hK hK' => ?_); go_simp)
    refine (HO'.out _ ((((Ext.refl w).alloc _).alloc _).trans (Below.drew (Below.refl _ _)))).mono ?_
    rintro e w1 ⟨rfl, hb⟩
    have E1 := (Ext.refl_drew _).trans hb
    refine hK _ _ E1 ?_
    clear hK hK' K K'
    repeat (first | (refine mix_skip (by rfl) (fun K hK => ?_); go_simp; refine hK _ ?_; clear hK K) | (refine mix_free rfl (fun K hK => ?_); go_simp; refine hK _ ?_; clear hK K) | (refine mix_read rfl rfl (fun K hK => ?_); go_simp; refine hK _ ?_; clear hK K))
    (refine mix_loud rfl (fun K K' hK hK' => ?_); go_simp)
    refine (HS'.out _ ((((Ext.refl w).alloc _).alloc _).trans E1.below)).mono ?_
    rintro e w2 ⟨rfl, hb2⟩
    have E2 := E1.trans hb2
    refine hK _ _ E2 ?_
    clear hK hK' K K'
    repeat (first | (refine mix_skip (by rfl) (fun K hK => ?_); go_simp; refine hK _ ?_; clear hK K) | (refine mix_free rfl (fun K hK => ?_); go_simp; refine hK _ ?_; clear hK K) | (refine mix_read rfl rfl (fun K hK => ?_); go_simp; refine hK _ ?_; clear hK K))
    refine mix_nil ?_
    go_wp2_with fail
    go_ret
    exact ⟨by simp, ((((Ext.refl w).alloc _).alloc _).trans E2.below).below⟩

/-- what is asked of the parts -/
def Parts (n : Nat) (a b : T) : Prop := ∀ x ∈ a.kids, ∀ y ∈ b.kids, x.size + y.size < n

set_option maxHeartbeats 800000 in
theorem sub_any (fs fo : FuncId) (hs : IsFn Try.prog fs) (ho : IsFn Try.prog fo) (S O : T → T → Bool) (n : Nat) (ihs : BinT fs S n) (iho : BinT fo O n) (a b : T) (w : World) (q c q' c') (hp : Parts n a b)
    (hr : TysRep [] w a.ty.kids q c) (hr' : TysRep [] w b.ty.kids q' c') :
    Calls Try.prog 64 #[.agg #[.int .i64 a.kind, .slice q a.ty.kids.length c], .agg #[.int .i64 b.kind, .slice q' b.ty.kids.length c'], .func (.func fs) #[] #[], .func (.func fo) #[] #[]] w (RetB w (subF S O a b)) := by
  have off : a.kind ≠ b.kind → Calls Try.prog 64 #[.agg #[.int .i64 a.kind, .slice q a.ty.kids.length c], .agg #[.int .i64 b.kind, .slice q' b.ty.kids.length c'], .func (.func fs) #[] #[], .func (.func fo) #[] #[]] w (RetB w false) := by
    intro h
    have h1 : (a.kind != b.kind) = true := by simp [h]
    clear h hp hr hr' ihs iho
    generalize a.kind = k at *
    generalize b.kind = k' at *
    go_enter Try.func64, Try.ntmps64
    go_wp2_with fail
    go_ret
    exact ⟨rfl, (((Ext.refl w).alloc _).alloc _).below⟩
  have on : a.kind = b.kind → a.kind ≠ 4 → a.kind ≠ 5 → Calls Try.prog 64 #[.agg #[.int .i64 a.kind, .slice q a.ty.kids.length c], .agg #[.int .i64 b.kind, .slice q' b.ty.kids.length c'], .func (.func fs) #[] #[], .func (.func fo) #[] #[]] w (RetB w true) := by
    intro h h4 h5
    rw [← h]
    have h6 : (a.kind == 4) = false := by simp [h4]
    have h7 : (a.kind == 5) = false := by simp [h5]
    clear h hp hr hr' ihs iho h4 h5
    generalize a.kind = k at *
    go_enter Try.func64, Try.ntmps64
    go_wp2_with fail
    go_ret
    exact ⟨rfl, (((Ext.refl w).alloc _).alloc _).below⟩
  cases a <;> cases b
  case fn.fn a b x y => exact sub_fn fs fo hs ho S O n ihs iho a b x y w q c q' c' (by have := hp a (by simp [T.kids]) x (by simp [T.kids]); omega) (hp b (by simp [T.kids]) y (by simp [T.kids])) hr hr'
  case pr.pr a b x y => exact sub_pr fs fo hs S n ihs a b x y w q c q' c' (hp a (by simp [T.kids]) x (by simp [T.kids])) (hp b (by simp [T.kids]) y (by simp [T.kids])) hr hr'
  all_goals first
    | exact off (by simp [T.kind])
    | exact on rfl (by simp [T.kind]) (by simp [T.kind])
end Go.Proofs.Ytkkijdlgmlffoaa
