/- The walks of the reference's draws of the laws' arguments. -/
import Derived.Test.YtkkijdlgmlffoaaPair
namespace Go.Proofs.Ytkkijdlgmlffoaa
open Go.RowKit Go.Proofs.Grad

set_option maxHeartbeats 1000000 in
theorem drawSub (L : List Nat) (w : World) (q : Option Addr) (n c : Nat) (hB : Bytes w q n c) (hL : ∀ b ∈ L, b < w.heap.size) : Calls Try.prog 21 #[.slice q n c] w (PairR L w) := by
  have hBB := Lib.hid hB; clear hB
  have HL := Lib.hid hL; clear hL
  go_enter Try.func21, Try.ntmps21
  go_wp2_with fail
  refine (drawPair (w.heap.size :: (w.heap.size + 1) :: L) _ q n c (hBB.out.keep ((Ext.refl w).alloc _ |>.alloc _).below) (by intro b hb; simp only [List.mem_cons] at hb; simp; rcases hb with h | h | h; omega; omega; have := HL.out b h; omega)).mono ?_
  rintro e w5 ⟨x, y, qx, qy, cx, cy, rfl, hxs, hys, hx, hy, hb⟩
  have s := hb.size
  simp at s
  have k0 : w5.heap[w.heap.size]? = some (.cells #[.int .i64 0, .slice none 0 0] 29 (0, 0)) := by
    rw [hb.block _ (by simp <;> omega), Below.heap_alloc _ _ _ (by simp)]; exact heap_alloc_new _ _
  have k1 : w5.heap[w.heap.size + 1]? = some (.cells #[.int .i64 0, .slice none 0 0] 29 (0, 0)) := by
    rw [hb.block _ (by simp), show w.heap.size + 1 = (w.alloc _).heap.size from by simp]; exact heap_alloc_new _ _
  have B := ((Ext.refl w).alloc (.cells #[.int .i64 0, .slice none 0 0] 29 (0, 0)) |>.alloc (.cells #[.int .i64 0, .slice none 0 0] 29 (0, 0))).below.trans (hb.mono (by simp; omega))
  have BB := Lib.hid B; have HX := Lib.hid hx; have HY := Lib.hid hy
  have c00 := cell_of_heap (o := 0) k0 rfl
  have c01 := cell_of_heap (o := 1) k0 rfl
  have c10 := cell_of_heap (o := 0) k1 rfl
  have c11 := cell_of_heap (o := 1) k1 rfl
  have f00 := free_of_heap (o := 0) k0
  have f01 := free_of_heap (o := 1) k0
  have f10 := free_of_heap (o := 0) k1
  have f11 := free_of_heap (o := 1) k1
  have hd1 : ¬ w.heap.size + 1 = w.heap.size := by omega
  clear k0 k1 hx hy hb B hBB
  go_wp2_with fail
  refine bodyPost_ret (v := .tuple #[.agg #[.int .i64 x.kind, .slice qx x.kids.length cx], .agg #[.int .i64 y.kind, .slice qy y.kids.length cy]]) (by simp [results, Try.results21, go_sem, *]) rfl ⟨x, y, qx, qy, cx, cy, rfl, hxs, hys, ?_, ?_, ((((BB.out.setCell (by simp) _).setCell (by simp) _).setCell (by simp) _).setCell (by simp) _)⟩
  · exact ((((HX.out.keep (Keep.setCell (by simp) _)).keep (Keep.setCell (by simp) _)).keep (Keep.setCell (by simp) _)).keep (Keep.setCell (by simp) _)).mono (by intro b hb; simp [hb])
  · exact ((((HY.out.keep (Keep.setCell (by simp) _)).keep (Keep.setCell (by simp) _)).keep (Keep.setCell (by simp) _)).keep (Keep.setCell (by simp) _)).mono (by intro b hb; simp [hb])

/-- one drawn type -/
def TypR (L : List Nat) (w : World) (e : Ending) (w' : World) : Prop :=
  ∃ (x : Ty) (q : Option Addr) (c : Nat), e = .returned (.agg #[.int .i64 x.kind, .slice q x.kids.length c]) ∧ x.size ≤ 100 ∧ TysRep L w' x.kids q c ∧ Below w.heap.size w w'

set_option maxHeartbeats 1000000 in
theorem drawValid (L : List Nat) (w : World) (q : Option Addr) (n c : Nat) (hB : Bytes w q n c) (hL : ∀ b ∈ L, b < w.heap.size) : Calls Try.prog 60 #[.slice q n c] w (TypR L w) := by
  have hBB := Lib.hid hB; clear hB
  have HL := Lib.hid hL; clear hL
  go_enter Try.func60, Try.ntmps60
  go_wp2_with fail
  refine (opn _ q n c (hBB.out.keep ((Ext.refl w).alloc _).below)).mono ?_
  rintro e w1 ⟨rfl, hb1, hrd⟩
  have s1 := hb1.size
  have hr1 := hrd.lt
  simp at s1 hr1
  rw [show (w.alloc (.cells #[.int .i64 0, .slice none 0 0] 29 (0, 0))).heap.size = w.heap.size + 1 from by simp] at *
  generalize hr : w.heap.size + 1 = r at *
  have g0 : w1.heap[w.heap.size]? = some (.cells #[.int .i64 0, .slice none 0 0] 29 (0, 0)) := by
    rw [hb1.block _ (by omega)]; exact heap_alloc_new _ _
  have B1 : Below w.heap.size w w1 := ((Ext.refl w).alloc _).below.trans (hb1.mono (by omega))
  have G0 := Lib.hid g0; have BL1 := Lib.hid B1; have RD := Lib.hid hrd
  have hwr : w.heap.size < r := by omega
  have hnr0 : ¬ w.heap.size = r := by omega
  clear g0 B1 hrd hb1 hr
  go_wp2_with fail
  refine (drawType r 0 w1 (by omega) RD.out).mono ?_
  rintro e w2 ⟨t, qt, ct, rfl, htd, hf, hb2, hr2⟩
  have s2 := hb2.size
  have P2 : TysRep [r] w2 t.ty.kids qt ct := hf.rep (L := [r]) (by simpa using hr1)
  have hcapt : ct ≤ 9223372036854775807 := P2.len.2
  have hlt := P2.len.1
  have PP2 := Lib.hid P2; have BB2 := Lib.hid hb2; have R2 := Lib.hid hr2
  clear P2 hf hb2 hr2
  go_wp2_with fail
  refine (mutate (w.heap.size :: L) t.ty (size_le t htd) r 16 w2 qt ct (by omega) R2.out PP2.out (by intro b hb; rcases List.mem_cons.1 hb with rfl | hb; omega; have := HL.out b hb; omega)).mono ?_
  rintro e w4 ⟨x, qx, cx, rfl, hxs, hxr, hb4, hr4⟩
  have k0 : w4.heap[w.heap.size]? = some (.cells #[.int .i64 0, .slice none 0 0] 29 (0, 0)) := by
    rw [hb4.block _ (by omega) (by simpa using hnr0), BB2.out.block _ (by omega) (by simpa using hnr0)]; exact G0.out
  have B4 := Lib.hid (BL1.out.trans ((BB2.out.trans hb4).below (B := w.heap.size) (by simp; omega) (by omega)))
  have HX := Lib.hid hxr
  have c00 := cell_of_heap (o := 0) k0 rfl
  have c01 := cell_of_heap (o := 1) k0 rfl
  have f00 := free_of_heap (o := 0) k0
  have f01 := free_of_heap (o := 1) k0
  clear k0 hxr hb4 hr4
  go_wp2_with fail
  refine bodyPost_ret (v := .agg #[.int .i64 x.kind, .slice qx x.kids.length cx]) (by simp [results, Try.results60, go_sem, *]) rfl ⟨x, qx, cx, rfl, hxs, ?_, (B4.out.setCell (by simp) _).setCell (by simp) _⟩
  exact ((HX.out.keep (Keep.setCell (by simp) _)).keep (Keep.setCell (by simp) _)).mono (by intro b hb; simp [hb])

set_option maxHeartbeats 1000000 in
theorem drawRefine (L : List Nat) (w : World) (q : Option Addr) (n c : Nat) (hB : Bytes w q n c) (hL : ∀ b ∈ L, b < w.heap.size) : Calls Try.prog 34 #[.slice q n c] w (TypR L w) := by
  have hBB := Lib.hid hB; clear hB
  have HL := Lib.hid hL; clear hL
  go_enter Try.func34, Try.ntmps34
  go_wp2_with fail
  refine (drawValid (w.heap.size :: L) _ q n c (hBB.out.keep ((Ext.refl w).alloc _).below) (by intro b hb; simp; rcases List.mem_cons.1 hb with rfl | hb; omega; have := HL.out b hb; omega)).mono ?_
  rintro e w5 ⟨x, qx, cx, rfl, hxs, hx, hb⟩
  have s := hb.size
  simp at s
  have k0 : w5.heap[w.heap.size]? = some (.cells #[.int .i64 0, .slice none 0 0] 29 (0, 0)) := by
    rw [hb.block _ (by simp)]; exact heap_alloc_new _ _
  have BB := Lib.hid (((Ext.refl w).alloc (.cells #[.int .i64 0, .slice none 0 0] 29 (0, 0))).below.trans (hb.mono (by simp)))
  have HX := Lib.hid hx
  have c00 := cell_of_heap (o := 0) k0 rfl
  have c01 := cell_of_heap (o := 1) k0 rfl
  have f00 := free_of_heap (o := 0) k0
  have f01 := free_of_heap (o := 1) k0
  clear k0 hx hb hBB
  go_wp2_with fail
  refine bodyPost_ret (v := .agg #[.int .i64 x.kind, .slice qx x.kids.length cx]) (by simp [results, Try.results34, go_sem, *]) rfl ⟨x, qx, cx, rfl, hxs, ?_, (BB.out.setCell (by simp) _).setCell (by simp) _⟩
  exact ((HX.out.keep (Keep.setCell (by simp) _)).keep (Keep.setCell (by simp) _)).mono (by intro b hb; simp [hb])
end Go.Proofs.Ytkkijdlgmlffoaa
