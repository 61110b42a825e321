/- The walk of the reference's draw of a type, with the depth drawn. -/
import Derived.Test.YtkkijdlgmlffoaaDr1
namespace Go.Proofs.Ytkkijdlgmlffoaa
open Go.RowKit Go.Proofs.Grad

set_option maxHeartbeats 1000000 in
theorem drawType (r N : Nat) (w : World) (hN : N + 16 ≤ 1099511627776) (hr : Rd w r N 61) :
    Calls Try.prog 47 #[.pointer (some ⟨r, 0, none⟩)] w (DrawR w r (N + 16) 4) := by
  have hlt := hr.lt
  have hp := fun (w' : World) (h : Rd w' r N 61) (hc : w'.heap[w.heap.size + 1]? = some (.cells #[.int .i64 3, .int .i64 2, .int .i64 4, .int .i64 1, .int .i64 3] 3 (0, 0))) =>
    num r N (by omega) [3, 2, 4, 1, 3] (by simp) (by simp) (w.heap.size + 1) (by omega) 3 w' h hc
  have HP := Lib.hid hp; clear hp
  have HR := Lib.hid hr; clear hr
  go_enter Try.func47, Try.ntmps47
  go_wp2_with fail
  refine (HP.out _ (HR.out.keep ((Ext.refl w).alloc _ |>.alloc _).below) (by rw [show w.heap.size + 1 = (w.alloc _).heap.size from by simp]; exact heap_alloc_new _ _)).mono ?_
  rintro e w1 ⟨x, rfl, hx, hb, hr1⟩
  have hx1 : 1 ≤ x ∧ x ≤ 4 := by simp at hx; omega
  have B1 : Bel [r] w w1 := (Bel.of_ext ((Ext.refl w).alloc _ |>.alloc _)).trans hb
  have hs := hb.size
  simp at hs
  have h0 : w1.heap[w.heap.size]? = some (.cells #[.int .i64 0, .slice none 0 0] 29 (0, 0)) := by
    rw [hb.block _ (by simp; omega) (by simp; omega), Below.heap_alloc _ _ _ (by simp)]; exact heap_alloc_new _ _
  have hne0 : ¬ w.heap.size = r := by omega
  clear hx hb HP HR
  have H0 := Lib.hid h0; clear h0
  go_wp2_with fail
  refine (draw 3 r (N + 1) x _ (by omega) (by omega) (by omega) (by rw [show B 3 = 15 from rfl]; omega) hr1).mono ?_
  rintro e w2 ⟨t, q, c, rfl, ht, hf, hb2, hr2⟩
  have h2 : w2.heap[w.heap.size]? = some (.cells #[.int .i64 0, .slice none 0 0] 29 (0, 0)) := by
    rw [hb2.block _ (by omega) (by simp; omega)]; exact H0.out
  have c0 := cell_of_heap (o := 0) h2 rfl
  have c1 := cell_of_heap (o := 1) h2 rfl
  have f0 := free_of_heap (o := 0) h2
  have f1 := free_of_heap (o := 1) h2
  clear h2 H0
  have HF := Lib.hid hf; clear hf
  have B2 := Lib.hid (B1.trans hb2); clear B1 hb2
  have HR2 := Lib.hid hr2; clear hr2 hr1
  go_wp2_with fail
  refine bodyPost_ret (v := .agg #[.int .i64 t.ty.kind, .slice q t.ty.kids.length c]) (by simp [results, Try.results47, go_sem, *]) rfl ⟨t, q, c, rfl, ht, ?_, (B2.out.setCell (.inr (by simp)) _).setCell (.inr (by simp)) _, ?_⟩
  · exact ((HF.out.setCell (p := ⟨w.heap.size, 0, none⟩) (by simp; omega) (.int .i64 t.ty.kind)).setCell (p := ⟨w.heap.size, 1, none⟩) (by simp; omega) (.slice q t.ty.kids.length c)).mono (by omega)
  · exact ((HR2.out.setCell (by omega) _).setCell (by omega) _).mono (by rw [show B 3 = 15 from rfl]; omega)
end Go.Proofs.Ytkkijdlgmlffoaa
