/- The walks of the reference's draws of a pair of types. -/
import Derived.Test.YtkkijdlgmlffoaaMut
namespace Go.Proofs.Ytkkijdlgmlffoaa
open Go.RowKit Go.Proofs.Grad

theorem Bytes.keep {w w' : World} {q : Option Addr} {n c : Nat} (h : Bytes w q n c) (hb : Below w.heap.size w w') : Bytes w' q n c := by
  refine ⟨h.1, h.2.1, fun i hi => ?_⟩
  obtain ⟨b, off, x, g1, g2, g3, g4⟩ := h.2.2 i hi
  exact ⟨b, off, x, g1, Nat.lt_of_lt_of_le g2 hb.size, by rw [hb.cell (p := ⟨b, off + i, none⟩) g2]; exact g3, g4⟩

/-- two drawn types -/
def PairR (L : List Nat) (w : World) (e : Ending) (w' : World) : Prop :=
  ∃ (x y : Ty) (q q' : Option Addr) (c c' : Nat), e = .returned (.tuple #[.agg #[.int .i64 x.kind, .slice q x.kids.length c], .agg #[.int .i64 y.kind, .slice q' y.kids.length c']]) ∧ x.size ≤ 100 ∧ y.size ≤ 100 ∧ TysRep L w' x.kids q c ∧ TysRep L w' y.kids q' c' ∧ Below w.heap.size w w'

set_option maxHeartbeats 2000000 in
theorem drawPair (L : List Nat) (w : World) (q : Option Addr) (n c : Nat) (hB : Bytes w q n c) (hL : ∀ b ∈ L, b < w.heap.size) : Calls Try.prog 23 #[.slice q n c] w (PairR L w) := by
  have hBB := Lib.hid hB; clear hB
  have HL := Lib.hid hL; clear hL
  go_enter Try.func23, Try.ntmps23
  go_wp2_with fail
  refine (opn _ q n c (hBB.out.keep ((Ext.refl w).alloc _ |>.alloc _).below)).mono ?_
  rintro e w1 ⟨rfl, hb1, hrd⟩
  have s1 := hb1.size
  have hr1 := hrd.lt
  simp at s1 hr1
  rw [show ((w.alloc (.cells #[.int .i64 0, .slice none 0 0] 29 (0, 0))).alloc (.cells #[.int .i64 0, .slice none 0 0] 29 (0, 0))).heap.size = w.heap.size + 1 + 1 from by simp] at *
  generalize hr : w.heap.size + 1 + 1 = r at *
  have g0 : w1.heap[w.heap.size]? = some (.cells #[.int .i64 0, .slice none 0 0] 29 (0, 0)) := by
    rw [hb1.block _ (by omega), Below.heap_alloc _ _ _ (by simp)]; exact heap_alloc_new _ _
  have g1 : w1.heap[w.heap.size + 1]? = some (.cells #[.int .i64 0, .slice none 0 0] 29 (0, 0)) := by
    rw [hb1.block _ (by omega), show w.heap.size + 1 = (w.alloc _).heap.size from by simp]; exact heap_alloc_new _ _
  have B1 : Below w.heap.size w w1 := ((Ext.refl w).alloc _ |>.alloc _).below.trans (hb1.mono (by omega))
  have G0 := Lib.hid g0; have G1 := Lib.hid g1; have BL1 := Lib.hid B1; have RD := Lib.hid hrd; have HR := Lib.hid hr
  clear g0 g1 B1 hrd hb1 hr
  go_wp2_with fail
  refine (drawType r 0 w1 (by omega) RD.out).mono ?_
  rintro e w2 ⟨t, qt, ct, rfl, htd, hf, hb2, hr2⟩
  have s2 := hb2.size
  have hwr : w.heap.size + 1 < r := by have := HR.out; omega
  have hnr0 : ¬ w.heap.size = r := by have := HR.out; omega
  have hnr1 : ¬ w.heap.size + 1 = r := by have := HR.out; omega
  have hnr2 : ¬ w2.heap.size = r := by omega
  go_wp2_with fail
  refine (pick r 16 (by omega) 4 (by omega) (by omega) _ (hr2.keep ((Ext.refl _).alloc _).below)).mono ?_
  rintro e w3 ⟨z, rfl, hz0, hz1, hb3, hr3⟩
  have s3 := hb3.size
  simp at s3
  have k0 : w3.heap[w.heap.size]? = some (.cells #[.int .i64 0, .slice none 0 0] 29 (0, 0)) := by
    rw [hb3.block _ (by simp; omega) (by simpa using hnr0), Below.heap_alloc _ _ _ (by omega), hb2.block _ (by omega) (by simpa using hnr0)]; exact G0.out
  have k1 : w3.heap[w.heap.size + 1]? = some (.cells #[.int .i64 0, .slice none 0 0] 29 (0, 0)) := by
    rw [hb3.block _ (by simp; omega) (by simpa using hnr1), Below.heap_alloc _ _ _ (by omega), hb2.block _ (by omega) (by simpa using hnr1)]; exact G1.out
  have k2 : w3.heap[w2.heap.size]? = some (.cells #[.int .i64 t.ty.kind, .slice qt t.ty.kids.length ct] 29 (0, 0)) := by
    rw [hb3.block _ (by simp) (by simpa using hnr2)]; exact heap_alloc_new _ _
  have B3 : Bel [r] w1 w3 := (hb2.alloc _).trans hb3
  have P3 : TysRep [r] w3 t.ty.kids qt ct := ((hf.rep (L := [r]) (by simpa using hr1)).keep (Keep.of_below ((Ext.refl _).alloc _).below)).keep hb3.keep
  have hcapt : ct ≤ 9223372036854775807 := P3.len.2
  have hlt := P3.len.1
  have BB3 := Lib.hid B3; have PP3 := Lib.hid P3; have K0 := Lib.hid k0; have K1 := Lib.hid k1; have RD3 := Lib.hid hr3; have K2 := Lib.hid k2
  have c20 := cell_of_heap (o := 0) k2 rfl
  have c21 := cell_of_heap (o := 1) k2 rfl
  clear B3 P3 k0 k1 k2 hr3 hb3 hb2 hr2 hf hz1 G0 G1 RD hBB
  have fin : ∀ (w4 w5 : World) (x y : Ty) (q q' : Option Addr) (c c' : Nat), x.size ≤ 100 → y.size ≤ 100 → TysRep (r :: w.heap.size :: (w.heap.size + 1) :: L) w5 x.kids q c → TysRep (r :: w.heap.size :: (w.heap.size + 1) :: L) w5 y.kids q' c' → Bel [r] w1 w5 →
      PairR L w (.returned (.tuple #[.agg #[.int .i64 x.kind, .slice q x.kids.length c], .agg #[.int .i64 y.kind, .slice q' y.kids.length c']])) ((((w5.setCell ⟨w.heap.size, 0, none⟩ (.int .i64 x.kind)).setCell ⟨w.heap.size, 1, none⟩ (.slice q x.kids.length c)).setCell ⟨w.heap.size + 1, 0, none⟩ (.int .i64 y.kind)).setCell ⟨w.heap.size + 1, 1, none⟩ (.slice q' y.kids.length c')) := by
    intro w4 w5 x y q q' c c' h1 h2 h3 h4 h5
    have hrr := HR.out
    refine ⟨x, y, q, q', c, c', rfl, h1, h2, ?_, ?_, (((((BL1.out.trans (h5.below (by simp; omega) (by omega))).setCell (by simp) _).setCell (by simp) _).setCell (by simp) _).setCell (by simp) _)⟩
    · exact ((((h3.keep (Keep.setCell (by simp) _)).keep (Keep.setCell (by simp) _)).keep (Keep.setCell (by simp) _)).keep (Keep.setCell (by simp) _)).mono (by intro b hb; simp [hb])
    · exact ((((h4.keep (Keep.setCell (by simp) _)).keep (Keep.setCell (by simp) _)).keep (Keep.setCell (by simp) _)).keep (Keep.setCell (by simp) _)).mono (by intro b hb; simp [hb])
  have HL2 := Lib.hid (show ∀ b ∈ (w.heap.size :: (w.heap.size + 1) :: L), b < w.heap.size + 2 from by
    intro b hb; simp only [List.mem_cons] at hb; rcases hb with h | h | h
    · omega
    · omega
    · have := HL.out b h; omega)
  have FIN := Lib.hid fin; clear fin
  have hd1 : ¬ w.heap.size + 1 = w.heap.size := by omega
  by_cases hz : z = 0
  · subst hz
    go_wp2_with fail
    refine (mutate (w.heap.size :: (w.heap.size + 1) :: L) t.ty (size_le t htd) r 17 w3 qt ct (by omega) RD3.out PP3.out (fun b hb => by have := HL2.out b hb; omega)).mono ?_
    rintro e w4 ⟨x, qx, cx, rfl, hxs, hxr, hb4, hr4⟩
    have s4 := hb4.size
    have HX := Lib.hid hxr; have B4 := Lib.hid hb4; have R4 := Lib.hid hr4
    clear hxr hb4 hr4 c20 c21
    go_wp2_with fail
    refine (drawType r 19 w4 (by omega) R4.out).mono ?_
    rintro e w5 ⟨y, qy, cy, rfl, hyd, hf, hb5, hr5⟩
    have k0 : w5.heap[w.heap.size]? = some (.cells #[.int .i64 0, .slice none 0 0] 29 (0, 0)) := by
      rw [hb5.block _ (by omega) (by simpa using hnr0), B4.out.block _ (by omega) (by simpa using hnr0)]; exact K0.out
    have k1 : w5.heap[w.heap.size + 1]? = some (.cells #[.int .i64 0, .slice none 0 0] 29 (0, 0)) := by
      rw [hb5.block _ (by omega) (by simpa using hnr1), B4.out.block _ (by omega) (by simpa using hnr1)]; exact K1.out
    have hys := size_le y hyd
    have PY := Lib.hid (show TysRep (r :: w.heap.size :: (w.heap.size + 1) :: L) w5 y.ty.kids qy cy from hf.rep (by intro b hb; rcases List.mem_cons.1 hb with rfl | hb; omega; have := HL2.out b hb; omega))
    have PX := Lib.hid (show TysRep (r :: w.heap.size :: (w.heap.size + 1) :: L) w5 x.kids qx cx from HX.out.keep (hb5.mono (by simp)).keep)
    have BB5 := Lib.hid ((BB3.out.trans B4.out).trans hb5)
    have c00 := cell_of_heap (o := 0) k0 rfl
    have c01 := cell_of_heap (o := 1) k0 rfl
    have c10 := cell_of_heap (o := 0) k1 rfl
    have c11 := cell_of_heap (o := 1) k1 rfl
    have f00 := free_of_heap (o := 0) k0
    have f01 := free_of_heap (o := 1) k0
    have f10 := free_of_heap (o := 0) k1
    have f11 := free_of_heap (o := 1) k1
    clear k0 k1 hf hb5 hr5 hyd htd
    go_wp2_with fail
    exact bodyPost_ret (v := .tuple #[.agg #[.int .i64 x.kind, .slice qx x.kids.length cx], .agg #[.int .i64 y.ty.kind, .slice qy y.ty.kids.length cy]]) (by simp [results, Try.results23, go_sem, *]) rfl (FIN.out w4 w5 x y.ty qx qy cx cy hxs (by omega) PX.out PY.out BB5.out)
  · have hzb : (z == 0) = false := by simpa using hz
    clear hz
    go_wp2_with fail
    refine region_mixL [r] 2 (by kernel_rfl) (by kernel_rfl) ?_
    repeat (first | (refine mixL_skip (by rfl) (fun K hK => ?_); go_simp; refine hK _ ?_; clear hK K) | (refine mixL_free rfl (fun K hK => ?_); go_simp; refine hK _ ?_; clear hK K) | (refine mixL_read rfl rfl (fun K hK => ?_); go_simp; refine hK _ ?_; clear hK K))
    (refine mixL_loud rfl (fun K K' hK hK' => ?_); go_simp)
    refine (mutate (w.heap.size :: (w.heap.size + 1) :: L) t.ty (size_le t htd) r 17 _ qt ct (by omega) (RD3.out.keep (Ext.refl_drew _).below) (PP3.out.keep (Keep.drew _ _)) (fun b hb => by have := HL2.out b hb; simp; omega)).mono ?_
    rintro e w4 ⟨x, qx, cx, rfl, hxs, hxr, hb4, hr4⟩
    have X4 : Bel [r] w3 w4 := ((Bel.refl _ _).drew).trans hb4
    refine hK _ _ X4 ?_
    clear hK hK' K K'
    repeat (first | (refine mixL_skip (by rfl) (fun K hK => ?_); go_simp; refine hK _ ?_; clear hK K) | (refine mixL_free rfl (fun K hK => ?_); go_simp; refine hK _ ?_; clear hK K) | (refine mixL_read rfl rfl (fun K hK => ?_); go_simp; refine hK _ ?_; clear hK K))
    (refine mixL_loud rfl (fun K K' hK hK' => ?_); go_simp)
    refine (near 3 t r 19 w4 qt ct (by omega) htd (by rw [show B 3 = 15 from rfl]; omega) hr4 (PP3.out.keep X4.keep)).mono ?_
    rintro e w5 ⟨y, qy, cy, rfl, hyd, hf, hb5, hr5⟩
    refine hK _ _ (X4.trans hb5) ?_
    clear hK hK' K K'
    have s4 := hb4.size
    simp at s4
    have k0 : w5.heap[w.heap.size]? = some (.cells #[.int .i64 0, .slice none 0 0] 29 (0, 0)) := by
      rw [hb5.block _ (by omega) (by simpa using hnr0), X4.block _ (by omega) (by simpa using hnr0)]; exact K0.out
    have k1 : w5.heap[w.heap.size + 1]? = some (.cells #[.int .i64 0, .slice none 0 0] 29 (0, 0)) := by
      rw [hb5.block _ (by omega) (by simpa using hnr1), X4.block _ (by omega) (by simpa using hnr1)]; exact K1.out
    have hys := size_le y hyd
    have PY := Lib.hid (show TysRep (r :: w.heap.size :: (w.heap.size + 1) :: L) w5 y.ty.kids qy cy from hf.rep (by intro b hb; rcases List.mem_cons.1 hb with rfl | hb; omega; have := HL2.out b hb; omega))
    have PX := Lib.hid (show TysRep (r :: w.heap.size :: (w.heap.size + 1) :: L) w5 x.kids qx cx from hxr.keep (hb5.mono (by simp)).keep)
    have BB5 := Lib.hid ((BB3.out.trans X4).trans hb5)
    clear hxr hb4 hr4 c20 c21 X4
    have c00 := cell_of_heap (o := 0) k0 rfl
    have c01 := cell_of_heap (o := 1) k0 rfl
    have c10 := cell_of_heap (o := 0) k1 rfl
    have c11 := cell_of_heap (o := 1) k1 rfl
    have f00 := free_of_heap (o := 0) k0
    have f01 := free_of_heap (o := 1) k0
    have f10 := free_of_heap (o := 0) k1
    have f11 := free_of_heap (o := 1) k1
    clear k0 k1 hf hb5 hr5 hyd htd
    (refine mixL_last rfl (by decide) (fun K K' hK hK' => ?_); go_simp)
    refine hK _ _ ?_
    clear hK hK' K K'
    (refine mixL_last rfl (by decide) (fun K K' hK hK' => ?_); go_simp)
    refine hK _ _ ?_
    clear hK hK' K K'
    refine mixL_nil ?_
    go_wp2_with fail
    exact bodyPost_ret (v := .tuple #[.agg #[.int .i64 x.kind, .slice qx x.kids.length cx], .agg #[.int .i64 y.ty.kind, .slice qy y.ty.kids.length cy]]) (by simp [results, Try.results23, go_sem, *]) rfl (FIN.out w4 w5 x y.ty qx qy cx cy hxs (by omega) PX.out PY.out BB5.out)
end Go.Proofs.Ytkkijdlgmlffoaa
