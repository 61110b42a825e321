/- The laws that the program's relations are the reference's. -/
import Derived.Test.YtkkijdlgmlffoaaTyX
import Derived.Test.YtkkijdlgmlffoaaTyL
import Derived.Test.YtkkijdlgmlffoaaSz
namespace Go.Proofs.Ytkkijdlgmlffoaa
open Go.RowKit Go.Proofs.Grad

set_option maxHeartbeats 1000000 in
theorem exPos_walk (a b : Ty) (w : World) (q c q' c') (hr : TysRep [] w a.kids q c) (hr' : TysRep [] w b.kids q' c') :
    Calls Try.prog 5 #[.agg #[.int .i64 a.kind, .slice q a.kids.length c], .agg #[.int .i64 b.kind, .slice q' b.kids.length c']] w (RetB w true) := by
  have hS1 := szS_le a.kids 1048576 (by omega)
  have hA := fun (w' : World) (E : Ext w w') => sz a 1048576 w' q c (by omega) (by omega) (hr.keep (Keep.of_below E.below))
  generalize hx : szS a.kids 1048576 = x at *
  have HX := Lib.hid hx; clear hx
  have HA := Lib.hid hA; clear hA
  by_cases hneg : x < 0
  · clear hr hr' hS1
    go_enter Try.func5, Try.ntmps5
    go_wp2_with fail
    refine (HA.out _ (((Ext.refl w).alloc _).alloc _)).mono ?_
    rintro e w1 ⟨rfl, hb⟩
    go_wp2_with fail
    go_ret
    exact ⟨rfl, ((((Ext.refl w).alloc _).alloc _).trans hb).below⟩
  · have hS2 := szS_le b.kids x (by omega)
    have hB := fun (w' : World) (E : Ext w w') => sz b x w' q' c' (by omega) (by omega) (hr'.keep (Keep.of_below E.below))
    generalize hy : szS b.kids x = y at *
    have HY := Lib.hid hy; clear hy
    have HB := Lib.hid hB; clear hB
    by_cases hneg2 : y < 0
    · clear hr hr' hS1 hS2
      go_enter Try.func5, Try.ntmps5
      go_wp2_with fail
      refine (HA.out _ (((Ext.refl w).alloc _).alloc _)).mono ?_
      rintro e w1 ⟨rfl, hb⟩
      obtain ⟨hc, hf⟩ := bcell hb
      have E1 := (((Ext.refl w).alloc _).alloc _).trans hb
      go_wp2_with fail
      refine (HB.out _ E1).mono ?_
      rintro e w2 ⟨rfl, hb2⟩
      go_wp2_with fail
      go_ret
      exact ⟨rfl, (E1.trans hb2).below⟩
    · have hza : Ty.sizes a.kids < 4294967296 := by omega
      have hzb : Ty.sizes b.kids < 4294967296 := by omega
      have TA := Lib.hid (fun (w' : World) (E : Ext w w') => toT a w' q c hza (hr.keep (Keep.of_below E.below)))
      have TB := Lib.hid (fun (w' : World) (E : Ext w w') => toT b w' q' c' hzb (hr'.keep (Keep.of_below E.below)))
      have hsame := Ty.same_refl a
      have hsameb := Ty.same_refl b
      have SS := Lib.hid (sSubPos a b); have SI := Lib.hid (iSubPos a b); have EA := Lib.hid (eqT a a); have EB := Lib.hid (eqT b b)
      generalize hbb : onT T.pos a b = bb at *
      rw [hsame] at EA
      rw [hsameb] at EB
      clear hr hr' hS1 hS2 hza hzb hsame hsameb hbb
      have P0 : ((w.alloc (.cells #[.int .i64 a.kind, .slice q a.kids.length c] 24)).alloc (.cells #[.int .i64 b.kind, .slice q' b.kids.length c'] 24)).cell? ⟨w.heap.size, 0, none⟩ = some (.int .i64 a.kind) ∧
          ((w.alloc (.cells #[.int .i64 a.kind, .slice q a.kids.length c] 24)).alloc (.cells #[.int .i64 b.kind, .slice q' b.kids.length c'] 24)).cell? ⟨w.heap.size, 1, none⟩ = some (.slice q a.kids.length c) ∧
          ((w.alloc (.cells #[.int .i64 a.kind, .slice q a.kids.length c] 24)).alloc (.cells #[.int .i64 b.kind, .slice q' b.kids.length c'] 24)).cell? ⟨w.heap.size + 1, 0, none⟩ = some (.int .i64 b.kind) ∧
          ((w.alloc (.cells #[.int .i64 a.kind, .slice q a.kids.length c] 24)).alloc (.cells #[.int .i64 b.kind, .slice q' b.kids.length c'] 24)).cell? ⟨w.heap.size + 1, 1, none⟩ = some (.slice q' b.kids.length c') := by
        refine ⟨?_, ?_, ?_, ?_⟩ <;> simp
      have PP := Lib.hid P0; clear P0
      go_enter Try.func5, Try.ntmps5
      go_wp2_with fail
      refine (HA.out _ (((Ext.refl w).alloc _).alloc _)).mono ?_
      rintro e w1 ⟨rfl, hb⟩
      have E0 := (((Ext.refl w).alloc (.cells #[.int .i64 a.kind, .slice q a.kids.length c] 24)).alloc (.cells #[.int .i64 b.kind, .slice q' b.kids.length c'] 24))
      have D1 := (Ext.refl _).trans hb
      obtain ⟨a0, a1, b0, b1⟩ := D1.cell4 PP.out
      clear hb
      go_wp2_with fail
      refine (HB.out _ (E0.trans D1.below)).mono ?_
      rintro e w2 ⟨rfl, hb⟩
      have D2 := D1.trans hb
      clear hb D1 a0 a1 b0 b1
      obtain ⟨a0, a1, b0, b1⟩ := D2.cell4 PP.out
      go_wp2_with fail
      refine region_mix 0 (by kernel_rfl) (by kernel_rfl) ?_
      repeat (first | (refine mix_skip (by rfl) (fun K hK => ?_); go_simp; refine hK _ ?_; clear hK K) | (refine mix_free rfl (fun K hK => ?_); go_simp; refine hK _ ?_; clear hK K) | (refine mix_read rfl rfl (fun K hK => ?_); go_simp; refine hK _ ?_; clear hK K))
      (refine mix_loud rfl (fun K K' hK hK' => ?_); go_simp)
      refine (TA.out _ (E0.trans D2.drew.below)).mono ?_
      rintro e w3 ⟨q3, c3, rfl, f3, hb⟩
      have X3 := (Ext.refl_drew _).trans hb
      have D3 := D2.drew.trans hb
      clear hb
      refine hK _ _ X3 ?_
      clear hK hK' K K'
      repeat (first | (refine mix_skip (by rfl) (fun K hK => ?_); go_simp; refine hK _ ?_; clear hK K) | (refine mix_free rfl (fun K hK => ?_); go_simp; refine hK _ ?_; clear hK K) | (refine mix_read rfl rfl (fun K hK => ?_); go_simp; refine hK _ ?_; clear hK K))
      (refine mix_loud rfl (fun K K' hK hK' => ?_); go_simp)
      refine (TB.out _ (E0.trans D3.below)).mono ?_
      rintro e w4 ⟨q4, c4, rfl, f4, hb⟩
      have X4 := X3.trans hb
      have D4 := D3.trans hb
      have r3 := (f3.below hb).rep (L := []) (by simp)
      clear hb f3
      refine hK _ _ X4 ?_
      clear hK hK' K K'
      repeat (first | (refine mix_skip (by rfl) (fun K hK => ?_); go_simp; refine hK _ ?_; clear hK K) | (refine mix_free rfl (fun K hK => ?_); go_simp; refine hK _ ?_; clear hK K) | (refine mix_read rfl rfl (fun K hK => ?_); go_simp; refine hK _ ?_; clear hK K))
      (refine mix_loud rfl (fun K K' hK hK' => ?_); go_simp)
      refine (SS.out _ _ _ _ _ r3 (f4.rep (by simp))).mono ?_
      rintro e w5 ⟨rfl, hb⟩
      have X5 := X4.trans hb
      have D5 := D4.trans hb
      clear hb r3 f4 SS
      refine hK _ _ X5 ?_
      clear hK hK' K K'
      repeat (first | (refine mix_skip (by rfl) (fun K hK => ?_); go_simp; refine hK _ ?_; clear hK K) | (refine mix_free rfl (fun K hK => ?_); go_simp; refine hK _ ?_; clear hK K) | (refine mix_read rfl rfl (fun K hK => ?_); go_simp; refine hK _ ?_; clear hK K))
      refine mix_nil ?_
      clear X3 X4 X5 D2 D3 D4 a0 a1 b0 b1
      obtain ⟨a0, a1, b0, b1⟩ := D5.cell4 PP.out
      go_wp2_with fail
      refine (TA.out _ (E0.trans D5.below)).mono ?_
      rintro e w6 ⟨q6, c6, rfl, f6, hb⟩
      have D6 := D5.trans hb
      clear hb D5 a0 a1 b0 b1
      obtain ⟨a0, a1, b0, b1⟩ := D6.cell4 PP.out
      have r6 := f6.rep (L := []) (by simp)
      clear f6
      have l0 := lt_of_cell a0
      have l1 := lt_of_cell b0
      go_wp2_with fail
      refine (TB.out _ ((E0.trans D6.below).alloc _)).mono ?_
      rintro e w7 ⟨q7, c7, rfl, f7, hb⟩
      have G7 := (Ext.refl _).trans hb
      have r6' : TysRep [] w7 a.kids q6 c6 := r6.keep ((Keep.alloc _ _ _).trans (Keep.of_below hb))
      have D7 := (D6.alloc _).trans hb
      have P6 : (w6.alloc (.cells #[.int .i64 a.kind, .slice q6 a.kids.length c6] 29)).cell? ⟨w6.heap.size, 0, none⟩ = some (.int .i64 a.kind) ∧ (w6.alloc (.cells #[.int .i64 a.kind, .slice q6 a.kids.length c6] 29)).cell? ⟨w6.heap.size, 1, none⟩ = some (.slice q6 a.kids.length c6) := by
        refine ⟨?_, ?_⟩ <;> simp
      clear hb a0 a1 b0 b1 r6 D6 l0 l1
      obtain ⟨a0, a1, b0, b1⟩ := D7.cell4 PP.out
      obtain ⟨x0, x1⟩ := G7.cell2 P6
      have r7 := f7.rep (L := []) (by simp)
      clear f7 P6 G7
      have l0 := lt_of_cell a0
      have l1 := lt_of_cell b0
      have l2 := lt_of_cell x0
      go_wp2_with fail
      refine (SI.out _ _ _ _ _ (r6'.keep (Keep.alloc _ _ _)) (C.rep.keep (Keep.alloc _ _ _) r7)).mono ?_
      rintro e w8 ⟨rfl, hb⟩
      have G8 := (Ext.refl _).trans hb
      have P7 : (w7.alloc (.cells #[.int .i64 b.kind, .slice q7 b.kids.length c7] 29)).cell? ⟨w7.heap.size, 0, none⟩ = some (.int .i64 b.kind) ∧ (w7.alloc (.cells #[.int .i64 b.kind, .slice q7 b.kids.length c7] 29)).cell? ⟨w7.heap.size, 1, none⟩ = some (.slice q7 b.kids.length c7) := by
        refine ⟨?_, ?_⟩ <;> simp
      have D8 := (D7.alloc _).trans hb
      have F8 := ((Ext.refl w7).alloc _).trans hb
      have ra : TysRep [] w8 a.kids q6 c6 := r6'.keep (Keep.of_below F8.below)
      have rb : TysRep [] w8 b.kids q7 c7 := C.rep.keep (Keep.of_below F8.below) r7
      obtain ⟨x0', x1'⟩ := F8.cell2 ⟨x0, x1⟩
      clear hb a0 a1 b0 b1 r6' r7 D7 l0 l1 l2 x0 x1 F8 SI
      obtain ⟨a0, a1, b0, b1⟩ := D8.cell4 PP.out
      obtain ⟨y0, y1⟩ := G8.cell2 P7
      clear P7 G8
      go_wp2_with fail
      refine region_mix 0 (by kernel_rfl) (by kernel_rfl) ?_
      repeat (first | (refine mix_skip (by rfl) (fun K hK => ?_); go_simp; refine hK _ ?_; clear hK K) | (refine mix_free rfl (fun K hK => ?_); go_simp; refine hK _ ?_; clear hK K) | (refine mix_read rfl rfl (fun K hK => ?_); go_simp; refine hK _ ?_; clear hK K))
      (refine mix_loud rfl (fun K K' hK hK' => ?_); go_simp)
      refine (TA.out _ (E0.trans D8.drew.below)).mono ?_
      rintro e w9 ⟨q9, c9, rfl, f9, hb⟩
      have X9 := (Ext.refl_drew _).trans hb
      refine hK _ _ X9 ?_
      clear hK hK' K K'
      repeat (first | (refine mix_skip (by rfl) (fun K hK => ?_); go_simp; refine hK _ ?_; clear hK K) | (refine mix_free rfl (fun K hK => ?_); go_simp; refine hK _ ?_; clear hK K) | (refine mix_read rfl rfl (fun K hK => ?_); go_simp; refine hK _ ?_; clear hK K))
      (refine mix_loud rfl (fun K K' hK hK' => ?_); go_simp)
      refine (EA.out _ _ _ _ _ (ra.keep (Keep.of_below X9.below)) (f9.rep (by simp))).mono ?_
      rintro e w10 ⟨rfl, hb2⟩
      have X10 := X9.trans hb2
      refine hK _ _ X10 ?_
      clear hK hK' K K'
      repeat (first | (refine mix_skip (by rfl) (fun K hK => ?_); go_simp; refine hK _ ?_; clear hK K) | (refine mix_free rfl (fun K hK => ?_); go_simp; refine hK _ ?_; clear hK K) | (refine mix_read rfl rfl (fun K hK => ?_); go_simp; refine hK _ ?_; clear hK K))
      refine mix_nil ?_
      have D10 := D8.trans X10.below
      have rb' := rb.keep (Keep.of_below (L := []) X10.below)
      obtain ⟨y0', y1'⟩ := X10.cell2 ⟨y0, y1⟩
      clear hb hb2 X9 X10 f9 ra rb D8 a0 a1 b0 b1 y0 y1 x0' x1' EA TA HA HB
      obtain ⟨a0, a1, b0, b1⟩ := D10.cell4 PP.out
      go_wp2_with fail
      refine region_mix 0 (by kernel_rfl) (by kernel_rfl) ?_
      repeat (first | (refine mix_skip (by rfl) (fun K hK => ?_); go_simp; refine hK _ ?_; clear hK K) | (refine mix_free rfl (fun K hK => ?_); go_simp; refine hK _ ?_; clear hK K) | (refine mix_read rfl rfl (fun K hK => ?_); go_simp; refine hK _ ?_; clear hK K))
      (refine mix_loud rfl (fun K K' hK hK' => ?_); go_simp)
      refine (TB.out _ (E0.trans D10.drew.below)).mono ?_
      rintro e w11 ⟨q11, c11, rfl, f11, hb⟩
      have X11 := (Ext.refl_drew _).trans hb
      refine hK _ _ X11 ?_
      clear hK hK' K K'
      repeat (first | (refine mix_skip (by rfl) (fun K hK => ?_); go_simp; refine hK _ ?_; clear hK K) | (refine mix_free rfl (fun K hK => ?_); go_simp; refine hK _ ?_; clear hK K) | (refine mix_read rfl rfl (fun K hK => ?_); go_simp; refine hK _ ?_; clear hK K))
      (refine mix_loud rfl (fun K K' hK hK' => ?_); go_simp)
      refine (EB.out _ _ _ _ _ (rb'.keep (Keep.of_below X11.below)) (f11.rep (by simp))).mono ?_
      rintro e w12 ⟨rfl, hb2⟩
      have X12 := X11.trans hb2
      refine hK _ _ X12 ?_
      clear hK hK' K K'
      repeat (first | (refine mix_skip (by rfl) (fun K hK => ?_); go_simp; refine hK _ ?_; clear hK K) | (refine mix_free rfl (fun K hK => ?_); go_simp; refine hK _ ?_; clear hK K) | (refine mix_read rfl rfl (fun K hK => ?_); go_simp; refine hK _ ?_; clear hK K))
      refine mix_nil ?_
      have D12 := D10.trans X12.below
      clear hb hb2 X11 X12 f11 rb' D10 a0 a1 b0 b1 y0' y1' EB TB
      go_wp2_with fail
      go_ret
      exact ⟨rfl, (E0.trans D12.below).below⟩
end Go.Proofs.Ytkkijdlgmlffoaa
