/- The walk of the reference's ground type. -/
import Derived.Test.YtkkijdlgmlffoaaOwn
namespace Go.Proofs.Ytkkijdlgmlffoaa
open Go.RowKit Go.Proofs.Grad

def anyT : Ty := .mk 1 []

theorem sAny (w : World) : Calls Try.prog 68 #[] w (RetTy tid w anyT) := by
  go_enter Try.func68, Try.ntmps68
  go_wp2_with fail
  exact bodyPost_ret (v := .agg #[.int .i64 1, .slice none 0 0]) (by simp [results, Try.results68, go_sem]) rfl ⟨none, 0, rfl, ⟨[], by simp [C.own, Ty.css, Ty.kids, anyT], by simp, by simp⟩, ((Ext.refl w).alloc _).below⟩

set_option maxHeartbeats 400000 in
theorem sGround' (k : Int) (m : Nat) (hm : m ≤ 4294967296) (w : World) (q c) (hmc : m ≤ c) (hc : c ≤ maxLen) : Calls Try.prog 62 #[.agg #[.int .i64 k, .slice q m c]] w (RetTy tid w (.mk k (List.replicate m anyT))) := by
  have hcap : c ≤ 9223372036854775807 := hc
  clear hc
  go_enter Try.func62, Try.ntmps62
  go_wp2_with fail
  go_loopw [4] (fun iv wr => ∃ (i : Nat) (v : Value), i ≤ m ∧ iv = .int .i64 i ∧ Bld tid wr (w.heap.size + 3) 2 i (Ty.css (List.replicate i anyT)) v ∧
      wr.heap[w.heap.size + 1 + 1]? = some (.cells #[.int .i64 k, v] 29 (0, 0)) ∧ wr.heap[w.heap.size + 1]? = some (.cells #[.int .i64 0, .slice none 0 0] 29 (0, 0)) ∧ wr.heap[w.heap.size]? = some (.cells #[.int .i64 k, .slice q m c] 29 (0, 0)) ∧ Below w.heap.size w wr) (fun iv _ => m - (intOf iv).toNat)
  case atStart =>
    refine ⟨0, .slice none 0 0, Nat.zero_le _, rfl, Bld.start _ _ _ _, ?_, ?_, ?_, (((Ext.refl w).alloc _).alloc _).alloc _ |>.below⟩
    · rw [show w.heap.size + 1 + 1 = ((w.alloc _).alloc _).heap.size from by simp]; exact heap_alloc_new _ _
    · rw [Below.heap_alloc _ _ _ (by simp), show w.heap.size + 1 = (w.alloc _).heap.size from by simp]; exact heap_alloc_new _ _
    · rw [Below.heap_alloc _ _ _ (by simp; omega), Below.heap_alloc _ _ _ (by simp)]; exact heap_alloc_new _ _
  case round =>
    obtain ⟨i, v, hi, rfl, hB, hb2, hb1, hb0, hbw⟩ := hrel
    have c00 := cell_of_heap (o := 0) hb0 rfl
    have c01 := cell_of_heap (o := 1) hb0 rfl
    have c20 := cell_of_heap (o := 0) hb2 rfl
    have c21 := cell_of_heap (o := 1) hb2 rfl
    have hsz2 := lt_of_heap hb2
    by_cases hil : i < m
    · have htk : Ty.css (List.replicate (i + 1) anyT) = Ty.css (List.replicate i anyT) ++ anyT.cs := by
        rw [Ty.css_eq, Ty.css_eq, List.replicate_succ', List.flatMap_append]; simp
      have HB2 := Lib.hid hb2; have HB1 := Lib.hid hb1; have HB0 := Lib.hid hb0; clear hb2 hb1 hb0
      have HT := Lib.hid htk; clear htk
      go_wp2_with fail
      refine region_mix 3 (by kernel_rfl) (by kernel_rfl) ?_
      iterate 2 (first | (refine mix_skip (by rfl) (fun K hK => ?_); go_simp; refine hK _ ?_; clear hK K) | (refine mix_free rfl (fun K hK => ?_); go_simp; refine hK _ ?_; clear hK K) | (refine mix_read rfl rfl (fun K hK => ?_); go_simp; refine hK _ ?_; clear hK K))
      (refine mix_loud rfl (fun K K' hK hK' => ?_); go_simp)
      refine (sAny _).mono ?_
      rintro e w1 ⟨q', cap'', rfl, hf, hb⟩
      have he : Ext wr w1 := (Ext.refl_drew _).trans hb
      refine hK _ _ he ?_
      clear hK hK' K K'
      (refine mix_loud rfl (fun K K' hK hK' => ?_); go_simp)
      refine hK _ _ (he.alloc _) ?_
      clear hK hK' K K'
      (refine mix_last rfl (by decide) (fun K K' hK hK' => ?_); rw [if_pos (by rfl)])
      refine wp_bld (v := v) (ys := #[.int .i64 1, .slice q' 0 cap'']) (sz := 2) (.tmp 16) (.tmp 18) 27 rfl row_Type rfl hB.drew (by simp; omega) hb (New.ty (t := anyT) hf) rfl (by simp [Value.oneCell']) rfl (by omega) (by decide) ?_
      intro g cap2 w2 hB2 hgr hbel
      refine hK _ _ ?_
      clear hK hK' K K'
      iterate 1 (first | (refine mix_skip (by rfl) (fun K hK => ?_); go_simp; refine hK _ ?_; clear hK K) | (refine mix_free rfl (fun K hK => ?_); go_simp; refine hK _ ?_; clear hK K) | (refine mix_read rfl rfl (fun K hK => ?_); go_simp; refine hK _ ?_; clear hK K))
      have hb2w : w2.heap[w.heap.size + 1 + 1]? = some (.cells #[.int .i64 k, v] 29 (0, 0)) := by
        rw [hbel.block _ (by omega)]; exact HB2.out
      have hb1w : w2.heap[w.heap.size + 1]? = some (.cells #[.int .i64 0, .slice none 0 0] 29 (0, 0)) := by
        rw [hbel.block _ (by omega)]; exact HB1.out
      have hb0w : w2.heap[w.heap.size]? = some (.cells #[.int .i64 k, .slice q m c] 29 (0, 0)) := by
        rw [hbel.block _ (by omega)]; exact HB0.out
      have c21w := cell_of_heap (o := 1) hb2w rfl
      have f21w := free_of_heap (o := 1) hb2w
      have HB2w := Lib.hid hb2w; have HB1w := Lib.hid hb1w; have HB0w := Lib.hid hb0w; clear hb2w hb1w hb0w
      (refine mix_last rfl (by decide) (fun K K' hK hK' => ?_); go_simp)
      refine hK _ _ ?_
      clear hK hK' K K'
      refine mix_nil ?_
      have HBw : Below w.heap.size w w2 := hbw.trans ((Below.refl _ _).drew.trans (hbel.mono (by omega)))
      clear hbel hgr he hb hf
      go_wp2_with fail
      go_roundw
      case rel =>
        refine ⟨i + 1, _, by omega, by go_num, ?_, heap_setCell_at HB2w.out _, ?_, ?_, HBw.setCell (by simp; omega) _⟩
        · rw [HT.out]; exact hB2.setCell (by simp) _
        · rw [Below.heap_setCell _ _ _ _ (by simp)]; exact HB1w.out
        · rw [Below.heap_setCell _ _ _ _ (by simp; omega)]; exact HB0w.out
      case measure => simp [intOf]; omega
    · have hil' : i = m := by omega
      subst hil'
      obtain ⟨q, cq, rfl, hq⟩ := hB.val
      have c10 := cell_of_heap (o := 0) hb1 rfl
      have c11 := cell_of_heap (o := 1) hb1 rfl
      have f10 := free_of_heap (o := 0) hb1
      have f11 := free_of_heap (o := 1) hb1
      clear hb1 hb2 hb0
      go_wp2_with fail
      refine bodyPost_ret (v := .agg #[.int .i64 k, .slice q i cq]) (by simp [results, Try.results62, go_sem, *]) rfl ⟨q, cq, by simp [Ty.kind, Ty.kids], ?_, (hbw.setCell (by simp) _).setCell (by simp) _⟩
      have := ((hB.setCell (p := ⟨w.heap.size + 1, 0, none⟩) (by simp) (.int .i64 k)).setCell (p := ⟨w.heap.size + 1, 1, none⟩) (by simp) (.slice q i cq)).fresh (w0 := w) (by decide) (by omega)
      simpa [Ty.kids] using this

theorem RetTy.rep {w : World} {t : Ty} {e : Ending} {w' : World} {L : List Nat} (hL : ∀ x ∈ L, x < w.heap.size) (h : RetTy tid w t e w') : RetTyR L w t e w' := by
  obtain ⟨q, c, h1, h2, h3⟩ := h
  exact ⟨q, c, h1, h2.rep hL, h3⟩

theorem sGround (a : T) (w : World) (q c) (hr : TysRep [] w a.ty.kids q c) : Calls Try.prog 62 #[.agg #[.int .i64 a.kind, .slice q a.ty.kids.length c]] w (RetTyR [] w a.ground.ty) := by
  have h := sGround' a.kind a.ty.kids.length (by cases a <;> simp [T.ty, Ty.kids]) w q c hr.len.1 hr.len.2
  have e : (Ty.mk a.kind (List.replicate a.ty.kids.length anyT)) = a.ground.ty := by cases a <;> rfl
  rw [e] at h
  exact h.mono fun e w' h => RetTy.rep (by simp) h
end Go.Proofs.Ytkkijdlgmlffoaa
