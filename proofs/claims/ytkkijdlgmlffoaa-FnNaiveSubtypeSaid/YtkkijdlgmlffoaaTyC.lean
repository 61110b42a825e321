/- The walk of the reference's copy of a type. -/
import Derived.Test.YtkkijdlgmlffoaaTyG
namespace Go.Proofs.Ytkkijdlgmlffoaa
open Go.RowKit Go.Proofs.Grad

def CopyN (n : Nat) : Prop := ∀ (t : Ty) (w : World) q c, t.size < n → n ≤ 4294967296 → TysRep [] w t.kids q c →
    Calls Try.prog 67 #[.agg #[.int .i64 t.kind, .slice q t.kids.length c]] w (RetTy tid w t)

set_option maxHeartbeats 800000 in
theorem copy_step (n : Nat) (ih : CopyN n) : CopyN (n + 1) := by
  intro t w q c hn hsm hr
  obtain ⟨k, l⟩ := t
  simp only [Ty.kind, Ty.kids] at hr ⊢
  have hcap : c ≤ 9223372036854775807 := hr.len.2
  have hl := hr.len.1
  have hls := Ty.length_le_sizes l
  have hsz : Ty.sizes l < n := by simp only [Ty.size] at hn; omega
  clear hn
  go_enter Try.func67, Try.ntmps67
  go_wp2_with fail
  go_loopw [4] (fun iv wr => ∃ (i : Nat) (v : Value), i ≤ l.length ∧ iv = .int .i64 i ∧ Bld tid wr (w.heap.size + 3) 2 i (Ty.css (l.take i)) v ∧
      wr.heap[w.heap.size + 1 + 1]? = some (.cells #[.int .i64 k, v] 29 (0, 0)) ∧ wr.heap[w.heap.size + 1]? = some (.cells #[.int .i64 0, .slice none 0 0] 29 (0, 0)) ∧ wr.heap[w.heap.size]? = some (.cells #[.int .i64 k, .slice q l.length c] 29 (0, 0)) ∧ Below w.heap.size w wr) (fun iv _ => l.length - (intOf iv).toNat)
  case atStart =>
    refine ⟨0, .slice none 0 0, Nat.zero_le _, rfl, Bld.start _ _ _ _, ?_, ?_, ?_, (((Ext.refl w).alloc _).alloc _).alloc _ |>.below⟩
    · rw [show w.heap.size + 1 + 1 = ((w.alloc _).alloc _).heap.size from by simp]; exact heap_alloc_new _ _
    · rw [Below.heap_alloc _ _ _ (by simp), show w.heap.size + 1 = (w.alloc _).heap.size from by simp]; exact heap_alloc_new _ _
    · rw [Below.heap_alloc _ _ _ (by simp; omega), Below.heap_alloc _ _ _ (by simp)]; exact heap_alloc_new _ _
  case round =>
    obtain ⟨i, v, hi, rfl, hB, hb2, hb1, hb0, hbw⟩ := hrel
    have c00 := cell_of_heap (o := 0) hb0 rfl
    have c01 := cell_of_heap (o := 1) hb0 rfl
    have c20 := cell_of_heap (o := 0) hb2 rfl
    have c21 := cell_of_heap (o := 1) hb2 rfl
    have hsz2 := lt_of_heap hb2
    by_cases hil : i < l.length
    · obtain ⟨b, off, rfl, hbL, hc0, q1, c1, hc1, hr'⟩ := (hr.keep (Keep.of_below hbw)).at hil
      have htk := Ty.css_take_succ hil
      have hmem := Ty.sizes_mem (List.getElem_mem hil)
      generalize hE : l[i] = t at *
      clear hE
      have HB2 := Lib.hid hb2; have HB1 := Lib.hid hb1; have HB0 := Lib.hid hb0; clear hb2 hb1 hb0
      have HT := Lib.hid htk; clear htk
      go_wp2_with fail
      refine region_mix 3 (by kernel_rfl) (by kernel_rfl) ?_
      repeat (first | (refine mix_skip (by rfl) (fun K hK => ?_); go_simp; refine hK _ ?_; clear hK K) | (refine mix_free rfl (fun K hK => ?_); go_simp; refine hK _ ?_; clear hK K) | (refine mix_read rfl rfl (fun K hK => ?_); go_simp; refine hK _ ?_; clear hK K))
      (refine mix_loud rfl (fun K K' hK hK' => ?_); go_simp)
      refine (ih t _ q1 c1 (by omega) (by omega) (hr'.keep (Keep.drew _ _))).mono ?_
      rintro e w1 ⟨q', cap'', rfl, hf, hb⟩
      have he : Ext wr w1 := (Ext.refl_drew _).trans hb
      refine hK _ _ he ?_
      clear hK hK' K K'
      (refine mix_loud rfl (fun K K' hK hK' => ?_); go_simp)
      refine hK _ _ (he.alloc _) ?_
      clear hK hK' K K'
      (refine mix_last rfl (by decide) (fun K K' hK hK' => ?_); rw [if_pos (by rfl)])
      refine wp_bld (v := v) (ys := #[.int .i64 t.kind, .slice q' t.kids.length cap'']) (sz := 2) (.tmp 16) (.tmp 23) 27 rfl row_Type rfl hB.drew (by simp; omega) hb (New.ty hf) rfl (by simp [Value.oneCell']) rfl (by omega) (by decide) ?_
      intro g cap2 w2 hB2 hgr hbel
      refine hK _ _ ?_
      clear hK hK' K K'
      iterate 1 (first | (refine mix_skip (by rfl) (fun K hK => ?_); go_simp; refine hK _ ?_; clear hK K) | (refine mix_free rfl (fun K hK => ?_); go_simp; refine hK _ ?_; clear hK K) | (refine mix_read rfl rfl (fun K hK => ?_); go_simp; refine hK _ ?_; clear hK K))
      have hb2w : w2.heap[w.heap.size + 1 + 1]? = some (.cells #[.int .i64 k, v] 29 (0, 0)) := by
        rw [hbel.block _ (by omega)]; exact HB2.out
      have hb1w : w2.heap[w.heap.size + 1]? = some (.cells #[.int .i64 0, .slice none 0 0] 29 (0, 0)) := by
        rw [hbel.block _ (by omega)]; exact HB1.out
      have hb0w : w2.heap[w.heap.size]? = some (.cells #[.int .i64 k, .slice (some ⟨b, off, none⟩) l.length c] 29 (0, 0)) := by
        rw [hbel.block _ (by omega)]; exact HB0.out
      have c21w := cell_of_heap (o := 1) hb2w rfl
      have f21w := free_of_heap (o := 1) hb2w
      have HB2w := Lib.hid hb2w; have HB1w := Lib.hid hb1w; have HB0w := Lib.hid hb0w; clear hb2w hb1w hb0w
      (refine mix_last rfl (by decide) (fun K K' hK hK' => ?_); go_simp)
      refine hK _ _ ?_
      clear hK hK' K K'
      refine mix_nil ?_
      have HBw : Below w.heap.size w w2 := hbw.trans ((Below.refl _ _).drew.trans (hbel.mono (by omega)))
      clear hbel hgr he hb hf
      go_wp2_with fail
      go_roundw
      case rel =>
        refine ⟨i + 1, _, by omega, by go_num, ?_, heap_setCell_at HB2w.out _, ?_, ?_, HBw.setCell (by simp; omega) _⟩
        · rw [HT.out]; exact hB2.setCell (by simp) _
        · rw [Below.heap_setCell _ _ _ _ (by simp)]; exact HB1w.out
        · rw [Below.heap_setCell _ _ _ _ (by simp; omega)]; exact HB0w.out
      case measure => simp [intOf]; omega
    · have hil' : i = l.length := by omega
      subst hil'
      obtain ⟨q, cq, rfl, hq⟩ := hB.val
      rw [List.take_length] at hB
      have c10 := cell_of_heap (o := 0) hb1 rfl
      have c11 := cell_of_heap (o := 1) hb1 rfl
      have f10 := free_of_heap (o := 0) hb1
      have f11 := free_of_heap (o := 1) hb1
      clear hb1 hb2 hb0
      go_wp2_with fail
      refine bodyPost_ret (v := .agg #[.int .i64 k, .slice q l.length cq]) (by simp [results, Try.results67, go_sem, *]) rfl ⟨q, cq, by simp [Ty.kind, Ty.kids], ?_, (hbw.setCell (by simp) _).setCell (by simp) _⟩
      exact ((hB.setCell (p := ⟨w.heap.size + 1, 0, none⟩) (by simp) (.int .i64 k)).setCell (p := ⟨w.heap.size + 1, 1, none⟩) (by simp) (.slice q l.length cq)).fresh (w0 := w) (by decide) (by omega)

theorem copy (n : Nat) : CopyN n := by
  induction n with
  | zero => intro t w q c hn; omega
  | succ n ih => exact copy_step n ih
end Go.Proofs.Ytkkijdlgmlffoaa
