import Derived.Test.YtkkijdlgmlffoaaRows
import Derived.Test.YtkkijdlgmlffoaaTyp
import Derived.Test.YtkkijdlgmlffoaaMix
namespace Go.Proofs.Ytkkijdlgmlffoaa
open Go.RowKit Go.Proofs.Grad

theorem info_Type : (Try.prog.info? 29).map (fun i => (i.zero, i.size, i.bytes)) = some (some (.agg #[.int .i64 0, .slice none 0 0]), 2, 32) := by kernel_rfl

theorem row_Type : RowTy Try.prog 27 29 2 32 := RowTy.mk' (by kernel_rfl) info_Type rfl (by decide)

/-- the element types of the rows -/
def tid : Nat → TypeId := fun s => if s = 2 then 29 else 0

def OwnN (n : Nat) : Prop := ∀ (k : Int) (l : List Ty) (w : World) p cap, Ty.sizes l < n → n ≤ 4294967296 → TysRep [] w l p cap →
    Calls Try.prog 73 #[.agg #[.int .i64 k, .slice p l.length cap]] w (RetTy tid w (.mk k l))

theorem own_step (n : Nat) (ih : OwnN n) : OwnN (n + 1) := by
  intro k l w p cap hn hsm hr
  have hlen := hr.len
  have hcap : cap ≤ 9223372036854775807 := hlen.2
  have hl := hlen.1
  clear hlen
  go_enter Try.func73, Try.ntmps73
  go_wp2_with fail
  go_loopw [12] (fun iv wr => ∃ (i : Nat) (v : Value), i ≤ l.length ∧ iv = .int .i64 i ∧ Bld tid wr (w.heap.size + 3) 2 i (Ty.css (l.take i)) v ∧
      wr.heap[w.heap.size + 1 + 1]? = some (.cells #[.int .i64 k, v] 29 (0, 0)) ∧ wr.heap[w.heap.size + 1]? = some (.cells #[.int .i64 0, .slice none 0 0] 29 (0, 0)) ∧ Below w.heap.size w wr) (fun iv _ => l.length - (intOf iv).toNat)
  case atStart =>
    refine ⟨0, .slice none 0 0, Nat.zero_le _, rfl, Bld.start _ _ _ _, ?_, ?_, (((Below.refl _ _).alloc (Nat.le_refl _) _).alloc (by simp) _).alloc (by simp; omega) _⟩
    · rw [show w.heap.size + 1 + 1 = ((w.alloc _).alloc _).heap.size from by simp]; exact heap_alloc_new _ _
    · rw [Below.heap_alloc _ _ _ (by simp), show w.heap.size + 1 = (w.alloc _).heap.size from by simp]; exact heap_alloc_new _ _
  case round =>
    obtain ⟨i, v, hi, rfl, hB, hb2, hb1, hbw⟩ := hrel
    by_cases hil : i < l.length
    · obtain ⟨b, off, rfl, hbL, hc0, q, cap', hc1, hr'⟩ := (hr.keep (Keep.of_below hbw)).at hil
      have hblt := lt_of_cell hc0
      have c20 : wr.cell? ⟨w.heap.size + 1 + 1, 0, none⟩ = some (.int .i64 k) := by simp [World.cell?, hb2]
      have c21 : wr.cell? ⟨w.heap.size + 1 + 1, 1, none⟩ = some v := by simp [World.cell?, hb2]
      have hsz2 : w.heap.size + 1 + 1 < wr.heap.size := (Array.getElem?_eq_some_iff.1 hb2).1
      have hkid := Ty.kid_lt hil
      have htk := Ty.css_take_succ hil
      generalize hE : l[i] = t at *
      have HE := Lib.hid hE; clear hE
      have HB2 := Lib.hid hb2; have HB1 := Lib.hid hb1; clear hb2 hb1
      have HT := Lib.hid htk; clear htk
      go_wp2_with fail
      refine region_mix 3 (by kernel_rfl) (by kernel_rfl) ?_
      iterate 3 (first | (refine mix_skip (by rfl) (fun K hK => ?_); go_simp; refine hK _ ?_; clear hK K) | (refine mix_free rfl (fun K hK => ?_); go_simp; refine hK _ ?_; clear hK K) | (refine mix_read rfl rfl (fun K hK => ?_); go_simp; refine hK _ ?_; clear hK K))
      (refine mix_loud rfl (fun K K' hK hK' => ?_); go_simp)
      refine (ih t.kind t.kids _ q cap' (by omega) (by omega) (hr'.keep ((Keep.alloc _ _ _).trans (Keep.drew _ _)))).mono ?_
      rintro e w1 ⟨q', cap'', rfl, hf, hb⟩
      have he : Ext (wr.alloc (.cells #[.int .i64 t.kind, .slice q t.kids.length cap'] 29)) w1 := (Ext.refl_drew _).trans hb
      refine hK _ _ he ?_
      clear hK hK' K K'
      (refine mix_loud rfl (fun K K' hK hK' => ?_); go_simp)
      refine hK _ _ (he.alloc _) ?_
      clear hK hK' K K'
      (refine mix_last rfl (by decide) (fun K K' hK hK' => ?_); rw [if_pos (by rfl)])
      refine wp_bld (v := v) (ys := #[.int .i64 t.kind, .slice q' t.kids.length cap'']) (sz := 2) (.tmp 17) (.tmp 20) 27 rfl row_Type rfl (hB.alloc _).drew (by simp; omega) hb (New.ty hf) rfl (by simp [Value.oneCell']) rfl (by have := Ty.length_le_sizes l; omega) (by decide) ?_
      intro g cap2 w2 hB2 hgr hbel
      refine hK _ _ ?_
      clear hK hK' K K'
      iterate 1 (first | (refine mix_skip (by rfl) (fun K hK => ?_); go_simp; refine hK _ ?_; clear hK K) | (refine mix_free rfl (fun K hK => ?_); go_simp; refine hK _ ?_; clear hK K) | (refine mix_read rfl rfl (fun K hK => ?_); go_simp; refine hK _ ?_; clear hK K))
      have hb2w : w2.heap[w.heap.size + 1 + 1]? = some (.cells #[.int .i64 k, v] 29 (0, 0)) := by
        rw [hbel.block _ (by omega)]; show (wr.alloc _).heap[_]? = _; rw [Below.heap_alloc _ _ _ hsz2]; exact HB2.out
      have hb1w : w2.heap[w.heap.size + 1]? = some (.cells #[.int .i64 0, .slice none 0 0] 29 (0, 0)) := by
        rw [hbel.block _ (by omega)]; show (wr.alloc _).heap[_]? = _; rw [Below.heap_alloc _ _ _ (by omega)]; exact HB1.out
      have c21w := cell_of_heap (o := 1) hb2w rfl
      have f21w := free_of_heap (o := 1) hb2w
      have HB2w := Lib.hid hb2w; have HB1w := Lib.hid hb1w; clear hb2w hb1w
      (refine mix_last rfl (by decide) (fun K K' hK hK' => ?_); go_simp)
      refine hK _ _ ?_
      clear hK hK' K K'
      refine mix_nil ?_
      have HBw : Below w.heap.size w w2 := hbw.trans ((((Below.refl _ _).alloc hbw.size _).drew).trans (hbel.mono (by omega)))
      clear hbel hgr he hb hf
      go_wp2_with fail
      go_roundw
      case rel =>
        refine ⟨i + 1, _, by omega, by go_num, ?_, heap_setCell_at HB2w.out _, ?_, HBw.setCell (by simp; omega) _⟩
        · rw [HT.out]; exact hB2.setCell (by simp) _
        · rw [Below.heap_setCell _ _ _ _ (by simp)]; exact HB1w.out
      case measure => simp [intOf]; omega
    · have hil' : i = l.length := by omega
      subst hil'
      obtain ⟨q, cq, rfl, hq⟩ := hB.val
      rw [List.take_length] at hB
      have c20 := cell_of_heap (o := 0) hb2 rfl
      have c21 := cell_of_heap (o := 1) hb2 rfl
      have c10 := cell_of_heap (o := 0) hb1 rfl
      have c11 := cell_of_heap (o := 1) hb1 rfl
      have f10 := free_of_heap (o := 0) hb1
      have f11 := free_of_heap (o := 1) hb1
      clear hb1 hb2
      go_wp2_with fail
      refine bodyPost_ret (v := .agg #[.int .i64 k, .slice q l.length cq]) (by simp [results, Try.results73, go_sem, *]) rfl ⟨q, cq, rfl, ((hB.setCell (by simp) _).setCell (by simp) _).fresh (by decide) (by omega), (hbw.setCell (by simp) _).setCell (by simp) _⟩

theorem own (n : Nat) : OwnN n := by
  induction n with
  | zero => intro k l w p cap hn; omega
  | succ n ih => exact own_step n ih
end Go.Proofs.Ytkkijdlgmlffoaa
