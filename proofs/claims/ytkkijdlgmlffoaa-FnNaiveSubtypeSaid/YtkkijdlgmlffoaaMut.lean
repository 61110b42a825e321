/- The walk of the reference's spoiling of a type. -/
import Derived.Test.YtkkijdlgmlffoaaNear
import Derived.Test.YtkkijdlgmlffoaaApp
namespace Go.Proofs.Ytkkijdlgmlffoaa
open Go.RowKit Go.Proofs.Grad

theorem size_mk (k : Int) (l : List Ty) : (Ty.mk k l).size = Ty.sizes l + 1 := by simp only [Ty.size]; omega
theorem sizes_append (l : List Ty) (x : Ty) : Ty.sizes (l ++ [x]) = Ty.sizes l + x.size := by
  induction l with
  | nil => simp [Ty.sizes]
  | cons y l ih => simp only [List.cons_append, Ty.sizes, ih]; omega

/-- a spoilt type -/
def MutR (L : List Nat) (w : World) (r N : Nat) (e : Ending) (w' : World) : Prop :=
  ∃ (y : Ty) (q : Option Addr) (c : Nat), e = .returned (.agg #[.int .i64 y.kind, .slice q y.kids.length c]) ∧ y.size ≤ 100 ∧ TysRep (r :: L) w' y.kids q c ∧ Bel [r] w w' ∧ Rd w' r N 61

set_option maxHeartbeats 2000000 in
theorem mutate (L : List Nat) (t : Ty) (ht : t.size ≤ 15) (r N : Nat) (w : World) (q c) (hN : N + 2 ≤ 1099511627776) (hr : Rd w r N 61) (hrep : TysRep [r] w t.kids q c) (hL : ∀ b ∈ L, b < w.heap.size) :
    Calls Try.prog 49 #[.pointer (some ⟨r, 0, none⟩), .agg #[.int .i64 t.kind, .slice q t.kids.length c]] w (MutR L w r (N + 2)) := by
  have hlt := hr.lt
  have HL := Lib.hid hL; clear hL
  have hcopy := fun (w' : World) (h : TysRep [] w' t.kids q c) => copy 16 t w' q c (by omega) (by omega) h
  have hcap : c ≤ 9223372036854775807 := hrep.len.2
  have hl := hrep.len.1
  have hsz : Ty.sizes t.kids + 1 ≤ 15 := by cases t; simp only [Ty.size, Ty.kids] at ht ⊢; omega
  have hkl := Ty.length_le_sizes t.kids
  have hR : ∀ (e : Ending) (w w' : World), RetTy tid w t e w' ↔ ∃ q cap, e = .returned (.agg #[.int .i64 t.kind, .slice q t.kids.length cap]) ∧ Fresh tid w w' (.sl 2 t.kids.length (Ty.css t.kids)) (.slice q t.kids.length cap) ∧ Below w.heap.size w w' := fun _ _ _ => Iff.rfl
  generalize RetTy tid = RT at hcopy hR
  obtain ⟨k, l⟩ := t
  simp only [Ty.kind, Ty.kids] at *
  have HCP := Lib.hid hcopy; clear hcopy
  have HRT := Lib.hid hR; clear hR
  have HR := Lib.hid hr; clear hr
  have HREP := Lib.hid hrep; clear hrep
  go_enter Try.func49, Try.ntmps49
  go_wp2_with fail
  refine (HCP.out _ ((HREP.out.keep (Keep.of_below ((Ext.refl w).alloc _ |>.alloc _).below)).mono (by simp))).mono ?_
  rintro e w1 hret
  obtain ⟨q1, c1, rfl, hf, hb⟩ := (HRT.out _ _ _).1 hret
  have hs := hb.size
  simp at hs
  have h1 : w1.heap[w.heap.size + 1]? = some (.cells #[.int .i64 0, .slice none 0 0] 29 (0, 0)) := by
    rw [hb.block _ (by simp <;> omega), show w.heap.size + 1 = (w.alloc _).heap.size from by simp]; exact heap_alloc_new _ _
  have B1 : Bel [r] w w1 := (Bel.of_ext ((Ext.refl w).alloc _ |>.alloc _)).trans (Bel.of_below hb)
  have R1 := (HR.out.keep ((Ext.refl w).alloc _ |>.alloc _).below).keep hb
  have hp := fun (w' : World) (h : Rd w' r N 61) => pick r N (by omega) 40 (by omega) (by omega) w' h
  have HP := Lib.hid hp; have HF := Lib.hid hf; have HB := Lib.hid B1; have HR1 := Lib.hid R1; have H1 := Lib.hid h1
  clear hret hb hf B1 R1 hp h1 HCP HRT HR HREP
  go_wp2_with fail
  refine (HP.out _ (HR1.out.keep ((Ext.refl _).alloc _).below)).mono ?_
  rintro e w2 ⟨z, rfl, hz0, hz1, hb, hr2⟩
  have hs2 := hb.size
  simp at hs2
  have hne1 : ¬ w1.heap.size = r := by omega
  have hne0 : ¬ w.heap.size + 1 = r := by omega
  have g0 : w2.heap[w1.heap.size]? = some (.cells #[.int .i64 k, .slice q1 l.length c1] 29 (0, 0)) := by
    rw [hb.block _ (by simp) (by simpa using hne1)]; exact heap_alloc_new _ _
  have g1 : w2.heap[w.heap.size + 1]? = some (.cells #[.int .i64 0, .slice none 0 0] 29 (0, 0)) := by
    rw [hb.block _ (by simp; omega) (by simpa using hne0), Below.heap_alloc _ _ _ (by omega)]; exact H1.out
  have HLL := Lib.hid (show ∀ x ∈ (w1.heap.size :: (w.heap.size + 1) :: r :: L), x = w1.heap.size ∨ x < w.heap.size + 2 from by
    intro x hx; simp only [List.mem_cons] at hx; rcases hx with h | h | h | h
    · exact .inl h
    · right; omega
    · right; omega
    · right; have := HL.out x h; omega)
  have hbw : Bel [r] w w2 := (HB.out.alloc _).trans hb
  have hkeep : ∀ b, b < w1.heap.size → b ≠ r → w2.heap[b]? = w1.heap[b]? := fun b h1 h2 => by
    rw [hb.block _ (by simp; omega) (by simpa using h2), Below.heap_alloc _ _ _ h1]
  have hrp : TysRep (w1.heap.size :: (w.heap.size + 1) :: r :: L) w2 l q1 c1 := by
    have h1 := HF.out.rep (L := (w.heap.size + 1) :: r :: L) (by intro x hx; have := HLL.out x (List.mem_cons_of_mem _ hx); simp only [List.mem_cons] at hx; simp; rcases hx with rfl | rfl | hx; omega; omega; have := HL.out x hx; omega)
    have h2 : TysRep (w1.heap.size :: (w.heap.size + 1) :: r :: L) w1 l q1 c1 := TysRep.fresh (Nat.le_refl _) h1
    exact h2.keep ⟨by omega, fun b hb1 hb2 => hkeep b hb2 (by simp at hb1; exact hb1.2.2.1)⟩
  have HBW := Lib.hid hbw; have HK := Lib.hid hkeep; have HRP := Lib.hid hrp; have G0 := Lib.hid g0; have G1 := Lib.hid g1; have HR2 := Lib.hid hr2
  clear hb hbw hkeep hrp hr2 HP HR1 H1 HB
  have c00 := cell_of_heap (o := 0) g0 rfl
  have c01 := cell_of_heap (o := 1) g0 rfl
  have c10 := cell_of_heap (o := 0) g1 rfl
  have c11 := cell_of_heap (o := 1) g1 rfl
  have f00 := free_of_heap (o := 0) g0
  have f01 := free_of_heap (o := 1) g0
  have f10 := free_of_heap (o := 0) g1
  have f11 := free_of_heap (o := 1) g1
  clear g0 g1 hz1
  by_cases z0 : z = 0
  · subst z0
    have hp := fun (w' : World) (h : Rd w' r (N + 1) 61) (hc : w'.heap[w2.heap.size]? = some (.cells #[.int .i64 0, .int .i64 6, .int .i64 1, .int .i64 4, .int .i64 (-1)] 3 (0, 0))) =>
      num r (N + 1) (by omega) [0, 6, 1, 4, -1] (by simp) (by simp) w2.heap.size (by omega) 3 w' h hc
    have HP := Lib.hid hp; clear hp
    go_wp2_with fail
    refine (HP.out _ (HR2.out.keep ((Ext.refl _).alloc _).below) (heap_alloc_new _ _)).mono ?_
    rintro e w3 ⟨x, rfl, hx, hb, hr3⟩
    have hs3 := hb.size
    simp at hs3
    have k0 : w3.heap[w1.heap.size]? = some (.cells #[.int .i64 k, .slice q1 l.length c1] 29 (0, 0)) := by
      rw [hb.block _ (by simp; omega) (by simpa using hne1), Below.heap_alloc _ _ _ (by omega)]; exact G0.out
    have k1 : w3.heap[w.heap.size + 1]? = some (.cells #[.int .i64 0, .slice none 0 0] 29 (0, 0)) := by
      rw [hb.block _ (by simp; omega) (by simpa using hne0), Below.heap_alloc _ _ _ (by omega)]; exact G1.out
    have hrp : TysRep (w1.heap.size :: (w.heap.size + 1) :: r :: L) w3 l q1 c1 := by
      refine (HRP.out.keep (Keep.of_below ((Ext.refl _).alloc _).below)).keep (hb.mono (by simp)).keep
    have B3 := Lib.hid ((HBW.out.alloc _).trans hb); have R3 := Lib.hid hr3; have P3 := Lib.hid hrp
    clear hb hr3 hrp c00 c01 c10 c11 f00 f01 f10 f11 hx HP
    have c00 := cell_of_heap (o := 0) k0 rfl
    have c01 := cell_of_heap (o := 1) k0 rfl
    have c10 := cell_of_heap (o := 0) k1 rfl
    have c11 := cell_of_heap (o := 1) k1 rfl
    have f00 := free_of_heap (o := 0) k0
    have f01 := free_of_heap (o := 1) k0
    have f10 := free_of_heap (o := 0) k1
    have f11 := free_of_heap (o := 1) k1
    have hd1 : ¬ w.heap.size + 1 = w1.heap.size := by omega
    have hd2 : ¬ w1.heap.size = w.heap.size + 1 := by omega
    clear k0 k1
    go_wp2_with fail
    refine bodyPost_ret (v := .agg #[.int .i64 x, .slice q1 l.length c1]) (by simp [results, Try.results49, go_sem, *]) rfl ⟨.mk x l, q1, c1, rfl, by rw [size_mk]; omega, ?_, ((B3.out.setCell (.inr (by simp; omega)) _).setCell (.inr (by simp)) _).setCell (.inr (by simp)) _, ?_⟩
    · exact (((P3.out.keep (Keep.setCell (by simp) _)).keep (Keep.setCell (by simp) _)).keep (Keep.setCell (by simp) _)).mono (by intro x hx; rcases List.mem_cons.1 hx with rfl | hx; simp; simp [hx])
    · exact ((R3.out.setCell (by omega) _).setCell (by omega) _).setCell (by omega) _
  by_cases z1 : z = 1
  · subst z1
    have hd1 : ¬ w.heap.size + 1 = w1.heap.size := by omega
    have hd2 : ¬ w1.heap.size = w.heap.size + 1 := by omega
    go_wp2_with fail
    refine region_mix 3 (by kernel_rfl) (by kernel_rfl) ?_
    iterate 2 (first | (refine mix_skip (by rfl) (fun K hK => ?_); go_simp; refine hK _ ?_; clear hK K) | (refine mix_free rfl (fun K hK => ?_); go_simp; refine hK _ ?_; clear hK K) | (refine mix_read rfl rfl (fun K hK => ?_); go_simp; refine hK _ ?_; clear hK K))
    (refine mix_loud rfl (fun K K' hK hK' => ?_); go_simp)
    refine (sAny _).mono ?_
    rintro e w3 ⟨q', cap'', rfl, hf, hb⟩
    have he : Ext w2 w3 := (Ext.refl_drew _).trans hb
    refine hK _ _ he ?_
    clear hK hK' K K'
    (refine mix_loud rfl (fun K K' hK hK' => ?_); go_simp)
    refine hK _ _ (he.alloc _) ?_
    clear hK hK' K K'
    (refine mix_last rfl (by decide) (fun K K' hK hK' => ?_); rw [if_pos (by rfl)])
    refine wp_app (base := w.heap.size + 2) (wc := w2.drew) (v := .slice q1 l.length c1) (ys := #[.int .i64 1, .slice q' 0 cap'']) (sz := 2) (.tmp 20) (.tmp 22) 27 (by decide) rfl row_Type rfl HF.out (by simp) (by omega) (fun b h1 h2 => by rw [he.below.block _ (by omega)]; exact HK.out b h2 (by omega)) (by simp; omega) hb.size (New.ty (t := anyT) hf) rfl (by simp [Value.oneCell']) rfl (by omega) (by decide) ?_
    intro g cap2 w4 hO hbel hup
    refine hK _ _ ?_
    clear hK hK' K K'
    iterate 1 (first | (refine mix_skip (by rfl) (fun K hK => ?_); go_simp; refine hK _ ?_; clear hK K) | (refine mix_free rfl (fun K hK => ?_); go_simp; refine hK _ ?_; clear hK K) | (refine mix_read rfl rfl (fun K hK => ?_); go_simp; refine hK _ ?_; clear hK K))
    have k0 : w4.heap[w1.heap.size]? = some (.cells #[.int .i64 k, .slice q1 l.length c1] 29 (0, 0)) := by
      rw [hup _ (by have := he.size; omega) (Nat.le_refl _), he.below.block _ (by omega)]; exact G0.out
    have k1 : w4.heap[w.heap.size + 1]? = some (.cells #[.int .i64 0, .slice none 0 0] 29 (0, 0)) := by
      rw [hbel.block _ (by omega), he.below.block _ (by omega)]; exact G1.out
    have hsz3 : w2.heap.size ≤ w3.heap.size := he.size
    have hrp : TysRep (w1.heap.size :: (w.heap.size + 1) :: r :: L) w4 (l ++ [anyT]) (some ⟨g, 0, none⟩) cap2 := by
      have := hO.rep (L := (w1.heap.size :: (w.heap.size + 1) :: r :: L)) (by intro x hx; have := HLL.out x hx; simp; omega)
      have hcs : Ty.css (l ++ [anyT]) = Ty.css l ++ anyT.cs := by rw [Ty.css_eq, Ty.css_eq, List.flatMap_append]; simp
      simpa [TysRep, hcs] using this
    have B4 := Lib.hid ((HBW.out.trans (Bel.of_ext he)).andThen hbel (by omega)); have R4 := Lib.hid ((HR2.out.keep he.below).below hbel (by omega)); have P4 := Lib.hid hrp
    clear hrp hO hbel hup hf hb he c00 c01 c10 c11 f00 f01 f10 f11 z0 hz0
    have c00 := cell_of_heap (o := 0) k0 rfl
    have c01 := cell_of_heap (o := 1) k0 rfl
    have c10 := cell_of_heap (o := 0) k1 rfl
    have c11 := cell_of_heap (o := 1) k1 rfl
    have f00 := free_of_heap (o := 0) k0
    have f01 := free_of_heap (o := 1) k0
    have f10 := free_of_heap (o := 0) k1
    have f11 := free_of_heap (o := 1) k1
    clear k0 k1
    (refine mix_last rfl (by decide) (fun K K' hK hK' => ?_); go_simp)
    refine hK _ _ ?_
    clear hK hK' K K'
    refine mix_nil ?_
    go_wp2_with fail
    refine bodyPost_ret (v := .agg #[.int .i64 k, .slice (some ⟨g, 0, none⟩) (l.length + 1) cap2]) (by simp [results, Try.results49, go_sem, *]) rfl ⟨.mk k (l ++ [anyT]), some ⟨g, 0, none⟩, cap2, by simp [Ty.kind, Ty.kids], by rw [size_mk, sizes_append]; simp [anyT, Ty.size, Ty.sizes]; omega, ?_, ((B4.out.setCell (.inr (by simp; omega)) _).setCell (.inr (by simp)) _).setCell (.inr (by simp)) _, ?_⟩
    · exact (((P4.out.keep (Keep.setCell (by simp) _)).keep (Keep.setCell (by simp) _)).keep (Keep.setCell (by simp) _)).mono (by intro x hx; rcases List.mem_cons.1 hx with rfl | hx; simp; simp [hx])
    · exact (((R4.out.mono (by omega)).setCell (by omega) _).setCell (by omega) _).setCell (by omega) _
  by_cases z2 : z = 2
  · subst z2
    have hd1 : ¬ w.heap.size + 1 = w1.heap.size := by omega
    have hd2 : ¬ w1.heap.size = w.heap.size + 1 := by omega
    clear c00 c01 c10 c11 f00 f01 f10 f11 z0 z1 hz0
    go_wp2_with fail
    go_loopw [6] (fun iv wr => ∃ (i : Nat) (y : Ty) (qy : Option Addr) (cy : Nat), i ≤ 4 ∧ iv = .int .i64 i ∧ y.size ≤ 15 + 2 * i ∧ TysRep (w1.heap.size :: (w.heap.size + 1) :: r :: L) wr y.kids qy cy ∧ wr.heap[w1.heap.size]? = some (.cells #[.int .i64 y.kind, .slice qy y.kids.length cy] 29 (0, 0)) ∧ wr.heap[w.heap.size + 1]? = some (.cells #[.int .i64 0, .slice none 0 0] 29 (0, 0)) ∧ Bel [r] w wr ∧ Rd wr r (N + 1) 61) (fun iv _ => 4 - (intOf iv).toNat)
    case atStart => exact ⟨0, .mk k l, q1, c1, by omega, rfl, by rw [size_mk]; omega, HRP.out, G0.out, G1.out, HBW.out, HR2.out⟩
    case round =>
      obtain ⟨i, y, qy, cy, hi, rfl, hys, hry, g0, g1, hbl, hrd⟩ := hrel
      have hyl := hry.len.1
      have hycap : cy ≤ 9223372036854775807 := hry.len.2
      have c00 := cell_of_heap (o := 0) g0 rfl
      have c01 := cell_of_heap (o := 1) g0 rfl
      have c10 := cell_of_heap (o := 0) g1 rfl
      have c11 := cell_of_heap (o := 1) g1 rfl
      have f00 := free_of_heap (o := 0) g0
      have f01 := free_of_heap (o := 1) g0
      have f10 := free_of_heap (o := 0) g1
      have f11 := free_of_heap (o := 1) g1
      have K0 := Lib.hid g0; have K1 := Lib.hid g1; have BL := Lib.hid hbl; have RD := Lib.hid hrd; have RY := Lib.hid hry
      have l0 := lt_of_heap g0
      clear g0 g1 hbl hrd hry G0 G1 HBW HR2 HRP HK HF
      by_cases hi4 : i < 4
      · have hi4' : (i : Int) < 4 := by omega
        go_wp2_with fail
        refine region_mix 1 (by kernel_rfl) (by kernel_rfl) ?_
        (refine mix_loud rfl (fun K K' hK hK' => ?_); go_simp)
        refine (sAny _).mono ?_
        rintro e w3 ⟨q', cap'', rfl, hf, hb⟩
        have he : Ext wr w3 := (Ext.refl_drew _).trans hb
        refine hK _ _ he ?_
        clear hK hK' K K'
        iterate 1 (first | (refine mix_skip (by rfl) (fun K hK => ?_); go_simp; refine hK _ ?_; clear hK K) | (refine mix_free rfl (fun K hK => ?_); go_simp; refine hK _ ?_; clear hK K) | (refine mix_read rfl rfl (fun K hK => ?_); go_simp; refine hK _ ?_; clear hK K))
        (refine mix_loud rfl (fun K K' hK hK' => ?_); go_simp)
        refine hK _ _ (he.alloc _) ?_
        clear hK hK' K K'
        iterate 1 (first | (refine mix_skip (by rfl) (fun K hK => ?_); go_simp; refine hK _ ?_; clear hK K) | (refine mix_free rfl (fun K hK => ?_); go_simp; refine hK _ ?_; clear hK K) | (refine mix_read rfl rfl (fun K hK => ?_); go_simp; refine hK _ ?_; clear hK K))
        have hs3 := he.size
        have n5 := heap_alloc_new w3 (.cells #[.int .i64 anyT.kind, .slice q' anyT.kids.length cap'', .int .i64 y.kind, .slice qy y.kids.length cy] 29 (0, 0))
        have hE5 := he.alloc (.cells #[.int .i64 anyT.kind, .slice q' anyT.kids.length cap'', .int .i64 y.kind, .slice qy y.kids.length cy] 29 (0, 0))
        have r5 : TysRep (w1.heap.size :: (w.heap.size + 1) :: r :: L) (w3.alloc (.cells #[.int .i64 anyT.kind, .slice q' anyT.kids.length cap'', .int .i64 y.kind, .slice qy y.kids.length cy] 29 (0, 0))) anyT.kids q' cap'' :=
          TysRep.keep (Keep.of_below ((Ext.refl _).alloc _).below) (hf.rep (L := (w1.heap.size :: (w.heap.size + 1) :: r :: L)) (by intro x hx; have := HLL.out x hx; simp; omega))
        generalize w3.alloc _ = w5 at *
        have rep5 : TysRep (w1.heap.size :: (w.heap.size + 1) :: r :: L) w5 [anyT, y] (some ⟨w3.heap.size, 0, none⟩) 2 :=
          TysRep.of_two (by simp; exact ⟨by omega, by omega, by omega, fun h => by have := HL.out _ h; omega⟩) (cell_of_heap (o := 0) n5 rfl) (cell_of_heap (o := 1) n5 rfl) r5 (cell_of_heap (o := 2) n5 rfl) (cell_of_heap (o := 3) n5 rfl) (RY.out.keep (Keep.of_below hE5.below)) (by omega) (by decide)
        have k0 : w5.heap[w1.heap.size]? = some (.cells #[.int .i64 y.kind, .slice qy y.kids.length cy] 29 (0, 0)) := by
          rw [hE5.below.block _ (by omega)]; exact K0.out
        have k1 : w5.heap[w.heap.size + 1]? = some (.cells #[.int .i64 0, .slice none 0 0] 29 (0, 0)) := by
          rw [hE5.below.block _ (by omega)]; exact K1.out
        have B5 := Lib.hid (BL.out.trans (Bel.of_ext hE5)); have D5 := Lib.hid (RD.out.keep hE5.below); have P5 := Lib.hid rep5
        have M0 := Lib.hid k0; have M1 := Lib.hid k1
        clear c00 c01 c10 c11 f00 f01 f10 f11 n5 hE5 r5 rep5 he hb hf K0 K1 BL RD RY k1
        have c00 := cell_of_heap (o := 0) k0 rfl
        have c01 := cell_of_heap (o := 1) k0 rfl
        have f00 := free_of_heap (o := 0) k0
        have f01 := free_of_heap (o := 1) k0
        clear k0
        (refine mix_last rfl (by decide) (fun K K' hK hK' => ?_); go_simp)
        refine hK _ _ ?_
        clear hK hK' K K'
        refine mix_nil ?_
        go_wp2_with fail
        go_roundw
        case rel =>
          refine ⟨i + 1, .mk 4 [anyT, y], some ⟨w3.heap.size, 0, none⟩, 2, by omega, by go_num, by simp [Ty.size, Ty.sizes, anyT]; omega, ?_, heap_setCell_at (heap_setCell_at M0.out _) _, ?_, (B5.out.setCell (.inr (by simp; omega)) _).setCell (.inr (by simp; omega)) _, (D5.out.setCell (by omega) _).setCell (by omega) _⟩
          · exact (P5.out.keep (Keep.setCell (by simp) _)).keep (Keep.setCell (by simp) _)
          · rw [Below.heap_setCell _ _ _ _ (by simp; omega), Below.heap_setCell _ _ _ _ (by simp; omega)]; exact M1.out
        case measure => simp [intOf]; omega
      · have hi4' : ¬ (i : Int) < 4 := by omega
        go_wp2_with fail
        refine bodyPost_ret (v := .agg #[.int .i64 y.kind, .slice qy y.kids.length cy]) (by simp [results, Try.results49, go_sem, *]) rfl ⟨y, qy, cy, rfl, by omega, ?_, (BL.out.setCell (.inr (by simp)) _).setCell (.inr (by simp)) _, ?_⟩
        · exact ((RY.out.keep (Keep.setCell (by simp) _)).keep (Keep.setCell (by simp) _)).mono (by intro x hx; rcases List.mem_cons.1 hx with rfl | hx; simp; simp [hx])
        · exact ((RD.out.mono (by omega)).setCell (by omega) _).setCell (by omega) _
  · have b0 : (z == 0) = false := by simpa using z0
    have b1 : (z == 1) = false := by simpa using z1
    have b2 : (z == 2) = false := by simpa using z2
    go_wp2_with fail
    refine bodyPost_ret (v := .agg #[.int .i64 k, .slice q1 l.length c1]) (by simp [results, Try.results49, go_sem, *]) rfl ⟨.mk k l, q1, c1, rfl, by rw [size_mk]; omega, ?_, (HBW.out.setCell (.inr (by simp)) _).setCell (.inr (by simp)) _, ?_⟩
    · exact ((HRP.out.keep (Keep.setCell (by simp) _)).keep (Keep.setCell (by simp) _)).mono (by intro x hx; rcases List.mem_cons.1 hx with rfl | hx; simp; simp [hx])
    · exact ((HR2.out.mono (by omega)).setCell (by omega) _).setCell (by omega) _
end Go.Proofs.Ytkkijdlgmlffoaa
