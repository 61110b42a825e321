/- The walk of the reference's draw of a type near a given one. -/
import Derived.Test.YtkkijdlgmlffoaaOpn
import Derived.Test.YtkkijdlgmlffoaaTyC
namespace Go.Proofs.Ytkkijdlgmlffoaa
open Go.RowKit Go.Proofs.Grad

theorem kids_depth (t x : T) (h : x ∈ t.kids) : x.depth + 1 ≤ t.depth := by
  cases t <;> simp [T.kids] at h <;> rcases h with rfl | rfl <;> simp [T.depth] <;> omega
theorem kids_len (t : T) : t.kids.length ≤ 2 := by cases t <;> simp [T.kids]
theorem remake (t : T) (ht : t ≠ .any) (ts : List T) (h : ts.length = t.kids.length) : ∃ x : T, x.kind = t.kind ∧ x.kids = ts := by
  cases t with
  | any => exact absurd rfl ht
  | int => exact ⟨.int, rfl, by simp [T.kids] at h; simp [T.kids, h]⟩
  | bool => exact ⟨.bool, rfl, by simp [T.kids] at h; simp [T.kids, h]⟩
  | fn a b =>
    match ts, h with
    | [x, y], _ => exact ⟨.fn x y, rfl, rfl⟩
  | pr a b =>
    match ts, h with
    | [x, y], _ => exact ⟨.pr x y, rfl, rfl⟩

theorem DrawR.mono {w : World} {r N N' m m' : Nat} {e : Ending} {w' : World} (h : DrawR w r N m e w') (hN : N ≤ N') (hm : m ≤ m') : DrawR w r N' m' e w' := by
  obtain ⟨x, q, c, h1, h2, h3, h4, h5⟩ := h
  exact ⟨x, q, c, h1, by omega, h3, h4, h5.mono hN⟩

theorem size_depth (t : T) : t.size + 1 ≤ 2 ^ t.depth := by
  have key : ∀ x y a b : Nat, x + 1 ≤ 2 ^ a → y + 1 ≤ 2 ^ b → x + y + 1 + 1 ≤ 2 ^ (max a b + 1) := by
    intro x y a b h1 h2
    have h3 : 2 ^ a ≤ 2 ^ max a b := Nat.pow_le_pow_right (by omega) (by omega)
    have h4 : 2 ^ b ≤ 2 ^ max a b := Nat.pow_le_pow_right (by omega) (by omega)
    rw [Nat.pow_succ]; omega
  induction t with
  | fn a b iha ihb => exact key _ _ _ _ iha ihb
  | pr a b iha ihb => exact key _ _ _ _ iha ihb
  | _ => decide
theorem size_le (t : T) (h : t.depth ≤ 4) : t.ty.size ≤ 15 := by
  have := size_depth t
  have h2 : 2 ^ t.depth ≤ 2 ^ 4 := Nat.pow_le_pow_right (by omega) h
  rw [T.ty_size]; omega

theorem DrawR.intro {w w' : World} {r N m n : Nat} {q : Option Addr} {c : Nat} {k : Int} (x : T) (l : List T) (hk : x.kind = k) (hl : x.kids = l) (hn : l.length = n) (hd : x.depth ≤ m)
    (hf : Fresh tid w w' (.sl 2 n (Ty.css (l.map T.ty))) (.slice q n c)) (hb : Bel [r] w w') (hr : Rd w' r N 61) :
    DrawR w r N m (.returned (.agg #[.int .i64 k, .slice q n c])) w' := by
  subst hk hl hn
  exact ⟨x, q, c, by rw [T.ty_kind, T.ty_kids, List.length_map], hd, by rw [T.ty_kids, List.length_map]; exact hf, hb, hr⟩

def NearN (m : Nat) : Prop := ∀ (t : T) (r N : Nat) (w : World) q c, t.depth ≤ m + 1 → t.depth ≤ 4 → N + 9 * B m ≤ 1099511627776 → Rd w r N 61 → TysRep [r] w t.ty.kids q c →
    Calls Try.prog 50 #[.pointer (some ⟨r, 0, none⟩), .agg #[.int .i64 t.ty.kind, .slice q t.ty.kids.length c]] w (DrawR w r (N + 9 * B m) 4)

set_option maxHeartbeats 1000000 in
theorem near_any (m : Nat) (r N : Nat) (w : World) (q c) (hN : N + 9 * B m ≤ 1099511627776) (hr : Rd w r N 61) :
    Calls Try.prog 50 #[.pointer (some ⟨r, 0, none⟩), .agg #[.int .i64 1, .slice q 0 c]] w (DrawR w r (N + 9 * B m) 4) := by
  have hlt := hr.lt
  have hBm := B_pos m
  have hp := fun (w' : World) (h : Rd w' r N 61) (hc : w'.heap[w.heap.size + 1 + 1]? = some (.cells #[.int .i64 2, .int .i64 1, .int .i64 3] 3 (0, 0))) =>
    num r N (by omega) [2, 1, 3] (by simp) (by simp) (w.heap.size + 1 + 1) (by omega) 3 w' h hc
  have HP := Lib.hid hp; clear hp
  have HR := Lib.hid hr; clear hr
  go_enter Try.func50, Try.ntmps50
  go_wp2_with fail
  refine (HP.out _ (HR.out.keep ((Ext.refl w).alloc _ |>.alloc _ |>.alloc _).below) (by rw [show w.heap.size + 1 + 1 = ((w.alloc _).alloc _).heap.size from by simp]; exact heap_alloc_new _ _)).mono ?_
  rintro e w1 ⟨x, rfl, hx, hb, hr1⟩
  have hx1 : 1 ≤ x ∧ x ≤ 3 := by simp at hx; omega
  have B1 : Bel [r] w w1 := (Bel.of_ext ((Ext.refl w).alloc _ |>.alloc _ |>.alloc _)).trans hb
  have hs := hb.size
  simp at hs
  have h0 : w1.heap[w.heap.size + 1]? = some (.cells #[.int .i64 0, .slice none 0 0] 29 (0, 0)) := by
    rw [hb.block _ (by simp <;> omega) (by simp <;> omega), Below.heap_alloc _ _ _ (by simp), show w.heap.size + 1 = (w.alloc _).heap.size from by simp]; exact heap_alloc_new _ _
  have hne0 : ¬ w.heap.size + 1 = r := by omega
  clear hx hb HP HR
  have H0 := Lib.hid h0; clear h0
  go_wp2_with fail
  refine (draw 2 r (N + 1) x _ (by omega) (by omega) (by omega) (by rw [show B 2 = 7 from rfl]; omega) hr1).mono ?_
  rintro e w2 ⟨t, q, c, rfl, ht, hf, hb2, hr2⟩
  have h2 : w2.heap[w.heap.size + 1]? = some (.cells #[.int .i64 0, .slice none 0 0] 29 (0, 0)) := by
    rw [hb2.block _ (by omega) (by simp; omega)]; exact H0.out
  have c0 := cell_of_heap (o := 0) h2 rfl
  have c1 := cell_of_heap (o := 1) h2 rfl
  have f0 := free_of_heap (o := 0) h2
  have f1 := free_of_heap (o := 1) h2
  clear h2 H0
  have HF := Lib.hid hf; clear hf
  have B2 := Lib.hid (B1.trans hb2); clear B1 hb2
  have HR2 := Lib.hid hr2; clear hr2 hr1
  go_wp2_with fail
  refine bodyPost_ret (v := .agg #[.int .i64 t.ty.kind, .slice q t.ty.kids.length c]) (by simp [results, Try.results50, go_sem, *]) rfl ⟨t, q, c, rfl, by omega, ?_, (B2.out.setCell (.inr (by simp)) _).setCell (.inr (by simp)) _, ?_⟩
  · exact ((HF.out.setCell (p := ⟨w.heap.size + 1, 0, none⟩) (by simp; omega) (.int .i64 t.ty.kind)).setCell (p := ⟨w.heap.size + 1, 1, none⟩) (by simp; omega) (.slice q t.ty.kids.length c)).mono (by omega)
  · exact ((HR2.out.setCell (by omega) _).setCell (by omega) _).mono (by rw [show B 2 = 7 from rfl]; omega)

set_option maxHeartbeats 4000000 in
theorem near_step (m : Nat) (ih : ∀ k, m = k + 1 → NearN k) (t : T) (ht : t ≠ .any) (hk1 : (t.ty.kind == 1) = false) (r N : Nat) (w : World) (q c) (hd : t.depth ≤ m + 1) (hd4 : t.depth ≤ 4) (hN : N + 9 * B m ≤ 1099511627776) (hr : Rd w r N 61) (hrep : TysRep [r] w t.ty.kids q c) :
    Calls Try.prog 50 #[.pointer (some ⟨r, 0, none⟩), .agg #[.int .i64 t.ty.kind, .slice q t.ty.kids.length c]] w (DrawR w r (N + 9 * B m) 4) := by
  have hlt := hr.lt
  have hBm := B_pos m
  have hkd := kids_depth t
  have hkl := kids_len t
  have hre := remake t ht
  have hrt := Ty.valid_iff
  have hts4 := size_le t hd4
  have hcopy := fun (w' : World) (h : TysRep [] w' t.ty.kids q c) => copy 16 t.ty w' q c (by omega) (by omega) h
  have hret : ∀ (e : Ending) (w w' : World), RetTy tid w t.ty e w' ↔ ∃ q cap, e = .returned (.agg #[.int .i64 t.kind, .slice q t.kids.length cap]) ∧ Fresh tid w w' (.sl 2 t.kids.length (Ty.css (t.kids.map T.ty))) (.slice q t.kids.length cap) ∧ Below w.heap.size w w' := by
    intro e w w'; simp only [RetTy, T.ty_kids, T.ty_kind, List.length_map]
  rw [T.ty_kids, T.ty_kind] at *
  have hcap : c ≤ 9223372036854775807 := hrep.len.2
  have hl := hrep.len.1
  have hp := fun (w' : World) (h : Rd w' r N 61) => pick r N (by omega) 4 (by omega) (by omega) w' h
  have HP := Lib.hid hp; clear hp
  have HR := Lib.hid hr; clear hr
  have HKD := Lib.hid hkd; clear hkd
  have HRE := Lib.hid hre; clear hre
  have HCP := Lib.hid hcopy; clear hcopy
  have HREP := Lib.hid hrep; clear hrep
  have HRET := Lib.hid hret; clear hret
  have HD4 := Lib.hid hd4; clear hd4
  clear hrt hts4
  generalize hek : t.kind = k at *
  have HEK := Lib.hid hek; clear hek
  generalize hel : t.kids = l at *
  have HEL := Lib.hid hel; clear hel
  simp only [List.length_map] at *
  go_enter Try.func50, Try.ntmps50
  go_wp2_with fail
  refine (HP.out _ (HR.out.keep ((Ext.refl w).alloc _ |>.alloc _).below)).mono ?_
  rintro e w1 ⟨z, rfl, hz0, hz1, hb, hr1⟩
  have B1 : Bel [r] w w1 := (Bel.of_ext ((Ext.refl w).alloc _ |>.alloc _)).trans hb
  have hs := hb.size
  simp at hs
  have h1 : w1.heap[w.heap.size + 1]? = some (.cells #[.int .i64 0, .slice none 0 0] 29 (0, 0)) := by
    rw [hb.block _ (by simp <;> omega) (by simp <;> omega), show w.heap.size + 1 = (w.alloc _).heap.size from by simp]; exact heap_alloc_new _ _
  have h0 : w1.heap[w.heap.size]? = some (.cells #[.int .i64 k, .slice q l.length c] 29 (0, 0)) := by
    rw [hb.block _ (by simp <;> omega) (by simp <;> omega), Below.heap_alloc _ _ _ (by simp)]; exact heap_alloc_new _ _
  have hne0 : ¬ w.heap.size = r := by omega
  have hne2 : ¬ w.heap.size + 1 = r := by omega
  have hne1 : ¬ w1.heap.size = r := by omega
  have HR1 := Lib.hid (show TysRep [r] w1 (l.map T.ty) q c from HREP.out.keep B1.keep)
  clear hb HP HR HREP
  by_cases hz : z = 0
  · subst hz
    have c0 := cell_of_heap (o := 0) h1 rfl
    have c1 := cell_of_heap (o := 1) h1 rfl
    have f0 := free_of_heap (o := 0) h1
    have f1 := free_of_heap (o := 1) h1
    clear h0 h1
    have B2 := Lib.hid B1; clear B1
    have HR2 := Lib.hid hr1; clear hr1
    go_wp2_with fail
    refine (sAny _).mono ?_
    rintro e w2 ⟨q2, cap2, rfl, hf, hb2⟩
    obtain ⟨hc2, hf2⟩ := bcell hb2
    have l0 := lt_of_cell c0
    have B3 := Lib.hid (B2.out.trans (Bel.of_below hb2))
    have HR3 := Lib.hid (HR2.out.keep hb2)
    have HF := Lib.hid hf
    clear B2 HR2 hf hb2
    go_wp2_with fail
    refine bodyPost_ret (v := .agg #[.int .i64 1, .slice q2 0 cap2]) (by simp [results, Try.results50, go_sem, *, anyT, Ty.kind, Ty.kids]) rfl ⟨.any, q2, cap2, rfl, by simp [T.depth], ?_, (B3.out.setCell (.inr (by simp)) _).setCell (.inr (by simp)) _, ?_⟩
    · exact ((HF.out.setCell (p := ⟨w.heap.size + 1, 0, none⟩) (by simp; omega) (.int .i64 1)).setCell (p := ⟨w.heap.size + 1, 1, none⟩) (by simp; omega) (.slice q2 0 cap2)).mono (by omega)
    · exact ((HR3.out.setCell (by omega) _).setCell (by omega) _).mono (by omega)
  · have hzb : (z == 0) = false := by simpa using hz
    have HH0 := Lib.hid h0; have HH1 := Lib.hid h1; have BB := Lib.hid B1; have HRR := Lib.hid hr1
    have c00 := cell_of_heap (o := 0) h0 rfl
    have c01 := cell_of_heap (o := 1) h0 rfl
    clear h0 h1 B1 hr1 hz hz1
    go_wp2_with fail
    go_loopw [6] (fun iv wr => ∃ (ts : List T) (v : Value), ts.length ≤ l.length ∧ iv = .int .i64 ts.length ∧ Bld tid wr (w1.heap.size + 1) 2 ts.length (Ty.css (ts.map T.ty)) v ∧ Bel [r] w1 wr ∧ Rd wr r (N + 1 + ts.length * (9 * B (m - 1))) 61 ∧ wr.heap[w.heap.size]? = some (.cells #[.int .i64 k, .slice q l.length c] 29 (0, 0)) ∧ wr.heap[w.heap.size + 1]? = some (.cells #[.int .i64 0, .slice none 0 0] 29 (0, 0)) ∧ wr.heap[w1.heap.size]? = some (.cells #[.int .i64 k, v] 29 (0, 0)) ∧ w1.heap.size < wr.heap.size) (fun iv _ => l.length - (intOf iv).toNat)
    case atStart => exact ⟨[], .slice none 0 0, by simp, rfl, Bld.start _ _ _ _, (Bel.refl _ _).alloc _, by simpa using HRR.out.keep ((Ext.refl _).alloc _).below, by rw [Below.heap_alloc _ _ _ (by omega)]; exact HH0.out, by rw [Below.heap_alloc _ _ _ (by omega)]; exact HH1.out, heap_alloc_new _ _, by simp⟩
    case round =>
      obtain ⟨ts, v, hts, rfl, hB, hbl, hrd, g0, g1, g2, hsz⟩ := hrel
      have hrep2 := HR1.out.keep hbl.keep
      clear HRR HH0 HH1 c00 c01
      have c00 := cell_of_heap (o := 0) g0 rfl
      have c01 := cell_of_heap (o := 1) g0 rfl
      have c20 := cell_of_heap (o := 0) g2 rfl
      have c21 := cell_of_heap (o := 1) g2 rfl
      by_cases htl : ts.length < l.length
      · have htl2 : (ts.length : Int) < l.length := by omega
        obtain ⟨b, off, rfl, hbL, hc0, q1, c1, hc1, hr'⟩ := hrep2.at (by simpa using htl)
        have hbr : ¬ b = r := by simpa using hbL
        have hx : l[ts.length] ∈ l := List.getElem_mem htl
        have hxd := HKD.out _ hx
        rw [List.getElem_map] at hc0 hc1 hr'
        generalize l[ts.length] = x at *
        obtain ⟨m', rfl⟩ : ∃ m', m = m' + 1 := ⟨m - 1, by cases x <;> simp only [T.depth] at hxd <;> omega⟩
        simp only [Nat.add_sub_cancel] at *
        have ihx := ih m' rfl
        have G0 := Lib.hid g0; have G1 := Lib.hid g1; have G2 := Lib.hid g2
        have IH := Lib.hid ihx; have HR2 := Lib.hid hr'
        clear g0 g1 g2 ihx ih hx hr' hbL hrep2
        go_wp2_with fail
        refine region_mixL [r] 3 (by kernel_rfl) (by kernel_rfl) ?_
        repeat (first | (refine mixL_skip (by rfl) (fun K hK => ?_); go_simp; refine hK _ ?_; clear hK K) | (refine mixL_free rfl (fun K hK => ?_); go_simp; refine hK _ ?_; clear hK K) | (refine mixL_read rfl rfl (fun K hK => ?_); go_simp; refine hK _ ?_; clear hK K))
        (refine mixL_loud rfl (fun K K' hK hK' => ?_); go_simp)
        refine (IH.out x r (N + 1 + ts.length * (9 * B m')) _ q1 c1 (by omega) (by have := HD4.out; omega) (by have := B_succ m'; have : ts.length * (9 * B m') ≤ 1 * (9 * B m') := Nat.mul_le_mul_right _ (by omega); omega) (hrd.keep ((Ext.refl_drew _).below)) (HR2.out.keep (Keep.drew _ _))).mono ?_
        rintro e w3 ⟨y, q', c', rfl, hyd, hf, hb3, hr3⟩
        have X3 : Bel [r] wr w3 := ((Bel.refl _ _).drew).trans hb3
        refine hK _ _ X3 ?_
        clear hK hK' K K'
        (refine mixL_loud rfl (fun K K' hK hK' => ?_); go_simp)
        refine hK _ _ (X3.alloc _) ?_
        clear hK hK' K K'
        (refine mixL_last rfl (by decide) (fun K K' hK hK' => ?_); rw [if_pos (by rfl)])
        refine wp_bldL (v := v) (ys := #[.int .i64 y.ty.kind, .slice q' y.ty.kids.length c']) (sz := 2) (.tmp 30) (.tmp 38) 27 rfl row_Type rfl hB.drew (by simp; omega) (fun b h1 h2 => hb3.block b h2 (by simp; omega)) hb3.size (New.ty hf) rfl (by simp [Value.oneCell']) rfl (by omega) (by decide) ?_
        intro g cap2 w4 hB4 hbel
        refine hK _ _ ?_
        clear hK hK' K K'
        iterate 1 (first | (refine mixL_skip (by rfl) (fun K hK => ?_); go_simp; refine hK _ ?_; clear hK K) | (refine mixL_free rfl (fun K hK => ?_); go_simp; refine hK _ ?_; clear hK K) | (refine mixL_read rfl rfl (fun K hK => ?_); go_simp; refine hK _ ?_; clear hK K))
        have G04 : w4.heap[w.heap.size]? = some (.cells #[.int .i64 k, .slice (some ⟨b, off, none⟩) l.length c] 29 (0, 0)) := by rw [hbel.block _ (by omega), X3.block _ (by omega) (by simp; omega)]; exact G0.out
        have G14 : w4.heap[w.heap.size + 1]? = some (.cells #[.int .i64 0, .slice none 0 0] 29 (0, 0)) := by rw [hbel.block _ (by omega), X3.block _ (by omega) (by simp; omega)]; exact G1.out
        have G24 : w4.heap[w1.heap.size]? = some (.cells #[.int .i64 k, v] 29 (0, 0)) := by rw [hbel.block _ (by omega), X3.block _ (by omega) (by simp; omega)]; exact G2.out
        have k1 := cell_of_heap (o := 1) G24 rfl
        have kf := free_of_heap (o := 1) G24
        have H04 := Lib.hid G04; have H14 := Lib.hid G14; have H24 := Lib.hid G24
        clear G04 G14 G24 c20 c21 c00 c01
        (refine mixL_last rfl (by decide) (fun K K' hK hK' => ?_); go_simp)
        refine hK _ _ ?_
        clear hK hK' K K'
        refine mixL_nil ?_
        have hr4 : Rd w4 r (N + 1 + ts.length * (9 * B m') + 9 * B m') 61 := hr3.below hbel (by omega)
        have hbl4 : Bel [r] w1 w4 := (hbl.trans X3).andThen hbel (by omega)
        have hsz4 : w1.heap.size < w4.heap.size := lt_of_cell k1
        clear hbel X3 hf hb3 hr3 hbl
        go_wp2_with fail
        go_roundw
        case rel =>
          refine ⟨ts ++ [y], _, by simp; omega, by simp, ?_, hbl4.setCell (.inr (by simp)) _, ?_, ?_, ?_, heap_setCell_at H24.out _, by simpa using hsz4⟩
          · rw [css_map_snoc]; simpa using hB4.setCell (p := ⟨w1.heap.size, 1, none⟩) (by simp) _
          · refine (hr4.setCell (by omega) _).mono ?_
            simp [Nat.succ_mul]; omega
          · rw [Below.heap_setCell _ _ _ _ (by simp; omega)]; exact H04.out
          · rw [Below.heap_setCell _ _ _ _ (by simp; omega)]; exact H14.out
        case measure => simp [intOf]; omega
      · have hlen : ts.length = l.length := by omega
        have htl2 : ¬ (ts.length : Int) < l.length := by omega
        obtain ⟨x, hxk, hxl⟩ := HRE.out ts hlen
        obtain ⟨q2, cq, rfl, hq⟩ := hB.val
        have hv := fun (w' : World) (h : TysRep [] w' (ts.map T.ty) q2 cq) => sValid x.ty w' q2 cq (by rw [T.ty_kids, hxl]; exact h)
        simp only [T.ty_kids, T.ty_kind, hxk, hxl, List.length_map, hlen] at hv
        have huse : N + 1 + ts.length * (9 * B (m - 1)) ≤ N + 9 * B m := by
          cases l with
          | nil => simp at hlen; simp [hlen]; omega
          | cons y ys =>
            have := HKD.out y (by simp)
            obtain ⟨m', rfl⟩ : ∃ m', m = m' + 1 := ⟨m - 1, by cases y <;> simp only [T.depth] at this <;> omega⟩
            have := B_succ m'
            have : ts.length * (9 * B m') ≤ 2 * (9 * B m') := Nat.mul_le_mul_right _ (by omega)
            simp only [Nat.add_sub_cancel]; omega
        have hdx : x.ty.valid = true → x.depth ≤ 4 := by
          intro h; rw [Ty.valid, T.shape_ty] at h; simpa using h
        have hrd2 := hrd.mono huse
        rw [hlen] at hB c21 g2 c20
        have hfr : Fresh tid w1 wr (.sl 2 l.length (Ty.css (ts.map T.ty))) (.slice q2 l.length cq) := hB.fresh (by decide) (by omega)
        have hrx : TysRep [] wr (ts.map T.ty) q2 cq := by
          have := hfr.rep (L := []) (by simp)
          simpa [TysRep, hlen] using this
        have hbw := BB.out.trans hbl
        have c10 := cell_of_heap (o := 0) g1 rfl
        have c11 := cell_of_heap (o := 1) g1 rfl
        have f10 := free_of_heap (o := 0) g1
        have f11 := free_of_heap (o := 1) g1
        generalize x.ty.valid = bb at *
        have HV := Lib.hid hv; have HFR := Lib.hid hfr; have HRX := Lib.hid hrx; have HBW := Lib.hid hbw; have HRD := Lib.hid hrd2
        have HDX := Lib.hid hdx; have HREP := Lib.hid hrep2; have HL := Lib.hid hlen; have HXK := Lib.hid hxk; have HXL := Lib.hid hxl
        clear hv hfr hrx hbw hrd2 hdx hrep2 hlen hxk hxl hbl hrd hB g0 g1 g2 huse ih hq BB HR1 HKD HRE hts htl
        go_wp2_with fail
        refine (HV.out _ HRX.out).mono ?_
        rintro e w2 ⟨rfl, hb2⟩
        obtain ⟨hc2, hf2⟩ := bcell hb2
        have l0 := lt_of_cell c00
        have l1 := lt_of_cell c10
        have l2 := lt_of_cell c20
        have HB2 := Lib.hid hb2; clear hb2 HV
        cases bb
        · go_wp2_with fail
          refine (HCP.out _ ((HREP.out.keep (Keep.of_below HB2.out)).mono (by simp))).mono ?_
          rintro e w3 hr3
          obtain ⟨q3, c3, rfl, hf3, hb3⟩ := (HRET.out _ _ _).1 hr3
          obtain ⟨hc3, hf3'⟩ := bcell hb3
          have s2 := HB2.out.size
          have s3 := hb3.size
          have l11 : w.heap.size + 1 < w2.heap.size := by omega
          have HB3 := Lib.hid hb3; have HF := Lib.hid hf3; clear hb3 hf3 hr3 HCP HRET
          go_wp2_with fail
          refine bodyPost_ret (v := .agg #[.int .i64 k, .slice q3 l.length c3]) (by simp [results, Try.results50, go_sem, *]) rfl ?_
          refine DrawR.intro t l HEK.out HEL.out rfl HD4.out ?_ (((HBW.out.andThen (HB2.out.mono (by omega)) (Nat.le_refl _)).andThen (HB3.out.mono (by omega)) (Nat.le_refl _)).setCell (.inr (by simp)) _ |>.setCell (.inr (by simp)) _) ?_
          · exact ((HF.out.setCell (p := ⟨w.heap.size + 1, 0, none⟩) (by simp; omega) (.int .i64 k)).setCell (p := ⟨w.heap.size + 1, 1, none⟩) (by simp; omega) (.slice q3 l.length c3)).mono (by omega)
          · exact (((HRD.out.keep HB2.out).keep HB3.out).setCell (by omega) _).setCell (by omega) _
        · go_wp2_with fail
          refine bodyPost_ret (v := .agg #[.int .i64 k, .slice q2 l.length cq]) (by simp [results, Try.results50, go_sem, *]) rfl ?_
          have s2 := HB2.out.size
          have hF1 : Fresh tid w1 wr (.sl 2 l.length (Ty.css (ts.map T.ty))) (.slice q2 l.length cq) := HFR.out
          refine DrawR.intro x ts HXK.out HXL.out HL.out (HDX.out trivial) ?_ ((HBW.out.andThen (HB2.out.mono (by omega)) (Nat.le_refl _)).setCell (.inr (by simp)) _ |>.setCell (.inr (by simp)) _) ?_
          · exact (((hF1.below HB2.out).setCell (p := ⟨w.heap.size + 1, 0, none⟩) (by simp; omega) (.int .i64 k)).setCell (p := ⟨w.heap.size + 1, 1, none⟩) (by simp; omega) (.slice q2 l.length cq)).mono (by omega)
          · exact ((HRD.out.keep HB2.out).setCell (by omega) _).setCell (by omega) _

theorem near (m : Nat) : NearN m := by
  induction m with
  | zero =>
    intro t r N w q c h1 h2 h3 h4 h5
    by_cases ht : t = .any
    · subst ht; exact near_any 0 r N w q c h3 h4
    · exact near_step 0 (by omega) t ht (by rw [T.ty_kind]; cases t <;> simp_all [T.kind]) r N w q c h1 h2 h3 h4 h5
  | succ m ih =>
    intro t r N w q c h1 h2 h3 h4 h5
    by_cases ht : t = .any
    · subst ht; exact near_any (m + 1) r N w q c h3 h4
    · exact near_step (m + 1) (fun k hk => by have : k = m := by omega
                                              subst this; exact ih) t ht (by rw [T.ty_kind]; cases t <;> simp_all [T.kind]) r N w q c h1 h2 h3 h4 h5
end Go.Proofs.Ytkkijdlgmlffoaa
