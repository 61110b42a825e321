/- The walks of the functions on types: validity, equality. -/
import Derived.Test.YtkkijdlgmlffoaaTyW
namespace Go.Proofs.Ytkkijdlgmlffoaa
open Go.RowKit Go.Proofs.Grad

set_option maxHeartbeats 400000 in
theorem scan_zero : ScanN 0 := by
  intro t d w q c hd hr
  obtain ⟨k, l⟩ := t
  obtain rfl : d = 5 := by omega
  simp only [Ty.kind, Ty.kids] at hr ⊢
  rw [show Ty.shape 0 (.mk k l) = false from rfl]
  go_enter Try.func52, Try.ntmps52
  go_wp2_with fail
  all_goals go_ret
  all_goals exact ⟨rfl, ((Below.refl _ _).alloc (Nat.le_refl _) _).alloc (by simp) _⟩

theorem scan (m : Nat) (hm : m ≤ 4) : ScanN m := by
  induction m with
  | zero => exact scan_zero
  | succ m ih => exact scan_step m (ih (by omega)) (by omega)

theorem iValid (t : Ty) (w : World) (q c) (hr : TysRep [] w t.kids q c) : Calls Try.prog 25 #[.agg #[.int .i64 t.kind, .slice q t.kids.length c]] w (RetB w t.valid) := by
  have h1 := scan 4 (by omega) t 1 (w.alloc (.cells #[.int .i64 t.kind, .slice q t.kids.length c] 29)) q c (by omega) (hr.keep (Keep.alloc _ _ _))
  have H1 := Lib.hid h1; clear h1
  unfold Ty.valid
  go_enter Try.func25, Try.ntmps25
  go_wp2_with fail
  refine H1.out.mono ?_
  rintro e w1 ⟨rfl, hb⟩
  go_wp2_with fail
  go_ret
  exact ⟨rfl, ((Below.refl _ _).alloc (Nat.le_refl _) _).trans (hb.mono (by simp))⟩

theorem l1Kids (k : Int) (w : World) : Calls Try.prog 77 #[.int .i64 k] w (RetI w (kidsN k)) := by
  go_enter Try.func77, Try.ntmps77
  go_wp2_with fail
  all_goals go_ret
  all_goals exact ⟨by unfold kidsN; simp_all, Below.refl _ _⟩

def ShN (m : Nat) : Prop := ∀ (t : Ty) (d : Int) (w : World) q c, d = m → TysRep [] w t.kids q c →
    Calls Try.prog 61 #[.agg #[.int .i64 t.kind, .slice q t.kids.length c], .int .i64 d] w (RetB w (t.shape m))

set_option maxHeartbeats 400000 in
theorem shape_zero : ShN 0 := by
  intro t d w q c hd hr
  obtain rfl : d = 0 := by omega
  clear hd
  rw [show Ty.shape 0 t = false from rfl]
  go_enter Try.func61, Try.ntmps61
  go_wp2_with fail
  refine region_mix 0 (by kernel_rfl) (by kernel_rfl) ?_
  repeat (first | (refine mix_skip (by rfl) (fun K hK => ?_); go_simp; refine hK _ ?_; clear hK K) | (refine mix_free rfl (fun K hK => ?_); go_simp; refine hK _ ?_; clear hK K) | (refine mix_read rfl rfl (fun K hK => ?_); go_simp; refine hK _ ?_; clear hK K))
  refine mix_nil ?_
  go_wp2_with fail
  go_ret
  exact ⟨rfl, (((Below.refl _ _).alloc (Nat.le_refl _) _).drew)⟩

set_option maxHeartbeats 400000 in
theorem shape_step (m : Nat) (ih : ShN m) (hm : m ≤ 3) : ShN (m + 1) := by
  intro t d w q c hd hr
  have hd1 : decide (d < 1) = false := by simp; omega
  have hd2 : d ≤ 4 := by omega
  have hd3 : 1 ≤ d := by omega
  have HD := Lib.hid hd; clear hd
  have hlen := hr.len
  have hl := hlen.1
  have hcap : c ≤ 9223372036854775807 := hlen.2
  clear hlen
  by_cases hk : kidsN t.kind = t.kids.length
  · have hk1 : (kidsN t.kind != (t.kids.length : Int)) = false := by simp [hk]
    have HK := Lib.hid hk; clear hk
    go_enter Try.func61, Try.ntmps61
    go_wp2_with fail
    refine region_mix 0 (by kernel_rfl) (by kernel_rfl) ?_
    repeat (first | (refine mix_skip (by rfl) (fun K hK => ?_); go_simp; refine hK _ ?_; clear hK K) | (refine mix_free rfl (fun K hK => ?_); go_simp; refine hK _ ?_; clear hK K) | (refine mix_read rfl rfl (fun K hK => ?_); go_simp; refine hK _ ?_; clear hK K))
    (refine mix_loud rfl (fun K K' hK hK' => ?_); go_simp)
    refine (l1Kids t.kind _).mono ?_
    rintro e w1 ⟨rfl, hb⟩
    refine hK _ _ ((Ext.refl_drew _).trans hb) ?_
    clear hK hK' K K'
    repeat (first | (refine mix_skip (by rfl) (fun K hK => ?_); go_simp; refine hK _ ?_; clear hK K) | (refine mix_free rfl (fun K hK => ?_); go_simp; refine hK _ ?_; clear hK K) | (refine mix_read rfl rfl (fun K hK => ?_); go_simp; refine hK _ ?_; clear hK K))
    refine mix_nil ?_
    have hbw1 : Below w.heap.size w w1 := (((Below.refl _ _).alloc (Nat.le_refl _) _).drew).trans (hb.mono (by simp))
    obtain ⟨hc1, hf1⟩ := bcell hb
    go_wp2_with fail
    go_loopw [5] (fun iv wr => ∃ (k : Nat), k ≤ t.kids.length ∧ iv = .int .i64 k ∧ (∀ x ∈ t.kids.take k, (!x.shape m) = false) ∧ Below w.heap.size w wr ∧ Below w1.heap.size w1 wr) (fun iv _ => t.kids.length - (intOf iv).toNat)
    case atStart => exact ⟨0, Nat.zero_le _, rfl, by simp, hbw1, Below.refl _ _⟩
    case round =>
      obtain ⟨k, hk, rfl, hno, hbw, hbr⟩ := hrel
      obtain ⟨hc2, hf2⟩ := bcell hbr
      have hs1 : w.heap.size < w1.heap.size := by have := hb.size; simp at this; omega
      have HNO := Lib.hid hno; clear hno
      by_cases hkl : k < t.kids.length
      · obtain ⟨b, off, rfl, hbL, hc0, q', c', hc1', hr'⟩ := (hr.keep (Keep.of_below hbw)).at hkl
        have h2 := fun h : (!t.kids[k].shape m) = false => take_false (p := fun x => !x.shape m) hkl HNO.out h
        have hsh : t.kids[k].shape m = false → t.kids.all (Ty.shape m) = false := fun h => by
          rw [List.all_eq_false]; exact ⟨_, List.getElem_mem hkl, by simp [h]⟩
        have hkd := ih t.kids[k] (d - 1) wr q' c' (by rw [HD.out]; omega) hr'
        generalize hE : t.kids[k] = x at *
        have HE := Lib.hid hE; clear hE
        have HKD := Lib.hid hkd; clear hkd
        cases hp : x.shape m
        · have HS := Lib.hid (hsh hp); clear hsh h2
          rw [hp] at HKD
          clear hp
          go_wp2_with fail
          refine HKD.out.mono ?_
          rintro e w2 ⟨rfl, hb2⟩
          go_wp2_with fail
          go_ret
          exact ⟨by rw [Ty.shape, HS.out]; simp, hbw.trans (hb2.mono hbw.size)⟩
        · have H2 := Lib.hid (h2 (by simp [hp])); clear hsh h2
          rw [hp] at HKD
          clear hp
          go_wp2_with fail
          refine HKD.out.mono ?_
          rintro e w2 ⟨rfl, hb2⟩
          go_wp2_with fail
          go_roundw
          case rel => exact ⟨k + 1, by omega, by go_num, H2.out, hbw.trans (hb2.mono hbw.size), hbr.trans (hb2.mono hbr.size)⟩
          case measure => simp [intOf]; omega
      · go_wp2_with fail
        go_ret
        refine ⟨?_, hbw⟩
        have : t.shape (m + 1) = true := by
          rw [Ty.shape]
          simp only [HK.out, beq_self_eq_true, Bool.true_and, List.all_eq_true]
          intro x hx
          have := HNO.out x (by rw [List.take_of_length_le (by omega)]; exact hx)
          simpa using this
        rw [this]; rfl
  · have hk1 : (kidsN t.kind != (t.kids.length : Int)) = true := by simp [hk]
    have HK := Lib.hid hk; clear hk
    go_enter Try.func61, Try.ntmps61
    go_wp2_with fail
    refine region_mix 0 (by kernel_rfl) (by kernel_rfl) ?_
    repeat (first | (refine mix_skip (by rfl) (fun K hK => ?_); go_simp; refine hK _ ?_; clear hK K) | (refine mix_free rfl (fun K hK => ?_); go_simp; refine hK _ ?_; clear hK K) | (refine mix_read rfl rfl (fun K hK => ?_); go_simp; refine hK _ ?_; clear hK K))
    (refine mix_loud rfl (fun K K' hK hK' => ?_); go_simp)
    refine (l1Kids t.kind _).mono ?_
    rintro e w1 ⟨rfl, hb⟩
    refine hK _ _ ((Ext.refl_drew _).trans hb) ?_
    clear hK hK' K K'
    repeat (first | (refine mix_skip (by rfl) (fun K hK => ?_); go_simp; refine hK _ ?_; clear hK K) | (refine mix_free rfl (fun K hK => ?_); go_simp; refine hK _ ?_; clear hK K) | (refine mix_read rfl rfl (fun K hK => ?_); go_simp; refine hK _ ?_; clear hK K))
    refine mix_nil ?_
    have hbw1 : Below w.heap.size w w1 := (((Below.refl _ _).alloc (Nat.le_refl _) _).drew).trans (hb.mono (by simp))
    go_wp2_with fail
    go_ret
    exact ⟨by rw [show t.shape (m + 1) = false from by rw [Ty.shape]; simp [HK.out]]; rfl, hbw1⟩

theorem shape (m : Nat) (hm : m ≤ 4) : ShN m := by
  induction m with
  | zero => exact shape_zero
  | succ m ih => exact shape_step m (ih (by omega)) (by omega)

theorem sValid (t : Ty) (w : World) (q c) (hr : TysRep [] w t.kids q c) : Calls Try.prog 37 #[.agg #[.int .i64 t.kind, .slice q t.kids.length c]] w (RetB w t.valid) := by
  have h1 := shape 4 (by omega) t 4 (w.alloc (.cells #[.int .i64 t.kind, .slice q t.kids.length c] 29)) q c rfl (hr.keep (Keep.alloc _ _ _))
  have H1 := Lib.hid h1; clear h1
  unfold Ty.valid
  go_enter Try.func37, Try.ntmps37
  go_wp2_with fail
  refine H1.out.mono ?_
  rintro e w1 ⟨rfl, hb⟩
  go_wp2_with fail
  go_ret
  exact ⟨rfl, ((Below.refl _ _).alloc (Nat.le_refl _) _).trans (hb.mono (by simp))⟩
end Go.Proofs.Ytkkijdlgmlffoaa
