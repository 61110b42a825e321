/- The walks of the laws' own functions on types: copies and comparisons. -/
import Derived.Test.YtkkijdlgmlffoaaOwn
import Derived.Test.YtkkijdlgmlffoaaFill
namespace Go.Proofs.Ytkkijdlgmlffoaa
open Go.RowKit Go.Proofs.Grad

def EqSN (n : Nat) : Prop := ∀ (l l' : List Ty) (w : World) q c q' c', Ty.sizes l < n → TysRep [] w l q c → TysRep [] w l' q' c' →
    Calls Try.prog 30 #[.slice q l.length c, .slice q' l'.length c'] w (RetB w (Ty.sames l l'))

theorem eqT_aux (n : Nat) (ih : EqSN n) (a b : Ty) (w : World) (q c q' c') (hn : Ty.sizes a.kids < n) (hr : TysRep [] w a.kids q c) (hr' : TysRep [] w b.kids q' c') :
    Calls Try.prog 16 #[.agg #[.int .i64 a.kind, .slice q a.kids.length c], .agg #[.int .i64 b.kind, .slice q' b.kids.length c']] w (RetB w (a.same b)) := by
  obtain ⟨k, l⟩ := a
  obtain ⟨k', l'⟩ := b
  simp only [Ty.kind, Ty.kids] at hr hr' hn ⊢
  have hC := fun (w' : World) (E : Ext w w') => ih l l' w' q c q' c' hn (hr.keep (Keep.of_below E.below)) (hr'.keep (Keep.of_below E.below))
  rw [show (Ty.mk k l).same (.mk k' l') = (k == k' && Ty.sames l l') from rfl]
  generalize Ty.sames l l' = bb at *
  have HC := Lib.hid hC; clear hC hn hr hr'
  cases hk : (k == k')
  · have hk1 : (k != k') = true := by simp [bne, hk]
    clear hk
    go_enter Try.func16, Try.ntmps16
    go_wp2_with fail
    go_ret
    exact ⟨rfl, (((Ext.refl w).alloc _).alloc _).below⟩
  · have hk1 : (k != k') = false := by simp [bne, hk]
    clear hk
    cases bb
    all_goals
      go_enter Try.func16, Try.ntmps16
      go_wp2_with fail
      refine (HC.out _ (((Ext.refl w).alloc _).alloc _)).mono ?_
      rintro e w1 ⟨rfl, hb⟩
      go_wp2_with fail
      go_ret
      exact ⟨rfl, ((((Ext.refl w).alloc _).alloc _).trans hb).below⟩

set_option maxHeartbeats 800000 in
theorem eqS_step (n : Nat) (ih : EqSN n) : EqSN (n + 1) := by
  intro l l' w q c q' c' hn hr hr'
  have hcap : c ≤ 9223372036854775807 := hr.len.2
  have hl := hr.len.1
  have hcap' : c' ≤ 9223372036854775807 := hr'.len.2
  have hl' := hr'.len.1
  by_cases hln : l.length = l'.length
  · have hn1 : ((l.length : Int) != (l'.length : Int)) = false := by simp [hln]
    have HN := Lib.hid hln; clear hln
    go_enter Try.func30, Try.ntmps30
    go_wp2_with fail
    go_loopw [5] (fun iv wr => ∃ (k : Nat), k ≤ l.length ∧ iv = .int .i64 k ∧ Hid (Ty.sames l l' = all2 Ty.same (l.drop k) (l'.drop k)) ∧ Below w.heap.size w wr) (fun iv _ => l.length - (intOf iv).toNat)
    case atStart => exact ⟨0, Nat.zero_le _, rfl, by simp [Hid, Ty.sames_all2], Below.refl _ _⟩
    case round =>
      obtain ⟨k, hk, rfl, HA, hbw⟩ := hrel
      by_cases hkl : k < l.length
      · have hkl' : k < l'.length := by rw [← HN.out]; exact hkl
        obtain ⟨b, off, rfl, hbL, hc0, p1, d1, hc1, hk1⟩ := (hr.keep (Keep.of_below hbw)).at hkl
        obtain ⟨b', off', rfl, hbL', hc0', p2, d2, hc1', hk2⟩ := (hr'.keep (Keep.of_below hbw)).at hkl'
        have hsz := Ty.kid_lt hkl
        have hdr := all2_drop (f := Ty.same) hkl hkl'
        have hkl2 : (k : Int) < l'.length := by omega
        generalize hE : l[k] = t at *
        generalize hE' : l'[k] = t' at *
        clear hE hE'
        have hat := fun (w' : World) (E : Ext wr w') => eqT_aux n ih t t' w' p1 d1 p2 d2 (by omega) (hk1.keep (Keep.of_below E.below)) (hk2.keep (Keep.of_below E.below))
        generalize hG : t.same t' = bb at *
        have HAT := Lib.hid hat
        have HD : Hid (all2 Ty.same (l.drop k) (l'.drop k) = (bb && all2 Ty.same (l.drop (k + 1)) (l'.drop (k + 1)))) := hdr
        clear hat hdr hG
        cases bb
        all_goals
          go_wp2_with fail
          refine region_mix 0 (by kernel_rfl) (by kernel_rfl) ?_
          repeat (first | (refine mix_skip (by rfl) (fun K hK => ?_); go_simp; refine hK _ ?_; clear hK K) | (refine mix_free rfl (fun K hK => ?_); go_simp; refine hK _ ?_; clear hK K) | (refine mix_read rfl rfl (fun K hK => ?_); go_simp; refine hK _ ?_; clear hK K))
          (refine mix_loud rfl (fun K K' hK hK' => ?_); go_simp)
          refine (HAT.out _ (Ext.refl_drew _)).mono ?_
          rintro e w1 ⟨rfl, hb⟩
          have E1 := (Ext.refl_drew _).trans hb
          refine hK _ _ E1 ?_
          clear hK hK' K K'
          repeat (first | (refine mix_skip (by rfl) (fun K hK => ?_); go_simp; refine hK _ ?_; clear hK K) | (refine mix_free rfl (fun K hK => ?_); go_simp; refine hK _ ?_; clear hK K) | (refine mix_read rfl rfl (fun K hK => ?_); go_simp; refine hK _ ?_; clear hK K))
          refine mix_nil ?_
          have hbw1 := hbw.trans (E1.below.mono hbw.size)
          go_wp2_with fail
        · go_ret
          exact ⟨by rw [HA.out, HD.out]; rfl, hbw1⟩
        · go_roundw
          case rel => exact ⟨k + 1, by omega, by go_num, by rw [Hid, HA.out, HD.out, Bool.true_and], hbw1⟩
          case measure => simp [intOf]; omega
      · go_wp2_with fail
        go_ret
        refine ⟨?_, hbw⟩
        rw [HA.out, List.drop_eq_nil_of_le (by omega), List.drop_eq_nil_of_le (by rw [← HN.out]; omega)]; rfl
  · have hn1 : ((l.length : Int) != (l'.length : Int)) = true := by simp; omega
    have hz : Ty.sames l l' = false := by rw [Ty.sames_all2]; exact all2_len hln
    rw [hz]
    clear hln hz
    go_enter Try.func30, Try.ntmps30
    go_wp2_with fail
    go_ret
    exact ⟨rfl, Below.refl _ _⟩

theorem eqS (n : Nat) : EqSN n := by
  induction n with
  | zero => intro l l' w q c q' c' hn; omega
  | succ n ih => exact eqS_step n ih
theorem eqT (a b : Ty) (w : World) (q c q' c') (hr : TysRep [] w a.kids q c) (hr' : TysRep [] w b.kids q' c') :
    Calls Try.prog 16 #[.agg #[.int .i64 a.kind, .slice q a.kids.length c], .agg #[.int .i64 b.kind, .slice q' b.kids.length c']] w (RetB w (a.same b)) := eqT_aux _ (eqS (Ty.sizes a.kids + 1)) a b w q c q' c' (by omega) hr hr'

/-! ### copies -/
def ToSN (n : Nat) : Prop := ∀ (l : List Ty) (w : World) q c, Ty.sizes l < n → n ≤ 4294967296 → TysRep [] w l q c →
    Calls Try.prog 39 #[.slice q l.length c] w fun e w' => ∃ g, e = .returned (.slice (some ⟨g, 0, none⟩) l.length l.length) ∧ Fresh tid w w' (.sl 2 l.length (Ty.css l)) (.slice (some ⟨g, 0, none⟩) l.length l.length) ∧ Below w.heap.size w w'

set_option maxHeartbeats 800000 in
theorem toT_aux (n : Nat) (ih : ToSN n) (a : Ty) (w : World) (q c) (hn : Ty.sizes a.kids < n) (hsm : n ≤ 4294967296) (hr : TysRep [] w a.kids q c) :
    Calls Try.prog 14 #[.agg #[.int .i64 a.kind, .slice q a.kids.length c]] w (RetTy tid w a) := by
  obtain ⟨k, l⟩ := a
  simp only [Ty.kind, Ty.kids] at hr hn ⊢
  have hC := fun (w' : World) (E : Below w.heap.size w w') => ih l w' q c hn hsm (hr.keep (Keep.of_below E))
  have HC := Lib.hid hC; clear hC hn hr
  go_enter Try.func14, Try.ntmps14
  go_wp2_with fail
  refine (HC.out _ (by repeat (first | exact Below.refl _ _ | refine Below.setCell ?_ (by simp) _ | refine Below.alloc ?_ (by simp <;> omega) _))).mono ?_
  rintro e w1 ⟨g, rfl, hf, hb⟩
  obtain ⟨hc, hf1⟩ := bcell hb
  have hsz : w.heap.size + 1 + 1 < w1.heap.size := by have := hb.size; simp at this; omega
  have hsz1 : w.heap.size + 1 < w1.heap.size := by omega
  have hbw : Below w.heap.size w w1 := ((((Ext.refl w).alloc _).alloc _).alloc _ |>.trans hb).below
  have HF := Lib.hid hf; have HB := Lib.hid hb; clear hf hb
  go_wp2_with fail
  refine bodyPost_ret (v := .agg #[.int .i64 k, .slice (some ⟨g, 0, none⟩) l.length l.length]) (by simp [results, Try.results14, go_sem, *]) rfl ⟨some ⟨g, 0, none⟩, l.length, rfl, ?_, ?_⟩
  · exact (((HF.out.setCell (by simp) _).setCell (by simp) _).setCell (by simp) _).mono (by simp; omega)
  · exact ((hbw.setCell (by simp; omega) _).setCell (by simp) _).setCell (by simp) _

theorem Ty.css_length (l : List Ty) : (Ty.css l).length = l.length * 2 := by
  induction l with
  | nil => rfl
  | cons t l ih => rw [Ty.css, List.length_append, Ty.cs_length, ih, List.length_cons]; omega

theorem zero_Type (w : World) : (zeroValue 29).run Try.prog w = .ok (.agg #[.int .i64 0, .slice none 0 0]) w := by kernel_rfl

set_option maxHeartbeats 800000 in
theorem toS_step (n : Nat) (ih : ToSN n) : ToSN (n + 1) := by
  intro l w q c hn hsm hr
  have hcap : c ≤ 9223372036854775807 := hr.len.2
  have hl := hr.len.1
  have hls := Ty.length_le_sizes l
  have hlb : l.length < 4294967296 := by omega
  go_enter Try.func39, Try.ntmps39
  have hmk := fun u : World => run_make_row (P := Try.prog) (t := 27) (by kernel_rfl) info_Type (n := l.length) (by omega) (by omega) u
  generalize hmc : madeCells (Value.agg #[.int .i64 0, .slice none 0 0]).cells (l.length * 2) = mc at hmk
  have hms : mc.size = l.length * 2 := by rw [← hmc]; simp [madeCells]
  clear hmc
  have HMS := Lib.hid hms; clear hms
  go_wp2_with fail
  have hst : Fill tid (w.alloc (.cells mc 29)) w.heap.size 2 l.length 0 (Ty.css (l.take 0)) w.heap.size := Fill.start (cur := mc) (heap_alloc_new _ _) HMS.out (Nat.le_refl _)
  have HST := Lib.hid hst; clear hst
  go_loopw [4] (fun iv wr => ∃ (i : Nat), i ≤ l.length ∧ iv = .int .i64 i ∧ Fill tid wr w.heap.size 2 l.length i (Ty.css (l.take i)) w.heap.size ∧ Below w.heap.size w wr) (fun iv _ => l.length - (intOf iv).toNat)
  case atStart => exact ⟨0, Nat.zero_le _, rfl, HST.out, ((Ext.refl w).alloc _).below⟩
  case round =>
    obtain ⟨i, hi, rfl, hF, hbw⟩ := hrel
    by_cases hil : i < l.length
    · obtain ⟨b, off, rfl, hbL, hc0, q', c', hc1, hr'⟩ := (hr.keep (Keep.of_below hbw)).at hil
      have hkid := Ty.kid_lt hil
      have htk := Ty.css_take_succ hil
      generalize hE : l[i] = t at *
      clear hE
      have HT := Lib.hid htk; clear htk
      have hC := toT_aux n ih t wr q' c' (by omega) (by omega) hr'
      have HC := Lib.hid hC; clear hC
      have HF := Lib.hid hF; clear hF
      have HMK := Lib.hid hmk; clear hmk
      go_wp2_with fail
      refine HC.out.mono ?_
      rintro e w1 ⟨q2, c2, rfl, hf, hb⟩
      obtain ⟨hA, hB, hC⟩ := (HF.out.below hb).at
      obtain ⟨v0, hv0⟩ := hA (i * 2) (by omega)
      obtain ⟨v1, hv1⟩ := hA (i * 2 + 1) (by omega)
      have hf0 := hB (i * 2)
      have hf1 := hB (i * 2 + 1)
      have hstep := HF.out.step hb (New.ty hf) rfl hil hbw.size
      rw [← HT.out] at hstep
      have hbw2 : Below w.heap.size w (setCells w1 w.heap.size (i * 2) [.int .i64 t.kind, .slice q2 t.kids.length c2]) := setCells_below _ (hbw.trans (hb.mono hbw.size)) (Nat.le_refl _)
      have HS := Lib.hid hstep; have HB := Lib.hid hbw2
      clear hstep hbw2 hA hB hC hf hb
      go_wp2_with fail
      go_roundw
      case rel => exact ⟨i + 1, by omega, by go_num, HS.out, HB.out⟩
      case measure => simp [intOf]; omega
    · have hil' : i = l.length := by omega
      subst hil'
      go_wp2_with fail
      go_ret
      refine ⟨w.heap.size, rfl, ?_, hbw⟩
      rw [List.take_length] at hF
      exact hF.fresh (by simp [maxLen]; omega) (Ty.css_length l) (Nat.le_refl _)

theorem toS (n : Nat) : ToSN n := by
  induction n with
  | zero => intro l w q c hn; omega
  | succ n ih => exact toS_step n ih
theorem toT (a : Ty) (w : World) (q c) (hn : Ty.sizes a.kids < 4294967296) (hr : TysRep [] w a.kids q c) :
    Calls Try.prog 14 #[.agg #[.int .i64 a.kind, .slice q a.kids.length c]] w (RetTy tid w a) := toT_aux _ (toS _) a w q c hn (Nat.le_refl _) hr
end Go.Proofs.Ytkkijdlgmlffoaa
