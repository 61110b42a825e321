/- The walks of the functions on types: equality, consistency, precision. -/
import Derived.Test.YtkkijdlgmlffoaaTyV
namespace Go.Proofs.Ytkkijdlgmlffoaa
open Go.RowKit Go.Proofs.Grad

def RelC (f : FuncId) (W : World) (R : Ty → Ty → Bool) (l l' : List Ty) : Prop :=
  ∀ (i : Nat) (h : i < l.length) (h' : i < l'.length) (w : World) q c q' c', Below W.heap.size W w → TysRep [] w l[i].kids q c → TysRep [] w l'[i].kids q' c' →
    Calls Try.prog f #[.agg #[.int .i64 l[i].kind, .slice q l[i].kids.length c], .agg #[.int .i64 l'[i].kind, .slice q' l'[i].kids.length c']] w (RetB w (R l[i] l'[i]))

set_option maxHeartbeats 800000 in
theorem EqualFunc (f : FuncId) (hfn : IsFn Try.prog f) (R : Ty → Ty → Bool) (l l' : List Ty) (W w : World) (hW : Below W.heap.size W w) (hT : RelC f W R l l') (q c q' c') (hr : TysRep [] w l q c) (hr' : TysRep [] w l' q' c') :
    Calls Try.prog 54 #[.slice q l.length c, .slice q' l'.length c', .func (.func f) #[] #[]] w (RetB w (all2 R l l')) := by
  unfold IsFn at hfn
  have hcap : c ≤ 9223372036854775807 := hr.len.2
  have hl := hr.len.1
  have hcap' : c' ≤ 9223372036854775807 := hr'.len.2
  have hl' := hr'.len.1
  by_cases hn : l.length = l'.length
  · have hn1 : ((l.length : Int) != (l'.length : Int)) = false := by simp [hn]
    have HN := Lib.hid hn; clear hn
    go_enter Try.func54, Try.ntmps54
    go_wp2_with fail
    go_loopw [17] (fun iv wr => ∃ (k : Nat), k ≤ l.length ∧ iv = .int .i64 k ∧ Hid (all2 R l l' = all2 R (l.drop k) (l'.drop k)) ∧ Below w.heap.size w wr) (fun iv _ => l.length - (intOf iv).toNat)
    case atStart => exact ⟨0, Nat.zero_le _, rfl, by simp [Hid], Below.refl _ _⟩
    case round =>
      obtain ⟨k, hk, rfl, HA, hbw⟩ := hrel
      by_cases hkl : k < l.length
      · have hkl' : k < l'.length := by rw [← HN.out]; exact hkl
        obtain ⟨b, off, rfl, hbL, hc0, p1, d1, hc1, hk1⟩ := (hr.keep (Keep.of_below hbw)).at hkl
        obtain ⟨b', off', rfl, hbL', hc0', p2, d2, hc1', hk2⟩ := (hr'.keep (Keep.of_below hbw)).at hkl'
        have hblt := lt_of_cell hc0
        have hblt' := lt_of_cell hc0'
        have hat := fun w' hb h1 h2 => hT k hkl hkl' w' p1 d1 p2 d2 hb h1 h2
        have hdr := all2_drop (f := R) hkl hkl'
        generalize hE : l[k] = t at *
        generalize hE' : l'[k] = t' at *
        clear hE hE'
        generalize hG : R t t' = bb at *
        have HAT := Lib.hid hat
        have HD : Hid (all2 R (l.drop k) (l'.drop k) = (bb && all2 R (l.drop (k + 1)) (l'.drop (k + 1)))) := hdr
        clear hat hdr hG
        go_wp2_with fail
        refine (HAT.out _ ?_ ?_ ?_).mono ?_
        · exact (((hW.trans (hbw.mono hW.size)).alloc (by have := hW.size; have := hbw.size; omega) _).alloc (by have := hW.size; have := hbw.size; simp; omega) _)
        · exact hk1.keep ((Keep.alloc _ _ _).trans (Keep.alloc _ _ _))
        · exact hk2.keep ((Keep.alloc _ _ _).trans (Keep.alloc _ _ _))
        rintro e w1 ⟨rfl, hb⟩
        have hbw1 : Below w.heap.size w w1 := hbw.trans ((((Below.refl _ _).alloc hbw.size _).alloc (by have := hbw.size; simp; omega) _).trans (hb.mono (by have := hbw.size; simp; omega)))
        cases bb
        · go_wp2_with fail
          go_ret
          exact ⟨by rw [HA.out, HD.out]; rfl, hbw1⟩
        · go_wp2_with fail
          go_roundw
          case rel => exact ⟨k + 1, by omega, by go_num, by rw [Hid, HA.out, HD.out, Bool.true_and], hbw1⟩
          case measure => simp [intOf]; omega
      · go_wp2_with fail
        go_ret
        refine ⟨?_, hbw⟩
        rw [HA.out, List.drop_eq_nil_of_le (by omega), List.drop_eq_nil_of_le (by rw [← HN.out]; omega)]; rfl
  · have hn1 : ((l.length : Int) != (l'.length : Int)) = true := by simp; omega
    have hz := all2_len (f := R) hn
    rw [hz]
    clear hn hz
    go_enter Try.func54, Try.ntmps54
    go_wp2_with fail
    go_ret
    exact ⟨rfl, Below.refl _ _⟩

/-! ### A function that compares two types by their kinds, and their parts by itself -/
def BinN (f : FuncId) (R : Ty → Ty → Bool) (n : Nat) : Prop := ∀ (a b : Ty) (w : World) q c q' c', a.size < n → TysRep [] w a.kids q c → TysRep [] w b.kids q' c' →
    Calls Try.prog f #[.agg #[.int .i64 a.kind, .slice q a.kids.length c], .agg #[.int .i64 b.kind, .slice q' b.kids.length c']] w (RetB w (R a b))

theorem BinN.rel {f : FuncId} {R : Ty → Ty → Bool} {n : Nat} (h : BinN f R n) (W : World) {k : Int} {l l' : List Ty} (hn : (Ty.mk k l).size < n + 1) : RelC f W R l l' := by
  intro i hi hi' w q c q' c' hb h1 h2
  have := Ty.sizes_mem (List.getElem_mem hi)
  simp only [Ty.size] at hn
  exact h _ _ w q c q' c' (by omega) h1 h2

theorem fn_same : IsFn Try.prog 27 := by intro args w; kernel_rfl
theorem fn_cons : IsFn Try.prog 45 := by intro args w; kernel_rfl
theorem fn_prec : IsFn Try.prog 51 := by intro args w; kernel_rfl

set_option maxHeartbeats 800000 in
theorem same_step (n : Nat) (ih : BinN 27 Ty.same n) : BinN 27 Ty.same (n + 1) := by
  intro a b w q c q' c' hn hr hr'
  obtain ⟨k, l⟩ := a
  obtain ⟨k', l'⟩ := b
  simp only [Ty.kind, Ty.kids] at hr hr' ⊢
  have hC := fun (w' : World) (E : Ext w w') => EqualFunc 27 fn_same Ty.same l l' w w' E.below (ih.rel w hn) q c q' c' (hr.keep (Keep.of_below E.below)) (hr'.keep (Keep.of_below E.below))
  have hR : (Ty.mk k l).same (.mk k' l') = (k == k' && all2 Ty.same l l') := by rw [Ty.same_eq, Ty.sames_all2]; rfl
  rw [hR]
  generalize all2 Ty.same l l' = bb at *
  have HC := Lib.hid hC; clear hC hR hn hr hr'
  by_cases hk : k = k'
  · have hk1 : (k == k') = true := by simp [hk]
    rw [hk1]
    clear hk
    go_enter Try.func27, Try.ntmps27
    go_wp2_with fail
    refine (HC.out _ (((Ext.refl w).alloc _).alloc _)).mono ?_
    rintro e w1 ⟨rfl, hb⟩
    go_wp2_with fail
    go_ret
    exact ⟨by simp, ((((Ext.refl w).alloc _).alloc _).trans hb).below⟩
  · have hk1 : (k == k') = false := by simp [hk]
    rw [hk1]
    clear hk
    go_enter Try.func27, Try.ntmps27
    go_wp2_with fail
    go_ret
    exact ⟨by simp, (((Ext.refl w).alloc _).alloc _).below⟩

theorem same (n : Nat) : BinN 27 Ty.same n := by
  induction n with
  | zero => intro a b w q c q' c' hn; omega
  | succ n ih => exact same_step n ih

set_option maxHeartbeats 800000 in
theorem cons_step (n : Nat) (ih : BinN 45 Ty.cons n) : BinN 45 Ty.cons (n + 1) := by
  intro a b w q c q' c' hn hr hr'
  obtain ⟨k, l⟩ := a
  obtain ⟨k', l'⟩ := b
  simp only [Ty.kind, Ty.kids] at hr hr' ⊢
  have hC := fun (w' : World) (E : Ext w w') => EqualFunc 45 fn_cons Ty.cons l l' w w' E.below (ih.rel w hn) q c q' c' (hr.keep (Keep.of_below E.below)) (hr'.keep (Keep.of_below E.below))
  have hR : (Ty.mk k l).cons (.mk k' l') = (k == 1 || (k' == 1 || (k == k' && all2 Ty.cons l l'))) := by rw [Ty.cons_eq]; rfl
  rw [hR]
  generalize all2 Ty.cons l l' = bb at *
  have HC := Lib.hid hC; clear hC hR hn hr hr'
  cases h1 : (k == 1)
  · cases h2 : (k' == 1)
    · cases h3 : (k == k')
      · go_enter Try.func45, Try.ntmps45
        go_wp2_with fail
        go_ret
        exact ⟨by simp, (((Ext.refl w).alloc _).alloc _).below⟩
      · go_enter Try.func45, Try.ntmps45
        go_wp2_with fail
        refine (HC.out _ (((Ext.refl w).alloc _).alloc _)).mono ?_
        rintro e w1 ⟨rfl, hb⟩
        go_wp2_with fail
        go_ret
        exact ⟨by simp, ((((Ext.refl w).alloc _).alloc _).trans hb).below⟩
    · go_enter Try.func45, Try.ntmps45
      go_wp2_with fail
      go_ret
      exact ⟨by simp, (((Ext.refl w).alloc _).alloc _).below⟩
  · go_enter Try.func45, Try.ntmps45
    go_wp2_with fail
    go_ret
    exact ⟨by simp, (((Ext.refl w).alloc _).alloc _).below⟩

theorem cons (n : Nat) : BinN 45 Ty.cons n := by
  induction n with
  | zero => intro a b w q c q' c' hn; omega
  | succ n ih => exact cons_step n ih

set_option maxHeartbeats 800000 in
theorem prec_step (n : Nat) (ih : BinN 51 Ty.prec n) : BinN 51 Ty.prec (n + 1) := by
  intro a b w q c q' c' hn hr hr'
  obtain ⟨k, l⟩ := a
  obtain ⟨k', l'⟩ := b
  simp only [Ty.kind, Ty.kids] at hr hr' ⊢
  have hC := fun (w' : World) (E : Ext w w') => EqualFunc 51 fn_prec Ty.prec l l' w w' E.below (ih.rel w hn) q c q' c' (hr.keep (Keep.of_below E.below)) (hr'.keep (Keep.of_below E.below))
  have hR : (Ty.mk k l).prec (.mk k' l') = (k' == 1 || (k == k' && all2 Ty.prec l l')) := by rw [Ty.prec_eq]; rfl
  rw [hR]
  generalize all2 Ty.prec l l' = bb at *
  have HC := Lib.hid hC; clear hC hR hn hr hr'
  cases h2 : (k' == 1)
  · cases h3 : (k == k')
    · go_enter Try.func51, Try.ntmps51
      go_wp2_with fail
      go_ret
      exact ⟨by simp, (((Ext.refl w).alloc _).alloc _).below⟩
    · go_enter Try.func51, Try.ntmps51
      go_wp2_with fail
      refine (HC.out _ (((Ext.refl w).alloc _).alloc _)).mono ?_
      rintro e w1 ⟨rfl, hb⟩
      go_wp2_with fail
      go_ret
      exact ⟨by simp, ((((Ext.refl w).alloc _).alloc _).trans hb).below⟩
  · go_enter Try.func51, Try.ntmps51
    go_wp2_with fail
    go_ret
    exact ⟨by simp, (((Ext.refl w).alloc _).alloc _).below⟩

theorem prec (n : Nat) : BinN 51 Ty.prec n := by
  induction n with
  | zero => intro a b w q c q' c' hn; omega
  | succ n ih => exact prec_step n ih
end Go.Proofs.Ytkkijdlgmlffoaa
