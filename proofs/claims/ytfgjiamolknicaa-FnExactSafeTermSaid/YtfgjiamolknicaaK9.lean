/- Texts of the proof, one behind another. -/
import Derived.Test.YtfgjiamolknicaaRows
import Derived.ProofKit
import Derived.OpenShut
import Derived.Test.YtfgjiamolknicaaK4
import Derived.Test.YtfgjiamolknicaaK5
import Derived.Test.YtfgjiamolknicaaK8
set_option linter.unusedSimpArgs false
set_option linter.unusedVariables false
/- Types: the helpers of the exact laws, on shadows. -/
namespace Go.Proofs.Sh
open Go.RowKit Go.Proofs.Grad

/-! ### trees from memory: lengths fit -/
def szR (x : Nat) (left : Int) : Int := if (x : Int) ≤ left then left - x else -1
theorem szR_neg {x : Nat} {left : Int} (h : decide (szR x left < 0) = true) : szR x left = -1 := by
  have h := of_decide_eq_true h
  unfold szR at h ⊢
  split <;> rename_i h' <;> simp [h'] at h ⊢
  omega
theorem szR_nneg {x : Nat} {left : Int} (h : decide (szR x left < 0) = false) : (x : Int) ≤ left ∧ szR x left = left - x := by
  have h := of_decide_eq_false h
  unfold szR at h ⊢
  split <;> rename_i h' <;> simp [h'] at h ⊢
theorem tyall2_kid {f : Ty → Ty → Bool} {a b : List Ty} {i : Nat} (ha : i < a.length) (hb : i < b.length) : all2 f (a.drop i) (b.drop i) = (f (kid a i) (kid b i) && all2 f (a.drop (i + 1)) (b.drop (i + 1))) := by
  rw [drop_kid ha, drop_kid hb]; rfl
theorem tyall2_end {f : Ty → Ty → Bool} {a b : List Ty} {i : Nat} (ha : ¬ i < a.length) (hb : a.length = b.length) : all2 f (a.drop i) (b.drop i) = true := by
  rw [List.drop_eq_nil_of_le (by omega), List.drop_eq_nil_of_le (by omega)]; rfl

/-! ### sizes -/
theorem tyw_mem {l : List Ty} {k : Nat} (h : k < l.length) : Ty.wts (l.take (k + 1)) = Ty.wts (l.take k) + (1 + (kid l k).wt) := by
  rw [take_kid h]
  induction l.take k with
  | nil => simp [Ty.wts]
  | cons x m ih => simp only [List.cons_append, Ty.wts, ih]; omega
theorem tyw_rest (l : List Ty) : ∀ k, k ≤ l.length → Ty.wts (l.take k) + (l.length - k) ≤ Ty.wts l := by
  induction l with
  | nil => intro k _; simp [Ty.wts]
  | cons x l ih =>
    intro k hk
    cases k with
    | zero => have := ih 0 (by omega); simp [Ty.wts] at this ⊢; omega
    | succ k => have := ih k (by simpa using hk); simp [Ty.wts] at this ⊢; omega
theorem tyw_fit {l : List Ty} (h : Ty.fitss l) {k : Nat} (hk : k < l.length) : (kid l k).fits := by
  rw [kid_eq hk]; exact Ty.fitss_mem h (List.getElem_mem hk)

/-! ### lists filled from the front -/
def tyF (l : List Ty) (k : Nat) : List (List C) := tyR (l.take k) ++ List.replicate (l.length - k) [.sc (.int .i64 0), .sc (.slice none 0 0)]
theorem tyF_0 (l : List Ty) : tyF l 0 = List.replicate l.length [.sc (.int .i64 0), .sc (.slice none 0 0)] := by simp [tyF, tyR]
theorem tyF_get {l : List Ty} {k : Nat} (h : k < l.length) : (tyF l k)[k]? = some [.sc (.int .i64 0), .sc (.slice none 0 0)] := by
  have e : (tyR (l.take k)).length = k := by rw [tyR_length, List.length_take]; omega
  rw [tyF, List.getElem?_append_right (by omega), e, Nat.sub_self, List.getElem?_replicate, if_pos (by omega)]
theorem tyF_set {l : List Ty} {k : Nat} (h : k < l.length) : (tyF l k).set k (tyC (kid l k)) = tyF l (k + 1) := by
  have e : (tyR (l.take k)).length = k := by rw [tyR_length, List.length_take]; omega
  rw [tyF, tyF, List.set_append_right _ _ (by omega), e, Nat.sub_self, show l.length - k = (l.length - (k + 1)) + 1 by omega, List.replicate_succ, List.set_cons_zero, tyR_take h, List.append_assoc]
  rfl
theorem tyF_end (l : List Ty) : tyF l l.length = tyR l := by simp [tyF]
@[go_sem] theorem tyF_pr (h : List Blk) (ks : List Nat) (l : List Ty) (k : Nat) : prRs h ks (tyF l k) = some (tyF l k, []) := by
  have h1 : ∀ n, prRs h ks (List.replicate n [.sc (.int .i64 0), .sc (.slice none 0 0)]) = some (List.replicate n [.sc (.int .i64 0), .sc (.slice none 0 0)], []) := by
    intro n
    induction n with
    | zero => rfl
    | succ n ih => rw [List.replicate_succ, prRs, ih]; rfl
  have h2 : ∀ (m : List Ty) n, prRs h ks (tyR m ++ List.replicate n [.sc (.int .i64 0), .sc (.slice none 0 0)]) = some (tyR m ++ List.replicate n [.sc (.int .i64 0), .sc (.slice none 0 0)], []) := by
    intro m n
    induction m with
    | nil => exact h1 n
    | cons x m ih => rw [tyR, List.cons_append, prRs, ih, prL, if_pos (tyC_treeL x)]; rfl
  exact h2 _ _
@[go_sem] theorem tyF_rows (l : List Ty) (k : Nat) : rowsLen 2 (tyF l k) = true := by
  have : ∀ n, rowsLen 2 (List.replicate n [.sc (.int .i64 0), .sc (.slice none 0 0)]) = true := by
    intro n
    induction n with
    | zero => rfl
    | succ n ih => rw [List.replicate_succ, rowsLen_cons, ih]; rfl
  rw [tyF, rowsLen_append, tyR_len, this]; rfl
theorem tyF_len (l : List Ty) {k : Nat} (h : k ≤ l.length) : (tyF l k).length = l.length := by
  simp [tyF, tyR_length]; omega
end Go.Proofs.Sh
namespace Go.Proofs.Ytfgjiamolknicaa
open Go.RowKit Go.Proofs.Sh Go.Proofs.Grad
set_option maxRecDepth 100000
set_option maxHeartbeats 4000000

theorem szTyS (n : Nat) (ih : ∀ t : Ty, t.size < n → t.fits → ∀ left : Int, 0 ≤ left → left ≤ 1048576 → AFn Try.prog 75 [.agg (tyC t), .one (.sc (.int .i64 left))] (.one (.sc (.int .i64 (szR t.wt left)))))
    (l : List Ty) (hn : Ty.sizes l < n) (hlen : l.length ≤ 9223372036854775807) (hf : Ty.fitss l) (left : Int) (h0 : 0 ≤ left) (h1 : left ≤ 1048576) : AFn Try.prog 140 [.one (.sl (tyR l)), .one (.sc (.int .i64 left))] (.one (.sc (.int .i64 (szR (Ty.wts l) left)))) := by
  have hw0 : IntKind.i64.wrap (left - (l.length : Int)) = left - (l.length : Int) := IntWalk.i64_in _ (by omega)
  have hge := tyw_rest l 0 (Nat.zero_le _)
  simp only [List.take_zero, Ty.wts] at hge
  by_cases hfit : (l.length : Int) ≤ left
  · have d0 : decide (left - (l.length : Int) < 0) = false := by simp; omega
    refine fn_in ?_; refine acl_in Try.func140 rfl isfn_140 (Nat.le_of_ble_eq_true rfl) (fun R hR => ?_); rw [Try.results140] at hR; refine wg_run ?_; (simp only [Try.f140, go_sem, hw0, d0])
    refine wd_for [0, 1, 5] (fun k => [.one (.sl (tyR l)), .one (.sc (.int .i64 (left - (l.length : Int) - ((Ty.wts (l.take k) : Int) - (k : Int))))), .one (.sc (.int .i64 (k : Nat)))]) (fun _ => [])
      (fun k => k ≤ l.length ∧ (Ty.wts (l.take k) : Int) + (l.length : Int) ≤ left + (k : Int)) (fun k => l.length - k) 0 ⟨Nat.zero_le _, by simp [Ty.wts]; omega⟩ (head_at [] (by (simp only [go_sem]); first | done | rfl) (by (simp only [go_sem]); first | done | rfl) ⟨by simp [Ty.wts], rfl⟩) ?_
    rintro k ⟨hk, hs⟩ G hG
    refine wg_run ?_
    (simp only [go_sem])
    have hr := tyw_rest l k hk
    (first | refine wd_split _ (fun hb => ?_) (fun hb => ?_) | refine wd_nwant _ (fun hb => ?_) (fun hb => ?_) | refine wm_nwant _ (fun hb => ?_) (fun hb => ?_) | refine wd_want _ (fun hb => ?_) (fun hb => ?_) | refine wm_want _ (fun hb => ?_) (fun hb => ?_) | refine wt_nwant _ (fun hb => ?_) (fun hb => ?_) | refine wt_want _ (fun hb => ?_) (fun hb => ?_)) <;> (simp only [go_sem, hb])
    · have hk1 : k < l.length := by have := of_decide_eq_true hb; omega
      have hw1 := wrap_succ hk1 (by omega)
      have hm := tyw_mem hk1
      have hr1 := tyw_rest l (k + 1) hk1
      have hc := ih (kid l k) (by rw [kid_eq hk1]; have := Ty.sizes_mem (List.getElem_mem hk1); omega) (tyw_fit hf hk1) (left - (l.length : Int) - ((Ty.wts (l.take k) : Int) - (k : Int))) (by omega) (by omega)
      by_cases hfk : ((kid l k).wt : Int) ≤ left - (l.length : Int) - ((Ty.wts (l.take k) : Int) - (k : Int))
      · have he : szR (kid l k).wt (left - (l.length : Int) - ((Ty.wts (l.take k) : Int) - (k : Int))) = left - (l.length : Int) - ((Ty.wts (l.take (k + 1)) : Int) - ((k + 1 : Nat) : Int)) := by
          unfold szR; rw [if_pos hfk, hm]; omega
        rw [he] at hc
        have d1 : decide (left - (l.length : Int) - ((Ty.wts (l.take (k + 1)) : Int) - ((k + 1 : Nat) : Int)) < 0) = false := by simp; omega
        (first | refine wd_fn (by (simp only [go_sem]); first | done | rfl) (hc) ?_ | refine wm_fn (by (simp only [go_sem]); first | done | rfl) (hc) (by (simp only [go_sem]); first | done | rfl) (by (simp only [go_sem]); first | done | rfl) ?_ | refine wt_fn (by (simp only [go_sem]); first | done | rfl) (hc) (by (simp only [go_sem]); first | done | rfl) (by (simp only [go_sem]); first | done | rfl) ?_); (simp only [go_sem])
        repeat' (first | (simp only [go_sem, hw1, d1]) | ((first | refine wd_split _ (fun hb => ?_) (fun hb => ?_) | refine wd_nwant _ (fun hb => ?_) (fun hb => ?_) | refine wm_nwant _ (fun hb => ?_) (fun hb => ?_) | refine wd_want _ (fun hb => ?_) (fun hb => ?_) | refine wm_want _ (fun hb => ?_) (fun hb => ?_) | refine wt_nwant _ (fun hb => ?_) (fun hb => ?_) | refine wt_want _ (fun hb => ?_) (fun hb => ?_)) <;> (simp only [go_sem, hb, hw1, d1])) | (refine wm_done ?_; (simp only [go_sem, hw1, d1])) | (refine wt_done ?_; (simp only [go_sem, hw1, d1])) | (refine wg_run ?_; (simp only [go_sem, hw1, d1])) | (refine wt_fork (by (simp only [go_sem]); first | done | rfl) ?_ ?_ <;> (simp only [go_sem, hw1, d1])))
        exact hG (k + 1) _ _ ⟨by omega, by omega⟩ (by omega) (head_at [] (by (simp only [go_sem]); first | done | rfl) (by (simp only [go_sem]); first | done | rfl) ⟨rfl, rfl⟩)
      · have he : szR (kid l k).wt (left - (l.length : Int) - ((Ty.wts (l.take k) : Int) - (k : Int))) = -1 := by
          unfold szR; rw [if_neg hfk]
        rw [he] at hc
        have he2 : szR (Ty.wts l) left = -1 := by unfold szR; rw [if_neg (by omega)]
        (first | refine wd_fn (by (simp only [go_sem]); first | done | rfl) (hc) ?_ | refine wm_fn (by (simp only [go_sem]); first | done | rfl) (hc) (by (simp only [go_sem]); first | done | rfl) (by (simp only [go_sem]); first | done | rfl) ?_ | refine wt_fn (by (simp only [go_sem]); first | done | rfl) (hc) (by (simp only [go_sem]); first | done | rfl) (by (simp only [go_sem]); first | done | rfl) ?_); (simp only [go_sem])
        repeat' (first | (simp only [go_sem, hw1]) | ((first | refine wd_split _ (fun hb => ?_) (fun hb => ?_) | refine wd_nwant _ (fun hb => ?_) (fun hb => ?_) | refine wm_nwant _ (fun hb => ?_) (fun hb => ?_) | refine wd_want _ (fun hb => ?_) (fun hb => ?_) | refine wm_want _ (fun hb => ?_) (fun hb => ?_) | refine wt_nwant _ (fun hb => ?_) (fun hb => ?_) | refine wt_want _ (fun hb => ?_) (fun hb => ?_)) <;> (simp only [go_sem, hb, hw1])) | (refine wm_done ?_; (simp only [go_sem, hw1])) | (refine wt_done ?_; (simp only [go_sem, hw1])) | (refine wg_run ?_; (simp only [go_sem, hw1])) | (refine wt_fork (by (simp only [go_sem]); first | done | rfl) ?_ ?_ <;> (simp only [go_sem, hw1])))
        (refine hR _ (ret_at [] (by (simp only [go_sem]); first | done | rfl) (by (simp only [go_sem]); first | done | rfl) ⟨?_, rfl⟩))
        rw [he2]
    · have hk1 : k = l.length := by have := of_decide_eq_false hb; omega
      subst hk1
      rw [List.take_length] at hs hr
      have he2 : szR (Ty.wts l) left = left - (l.length : Int) - ((Ty.wts l : Int) - (l.length : Int)) := by unfold szR; rw [if_pos (by omega)]; omega
      rw [List.take_length]
      (refine hR _ (ret_at [] (by (simp only [go_sem]); first | done | rfl) (by (simp only [go_sem]); first | done | rfl) ⟨?_, rfl⟩))
      rw [he2]
  · have d0 : decide (left - (l.length : Int) < 0) = true := by simp; omega
    have he2 : szR (Ty.wts l) left = -1 := by unfold szR; rw [if_neg (by omega)]
    refine fn_in ?_; refine acl_in Try.func140 rfl isfn_140 (Nat.le_of_ble_eq_true rfl) (fun R hR => ?_); rw [Try.results140] at hR; refine wg_run ?_; (simp only [Try.f140, go_sem, hw0, d0])
    (refine hR _ (ret_at [] (by (simp only [go_sem]); first | done | rfl) (by (simp only [go_sem]); first | done | rfl) ⟨?_, rfl⟩))
    rw [he2]

/-! ### equality -/
theorem eqTyS (n : Nat) (ih : ∀ a b : Ty, a.size < n → AFn Try.prog 84 [.agg (tyC a), .agg (tyC b)] (.one (.sc (.bool (a.same b))))) (l m : List Ty) (hn : Ty.sizes l < n) (hlen : l.length < 4611686018427387904) :
    AFn Try.prog 146 [.one (.sl (tyR l)), .one (.sl (tyR m))] (.one (.sc (.bool (Ty.sames l m)))) := by
  rw [Ty.sames_all2]
  by_cases hlm : l.length = m.length
  · have hb0 : ((l.length : Int) == (m.length : Int)) = true := by simp; omega
    refine fn_in ?_; refine acl_in Try.func146 rfl isfn_146 (Nat.le_of_ble_eq_true rfl) (fun R hR => ?_); rw [Try.results146] at hR; refine wg_run ?_; (simp only [Try.f146, go_sem, hb0, int_bne])
    refine wd_for [0, 1, 5] (fun k => [.one (.sl (tyR l)), .one (.sl (tyR m)), .one (.sc (.int .i64 (k : Nat)))]) (fun _ => [])
      (fun k => k ≤ l.length ∧ all2 Ty.same (l.drop k) (m.drop k) = all2 Ty.same l m) (fun k => l.length - k) 0 ⟨Nat.zero_le _, rfl⟩ (head_at [] (by (simp only [go_sem]); first | done | rfl) (by (simp only [go_sem]); first | done | rfl) ⟨rfl, rfl⟩) ?_
    rintro k ⟨hk, hs⟩ G hG
    refine wg_run ?_
    (simp only [go_sem])
    (first | refine wd_split _ (fun hb => ?_) (fun hb => ?_) | refine wd_nwant _ (fun hb => ?_) (fun hb => ?_) | refine wm_nwant _ (fun hb => ?_) (fun hb => ?_) | refine wd_want _ (fun hb => ?_) (fun hb => ?_) | refine wm_want _ (fun hb => ?_) (fun hb => ?_) | refine wt_nwant _ (fun hb => ?_) (fun hb => ?_) | refine wt_want _ (fun hb => ?_) (fun hb => ?_)) <;> (simp only [go_sem, hb])
    · have hk1 : k < l.length := by have := of_decide_eq_true hb; omega
      have hk2 : decide ((k : Int) < (m.length : Int)) = true := by simp; omega
      have hw1 := wrap_succ hk1 (by omega)
      rw [tyall2_kid hk1 (by omega)] at hs
      have hc := ih (kid l k) (kid m k) (by rw [kid_eq hk1]; have := Ty.sizes_mem (List.getElem_mem hk1); omega)
      repeat' (first | (first | (simp only [go_sem, hb, hk2, hw1]) | ((first | refine wd_split _ (fun hb => ?_) (fun hb => ?_) | refine wd_nwant _ (fun hb => ?_) (fun hb => ?_) | refine wm_nwant _ (fun hb => ?_) (fun hb => ?_) | refine wd_want _ (fun hb => ?_) (fun hb => ?_) | refine wm_want _ (fun hb => ?_) (fun hb => ?_) | refine wt_nwant _ (fun hb => ?_) (fun hb => ?_) | refine wt_want _ (fun hb => ?_) (fun hb => ?_)) <;> (simp only [go_sem, hb, hb, hk2, hw1])) | (refine wm_done ?_; (simp only [go_sem, hb, hk2, hw1])) | (refine wt_done ?_; (simp only [go_sem, hb, hk2, hw1])) | (refine wg_run ?_; (simp only [go_sem, hb, hk2, hw1])) | (refine wt_fork (by (simp only [go_sem]); first | done | rfl) ?_ ?_ <;> (simp only [go_sem, hb, hk2, hw1]))) | ((first | refine wd_mix 6 [] follows (by decide +kernel) (by (simp only [go_sem]); first | done | rfl) ?_ | refine wd_mix 5 [] follows (by decide +kernel) (by (simp only [go_sem]); first | done | rfl) ?_ | refine wd_mix 4 [] follows (by decide +kernel) (by (simp only [go_sem]); first | done | rfl) ?_ | refine wd_mix 3 [] follows (by decide +kernel) (by (simp only [go_sem]); first | done | rfl) ?_ | refine wd_mix 2 [] follows (by decide +kernel) (by (simp only [go_sem]); first | done | rfl) ?_ | refine wd_mix 1 [] follows (by decide +kernel) (by (simp only [go_sem]); first | done | rfl) ?_ | refine wd_mix 0 [] follows (by decide +kernel) (by (simp only [go_sem]); first | done | rfl) ?_ | fail); (simp only [go_sem, hb, hk2])) | (first | refine wd_fn (by (simp only [go_sem]); first | done | rfl) (hc) ?_ | refine wm_fn (by (simp only [go_sem]); first | done | rfl) (hc) (by (simp only [go_sem]); first | done | rfl) (by (simp only [go_sem]); first | done | rfl) ?_ | refine wt_fn (by (simp only [go_sem]); first | done | rfl) (hc) (by (simp only [go_sem]); first | done | rfl) (by (simp only [go_sem]); first | done | rfl) ?_); (simp only [go_sem]))
      · exact hG (k + 1) _ _ ⟨by omega, by simpa [hb] using hs⟩ (by omega) (head_at [] (by (simp only [go_sem]); first | done | rfl) (by (simp only [go_sem]); first | done | rfl) ⟨rfl, rfl⟩)
      · (refine hR _ (ret_at [] (by (simp only [go_sem]); first | done | rfl) (by (simp only [go_sem]); first | done | rfl) ⟨?_, rfl⟩))
        simpa [hb] using hs
    · have hk1 : ¬ k < l.length := by have := of_decide_eq_false hb; omega
      rw [tyall2_end hk1 hlm] at hs
      (refine hR _ (ret_at [] (by (simp only [go_sem]); first | done | rfl) (by (simp only [go_sem]); first | done | rfl) ⟨?_, rfl⟩))
      rw [hs]
  · have hb0 : ((l.length : Int) == (m.length : Int)) = false := by simp; omega
    refine fn_in ?_; refine acl_in Try.func146 rfl isfn_146 (Nat.le_of_ble_eq_true rfl) (fun R hR => ?_); rw [Try.results146] at hR; refine wg_run ?_; (simp only [Try.f146, go_sem, hb0, int_bne])
    (refine hR _ (ret_at [] (by (simp only [go_sem]); first | done | rfl) (by (simp only [go_sem]); first | done | rfl) ⟨?_, rfl⟩))
    rw [all2_len hlm]

/-! ### copies from the law's types to the program's -/
theorem toTyS (n : Nat) (ih : ∀ t : Ty, t.size < n → AFn Try.prog 79 [.agg (tyC t)] (.agg (tyC t))) (l : List Ty) (hn : Ty.sizes l < n) (hlen : l.length < 1099511627776) :
    AFn Try.prog 144 [.one (.sl (tyR l))] (.one (.sl (tyR l))) := by
  have hcap : decide ((32 : Int) * (l.length : Int) ≤ 140737488355328 ∧ (l.length : Int) ≤ 140737488355328) = true := by simp; omega
  refine fn_in ?_; refine acl_in Try.func144 rfl isfn_144 (Nat.le_of_ble_eq_true rfl) (fun R hR => ?_); rw [Try.results144] at hR; refine wg_run ?_; (simp only [Try.f144, go_sem, hcap])
  rw [← tyF_0 l]
  refine wd_for [0, 3, 4] (fun k => [.one (.sl (tyR l)), .one (.row 2 0 l.length), .one (.sc (.int .i64 (k : Nat)))]) (fun k => [⟨2, 25, .mut, tyF l k⟩])
    (fun k => k ≤ l.length) (fun k => l.length - k) 0 (Nat.zero_le _) (head_at [0] (by (simp only [go_sem]); first | done | rfl) (by (simp only [go_sem]); generalize treeRows _ = b; cases b <;> rfl) ⟨rfl, rfl⟩) ?_
  rintro k hk G hG
  refine wg_run ?_
  (simp only [go_sem])
  (first | refine wd_split _ (fun hb => ?_) (fun hb => ?_) | refine wd_nwant _ (fun hb => ?_) (fun hb => ?_) | refine wm_nwant _ (fun hb => ?_) (fun hb => ?_) | refine wd_want _ (fun hb => ?_) (fun hb => ?_) | refine wm_want _ (fun hb => ?_) (fun hb => ?_) | refine wt_nwant _ (fun hb => ?_) (fun hb => ?_) | refine wt_want _ (fun hb => ?_) (fun hb => ?_)) <;> (simp only [go_sem, hb])
  · have hk1 : k < l.length := by have := of_decide_eq_true hb; omega
    have hw1 := wrap_succ hk1 (by omega)
    have hc := ih (kid l k) (by rw [kid_eq hk1]; have := Ty.sizes_mem (List.getElem_mem hk1); omega)
    have hkn : decide (k < l.length) = true := by simpa using hk1
    repeat' (first | (first | (simp only [go_sem, hb, hw1, hkn, tyF_get hk1, tyF_set hk1]) | ((first | refine wd_split _ (fun hb => ?_) (fun hb => ?_) | refine wd_nwant _ (fun hb => ?_) (fun hb => ?_) | refine wm_nwant _ (fun hb => ?_) (fun hb => ?_) | refine wd_want _ (fun hb => ?_) (fun hb => ?_) | refine wm_want _ (fun hb => ?_) (fun hb => ?_) | refine wt_nwant _ (fun hb => ?_) (fun hb => ?_) | refine wt_want _ (fun hb => ?_) (fun hb => ?_)) <;> (simp only [go_sem, hb, hb, hw1, hkn, tyF_get hk1, tyF_set hk1])) | (refine wm_done ?_; (simp only [go_sem, hb, hw1, hkn, tyF_get hk1, tyF_set hk1])) | (refine wt_done ?_; (simp only [go_sem, hb, hw1, hkn, tyF_get hk1, tyF_set hk1])) | (refine wg_run ?_; (simp only [go_sem, hb, hw1, hkn, tyF_get hk1, tyF_set hk1])) | (refine wt_fork (by (simp only [go_sem]); first | done | rfl) ?_ ?_ <;> (simp only [go_sem, hb, hw1, hkn, tyF_get hk1, tyF_set hk1]))) | ((first | refine wd_mix 6 [] follows (by decide +kernel) (by (simp only [go_sem]); first | done | rfl) ?_ | refine wd_mix 5 [] follows (by decide +kernel) (by (simp only [go_sem]); first | done | rfl) ?_ | refine wd_mix 4 [] follows (by decide +kernel) (by (simp only [go_sem]); first | done | rfl) ?_ | refine wd_mix 3 [] follows (by decide +kernel) (by (simp only [go_sem]); first | done | rfl) ?_ | refine wd_mix 2 [] follows (by decide +kernel) (by (simp only [go_sem]); first | done | rfl) ?_ | refine wd_mix 1 [] follows (by decide +kernel) (by (simp only [go_sem]); first | done | rfl) ?_ | refine wd_mix 0 [] follows (by decide +kernel) (by (simp only [go_sem]); first | done | rfl) ?_ | fail); (simp only [go_sem, hb, hkn, tyF_get hk1, tyF_set hk1])) | (first | refine wd_fn (by (simp only [go_sem]); first | done | rfl) (hc) ?_ | refine wm_fn (by (simp only [go_sem]); first | done | rfl) (hc) (by (simp only [go_sem]); first | done | rfl) (by (simp only [go_sem]); first | done | rfl) ?_ | refine wt_fn (by (simp only [go_sem]); first | done | rfl) (hc) (by (simp only [go_sem]); first | done | rfl) (by (simp only [go_sem]); first | done | rfl) ?_); (simp only [go_sem]))
    exact hG (k + 1) _ _ (by omega) (by omega) (head_at [0] (by (simp only [go_sem]); first | done | rfl) (by (simp only [go_sem]); generalize treeRows _ = b; cases b <;> rfl) ⟨rfl, rfl⟩)
  · have hk1 : k = l.length := by have := of_decide_eq_false hb; omega
    subst hk1
    rw [tyF_end]
    (refine hR _ (ret_at [] (by (simp only [go_sem]); first | done | rfl) (by (simp only [go_sem]); first | done | rfl) ⟨?_, rfl⟩))
    rfl

theorem szTy (n : Nat) : ∀ t : Ty, t.size < n → t.fits → ∀ left : Int, 0 ≤ left → left ≤ 1048576 → AFn Try.prog 75 [.agg (tyC t), .one (.sc (.int .i64 left))] (.one (.sc (.int .i64 (szR t.wt left)))) := by
  induction n with
  | zero => intro t h; omega
  | succ n ih =>
    intro t h hf left h0 h1
    have hc := szTyS n ih t.kids (by cases t; simp only [Ty.size, Ty.kids] at *; omega) (by cases t; exact hf.1) (by cases t; exact hf.2) left h0 h1
    have e : t.wt = Ty.wts t.kids := by cases t; rfl
    rw [← e] at hc
    refine fn_in ?_; refine acl_in Try.func75 rfl isfn_75 (Nat.le_of_ble_eq_true rfl) (fun R hR => ?_); rw [Try.results75] at hR; refine wg_run ?_; (simp only [Try.f75, go_sem])
    (first | refine wd_fn (by (simp only [go_sem]); first | done | rfl) (hc) ?_ | refine wm_fn (by (simp only [go_sem]); first | done | rfl) (hc) (by (simp only [go_sem]); first | done | rfl) (by (simp only [go_sem]); first | done | rfl) ?_ | refine wt_fn (by (simp only [go_sem]); first | done | rfl) (hc) (by (simp only [go_sem]); first | done | rfl) (by (simp only [go_sem]); first | done | rfl) ?_); (simp only [go_sem])
    repeat' (first | ((first | refine wd_split _ (fun hb => ?_) (fun hb => ?_) | refine wd_nwant _ (fun hb => ?_) (fun hb => ?_) | refine wm_nwant _ (fun hb => ?_) (fun hb => ?_) | refine wd_want _ (fun hb => ?_) (fun hb => ?_) | refine wm_want _ (fun hb => ?_) (fun hb => ?_) | refine wt_nwant _ (fun hb => ?_) (fun hb => ?_) | refine wt_want _ (fun hb => ?_) (fun hb => ?_)) <;> (simp only [go_sem, hb])) | (refine wm_done ?_; (simp only [go_sem])) | (refine wt_done ?_; (simp only [go_sem])) | (refine wg_run ?_; (simp only [go_sem])) | (refine wt_fork (by (simp only [go_sem]); first | done | rfl) ?_ ?_ <;> (simp only [go_sem])))
    · (refine hR _ (ret_at [] (by (simp only [go_sem]); first | done | rfl) (by (simp only [go_sem]); first | done | rfl) ⟨?_, rfl⟩))
      rw [szR_neg hb]
    · (refine hR _ (ret_at [] (by (simp only [go_sem]); first | done | rfl) (by (simp only [go_sem]); first | done | rfl) ⟨rfl, rfl⟩))
theorem eqTy (n : Nat) (hn : n ≤ 4611686018427387904) : ∀ a b : Ty, a.size < n → AFn Try.prog 84 [.agg (tyC a), .agg (tyC b)] (.one (.sc (.bool (a.same b)))) := by
  induction n with
  | zero => intro a b h; omega
  | succ n ih =>
    intro a b h
    have hc := eqTyS n (ih (by omega)) a.kids b.kids (by cases a; simp only [Ty.size, Ty.kids] at *; omega) (by have := Ty.length_le_sizes a.kids; cases a; simp only [Ty.size, Ty.kids] at *; omega)
    have e : a.same b = (a.kind == b.kind && Ty.sames a.kids b.kids) := by cases a; cases b; rfl
    rw [e]
    refine fn_in ?_; refine acl_in Try.func84 rfl isfn_84 (Nat.le_of_ble_eq_true rfl) (fun R hR => ?_); rw [Try.results84] at hR; refine wg_run ?_; (simp only [Try.f84, go_sem])
    repeat' (first | (first | (simp only [go_sem, int_bne]) | ((first | refine wd_split _ (fun hb => ?_) (fun hb => ?_) | refine wd_nwant _ (fun hb => ?_) (fun hb => ?_) | refine wm_nwant _ (fun hb => ?_) (fun hb => ?_) | refine wd_want _ (fun hb => ?_) (fun hb => ?_) | refine wm_want _ (fun hb => ?_) (fun hb => ?_) | refine wt_nwant _ (fun hb => ?_) (fun hb => ?_) | refine wt_want _ (fun hb => ?_) (fun hb => ?_)) <;> (simp only [go_sem, hb, int_bne])) | (refine wm_done ?_; (simp only [go_sem, int_bne])) | (refine wt_done ?_; (simp only [go_sem, int_bne])) | (refine wg_run ?_; (simp only [go_sem, int_bne])) | (refine wt_fork (by (simp only [go_sem]); first | done | rfl) ?_ ?_ <;> (simp only [go_sem, int_bne]))) | (first | refine wd_fn (by (simp only [go_sem]); first | done | rfl) (hc) ?_ | refine wm_fn (by (simp only [go_sem]); first | done | rfl) (hc) (by (simp only [go_sem]); first | done | rfl) (by (simp only [go_sem]); first | done | rfl) ?_ | refine wt_fn (by (simp only [go_sem]); first | done | rfl) (hc) (by (simp only [go_sem]); first | done | rfl) (by (simp only [go_sem]); first | done | rfl) ?_); (simp only [go_sem]) | ((first | refine wd_mix 6 [] follows (by decide +kernel) (by (simp only [go_sem]); first | done | rfl) ?_ | refine wd_mix 5 [] follows (by decide +kernel) (by (simp only [go_sem]); first | done | rfl) ?_ | refine wd_mix 4 [] follows (by decide +kernel) (by (simp only [go_sem]); first | done | rfl) ?_ | refine wd_mix 3 [] follows (by decide +kernel) (by (simp only [go_sem]); first | done | rfl) ?_ | refine wd_mix 2 [] follows (by decide +kernel) (by (simp only [go_sem]); first | done | rfl) ?_ | refine wd_mix 1 [] follows (by decide +kernel) (by (simp only [go_sem]); first | done | rfl) ?_ | refine wd_mix 0 [] follows (by decide +kernel) (by (simp only [go_sem]); first | done | rfl) ?_ | fail); (simp only [go_sem])))
    all_goals (refine hR _ (ret_at [] (by (simp only [go_sem]); first | done | rfl) (by (simp only [go_sem]); first | done | rfl) ⟨?_, rfl⟩))
    all_goals simp_all
theorem toTy (n : Nat) (hn : n ≤ 1099511627776) : ∀ t : Ty, t.size < n → AFn Try.prog 79 [.agg (tyC t)] (.agg (tyC t)) := by
  induction n with
  | zero => intro t h; omega
  | succ n ih =>
    intro t h
    have hc := toTyS n (ih (by omega)) t.kids (by cases t; simp only [Ty.size, Ty.kids] at *; omega) (by have := Ty.length_le_sizes t.kids; cases t; simp only [Ty.size, Ty.kids] at *; omega)
    refine fn_in ?_; refine acl_in Try.func79 rfl isfn_79 (Nat.le_of_ble_eq_true rfl) (fun R hR => ?_); rw [Try.results79] at hR; refine wg_run ?_; (simp only [Try.f79, go_sem])
    repeat' (first | (first | ((first | refine wd_split _ (fun hb => ?_) (fun hb => ?_) | refine wd_nwant _ (fun hb => ?_) (fun hb => ?_) | refine wm_nwant _ (fun hb => ?_) (fun hb => ?_) | refine wd_want _ (fun hb => ?_) (fun hb => ?_) | refine wm_want _ (fun hb => ?_) (fun hb => ?_) | refine wt_nwant _ (fun hb => ?_) (fun hb => ?_) | refine wt_want _ (fun hb => ?_) (fun hb => ?_)) <;> (simp only [go_sem, hb])) | (refine wm_done ?_; (simp only [go_sem])) | (refine wt_done ?_; (simp only [go_sem])) | (refine wg_run ?_; (simp only [go_sem])) | (refine wt_fork (by (simp only [go_sem]); first | done | rfl) ?_ ?_ <;> (simp only [go_sem]))) | (first | refine wd_fn (by (simp only [go_sem]); first | done | rfl) (hc) ?_ | refine wm_fn (by (simp only [go_sem]); first | done | rfl) (hc) (by (simp only [go_sem]); first | done | rfl) (by (simp only [go_sem]); first | done | rfl) ?_ | refine wt_fn (by (simp only [go_sem]); first | done | rfl) (hc) (by (simp only [go_sem]); first | done | rfl) (by (simp only [go_sem]); first | done | rfl) ?_); (simp only [go_sem]) | ((first | refine wd_mix 6 [] follows (by decide +kernel) (by (simp only [go_sem]); first | done | rfl) ?_ | refine wd_mix 5 [] follows (by decide +kernel) (by (simp only [go_sem]); first | done | rfl) ?_ | refine wd_mix 4 [] follows (by decide +kernel) (by (simp only [go_sem]); first | done | rfl) ?_ | refine wd_mix 3 [] follows (by decide +kernel) (by (simp only [go_sem]); first | done | rfl) ?_ | refine wd_mix 2 [] follows (by decide +kernel) (by (simp only [go_sem]); first | done | rfl) ?_ | refine wd_mix 1 [] follows (by decide +kernel) (by (simp only [go_sem]); first | done | rfl) ?_ | refine wd_mix 0 [] follows (by decide +kernel) (by (simp only [go_sem]); first | done | rfl) ?_ | fail); (simp only [go_sem])))
    (refine hR _ (ret_at [] (by (simp only [go_sem]); first | done | rfl) (by (simp only [go_sem]); first | done | rfl) ⟨?_, rfl⟩))
    rw [tyC_eq]
end Go.Proofs.Ytfgjiamolknicaa
/- Terms: the helpers of the exact laws, on shadows. -/
namespace Go.Proofs.Sh
open Go.RowKit Go.Proofs.Grad

/-! ### sizes -/
theorem tew_mem {l : List Tm} {k : Nat} (h : k < l.length) : Tm.wts (l.take (k + 1)) = Tm.wts (l.take k) + (1 + (teKid l k).wt) := by
  rw [tetake_kid h]
  induction l.take k with
  | nil => simp [Tm.wts]
  | cons x m ih => simp only [List.cons_append, Tm.wts, ih]; omega
theorem tew_rest (l : List Tm) : ∀ k, k ≤ l.length → Tm.wts (l.take k) + (l.length - k) ≤ Tm.wts l := by
  induction l with
  | nil => intro k _; simp [Tm.wts]
  | cons x l ih =>
    intro k hk
    cases k with
    | zero => have := ih 0 (by omega); simp [Tm.wts] at this ⊢; omega
    | succ k => have := ih k (by simpa using hk); simp [Tm.wts] at this ⊢; omega
theorem tew_fit {l : List Tm} (h : Tm.fitss l) {k : Nat} (hk : k < l.length) : (teKid l k).fits := by
  rw [teKid_eq hk]; exact Tm.fitss_mem h (List.getElem_mem hk)

/-! ### lists filled from the front -/
def teF (l : List Tm) (k : Nat) : List (List C) := teR (l.take k) ++ List.replicate (l.length - k) [.sc (.int .i64 0), .sc (.string { data := { toList := [] } }), .sc (.int .i64 0), .sc (.int .i64 0), .sc (.slice none 0 0), .sc (.int .i64 0), .sc (.slice none 0 0), .sc (.int .i64 0), .sc (.slice none 0 0)]
theorem teF_0 (l : List Tm) : teF l 0 = List.replicate l.length [.sc (.int .i64 0), .sc (.string { data := { toList := [] } }), .sc (.int .i64 0), .sc (.int .i64 0), .sc (.slice none 0 0), .sc (.int .i64 0), .sc (.slice none 0 0), .sc (.int .i64 0), .sc (.slice none 0 0)] := by simp [teF, teR]
theorem teF_get {l : List Tm} {k : Nat} (h : k < l.length) : (teF l k)[k]? = some [.sc (.int .i64 0), .sc (.string { data := { toList := [] } }), .sc (.int .i64 0), .sc (.int .i64 0), .sc (.slice none 0 0), .sc (.int .i64 0), .sc (.slice none 0 0), .sc (.int .i64 0), .sc (.slice none 0 0)] := by
  have e : (teR (l.take k)).length = k := by rw [teR_length, List.length_take]; omega
  rw [teF, List.getElem?_append_right (by omega), e, Nat.sub_self, List.getElem?_replicate, if_pos (by omega)]
theorem teF_set {l : List Tm} {k : Nat} (h : k < l.length) : (teF l k).set k (teC (teKid l k)) = teF l (k + 1) := by
  have e : (teR (l.take k)).length = k := by rw [teR_length, List.length_take]; omega
  rw [teF, teF, List.set_append_right _ _ (by omega), e, Nat.sub_self, show l.length - k = (l.length - (k + 1)) + 1 by omega, List.replicate_succ, List.set_cons_zero, teR_take h, List.append_assoc]
  rfl
theorem teF_end (l : List Tm) : teF l l.length = teR l := by simp [teF]
@[go_sem] theorem teF_pr (h : List Blk) (ks : List Nat) (l : List Tm) (k : Nat) : prRs h ks (teF l k) = some (teF l k, []) := by
  have h1 : ∀ n, prRs h ks (List.replicate n [.sc (.int .i64 0), .sc (.string { data := { toList := [] } }), .sc (.int .i64 0), .sc (.int .i64 0), .sc (.slice none 0 0), .sc (.int .i64 0), .sc (.slice none 0 0), .sc (.int .i64 0), .sc (.slice none 0 0)]) = some (List.replicate n [.sc (.int .i64 0), .sc (.string { data := { toList := [] } }), .sc (.int .i64 0), .sc (.int .i64 0), .sc (.slice none 0 0), .sc (.int .i64 0), .sc (.slice none 0 0), .sc (.int .i64 0), .sc (.slice none 0 0)], []) := by
    intro n
    induction n with
    | zero => rfl
    | succ n ih => rw [List.replicate_succ, prRs, ih]; rfl
  have h2 : ∀ (m : List Tm) n, prRs h ks (teR m ++ List.replicate n [.sc (.int .i64 0), .sc (.string { data := { toList := [] } }), .sc (.int .i64 0), .sc (.int .i64 0), .sc (.slice none 0 0), .sc (.int .i64 0), .sc (.slice none 0 0), .sc (.int .i64 0), .sc (.slice none 0 0)]) = some (teR m ++ List.replicate n [.sc (.int .i64 0), .sc (.string { data := { toList := [] } }), .sc (.int .i64 0), .sc (.int .i64 0), .sc (.slice none 0 0), .sc (.int .i64 0), .sc (.slice none 0 0), .sc (.int .i64 0), .sc (.slice none 0 0)], []) := by
    intro m n
    induction m with
    | nil => exact h1 n
    | cons x m ih => rw [teR, List.cons_append, prRs, ih, prL, if_pos (teC_treeL x)]; rfl
  exact h2 _ _
@[go_sem] theorem teF_rows (l : List Tm) (k : Nat) : rowsLen 9 (teF l k) = true := by
  have : ∀ n, rowsLen 9 (List.replicate n [.sc (.int .i64 0), .sc (.string { data := { toList := [] } }), .sc (.int .i64 0), .sc (.int .i64 0), .sc (.slice none 0 0), .sc (.int .i64 0), .sc (.slice none 0 0), .sc (.int .i64 0), .sc (.slice none 0 0)]) = true := by
    intro n
    induction n with
    | zero => rfl
    | succ n ih => rw [List.replicate_succ, rowsLen_cons, ih]; rfl
  rw [teF, rowsLen_append, teR_len, this]; rfl
theorem teF_len (l : List Tm) {k : Nat} (h : k ≤ l.length) : (teF l k).length = l.length := by
  simp [teF, teR_length]; omega
end Go.Proofs.Sh
namespace Go.Proofs.Ytfgjiamolknicaa
open Go.RowKit Go.Proofs.Sh Go.Proofs.Grad
set_option maxRecDepth 100000
set_option maxHeartbeats 4000000

theorem szTmS (n : Nat) (ih : ∀ t : Tm, t.size < n → t.fits → ∀ left : Int, 0 ≤ left → left ≤ 1048576 → AFn Try.prog 23 [.agg (teC t), .one (.sc (.int .i64 left))] (.one (.sc (.int .i64 (szR t.wt left)))))
    (l : List Tm) (hn : Tm.sizes l < n) (hlen : l.length ≤ 9223372036854775807) (hf : Tm.fitss l) (left : Int) (h0 : 0 ≤ left) (h1 : left ≤ 1048576) : AFn Try.prog 76 [.one (.sl (teR l)), .one (.sc (.int .i64 left))] (.one (.sc (.int .i64 (szR (Tm.wts l) left)))) := by
  have hw0 : IntKind.i64.wrap (left - (l.length : Int)) = left - (l.length : Int) := IntWalk.i64_in _ (by omega)
  have hge := tew_rest l 0 (Nat.zero_le _)
  simp only [List.take_zero, Tm.wts] at hge
  by_cases hfit : (l.length : Int) ≤ left
  · have d0 : decide (left - (l.length : Int) < 0) = false := by simp; omega
    refine fn_in ?_; refine acl_in Try.func76 rfl isfn_76 (Nat.le_of_ble_eq_true rfl) (fun R hR => ?_); rw [Try.results76] at hR; refine wg_run ?_; (simp only [Try.f76, go_sem, hw0, d0])
    refine wd_for [0, 1, 5] (fun k => [.one (.sl (teR l)), .one (.sc (.int .i64 (left - (l.length : Int) - ((Tm.wts (l.take k) : Int) - (k : Int))))), .one (.sc (.int .i64 (k : Nat)))]) (fun _ => [])
      (fun k => k ≤ l.length ∧ (Tm.wts (l.take k) : Int) + (l.length : Int) ≤ left + (k : Int)) (fun k => l.length - k) 0 ⟨Nat.zero_le _, by simp [Tm.wts]; omega⟩ (head_at [] (by (simp only [go_sem]); first | done | rfl) (by (simp only [go_sem]); first | done | rfl) ⟨by simp [Tm.wts], rfl⟩) ?_
    rintro k ⟨hk, hs⟩ G hG
    refine wg_run ?_
    (simp only [go_sem])
    have hr := tew_rest l k hk
    (first | refine wd_split _ (fun hb => ?_) (fun hb => ?_) | refine wd_nwant _ (fun hb => ?_) (fun hb => ?_) | refine wm_nwant _ (fun hb => ?_) (fun hb => ?_) | refine wd_want _ (fun hb => ?_) (fun hb => ?_) | refine wm_want _ (fun hb => ?_) (fun hb => ?_) | refine wt_nwant _ (fun hb => ?_) (fun hb => ?_) | refine wt_want _ (fun hb => ?_) (fun hb => ?_)) <;> (simp only [go_sem, hb])
    · have hk1 : k < l.length := by have := of_decide_eq_true hb; omega
      have hw1 := wrap_succ hk1 (by omega)
      have hm := tew_mem hk1
      have hr1 := tew_rest l (k + 1) hk1
      have hc := ih (teKid l k) (by rw [teKid_eq hk1]; have := tesizes_mem (List.getElem_mem hk1); omega) (tew_fit hf hk1) (left - (l.length : Int) - ((Tm.wts (l.take k) : Int) - (k : Int))) (by omega) (by omega)
      by_cases hfk : ((teKid l k).wt : Int) ≤ left - (l.length : Int) - ((Tm.wts (l.take k) : Int) - (k : Int))
      · have he : szR (teKid l k).wt (left - (l.length : Int) - ((Tm.wts (l.take k) : Int) - (k : Int))) = left - (l.length : Int) - ((Tm.wts (l.take (k + 1)) : Int) - ((k + 1 : Nat) : Int)) := by
          unfold szR; rw [if_pos hfk, hm]; omega
        rw [he] at hc
        have d1 : decide (left - (l.length : Int) - ((Tm.wts (l.take (k + 1)) : Int) - ((k + 1 : Nat) : Int)) < 0) = false := by simp; omega
        (first | refine wd_fn (by (simp only [go_sem]); first | done | rfl) (hc) ?_ | refine wm_fn (by (simp only [go_sem]); first | done | rfl) (hc) (by (simp only [go_sem]); first | done | rfl) (by (simp only [go_sem]); first | done | rfl) ?_ | refine wt_fn (by (simp only [go_sem]); first | done | rfl) (hc) (by (simp only [go_sem]); first | done | rfl) (by (simp only [go_sem]); first | done | rfl) ?_); (simp only [go_sem])
        repeat' (first | (simp only [go_sem, hw1, d1]) | ((first | refine wd_split _ (fun hb => ?_) (fun hb => ?_) | refine wd_nwant _ (fun hb => ?_) (fun hb => ?_) | refine wm_nwant _ (fun hb => ?_) (fun hb => ?_) | refine wd_want _ (fun hb => ?_) (fun hb => ?_) | refine wm_want _ (fun hb => ?_) (fun hb => ?_) | refine wt_nwant _ (fun hb => ?_) (fun hb => ?_) | refine wt_want _ (fun hb => ?_) (fun hb => ?_)) <;> (simp only [go_sem, hb, hw1, d1])) | (refine wm_done ?_; (simp only [go_sem, hw1, d1])) | (refine wt_done ?_; (simp only [go_sem, hw1, d1])) | (refine wg_run ?_; (simp only [go_sem, hw1, d1])) | (refine wt_fork (by (simp only [go_sem]); first | done | rfl) ?_ ?_ <;> (simp only [go_sem, hw1, d1])))
        exact hG (k + 1) _ _ ⟨by omega, by omega⟩ (by omega) (head_at [] (by (simp only [go_sem]); first | done | rfl) (by (simp only [go_sem]); first | done | rfl) ⟨rfl, rfl⟩)
      · have he : szR (teKid l k).wt (left - (l.length : Int) - ((Tm.wts (l.take k) : Int) - (k : Int))) = -1 := by
          unfold szR; rw [if_neg hfk]
        rw [he] at hc
        have he2 : szR (Tm.wts l) left = -1 := by unfold szR; rw [if_neg (by omega)]
        (first | refine wd_fn (by (simp only [go_sem]); first | done | rfl) (hc) ?_ | refine wm_fn (by (simp only [go_sem]); first | done | rfl) (hc) (by (simp only [go_sem]); first | done | rfl) (by (simp only [go_sem]); first | done | rfl) ?_ | refine wt_fn (by (simp only [go_sem]); first | done | rfl) (hc) (by (simp only [go_sem]); first | done | rfl) (by (simp only [go_sem]); first | done | rfl) ?_); (simp only [go_sem])
        repeat' (first | (simp only [go_sem, hw1]) | ((first | refine wd_split _ (fun hb => ?_) (fun hb => ?_) | refine wd_nwant _ (fun hb => ?_) (fun hb => ?_) | refine wm_nwant _ (fun hb => ?_) (fun hb => ?_) | refine wd_want _ (fun hb => ?_) (fun hb => ?_) | refine wm_want _ (fun hb => ?_) (fun hb => ?_) | refine wt_nwant _ (fun hb => ?_) (fun hb => ?_) | refine wt_want _ (fun hb => ?_) (fun hb => ?_)) <;> (simp only [go_sem, hb, hw1])) | (refine wm_done ?_; (simp only [go_sem, hw1])) | (refine wt_done ?_; (simp only [go_sem, hw1])) | (refine wg_run ?_; (simp only [go_sem, hw1])) | (refine wt_fork (by (simp only [go_sem]); first | done | rfl) ?_ ?_ <;> (simp only [go_sem, hw1])))
        (refine hR _ (ret_at [] (by (simp only [go_sem]); first | done | rfl) (by (simp only [go_sem]); first | done | rfl) ⟨?_, rfl⟩))
        rw [he2]
    · have hk1 : k = l.length := by have := of_decide_eq_false hb; omega
      subst hk1
      rw [List.take_length] at hs hr
      have he2 : szR (Tm.wts l) left = left - (l.length : Int) - ((Tm.wts l : Int) - (l.length : Int)) := by unfold szR; rw [if_pos (by omega)]; omega
      rw [List.take_length]
      (refine hR _ (ret_at [] (by (simp only [go_sem]); first | done | rfl) (by (simp only [go_sem]); first | done | rfl) ⟨?_, rfl⟩))
      rw [he2]
  · have d0 : decide (left - (l.length : Int) < 0) = true := by simp; omega
    have he2 : szR (Tm.wts l) left = -1 := by unfold szR; rw [if_neg (by omega)]
    refine fn_in ?_; refine acl_in Try.func76 rfl isfn_76 (Nat.le_of_ble_eq_true rfl) (fun R hR => ?_); rw [Try.results76] at hR; refine wg_run ?_; (simp only [Try.f76, go_sem, hw0, d0])
    (refine hR _ (ret_at [] (by (simp only [go_sem]); first | done | rfl) (by (simp only [go_sem]); first | done | rfl) ⟨?_, rfl⟩))
    rw [he2]

/-! ### equality -/
theorem eqTmS (n : Nat) (ih : ∀ a b : Tm, a.size < n → AFn Try.prog 27 [.agg (teC a), .agg (teC b)] (.one (.sc (.bool (a.same b))))) (l m : List Tm) (hn : Tm.sizes l < n) (hlen : l.length < 4611686018427387904) :
    AFn Try.prog 85 [.one (.sl (teR l)), .one (.sl (teR m))] (.one (.sc (.bool (Tm.sames l m)))) := by
  rw [tesames_all2]
  by_cases hlm : l.length = m.length
  · have hb0 : ((l.length : Int) == (m.length : Int)) = true := by simp; omega
    refine fn_in ?_; refine acl_in Try.func85 rfl isfn_85 (Nat.le_of_ble_eq_true rfl) (fun R hR => ?_); rw [Try.results85] at hR; refine wg_run ?_; (simp only [Try.f85, go_sem, hb0, int_bne])
    refine wd_for [0, 1, 5] (fun k => [.one (.sl (teR l)), .one (.sl (teR m)), .one (.sc (.int .i64 (k : Nat)))]) (fun _ => [])
      (fun k => k ≤ l.length ∧ teall2 Tm.same (l.drop k) (m.drop k) = teall2 Tm.same l m) (fun k => l.length - k) 0 ⟨Nat.zero_le _, rfl⟩ (head_at [] (by (simp only [go_sem]); first | done | rfl) (by (simp only [go_sem]); first | done | rfl) ⟨rfl, rfl⟩) ?_
    rintro k ⟨hk, hs⟩ G hG
    refine wg_run ?_
    (simp only [go_sem])
    (first | refine wd_split _ (fun hb => ?_) (fun hb => ?_) | refine wd_nwant _ (fun hb => ?_) (fun hb => ?_) | refine wm_nwant _ (fun hb => ?_) (fun hb => ?_) | refine wd_want _ (fun hb => ?_) (fun hb => ?_) | refine wm_want _ (fun hb => ?_) (fun hb => ?_) | refine wt_nwant _ (fun hb => ?_) (fun hb => ?_) | refine wt_want _ (fun hb => ?_) (fun hb => ?_)) <;> (simp only [go_sem, hb])
    · have hk1 : k < l.length := by have := of_decide_eq_true hb; omega
      have hk2 : decide ((k : Int) < (m.length : Int)) = true := by simp; omega
      have hw1 := wrap_succ hk1 (by omega)
      rw [teall2_kid hk1 (by omega)] at hs
      have hc := ih (teKid l k) (teKid m k) (by rw [teKid_eq hk1]; have := tesizes_mem (List.getElem_mem hk1); omega)
      repeat' (first | (first | (simp only [go_sem, hb, hk2, hw1]) | ((first | refine wd_split _ (fun hb => ?_) (fun hb => ?_) | refine wd_nwant _ (fun hb => ?_) (fun hb => ?_) | refine wm_nwant _ (fun hb => ?_) (fun hb => ?_) | refine wd_want _ (fun hb => ?_) (fun hb => ?_) | refine wm_want _ (fun hb => ?_) (fun hb => ?_) | refine wt_nwant _ (fun hb => ?_) (fun hb => ?_) | refine wt_want _ (fun hb => ?_) (fun hb => ?_)) <;> (simp only [go_sem, hb, hb, hk2, hw1])) | (refine wm_done ?_; (simp only [go_sem, hb, hk2, hw1])) | (refine wt_done ?_; (simp only [go_sem, hb, hk2, hw1])) | (refine wg_run ?_; (simp only [go_sem, hb, hk2, hw1])) | (refine wt_fork (by (simp only [go_sem]); first | done | rfl) ?_ ?_ <;> (simp only [go_sem, hb, hk2, hw1]))) | ((first | refine wd_mix 6 [] follows (by decide +kernel) (by (simp only [go_sem]); first | done | rfl) ?_ | refine wd_mix 5 [] follows (by decide +kernel) (by (simp only [go_sem]); first | done | rfl) ?_ | refine wd_mix 4 [] follows (by decide +kernel) (by (simp only [go_sem]); first | done | rfl) ?_ | refine wd_mix 3 [] follows (by decide +kernel) (by (simp only [go_sem]); first | done | rfl) ?_ | refine wd_mix 2 [] follows (by decide +kernel) (by (simp only [go_sem]); first | done | rfl) ?_ | refine wd_mix 1 [] follows (by decide +kernel) (by (simp only [go_sem]); first | done | rfl) ?_ | refine wd_mix 0 [] follows (by decide +kernel) (by (simp only [go_sem]); first | done | rfl) ?_ | fail); (simp only [go_sem, hb, hk2])) | (first | refine wd_fn (by (simp only [go_sem]); first | done | rfl) (hc) ?_ | refine wm_fn (by (simp only [go_sem]); first | done | rfl) (hc) (by (simp only [go_sem]); first | done | rfl) (by (simp only [go_sem]); first | done | rfl) ?_ | refine wt_fn (by (simp only [go_sem]); first | done | rfl) (hc) (by (simp only [go_sem]); first | done | rfl) (by (simp only [go_sem]); first | done | rfl) ?_); (simp only [go_sem]))
      · exact hG (k + 1) _ _ ⟨by omega, by simpa [hb] using hs⟩ (by omega) (head_at [] (by (simp only [go_sem]); first | done | rfl) (by (simp only [go_sem]); first | done | rfl) ⟨rfl, rfl⟩)
      · (refine hR _ (ret_at [] (by (simp only [go_sem]); first | done | rfl) (by (simp only [go_sem]); first | done | rfl) ⟨?_, rfl⟩))
        simpa [hb] using hs
    · have hk1 : ¬ k < l.length := by have := of_decide_eq_false hb; omega
      rw [teall2_end hk1 hlm] at hs
      (refine hR _ (ret_at [] (by (simp only [go_sem]); first | done | rfl) (by (simp only [go_sem]); first | done | rfl) ⟨?_, rfl⟩))
      rw [hs]
  · have hb0 : ((l.length : Int) == (m.length : Int)) = false := by simp; omega
    refine fn_in ?_; refine acl_in Try.func85 rfl isfn_85 (Nat.le_of_ble_eq_true rfl) (fun R hR => ?_); rw [Try.results85] at hR; refine wg_run ?_; (simp only [Try.f85, go_sem, hb0, int_bne])
    (refine hR _ (ret_at [] (by (simp only [go_sem]); first | done | rfl) (by (simp only [go_sem]); first | done | rfl) ⟨?_, rfl⟩))
    rw [teall2_len hlm]

/-! ### copies from the law's types to the program's -/
theorem toTmS (n : Nat) (ih : ∀ t : Tm, t.size < n → AFn Try.prog 25 [.agg (teC t)] (.agg (teC t))) (l : List Tm) (hn : Tm.sizes l < n) (hlen : l.length < 1099511627776) :
    AFn Try.prog 80 [.one (.sl (teR l))] (.one (.sl (teR l))) := by
  have hcap : decide ((128 : Int) * (l.length : Int) ≤ 140737488355328 ∧ (l.length : Int) ≤ 140737488355328) = true := by simp; omega
  refine fn_in ?_; refine acl_in Try.func80 rfl isfn_80 (Nat.le_of_ble_eq_true rfl) (fun R hR => ?_); rw [Try.results80] at hR; refine wg_run ?_; (simp only [Try.f80, go_sem, hcap])
  rw [← teF_0 l]
  refine wd_for [0, 3, 4] (fun k => [.one (.sl (teR l)), .one (.row 9 0 l.length), .one (.sc (.int .i64 (k : Nat)))]) (fun k => [⟨9, 28, .mut, teF l k⟩])
    (fun k => k ≤ l.length) (fun k => l.length - k) 0 (Nat.zero_le _) (head_at [0] (by (simp only [go_sem]); first | done | rfl) (by (simp only [go_sem]); generalize treeRows _ = b; cases b <;> rfl) ⟨rfl, rfl⟩) ?_
  rintro k hk G hG
  refine wg_run ?_
  (simp only [go_sem])
  (first | refine wd_split _ (fun hb => ?_) (fun hb => ?_) | refine wd_nwant _ (fun hb => ?_) (fun hb => ?_) | refine wm_nwant _ (fun hb => ?_) (fun hb => ?_) | refine wd_want _ (fun hb => ?_) (fun hb => ?_) | refine wm_want _ (fun hb => ?_) (fun hb => ?_) | refine wt_nwant _ (fun hb => ?_) (fun hb => ?_) | refine wt_want _ (fun hb => ?_) (fun hb => ?_)) <;> (simp only [go_sem, hb])
  · have hk1 : k < l.length := by have := of_decide_eq_true hb; omega
    have hw1 := wrap_succ hk1 (by omega)
    have hc := ih (teKid l k) (by rw [teKid_eq hk1]; have := tesizes_mem (List.getElem_mem hk1); omega)
    have hkn : decide (k < l.length) = true := by simpa using hk1
    repeat' (first | (first | (simp only [go_sem, hb, hw1, hkn, teF_get hk1, teF_set hk1]) | ((first | refine wd_split _ (fun hb => ?_) (fun hb => ?_) | refine wd_nwant _ (fun hb => ?_) (fun hb => ?_) | refine wm_nwant _ (fun hb => ?_) (fun hb => ?_) | refine wd_want _ (fun hb => ?_) (fun hb => ?_) | refine wm_want _ (fun hb => ?_) (fun hb => ?_) | refine wt_nwant _ (fun hb => ?_) (fun hb => ?_) | refine wt_want _ (fun hb => ?_) (fun hb => ?_)) <;> (simp only [go_sem, hb, hb, hw1, hkn, teF_get hk1, teF_set hk1])) | (refine wm_done ?_; (simp only [go_sem, hb, hw1, hkn, teF_get hk1, teF_set hk1])) | (refine wt_done ?_; (simp only [go_sem, hb, hw1, hkn, teF_get hk1, teF_set hk1])) | (refine wg_run ?_; (simp only [go_sem, hb, hw1, hkn, teF_get hk1, teF_set hk1])) | (refine wt_fork (by (simp only [go_sem]); first | done | rfl) ?_ ?_ <;> (simp only [go_sem, hb, hw1, hkn, teF_get hk1, teF_set hk1]))) | ((first | refine wd_mix 6 [] follows (by decide +kernel) (by (simp only [go_sem]); first | done | rfl) ?_ | refine wd_mix 5 [] follows (by decide +kernel) (by (simp only [go_sem]); first | done | rfl) ?_ | refine wd_mix 4 [] follows (by decide +kernel) (by (simp only [go_sem]); first | done | rfl) ?_ | refine wd_mix 3 [] follows (by decide +kernel) (by (simp only [go_sem]); first | done | rfl) ?_ | refine wd_mix 2 [] follows (by decide +kernel) (by (simp only [go_sem]); first | done | rfl) ?_ | refine wd_mix 1 [] follows (by decide +kernel) (by (simp only [go_sem]); first | done | rfl) ?_ | refine wd_mix 0 [] follows (by decide +kernel) (by (simp only [go_sem]); first | done | rfl) ?_ | fail); (simp only [go_sem, hb, hkn, teF_get hk1, teF_set hk1])) | (first | refine wd_fn (by (simp only [go_sem]); first | done | rfl) (hc) ?_ | refine wm_fn (by (simp only [go_sem]); first | done | rfl) (hc) (by (simp only [go_sem]); first | done | rfl) (by (simp only [go_sem]); first | done | rfl) ?_ | refine wt_fn (by (simp only [go_sem]); first | done | rfl) (hc) (by (simp only [go_sem]); first | done | rfl) (by (simp only [go_sem]); first | done | rfl) ?_); (simp only [go_sem]))
    exact hG (k + 1) _ _ (by omega) (by omega) (head_at [0] (by (simp only [go_sem]); first | done | rfl) (by (simp only [go_sem]); generalize treeRows _ = b; cases b <;> rfl) ⟨rfl, rfl⟩)
  · have hk1 : k = l.length := by have := of_decide_eq_false hb; omega
    subst hk1
    rw [teF_end]
    (refine hR _ (ret_at [] (by (simp only [go_sem]); first | done | rfl) (by (simp only [go_sem]); first | done | rfl) ⟨?_, rfl⟩))
    rfl

theorem szTm (n : Nat) : ∀ t : Tm, t.size < n → t.fits → ∀ left : Int, 0 ≤ left → left ≤ 1048576 → AFn Try.prog 23 [.agg (teC t), .one (.sc (.int .i64 left))] (.one (.sc (.int .i64 (szR t.wt left)))) := by
  induction n with
  | zero => intro t h; omega
  | succ n ih =>
    intro t h hf left h0 h1
    have hc := szTmS n ih t.kids (by cases t; simp only [Tm.size, Tm.kids] at *; omega) (by cases t; exact hf.2.2.2.1) (by cases t; exact hf.2.2.2.2)
    have hn : t.name.size ≤ 9223372036854775807 := by cases t; exact hf.1
    have hw : IntKind.i64.wrap (left - (t.name.size : Int)) = left - (t.name.size : Int) := IntWalk.i64_in _ (by omega)
    have e : t.wt = t.name.size + (t.type.wt + (t.frm.wt + Tm.wts t.kids)) := by cases t; rfl
    have a1 := szTy _ t.type (Nat.lt_succ_self _) (by cases t; exact hf.2.1)
    have a2 := szTy _ t.frm (Nat.lt_succ_self _) (by cases t; exact hf.2.2.1)
    clear ih
    by_cases c1 : (t.name.size : Int) ≤ left
    · have d1 : decide (left - (t.name.size : Int) < 0) = false := by simp; omega
      have b1 := a1 _ (by omega : 0 ≤ left - (t.name.size : Int)) (by omega)
      by_cases c2 : (t.type.wt : Int) ≤ left - (t.name.size : Int)
      · have e2 : szR t.type.wt (left - (t.name.size : Int)) = left - (t.name.size : Int) - (t.type.wt : Int) := by unfold szR; rw [if_pos c2]
        rw [e2] at b1
        have d2 : decide (left - (t.name.size : Int) - (t.type.wt : Int) < 0) = false := by simp; omega
        have b2 := a2 _ (by omega : 0 ≤ left - (t.name.size : Int) - (t.type.wt : Int)) (by omega)
        by_cases c3 : (t.frm.wt : Int) ≤ left - (t.name.size : Int) - (t.type.wt : Int)
        · have e3 : szR t.frm.wt (left - (t.name.size : Int) - (t.type.wt : Int)) = left - (t.name.size : Int) - (t.type.wt : Int) - (t.frm.wt : Int) := by unfold szR; rw [if_pos c3]
          rw [e3] at b2
          have d3 : decide (left - (t.name.size : Int) - (t.type.wt : Int) - (t.frm.wt : Int) < 0) = false := by simp; omega
          have b3 := hc _ (by omega : 0 ≤ left - (t.name.size : Int) - (t.type.wt : Int) - (t.frm.wt : Int)) (by omega)
          have e4 : szR t.wt left = szR (Tm.wts t.kids) (left - (t.name.size : Int) - (t.type.wt : Int) - (t.frm.wt : Int)) := by
            unfold szR; rw [e]; split <;> split <;> omega
          rw [e4]
          refine fn_in ?_; refine acl_in Try.func23 rfl isfn_23 (Nat.le_of_ble_eq_true rfl) (fun R hR => ?_); rw [Try.results23] at hR; refine wg_run ?_; (simp only [Try.f23, go_sem, hw, d1])
          (first | refine wd_fn (by (simp only [go_sem]); first | done | rfl) (b1) ?_ | refine wm_fn (by (simp only [go_sem]); first | done | rfl) (b1) (by (simp only [go_sem]); first | done | rfl) (by (simp only [go_sem]); first | done | rfl) ?_ | refine wt_fn (by (simp only [go_sem]); first | done | rfl) (b1) (by (simp only [go_sem]); first | done | rfl) (by (simp only [go_sem]); first | done | rfl) ?_); (simp only [go_sem])
          repeat' (first | (simp only [go_sem, d2]) | ((first | refine wd_split _ (fun hb => ?_) (fun hb => ?_) | refine wd_nwant _ (fun hb => ?_) (fun hb => ?_) | refine wm_nwant _ (fun hb => ?_) (fun hb => ?_) | refine wd_want _ (fun hb => ?_) (fun hb => ?_) | refine wm_want _ (fun hb => ?_) (fun hb => ?_) | refine wt_nwant _ (fun hb => ?_) (fun hb => ?_) | refine wt_want _ (fun hb => ?_) (fun hb => ?_)) <;> (simp only [go_sem, hb, d2])) | (refine wm_done ?_; (simp only [go_sem, d2])) | (refine wt_done ?_; (simp only [go_sem, d2])) | (refine wg_run ?_; (simp only [go_sem, d2])) | (refine wt_fork (by (simp only [go_sem]); first | done | rfl) ?_ ?_ <;> (simp only [go_sem, d2])))
          (first | refine wd_fn (by (simp only [go_sem]); first | done | rfl) (b2) ?_ | refine wm_fn (by (simp only [go_sem]); first | done | rfl) (b2) (by (simp only [go_sem]); first | done | rfl) (by (simp only [go_sem]); first | done | rfl) ?_ | refine wt_fn (by (simp only [go_sem]); first | done | rfl) (b2) (by (simp only [go_sem]); first | done | rfl) (by (simp only [go_sem]); first | done | rfl) ?_); (simp only [go_sem])
          repeat' (first | (simp only [go_sem, d3]) | ((first | refine wd_split _ (fun hb => ?_) (fun hb => ?_) | refine wd_nwant _ (fun hb => ?_) (fun hb => ?_) | refine wm_nwant _ (fun hb => ?_) (fun hb => ?_) | refine wd_want _ (fun hb => ?_) (fun hb => ?_) | refine wm_want _ (fun hb => ?_) (fun hb => ?_) | refine wt_nwant _ (fun hb => ?_) (fun hb => ?_) | refine wt_want _ (fun hb => ?_) (fun hb => ?_)) <;> (simp only [go_sem, hb, d3])) | (refine wm_done ?_; (simp only [go_sem, d3])) | (refine wt_done ?_; (simp only [go_sem, d3])) | (refine wg_run ?_; (simp only [go_sem, d3])) | (refine wt_fork (by (simp only [go_sem]); first | done | rfl) ?_ ?_ <;> (simp only [go_sem, d3])))
          (first | refine wd_fn (by (simp only [go_sem]); first | done | rfl) (b3) ?_ | refine wm_fn (by (simp only [go_sem]); first | done | rfl) (b3) (by (simp only [go_sem]); first | done | rfl) (by (simp only [go_sem]); first | done | rfl) ?_ | refine wt_fn (by (simp only [go_sem]); first | done | rfl) (b3) (by (simp only [go_sem]); first | done | rfl) (by (simp only [go_sem]); first | done | rfl) ?_); (simp only [go_sem])
          repeat' (first | ((first | refine wd_split _ (fun hb => ?_) (fun hb => ?_) | refine wd_nwant _ (fun hb => ?_) (fun hb => ?_) | refine wm_nwant _ (fun hb => ?_) (fun hb => ?_) | refine wd_want _ (fun hb => ?_) (fun hb => ?_) | refine wm_want _ (fun hb => ?_) (fun hb => ?_) | refine wt_nwant _ (fun hb => ?_) (fun hb => ?_) | refine wt_want _ (fun hb => ?_) (fun hb => ?_)) <;> (simp only [go_sem, hb])) | (refine wm_done ?_; (simp only [go_sem])) | (refine wt_done ?_; (simp only [go_sem])) | (refine wg_run ?_; (simp only [go_sem])) | (refine wt_fork (by (simp only [go_sem]); first | done | rfl) ?_ ?_ <;> (simp only [go_sem])))
          · (refine hR _ (ret_at [] (by (simp only [go_sem]); first | done | rfl) (by (simp only [go_sem]); first | done | rfl) ⟨?_, rfl⟩))
            rw [szR_neg hb]
          · (refine hR _ (ret_at [] (by (simp only [go_sem]); first | done | rfl) (by (simp only [go_sem]); first | done | rfl) ⟨rfl, rfl⟩))
        · have e3 : szR t.frm.wt (left - (t.name.size : Int) - (t.type.wt : Int)) = -1 := by unfold szR; rw [if_neg c3]
          rw [e3] at b2
          have e4 : szR t.wt left = -1 := by unfold szR; rw [e, if_neg (by omega)]
          rw [e4]
          refine fn_in ?_; refine acl_in Try.func23 rfl isfn_23 (Nat.le_of_ble_eq_true rfl) (fun R hR => ?_); rw [Try.results23] at hR; refine wg_run ?_; (simp only [Try.f23, go_sem, hw, d1])
          (first | refine wd_fn (by (simp only [go_sem]); first | done | rfl) (b1) ?_ | refine wm_fn (by (simp only [go_sem]); first | done | rfl) (b1) (by (simp only [go_sem]); first | done | rfl) (by (simp only [go_sem]); first | done | rfl) ?_ | refine wt_fn (by (simp only [go_sem]); first | done | rfl) (b1) (by (simp only [go_sem]); first | done | rfl) (by (simp only [go_sem]); first | done | rfl) ?_); (simp only [go_sem])
          repeat' (first | (simp only [go_sem, d2]) | ((first | refine wd_split _ (fun hb => ?_) (fun hb => ?_) | refine wd_nwant _ (fun hb => ?_) (fun hb => ?_) | refine wm_nwant _ (fun hb => ?_) (fun hb => ?_) | refine wd_want _ (fun hb => ?_) (fun hb => ?_) | refine wm_want _ (fun hb => ?_) (fun hb => ?_) | refine wt_nwant _ (fun hb => ?_) (fun hb => ?_) | refine wt_want _ (fun hb => ?_) (fun hb => ?_)) <;> (simp only [go_sem, hb, d2])) | (refine wm_done ?_; (simp only [go_sem, d2])) | (refine wt_done ?_; (simp only [go_sem, d2])) | (refine wg_run ?_; (simp only [go_sem, d2])) | (refine wt_fork (by (simp only [go_sem]); first | done | rfl) ?_ ?_ <;> (simp only [go_sem, d2])))
          (first | refine wd_fn (by (simp only [go_sem]); first | done | rfl) (b2) ?_ | refine wm_fn (by (simp only [go_sem]); first | done | rfl) (b2) (by (simp only [go_sem]); first | done | rfl) (by (simp only [go_sem]); first | done | rfl) ?_ | refine wt_fn (by (simp only [go_sem]); first | done | rfl) (b2) (by (simp only [go_sem]); first | done | rfl) (by (simp only [go_sem]); first | done | rfl) ?_); (simp only [go_sem])
          repeat' (first | ((first | refine wd_split _ (fun hb => ?_) (fun hb => ?_) | refine wd_nwant _ (fun hb => ?_) (fun hb => ?_) | refine wm_nwant _ (fun hb => ?_) (fun hb => ?_) | refine wd_want _ (fun hb => ?_) (fun hb => ?_) | refine wm_want _ (fun hb => ?_) (fun hb => ?_) | refine wt_nwant _ (fun hb => ?_) (fun hb => ?_) | refine wt_want _ (fun hb => ?_) (fun hb => ?_)) <;> (simp only [go_sem, hb])) | (refine wm_done ?_; (simp only [go_sem])) | (refine wt_done ?_; (simp only [go_sem])) | (refine wg_run ?_; (simp only [go_sem])) | (refine wt_fork (by (simp only [go_sem]); first | done | rfl) ?_ ?_ <;> (simp only [go_sem])))
          (refine hR _ (ret_at [] (by (simp only [go_sem]); first | done | rfl) (by (simp only [go_sem]); first | done | rfl) ⟨rfl, rfl⟩))
      · have e2 : szR t.type.wt (left - (t.name.size : Int)) = -1 := by unfold szR; rw [if_neg c2]
        rw [e2] at b1
        have e4 : szR t.wt left = -1 := by unfold szR; rw [e, if_neg (by omega)]
        rw [e4]
        refine fn_in ?_; refine acl_in Try.func23 rfl isfn_23 (Nat.le_of_ble_eq_true rfl) (fun R hR => ?_); rw [Try.results23] at hR; refine wg_run ?_; (simp only [Try.f23, go_sem, hw, d1])
        (first | refine wd_fn (by (simp only [go_sem]); first | done | rfl) (b1) ?_ | refine wm_fn (by (simp only [go_sem]); first | done | rfl) (b1) (by (simp only [go_sem]); first | done | rfl) (by (simp only [go_sem]); first | done | rfl) ?_ | refine wt_fn (by (simp only [go_sem]); first | done | rfl) (b1) (by (simp only [go_sem]); first | done | rfl) (by (simp only [go_sem]); first | done | rfl) ?_); (simp only [go_sem])
        repeat' (first | ((first | refine wd_split _ (fun hb => ?_) (fun hb => ?_) | refine wd_nwant _ (fun hb => ?_) (fun hb => ?_) | refine wm_nwant _ (fun hb => ?_) (fun hb => ?_) | refine wd_want _ (fun hb => ?_) (fun hb => ?_) | refine wm_want _ (fun hb => ?_) (fun hb => ?_) | refine wt_nwant _ (fun hb => ?_) (fun hb => ?_) | refine wt_want _ (fun hb => ?_) (fun hb => ?_)) <;> (simp only [go_sem, hb])) | (refine wm_done ?_; (simp only [go_sem])) | (refine wt_done ?_; (simp only [go_sem])) | (refine wg_run ?_; (simp only [go_sem])) | (refine wt_fork (by (simp only [go_sem]); first | done | rfl) ?_ ?_ <;> (simp only [go_sem])))
        (refine hR _ (ret_at [] (by (simp only [go_sem]); first | done | rfl) (by (simp only [go_sem]); first | done | rfl) ⟨rfl, rfl⟩))
    · have d1 : decide (left - (t.name.size : Int) < 0) = true := by simp; omega
      have e4 : szR t.wt left = -1 := by unfold szR; rw [e, if_neg (by omega)]
      rw [e4]
      refine fn_in ?_; refine acl_in Try.func23 rfl isfn_23 (Nat.le_of_ble_eq_true rfl) (fun R hR => ?_); rw [Try.results23] at hR; refine wg_run ?_; (simp only [Try.f23, go_sem, hw, d1])
      (refine hR _ (ret_at [] (by (simp only [go_sem]); first | done | rfl) (by (simp only [go_sem]); first | done | rfl) ⟨rfl, rfl⟩))
theorem eqTm (n : Nat) (hn : n ≤ 4611686018427387904) : ∀ a b : Tm, a.size < n → AFn Try.prog 27 [.agg (teC a), .agg (teC b)] (.one (.sc (.bool (a.same b)))) := by
  induction n with
  | zero => intro a b h; omega
  | succ n ih =>
    intro a b h
    have hc := eqTmS n (ih (by omega)) a.kids b.kids (by cases a; simp only [Tm.size, Tm.kids] at *; omega) (by have := telen_lt a; omega)
    have a1 := eqTy (n + 1) hn a.type b.type (by cases a; simp only [Tm.size, Tm.type] at *; omega)
    have a2 := eqTy (n + 1) hn a.frm b.frm (by cases a; simp only [Tm.size, Tm.frm] at *; omega)
    have e : a.same b = (a.kind == b.kind && (a.name.toList == b.name.toList && (a.num == b.num && (a.type.same b.type && (a.frm.same b.frm && (a.label == b.label && Tm.sames a.kids b.kids)))))) := by cases a; cases b; rfl
    rw [e]
    clear e ih
    refine fn_in ?_; refine acl_in Try.func27 rfl isfn_27 (Nat.le_of_ble_eq_true rfl) (fun R hR => ?_); rw [Try.results27] at hR; refine wg_run ?_; (simp only [Try.f27, go_sem])
    repeat' (first | (first | (simp only [go_sem, int_bne]) | ((first | refine wd_split _ (fun hb => ?_) (fun hb => ?_) | refine wd_nwant _ (fun hb => ?_) (fun hb => ?_) | refine wm_nwant _ (fun hb => ?_) (fun hb => ?_) | refine wd_want _ (fun hb => ?_) (fun hb => ?_) | refine wm_want _ (fun hb => ?_) (fun hb => ?_) | refine wt_nwant _ (fun hb => ?_) (fun hb => ?_) | refine wt_want _ (fun hb => ?_) (fun hb => ?_)) <;> (simp only [go_sem, hb, int_bne])) | (refine wm_done ?_; (simp only [go_sem, int_bne])) | (refine wt_done ?_; (simp only [go_sem, int_bne])) | (refine wg_run ?_; (simp only [go_sem, int_bne])) | (refine wt_fork (by (simp only [go_sem]); first | done | rfl) ?_ ?_ <;> (simp only [go_sem, int_bne]))) | (first | refine wd_fn (by (simp only [go_sem]); first | done | rfl) (a1) ?_ | refine wm_fn (by (simp only [go_sem]); first | done | rfl) (a1) (by (simp only [go_sem]); first | done | rfl) (by (simp only [go_sem]); first | done | rfl) ?_ | refine wt_fn (by (simp only [go_sem]); first | done | rfl) (a1) (by (simp only [go_sem]); first | done | rfl) (by (simp only [go_sem]); first | done | rfl) ?_); (simp only [go_sem]) | (first | refine wd_fn (by (simp only [go_sem]); first | done | rfl) (a2) ?_ | refine wm_fn (by (simp only [go_sem]); first | done | rfl) (a2) (by (simp only [go_sem]); first | done | rfl) (by (simp only [go_sem]); first | done | rfl) ?_ | refine wt_fn (by (simp only [go_sem]); first | done | rfl) (a2) (by (simp only [go_sem]); first | done | rfl) (by (simp only [go_sem]); first | done | rfl) ?_); (simp only [go_sem]) | (first | refine wd_fn (by (simp only [go_sem]); first | done | rfl) (hc) ?_ | refine wm_fn (by (simp only [go_sem]); first | done | rfl) (hc) (by (simp only [go_sem]); first | done | rfl) (by (simp only [go_sem]); first | done | rfl) ?_ | refine wt_fn (by (simp only [go_sem]); first | done | rfl) (hc) (by (simp only [go_sem]); first | done | rfl) (by (simp only [go_sem]); first | done | rfl) ?_); (simp only [go_sem]) | ((first | refine wd_mix 6 [] follows (by decide +kernel) (by (simp only [go_sem]); first | done | rfl) ?_ | refine wd_mix 5 [] follows (by decide +kernel) (by (simp only [go_sem]); first | done | rfl) ?_ | refine wd_mix 4 [] follows (by decide +kernel) (by (simp only [go_sem]); first | done | rfl) ?_ | refine wd_mix 3 [] follows (by decide +kernel) (by (simp only [go_sem]); first | done | rfl) ?_ | refine wd_mix 2 [] follows (by decide +kernel) (by (simp only [go_sem]); first | done | rfl) ?_ | refine wd_mix 1 [] follows (by decide +kernel) (by (simp only [go_sem]); first | done | rfl) ?_ | refine wd_mix 0 [] follows (by decide +kernel) (by (simp only [go_sem]); first | done | rfl) ?_ | fail); (simp only [go_sem])))
    all_goals (refine hR _ (ret_at [] (by (simp only [go_sem]); first | done | rfl) (by (simp only [go_sem]); first | done | rfl) ⟨?_, rfl⟩))
    all_goals simp_all
theorem toTm (n : Nat) (hn : n ≤ 1099511627776) : ∀ t : Tm, t.size < n → AFn Try.prog 25 [.agg (teC t)] (.agg (teC t)) := by
  induction n with
  | zero => intro t h; omega
  | succ n ih =>
    intro t h
    have hc := toTmS n (ih (by omega)) t.kids (by cases t; simp only [Tm.size, Tm.kids] at *; omega) (by have := telen_lt t; omega)
    have a1 := toTy (n + 1) hn t.type (by cases t; simp only [Tm.size, Tm.type] at *; omega)
    have a2 := toTy (n + 1) hn t.frm (by cases t; simp only [Tm.size, Tm.frm] at *; omega)
    refine fn_in ?_; refine acl_in Try.func25 rfl isfn_25 (Nat.le_of_ble_eq_true rfl) (fun R hR => ?_); rw [Try.results25] at hR; refine wg_run ?_; (simp only [Try.f25, go_sem])
    repeat' (first | (first | ((first | refine wd_split _ (fun hb => ?_) (fun hb => ?_) | refine wd_nwant _ (fun hb => ?_) (fun hb => ?_) | refine wm_nwant _ (fun hb => ?_) (fun hb => ?_) | refine wd_want _ (fun hb => ?_) (fun hb => ?_) | refine wm_want _ (fun hb => ?_) (fun hb => ?_) | refine wt_nwant _ (fun hb => ?_) (fun hb => ?_) | refine wt_want _ (fun hb => ?_) (fun hb => ?_)) <;> (simp only [go_sem, hb])) | (refine wm_done ?_; (simp only [go_sem])) | (refine wt_done ?_; (simp only [go_sem])) | (refine wg_run ?_; (simp only [go_sem])) | (refine wt_fork (by (simp only [go_sem]); first | done | rfl) ?_ ?_ <;> (simp only [go_sem]))) | (first | refine wd_fn (by (simp only [go_sem]); first | done | rfl) (a1) ?_ | refine wm_fn (by (simp only [go_sem]); first | done | rfl) (a1) (by (simp only [go_sem]); first | done | rfl) (by (simp only [go_sem]); first | done | rfl) ?_ | refine wt_fn (by (simp only [go_sem]); first | done | rfl) (a1) (by (simp only [go_sem]); first | done | rfl) (by (simp only [go_sem]); first | done | rfl) ?_); (simp only [go_sem]) | (first | refine wd_fn (by (simp only [go_sem]); first | done | rfl) (a2) ?_ | refine wm_fn (by (simp only [go_sem]); first | done | rfl) (a2) (by (simp only [go_sem]); first | done | rfl) (by (simp only [go_sem]); first | done | rfl) ?_ | refine wt_fn (by (simp only [go_sem]); first | done | rfl) (a2) (by (simp only [go_sem]); first | done | rfl) (by (simp only [go_sem]); first | done | rfl) ?_); (simp only [go_sem]) | (first | refine wd_fn (by (simp only [go_sem]); first | done | rfl) (hc) ?_ | refine wm_fn (by (simp only [go_sem]); first | done | rfl) (hc) (by (simp only [go_sem]); first | done | rfl) (by (simp only [go_sem]); first | done | rfl) ?_ | refine wt_fn (by (simp only [go_sem]); first | done | rfl) (hc) (by (simp only [go_sem]); first | done | rfl) (by (simp only [go_sem]); first | done | rfl) ?_); (simp only [go_sem]) | ((first | refine wd_mix 6 [] follows (by decide +kernel) (by (simp only [go_sem]); first | done | rfl) ?_ | refine wd_mix 5 [] follows (by decide +kernel) (by (simp only [go_sem]); first | done | rfl) ?_ | refine wd_mix 4 [] follows (by decide +kernel) (by (simp only [go_sem]); first | done | rfl) ?_ | refine wd_mix 3 [] follows (by decide +kernel) (by (simp only [go_sem]); first | done | rfl) ?_ | refine wd_mix 2 [] follows (by decide +kernel) (by (simp only [go_sem]); first | done | rfl) ?_ | refine wd_mix 1 [] follows (by decide +kernel) (by (simp only [go_sem]); first | done | rfl) ?_ | refine wd_mix 0 [] follows (by decide +kernel) (by (simp only [go_sem]); first | done | rfl) ?_ | fail); (simp only [go_sem])))
    (refine hR _ (ret_at [] (by (simp only [go_sem]); first | done | rfl) (by (simp only [go_sem]); first | done | rfl) ⟨?_, rfl⟩))
    rw [teC_eq]
end Go.Proofs.Ytfgjiamolknicaa
/- A law's arguments that are types and terms, read as shadows. -/
namespace Go.Proofs.Sh
open Go.RowKit Go.Proofs.Grad
theorem simNil (w : World) : Sim [] [] [] w :=
  ⟨rfl, by simp, by simp, fun i b g h => by simp at h, fun i j b b' g _ h => by simp at h, fun i b g h => by simp at h⟩
theorem lawCalls {P : Program} {f : FuncId} {args : List AV} {vs : Array Value} {w : World} (h : AFn P f args (.one (.sc (.bool true)))) (hr : AV.repl [] [] w args vs.toList) :
    Calls P f vs w (fun e w' => e = .returned (.bool true) ∧ Below w.heap.size w w') := by
  refine (h.out.2 [] [] w vs (simNil w) hr).mono ?_
  rintro e w' ⟨r, H', μ', v, rfl, ⟨rfl, rfl⟩, hS, hT, hv⟩
  simp only [AV.rep, C.rep] at hv
  refine ⟨by rw [hv.1], hT.keep.os, hT.keep.tape, hT.keep.output, hT.keep.size, fun b hb => hT.keep.block b (by simp [alive]) hb⟩
variable {w : World}
theorem reps_of {b : Nat} : ∀ {cs : List C} {ds : List Value} {off : Nat}, C.repl [] [] w cs ds → (∀ i, i < ds.length → w.cell? ⟨b, off + i, none⟩ = ds[i]?) → C.reps [] [] w cs b off
  | [], _, _, _, _ => trivial
  | c :: cs, ds, off, h, hc => by
    simp only [C.repl] at h
    obtain ⟨u, us, rfl, h1, h2⟩ := h
    refine ⟨⟨u, hc 0 (by simp), h1⟩, reps_of h2 fun i hi => ?_⟩
    have := hc (i + 1) (by simpa using hi)
    rw [show off + 1 + i = off + (i + 1) by omega]
    simpa using this
theorem repss_of {T : Type} (f : T → List C) {s b : Nat} (hf : ∀ t, (f t).length = s) : ∀ (l : List T) (off : Nat), (∀ i (hi : i < l.length), C.reps [] [] w (f l[i]) b (off + i * s)) → C.repss [] [] w s (l.map f) b off
  | [], _, _ => trivial
  | t :: l, off, h => by
    have h0 := h 0 (by simp)
    rw [Nat.zero_mul, Nat.add_zero] at h0
    refine ⟨hf t, h0, repss_of f hf l (off + s) fun i hi => ?_⟩
    have := h (i + 1) (by simpa using hi)
    rw [show off + s + i * s = off + (i + 1) * s by rw [Nat.add_mul]; omega]
    simpa using this
theorem add_plain {b o k : Nat} : (⟨b, o, none⟩ : Addr).add k = ⟨b, o + k, none⟩ := by
  unfold Addr.add; split <;> simp_all
theorem spot_plain {a : Addr} {v : Value} (h : w.cell? a = some v) : a.spot = none := by
  obtain ⟨b, o, s⟩ := a
  cases s with
  | none => rfl
  | some s =>
    simp only [World.cell?] at h
    split at h <;> simp at h
theorem sl_rep {T : Type} (f : T → List C) {s base : Nat} (hs : 0 < s) (hf : ∀ t, (f t).length = s) {a : Addr} {cap : Nat} (l : List T) (h : ∀ i (hi : i < l.length), ∃ ds, w.cells? base (a.add (i * s)) s = some ds ∧ C.repl [] [] w (f l[i]) ds) (hlc : l.length ≤ cap) (hcm : cap ≤ maxLen) :
    C.rep [] [] w (.sl (l.map f)) (.slice (some a) l.length cap) := by
  simp only [C.rep]
  refine ⟨some a, cap, by rw [List.length_map], by simpa using hlc, hcm, ?_⟩
  cases hl : l with
  | nil => exact .inl rfl
  | cons t0 l0 =>
    have h0 : 0 < l.length := by rw [hl]; simp
    obtain ⟨ds, g, _⟩ := h 0 h0
    obtain ⟨_, g2, g3⟩ := World.cells?_some g
    have g4 := g3 0 hs
    have : ∃ v, ds[0]? = some v := ⟨ds[0], List.getElem?_eq_getElem (by omega)⟩
    obtain ⟨v, hv⟩ := this
    rw [hv] at g4
    have hsp : a.spot = none := by
      have := spot_plain g4
      simp [Addr.add] at this
      exact this
    obtain ⟨b, o, sp⟩ := a
    simp at hsp
    subst hsp
    rw [add_plain, add_plain] at g4
    refine .inr ⟨b, o, s, rfl, lt_of_cell g4, by simp, ?_⟩
    rw [← hl]
    refine repss_of f hf l o fun i hi => ?_
    obtain ⟨ds, g, gr⟩ := h i hi
    obtain ⟨_, g2, g3⟩ := World.cells?_some g
    refine reps_of gr fun j hj => ?_
    have := g3 j (by omega)
    simpa [add_plain] using this
theorem listAll {α : Type} {n : Nat} {P : Nat → α → Prop} (h : ∀ i, i < n → ∃ x, P i x) : ∃ l : List α, l.length = n ∧ ∀ i (hi : i < l.length), P i l[i] := by
  induction n with
  | zero => exact ⟨[], rfl, by simp⟩
  | succ n ih =>
    obtain ⟨l, hl, hp⟩ := ih fun i hi => h i (by omega)
    obtain ⟨x, hx⟩ := h n (by omega)
    refine ⟨l ++ [x], by simp [hl], fun i hi => ?_⟩
    by_cases hil : i < l.length
    · rw [List.getElem_append_left hil]; exact hp i hil
    · have : i = l.length := by simp at hi; omega
      subst this
      rw [List.getElem_append_right (by omega)]
      simp only [Nat.sub_self, List.getElem_cons_zero]
      rw [hl]; exact hx
theorem tyR_map (l : List Ty) : tyR l = l.map tyC := by
  induction l with
  | nil => rfl
  | cons t l ih => simp [tyR, ih]
theorem teR_map (l : List Tm) : teR l = l.map teC := by
  induction l with
  | nil => rfl
  | cons t l ih => simp [teR, ih]
theorem rep_nil {s : Nat} : C.rep [] [] w (.sl []) (.slice none 0 s) ↔ s ≤ maxLen := by
  simp only [C.rep, List.length_nil]
  exact ⟨fun ⟨_, c, e, _, h, _⟩ => by cases e; exact h, fun h => ⟨none, s, rfl, Nat.zero_le _, h, .inl trivial⟩⟩
end Go.Proofs.Sh
namespace Go.Proofs.Ytfgjiamolknicaa
open Go.RowKit Go.Proofs.Sh Go.Proofs.Grad
open Go.ChangeShapes Go.WideShapes Go.ChangeAt
theorem ownKT : ownKnob Try.prog.godebug = none := by kernel_rfl
theorem laidKT : laidOutB Try.prog = true := by kernel_rfl
variable {H : Type} {enc : TypeId × Value → H} {w : World} {base : Nat} {spare : Nat → Bool} {held : Bool}
set_option maxRecDepth 100000 in
theorem opn_Ty : ∀ (n fuel : Nat) (cs : List Value) (x : DataW H × List MemPlace), fuel ≤ n → DataW.trod enc Try.prog w base spare held fuel 41 cs = some x → ∃ t : Ty, C.repl [] [] w (tyC t) cs ∧ t.fits := by
  intro n
  induction n with
  | zero =>
    intro fuel cs x hf h
    obtain rfl : fuel = 0 := by omega
    simp [DataW.trod] at h
  | succ n ih =>
    intro fuel cs x hf h
    obtain ⟨xs, m, hm, hx, hl, hlen, hfs⟩ := DataW.trod_struct Try.underlying41 h
    have hc : Try.prog.cellsOf 41 = 2 := by kernel_rfl
    have hc1 : Try.prog.cellsOf 3 = 1 := by kernel_rfl
    have hc2 : Try.prog.cellsOf 39 = 1 := by kernel_rfl
    rw [hc] at hl
    match cs, hl with
    | [c0, c1], _ =>
      have f0 : DataW.trod enc Try.prog w base spare held m 3 (([c0, c1].drop 0).take (Try.prog.cellsOf 3)) = xs[0]? := hfs 0 _ rfl
      have f1 : DataW.trod enc Try.prog w base spare held m 39 (([c0, c1].drop 1).take (Try.prog.cellsOf 39)) = xs[1]? := hfs 1 _ rfl
      rw [hc1] at f0
      rw [hc2] at f1
      simp at hlen
      rw [List.getElem?_eq_getElem (by omega)] at f0 f1
      simp at f0 f1
      obtain ⟨k, e0, _, _⟩ := DataW.trod_int Try.underlying3 f0
      simp at e0
      subst e0
      rcases DataW.trod_slice Try.underlying39 f1 with ⟨e1, _⟩ | ⟨a, len, cap, elems, rest, m', hm', e1, _, hb, hlc, hcm, hel, hall, _, _⟩
      · simp at e1
        subst e1
        refine ⟨.mk k [], ?_, ⟨by simp, trivial⟩⟩
        simp only [tyC, tyR, C.repl]
        exact ⟨_, _, rfl, ⟨rfl, rfl⟩, _, _, rfl, rep_nil.2 (by simp [maxLen]), rfl⟩
      · simp at e1
        subst e1
        have hkid : ∀ i, i < len → ∃ t : Ty, (∃ ds, w.cells? base (a.add (i * 2)) 2 = some ds ∧ C.repl [] [] w (tyC t) ds) ∧ t.fits := by
          intro i hi
          have h1 := hall i hi
          rw [hc, List.getElem?_eq_getElem (by omega)] at h1
          cases h2 : w.cells? base (a.add (i * 2)) 2 with
          | none => rw [h2] at h1; simp at h1
          | some ds =>
            rw [h2] at h1
            simp only [Option.bind_some] at h1
            obtain ⟨t, hr, hf⟩ := ih m' ds _ (by omega) h1
            exact ⟨t, ⟨ds, rfl, hr⟩, hf⟩
        obtain ⟨l, hl, hp⟩ := listAll hkid
        subst hl
        refine ⟨.mk k l, ?_, ⟨by simp only [maxLen] at hcm; omega, Ty.fitss_of fun i hi => (hp i hi).2⟩⟩
        simp only [tyC, C.repl]
        refine ⟨_, _, rfl, ⟨rfl, rfl⟩, _, _, rfl, ?_, rfl⟩
        rw [tyR_map]
        exact sl_rep tyC (by omega) tyC_length l (fun i hi => (hp i hi).1) hlc hcm
set_option maxRecDepth 100000 in
theorem open_TyS {v : Value} {d : DataW H} {p : List MemPlace} {r : Reach} {b0 : Nat} (hv : Value.okWide Try.prog w r b0 41 v) (h : DataW.Trod enc Try.prog w base spare held 41 v d p) : ∃ t : Ty, AV.rep [] [] w (.agg (tyC t)) v ∧ t.fits := by
  obtain ⟨cs, rfl, _⟩ := okWide_struct Try.underlying41 hv
  obtain ⟨fuel, hu⟩ := h
  obtain ⟨t, hr, hf⟩ := opn_Ty fuel fuel _ _ (Nat.le_refl _) hu
  refine ⟨t, ?_, hf⟩
  simp only [AV.rep]
  exact ⟨cs, rfl, hr⟩
set_option maxRecDepth 100000 in
theorem open_IntS {v : Value} {d : DataW H} {p : List MemPlace} {r : Reach} {b0 : Nat} (hv : Value.okWide Try.prog w r b0 3 v) (h : DataW.Trod enc Try.prog w base spare held 3 v d p) : ∃ k : Int, v = .int .i64 k ∧ (-9223372036854775808 ≤ k ∧ k ≤ 9223372036854775807) := by
  obtain ⟨k, e, _, _, k2⟩ := Go.ChangeShapes.open_int Try.underlying3 hv h
  refine ⟨k, e, ?_⟩
  simp [Lit.wf, IntKind.min, IntKind.max, IntKind.signed, IntKind.bits] at k2
  omega
theorem repl_one {c : C} {v : Value} (h : C.rep [] [] w c v) : C.repl [] [] w [c] [v] := by simp only [C.repl]; exact ⟨v, [], rfl, h, rfl⟩
set_option maxRecDepth 100000 in
theorem opn_Tm : ∀ (n fuel : Nat) (cs : List Value) (x : DataW H × List MemPlace), fuel ≤ n → DataW.trod enc Try.prog w base spare held fuel 44 cs = some x → ∃ t : Tm, C.repl [] [] w (teC t) cs ∧ t.fits := by
  intro n
  induction n with
  | zero =>
    intro fuel cs x hf h
    obtain rfl : fuel = 0 := by omega
    simp [DataW.trod] at h
  | succ n ih =>
    intro fuel cs x hf h
    obtain ⟨xs, m, hm, hx, hl, hlen, hfs⟩ := DataW.trod_struct Try.underlying44 h
    have hc : Try.prog.cellsOf 44 = 9 := by kernel_rfl
    have hc1 : Try.prog.cellsOf 3 = 1 := by kernel_rfl
    have hc2 : Try.prog.cellsOf 41 = 2 := by kernel_rfl
    have hc3 : Try.prog.cellsOf 9 = 1 := by kernel_rfl
    have hc4 : Try.prog.cellsOf 42 = 1 := by kernel_rfl
    rw [hc] at hl
    match cs, hl with
    | [c0, c1, c2, c3, c4, c5, c6, c7, c8], _ =>
      have f0 : DataW.trod enc Try.prog w base spare held m 3 (([c0, c1, c2, c3, c4, c5, c6, c7, c8].drop 0).take (Try.prog.cellsOf 3)) = xs[0]? := hfs 0 _ rfl
      have f1 : DataW.trod enc Try.prog w base spare held m 9 (([c0, c1, c2, c3, c4, c5, c6, c7, c8].drop 1).take (Try.prog.cellsOf 9)) = xs[1]? := hfs 1 _ rfl
      have f2 : DataW.trod enc Try.prog w base spare held m 3 (([c0, c1, c2, c3, c4, c5, c6, c7, c8].drop 2).take (Try.prog.cellsOf 3)) = xs[2]? := hfs 2 _ rfl
      have f3 : DataW.trod enc Try.prog w base spare held m 41 (([c0, c1, c2, c3, c4, c5, c6, c7, c8].drop 3).take (Try.prog.cellsOf 41)) = xs[3]? := hfs 3 _ rfl
      have f4 : DataW.trod enc Try.prog w base spare held m 41 (([c0, c1, c2, c3, c4, c5, c6, c7, c8].drop 5).take (Try.prog.cellsOf 41)) = xs[4]? := hfs 4 _ rfl
      have f5 : DataW.trod enc Try.prog w base spare held m 3 (([c0, c1, c2, c3, c4, c5, c6, c7, c8].drop 7).take (Try.prog.cellsOf 3)) = xs[5]? := hfs 5 _ rfl
      have f6 : DataW.trod enc Try.prog w base spare held m 42 (([c0, c1, c2, c3, c4, c5, c6, c7, c8].drop 8).take (Try.prog.cellsOf 42)) = xs[6]? := hfs 6 _ rfl
      rw [hc1] at f0 f2 f5
      rw [hc2] at f3 f4
      rw [hc3] at f1
      rw [hc4] at f6
      simp at hlen
      rw [List.getElem?_eq_getElem (by omega)] at f0 f1 f2 f3 f4 f5 f6
      simp at f0 f1 f2 f3 f4 f5 f6
      obtain ⟨k0, e0, _, _⟩ := DataW.trod_int Try.underlying3 f0
      obtain ⟨k2, e2, _, _⟩ := DataW.trod_int Try.underlying3 f2
      obtain ⟨k5, e5, _, _⟩ := DataW.trod_int Try.underlying3 f5
      obtain ⟨s, e1, _, hns⟩ := DataW.trod_string Try.underlying9 f1
      obtain ⟨t3, r3, ft3⟩ := opn_Ty m m _ _ (Nat.le_refl _) f3
      obtain ⟨t4, r4, ft4⟩ := opn_Ty m m _ _ (Nat.le_refl _) f4
      simp at e0 e1 e2 e5
      subst e0 e1 e2 e5
      rw [tyC_eq] at r3 r4
      simp only [C.repl] at r3 r4
      obtain ⟨u3, us3, g3, a3, u4, us4, g4, a4, g5⟩ := r3
      obtain ⟨u5, us5, g6, a5, u6, us6, g7, a6, g8⟩ := r4
      subst g5; subst g4; simp at g3; obtain ⟨rfl, rfl⟩ := g3
      subst g8; subst g7; simp at g6; obtain ⟨rfl, rfl⟩ := g6
      rcases DataW.trod_slice Try.underlying42 f6 with ⟨e1, _⟩ | ⟨a, len, cap, elems, rest, m', hm', e1, _, hb, hlc, hcm, hel, hall, _, _⟩
      · simp at e1
        subst e1
        refine ⟨.mk k0 s k2 t3 t4 k5 [], ?_, ⟨by simp only [maxLen] at hns; omega, ft3, ft4, by simp, trivial⟩⟩
        simp only [teC, teR, C.repl]
        exact ⟨_, _, rfl, ⟨rfl, rfl⟩, _, _, rfl, ⟨rfl, rfl⟩, _, _, rfl, ⟨rfl, rfl⟩, _, _, rfl, a3, _, _, rfl, a4, _, _, rfl, a5, _, _, rfl, a6, _, _, rfl, ⟨rfl, rfl⟩, _, _, rfl, rep_nil.2 (by simp [maxLen]), rfl⟩
      · simp at e1
        subst e1
        have hkid : ∀ i, i < len → ∃ t : Tm, (∃ ds, w.cells? base (a.add (i * 9)) 9 = some ds ∧ C.repl [] [] w (teC t) ds) ∧ t.fits := by
          intro i hi
          have h1 := hall i hi
          rw [hc, List.getElem?_eq_getElem (by omega)] at h1
          cases h2 : w.cells? base (a.add (i * 9)) 9 with
          | none => rw [h2] at h1; simp at h1
          | some ds =>
            rw [h2] at h1
            simp only [Option.bind_some] at h1
            obtain ⟨t, hr, hf⟩ := ih m' ds _ (by omega) h1
            exact ⟨t, ⟨ds, rfl, hr⟩, hf⟩
        obtain ⟨l, hl, hp⟩ := listAll hkid
        subst hl
        refine ⟨.mk k0 s k2 t3 t4 k5 l, ?_, ⟨by simp only [maxLen] at hns; omega, ft3, ft4, by simp only [maxLen] at hcm; omega, Tm.fitss_of fun i hi => (hp i hi).2⟩⟩
        simp only [teC, C.repl]
        refine ⟨_, _, rfl, ⟨rfl, rfl⟩, _, _, rfl, ⟨rfl, rfl⟩, _, _, rfl, ⟨rfl, rfl⟩, _, _, rfl, a3, _, _, rfl, a4, _, _, rfl, a5, _, _, rfl, a6, _, _, rfl, ⟨rfl, rfl⟩, _, _, rfl, ?_, rfl⟩
        rw [teR_map]
        exact sl_rep teC (by omega) teC_length l (fun i hi => (hp i hi).1) hlc hcm
set_option maxRecDepth 100000 in
theorem open_TmS {v : Value} {d : DataW H} {p : List MemPlace} {r : Reach} {b0 : Nat} (hv : Value.okWide Try.prog w r b0 44 v) (h : DataW.Trod enc Try.prog w base spare held 44 v d p) : ∃ t : Tm, AV.rep [] [] w (.agg (teC t)) v ∧ t.fits := by
  obtain ⟨cs, rfl, _⟩ := okWide_struct Try.underlying44 hv
  obtain ⟨fuel, hu⟩ := h
  obtain ⟨t, hr, hf⟩ := opn_Tm fuel fuel _ _ (Nat.le_refl _) hu
  refine ⟨t, ?_, hf⟩
  simp only [AV.rep]
  exact ⟨cs, rfl, hr⟩
end Go.Proofs.Ytfgjiamolknicaa
