/- The reference's draws of types, on shadows. -/
import Derived.Test.YtkkijdlgmlffoaaTD0
import Derived.Test.YtkkijdlgmlffoaaTF2
import Derived.Test.YtkkijdlgmlffoaaTF6
namespace Go.Proofs.Ytkkijdlgmlffoaa
open Go.RowKit Go.Proofs.Sh Go.Proofs.Grad
set_option maxRecDepth 100000
set_option maxHeartbeats 4000000
/-- a draw: of a type of depth at most d, at a cost of at most c -/
def DrawsT (bs : List Int) (p c d : Nat) (r : AV) (H' : List Blk) : Prop := ∃ (x : T) (p' : Nat), r = .agg (tyC x.ty) ∧ x.depth ≤ d ∧ p' ≤ p + c ∧ H' = [(⟨2, 61, .mut, [[.sl (byR bs), .sc (.int .i64 ((p' : Nat) : Int))]]⟩ : Blk)]
theorem l1Draw1 (bs : List Int) (hB : Bs bs) (p : Nat) (hp : p < 1099511627776) : ACl Try.prog 65 [.one (.ptr 2 0 0 0), .one (.sc (.int .i64 1))] [(⟨2, 61, .mut, [[.sl (byR bs), .sc (.int .i64 ((p : Nat) : Int))]]⟩ : Blk)] (DrawsT bs p 2 1) := by
  have hk := num bs hB p hp [2, 1, 4, 3, 5, 2, 4] (by decide) (by decide)
  refine acl_in Try.func65 rfl isfn_65 (Nat.le_of_ble_eq_true rfl) (fun R hR => ?_); rw [Try.results65] at hR; refine wg_run ?_; (simp only [Try.f65, go_sem])
  refine wd_cl [0] (by (simp only [go_sem]) <;> rfl) hk ?_
  clear hk
  rintro _ _ ⟨z, rfl, hz, rfl⟩
  simp only [List.mem_cons, List.not_mem_nil, or_false] at hz
  rcases hz with rfl | rfl | rfl | rfl | rfl | rfl | rfl
  all_goals
    (simp only [go_sem])
    repeat' (first | (first | ((first | refine wd_split _ (fun hb => ?_) (fun hb => ?_) | refine wd_nwant _ (fun hb => ?_) (fun hb => ?_) | refine wm_nwant _ (fun hb => ?_) (fun hb => ?_) | refine wd_want _ (fun hb => ?_) (fun hb => ?_) | refine wm_want _ (fun hb => ?_) (fun hb => ?_)) <;> (simp only [go_sem, hb])) | (refine wm_done ?_; (simp only [go_sem])) | (refine wg_run ?_; (simp only [go_sem]))) | (first | refine wd_fn (by (simp only [go_sem]) <;> rfl) (l1Kids _) ?_ | refine wm_fn (by (simp only [go_sem]) <;> rfl) (l1Kids _) (by (simp only [go_sem]) <;> rfl) (by (simp only [go_sem]) <;> rfl) ?_); (simp only [go_sem]) | (first | (refine wl_next (wg_run ?_); (simp only [go_sem])) | refine wd_rounds 6 ?_) | ((first | refine wd_mix 6 [0] follows (by decide +kernel) (by (simp only [go_sem]) <;> rfl) ?_ | refine wd_mix 5 [0] follows (by decide +kernel) (by (simp only [go_sem]) <;> rfl) ?_ | refine wd_mix 4 [0] follows (by decide +kernel) (by (simp only [go_sem]) <;> rfl) ?_ | refine wd_mix 3 [0] follows (by decide +kernel) (by (simp only [go_sem]) <;> rfl) ?_ | refine wd_mix 2 [0] follows (by decide +kernel) (by (simp only [go_sem]) <;> rfl) ?_ | refine wd_mix 1 [0] follows (by decide +kernel) (by (simp only [go_sem]) <;> rfl) ?_ | refine wd_mix 0 [0] follows (by decide +kernel) (by (simp only [go_sem]) <;> rfl) ?_); (simp only [go_sem])))
    first
      | exact hR _ (ret_at [] (by (simp only [go_sem]) <;> rfl) (by (simp only [go_sem]) <;> rfl) ⟨.any, p + 1, rfl, by decide, by omega, rfl⟩)
      | exact hR _ (ret_at [] (by (simp only [go_sem]) <;> rfl) (by (simp only [go_sem]) <;> rfl) ⟨.int, p + 1, rfl, by decide, by omega, rfl⟩)
      | exact hR _ (ret_at [] (by (simp only [go_sem]) <;> rfl) (by (simp only [go_sem]) <;> rfl) ⟨.bool, p + 1, rfl, by decide, by omega, rfl⟩)
theorem l1DrawN (bs : List Int) (hB : Bs bs) (d c : Nat) (hd : 1 ≤ d) (hd4 : d ≤ 4) (M : Nat) (hM : M + c + 2 ≤ 1099511627776) (ih : ∀ p, p < M + c + 2 → ACl Try.prog 65 [.one (.ptr 2 0 0 0), .one (.sc (.int .i64 (d : Nat)))] [(⟨2, 61, .mut, [[.sl (byR bs), .sc (.int .i64 ((p : Nat) : Int))]]⟩ : Blk)] (DrawsT bs p c d)) :
    ∀ p, p < M → ACl Try.prog 65 [.one (.ptr 2 0 0 0), .one (.sc (.int .i64 ((d + 1 : Nat) : Int)))] [(⟨2, 61, .mut, [[.sl (byR bs), .sc (.int .i64 ((p : Nat) : Int))]]⟩ : Blk)] (DrawsT bs p (1 + 2 * c) (d + 1)) := by
  intro p hp
  have hd2 : decide (((d + 1 : Nat) : Int) < 2) = false := by simp; omega
  have hw : IntKind.i64.wrap (((d + 1 : Nat) : Int) - 1) = (d : Int) := by rw [IntWalk.i64_in _ (by omega)]; omega
  have hk := num bs hB p (by omega) [2, 1, 4, 3, 5, 2, 4] (by decide) (by decide)
  refine acl_in Try.func65 rfl isfn_65 (Nat.le_of_ble_eq_true rfl) (fun R hR => ?_); rw [Try.results65] at hR; refine wg_run ?_; (simp only [Try.f65, go_sem])
  refine wd_cl [0] (by (simp only [go_sem]) <;> rfl) hk ?_
  clear hk
  rintro _ _ ⟨z, rfl, hz, rfl⟩
  simp only [List.mem_cons, List.not_mem_nil, or_false] at hz
  rcases hz with rfl | rfl | rfl | rfl | rfl | rfl | rfl
  all_goals
    (simp only [go_sem, hd2])
    repeat' (first | (first | ((first | refine wd_split _ (fun hb => ?_) (fun hb => ?_) | refine wd_nwant _ (fun hb => ?_) (fun hb => ?_) | refine wm_nwant _ (fun hb => ?_) (fun hb => ?_) | refine wd_want _ (fun hb => ?_) (fun hb => ?_) | refine wm_want _ (fun hb => ?_) (fun hb => ?_)) <;> (simp only [go_sem, hb])) | (refine wm_done ?_; (simp only [go_sem])) | (refine wg_run ?_; (simp only [go_sem]))) | (first | refine wd_fn (by (simp only [go_sem]) <;> rfl) (l1Kids _) ?_ | refine wm_fn (by (simp only [go_sem]) <;> rfl) (l1Kids _) (by (simp only [go_sem]) <;> rfl) (by (simp only [go_sem]) <;> rfl) ?_); (simp only [go_sem]) | (first | (refine wl_next (wg_run ?_); (simp only [go_sem])) | refine wd_rounds 6 ?_) | ((first | refine wd_mix 6 [0] follows (by decide +kernel) (by (simp only [go_sem]) <;> rfl) ?_ | refine wd_mix 5 [0] follows (by decide +kernel) (by (simp only [go_sem]) <;> rfl) ?_ | refine wd_mix 4 [0] follows (by decide +kernel) (by (simp only [go_sem]) <;> rfl) ?_ | refine wd_mix 3 [0] follows (by decide +kernel) (by (simp only [go_sem]) <;> rfl) ?_ | refine wd_mix 2 [0] follows (by decide +kernel) (by (simp only [go_sem]) <;> rfl) ?_ | refine wd_mix 1 [0] follows (by decide +kernel) (by (simp only [go_sem]) <;> rfl) ?_ | refine wd_mix 0 [0] follows (by decide +kernel) (by (simp only [go_sem]) <;> rfl) ?_); (simp only [go_sem])))
  all_goals
    first
      | exact hR _ (ret_at [] (by (simp only [go_sem]) <;> rfl) (by (simp only [go_sem]) <;> rfl) ⟨.any, p + 1, rfl, by simp [T.depth], by omega, rfl⟩)
      | exact hR _ (ret_at [] (by (simp only [go_sem]) <;> rfl) (by (simp only [go_sem]) <;> rfl) ⟨.int, p + 1, rfl, by simp [T.depth], by omega, rfl⟩)
      | exact hR _ (ret_at [] (by (simp only [go_sem]) <;> rfl) (by (simp only [go_sem]) <;> rfl) ⟨.bool, p + 1, rfl, by simp [T.depth], by omega, rfl⟩)
      | skip
  all_goals
    (simp only [go_sem, hw])
    ((first | refine wd_cl [0] (by (simp only [go_sem]) <;> rfl) (ih _ (by omega)) ?_ | refine wm_cl [0] (by (simp only [go_sem]) <;> rfl) (ih _ (by omega)) (by (simp only [go_sem]) <;> rfl) (by (simp only [go_sem]) <;> rfl) ?_); rintro _ _ ⟨x1, p1, rfl, hx1, hp1, rfl⟩; (simp only [go_sem]))
    repeat' (first | (first | ((first | refine wd_split _ (fun hb => ?_) (fun hb => ?_) | refine wd_nwant _ (fun hb => ?_) (fun hb => ?_) | refine wm_nwant _ (fun hb => ?_) (fun hb => ?_) | refine wd_want _ (fun hb => ?_) (fun hb => ?_) | refine wm_want _ (fun hb => ?_) (fun hb => ?_)) <;> (simp only [go_sem, hb])) | (refine wm_done ?_; (simp only [go_sem])) | (refine wg_run ?_; (simp only [go_sem]))) | (first | refine wd_fn (by (simp only [go_sem]) <;> rfl) (l1Kids _) ?_ | refine wm_fn (by (simp only [go_sem]) <;> rfl) (l1Kids _) (by (simp only [go_sem]) <;> rfl) (by (simp only [go_sem]) <;> rfl) ?_); (simp only [go_sem]) | (first | (refine wl_next (wg_run ?_); (simp only [go_sem])) | refine wd_rounds 6 ?_) | ((first | refine wd_mix 6 [0] follows (by decide +kernel) (by (simp only [go_sem]) <;> rfl) ?_ | refine wd_mix 5 [0] follows (by decide +kernel) (by (simp only [go_sem]) <;> rfl) ?_ | refine wd_mix 4 [0] follows (by decide +kernel) (by (simp only [go_sem]) <;> rfl) ?_ | refine wd_mix 3 [0] follows (by decide +kernel) (by (simp only [go_sem]) <;> rfl) ?_ | refine wd_mix 2 [0] follows (by decide +kernel) (by (simp only [go_sem]) <;> rfl) ?_ | refine wd_mix 1 [0] follows (by decide +kernel) (by (simp only [go_sem]) <;> rfl) ?_ | refine wd_mix 0 [0] follows (by decide +kernel) (by (simp only [go_sem]) <;> rfl) ?_); (simp only [go_sem])))
    (simp only [go_sem, hw])
    ((first | refine wd_cl [0] (by (simp only [go_sem]) <;> rfl) (ih _ (by omega)) ?_ | refine wm_cl [0] (by (simp only [go_sem]) <;> rfl) (ih _ (by omega)) (by (simp only [go_sem]) <;> rfl) (by (simp only [go_sem]) <;> rfl) ?_); rintro _ _ ⟨x2, p2, rfl, hx2, hp2, rfl⟩; (simp only [go_sem]))
    repeat' (first | (first | ((first | refine wd_split _ (fun hb => ?_) (fun hb => ?_) | refine wd_nwant _ (fun hb => ?_) (fun hb => ?_) | refine wm_nwant _ (fun hb => ?_) (fun hb => ?_) | refine wd_want _ (fun hb => ?_) (fun hb => ?_) | refine wm_want _ (fun hb => ?_) (fun hb => ?_)) <;> (simp only [go_sem, hb])) | (refine wm_done ?_; (simp only [go_sem])) | (refine wg_run ?_; (simp only [go_sem]))) | (first | refine wd_fn (by (simp only [go_sem]) <;> rfl) (l1Kids _) ?_ | refine wm_fn (by (simp only [go_sem]) <;> rfl) (l1Kids _) (by (simp only [go_sem]) <;> rfl) (by (simp only [go_sem]) <;> rfl) ?_); (simp only [go_sem]) | (first | (refine wl_next (wg_run ?_); (simp only [go_sem])) | refine wd_rounds 6 ?_) | ((first | refine wd_mix 6 [0] follows (by decide +kernel) (by (simp only [go_sem]) <;> rfl) ?_ | refine wd_mix 5 [0] follows (by decide +kernel) (by (simp only [go_sem]) <;> rfl) ?_ | refine wd_mix 4 [0] follows (by decide +kernel) (by (simp only [go_sem]) <;> rfl) ?_ | refine wd_mix 3 [0] follows (by decide +kernel) (by (simp only [go_sem]) <;> rfl) ?_ | refine wd_mix 2 [0] follows (by decide +kernel) (by (simp only [go_sem]) <;> rfl) ?_ | refine wd_mix 1 [0] follows (by decide +kernel) (by (simp only [go_sem]) <;> rfl) ?_ | refine wd_mix 0 [0] follows (by decide +kernel) (by (simp only [go_sem]) <;> rfl) ?_); (simp only [go_sem])))
    first
      | exact hR _ (ret_at [] (by (simp only [go_sem]) <;> rfl) (by (simp only [go_sem]) <;> rfl) ⟨.fn x1 x2, p2, rfl, by simp only [T.depth]; omega, by omega, rfl⟩)
      | exact hR _ (ret_at [] (by (simp only [go_sem]) <;> rfl) (by (simp only [go_sem]) <;> rfl) ⟨.pr x1 x2, p2, rfl, by simp only [T.depth]; omega, by omega, rfl⟩)
theorem DrawsT.mono {bs : List Int} {p c d c' d' : Nat} {r : AV} {H' : List Blk} (h : DrawsT bs p c d r H') (hc : c ≤ c') (hd : d ≤ d') : DrawsT bs p c' d' r H' := by
  obtain ⟨x, p', h1, h2, h3, h4⟩ := h
  exact ⟨x, p', h1, by omega, by omega, h4⟩
/-- a draw of a type of depth at most d costs at most 23 -/
theorem l1Draw (bs : List Int) (hB : Bs bs) (d : Nat) (hd : 1 ≤ d) (hd4 : d ≤ 4) (p : Nat) (hp : p < 1000000000) : ACl Try.prog 65 [.one (.ptr 2 0 0 0), .one (.sc (.int .i64 (d : Nat)))] [(⟨2, 61, .mut, [[.sl (byR bs), .sc (.int .i64 ((p : Nat) : Int))]]⟩ : Blk)] (DrawsT bs p 23 d) := by
  have h1 : ∀ p, p < 1000001000 → ACl Try.prog 65 [.one (.ptr 2 0 0 0), .one (.sc (.int .i64 ((1 : Nat) : Int)))] [(⟨2, 61, .mut, [[.sl (byR bs), .sc (.int .i64 ((p : Nat) : Int))]]⟩ : Blk)] (DrawsT bs p 2 1) := fun p hp => l1Draw1 bs hB p (by omega)
  have h2 := l1DrawN bs hB 1 2 (by omega) (by omega) 1000000900 (by omega) (fun p hp => h1 p (by omega))
  have h3 := l1DrawN bs hB 2 5 (by omega) (by omega) 1000000800 (by omega) (fun p hp => h2 p (by omega))
  have h4 := l1DrawN bs hB 3 11 (by omega) (by omega) 1000000000 (by omega) (fun p hp => h3 p (by omega))
  obtain rfl | rfl | rfl | rfl : d = 1 ∨ d = 2 ∨ d = 3 ∨ d = 4 := by omega
  · exact (h1 p (by omega)).mono fun r H' h => h.mono (by omega) (by omega)
  · exact (h2 p (by omega)).mono fun r H' h => h.mono (by omega) (by omega)
  · exact (h3 p (by omega)).mono fun r H' h => h.mono (by omega) (by omega)
  · exact (h4 p hp).mono fun r H' h => h.mono (by omega) (by omega)
theorem l1Type (bs : List Int) (hB : Bs bs) (p : Nat) (hp : p < 999999000) : ACl Try.prog 47 [.one (.ptr 2 0 0 0)] [(⟨2, 61, .mut, [[.sl (byR bs), .sc (.int .i64 ((p : Nat) : Int))]]⟩ : Blk)] (DrawsT bs p 24 4) := by
  have hk := num bs hB p (by omega) [3, 2, 4, 1, 3] (by decide) (by decide)
  have hd : ∀ d : Nat, 1 ≤ d → d ≤ 4 → ∀ p, p < 1000000000 → ACl Try.prog 65 [.one (.ptr 2 0 0 0), .one (.sc (.int .i64 (d : Nat)))] [(⟨2, 61, .mut, [[.sl (byR bs), .sc (.int .i64 ((p : Nat) : Int))]]⟩ : Blk)] (DrawsT bs p 23 d) := fun d h1 h2 p hp => l1Draw bs hB d h1 h2 p hp
  refine acl_in Try.func47 rfl isfn_47 (Nat.le_of_ble_eq_true rfl) (fun R hR => ?_); rw [Try.results47] at hR; refine wg_run ?_; (simp only [Try.f47, go_sem])
  ((first | refine wd_cl [0] (by (simp only [go_sem]) <;> rfl) (hk) ?_ | refine wm_cl [0] (by (simp only [go_sem]) <;> rfl) (hk) (by (simp only [go_sem]) <;> rfl) (by (simp only [go_sem]) <;> rfl) ?_); rintro _ _ ⟨z, rfl, hz, rfl⟩; (simp only [go_sem]))
  simp only [List.mem_cons, List.not_mem_nil, or_false] at hz
  obtain ⟨d, rfl, hd1, hd4⟩ : ∃ d : Nat, z = (d : Int) ∧ 1 ≤ d ∧ d ≤ 4 := ⟨z.toNat, by omega, by omega, by omega⟩
  ((first | refine wd_cl [0] (by (simp only [go_sem]) <;> rfl) (hd d hd1 hd4 (p + 1) (by omega)) ?_ | refine wm_cl [0] (by (simp only [go_sem]) <;> rfl) (hd d hd1 hd4 (p + 1) (by omega)) (by (simp only [go_sem]) <;> rfl) (by (simp only [go_sem]) <;> rfl) ?_); rintro _ _ ⟨x1, p1, rfl, hx1, hp1, rfl⟩; (simp only [go_sem]))
  exact hR _ (ret_at [] (by (simp only [go_sem]) <;> rfl) (by (simp only [go_sem]) <;> rfl) ⟨x1, p1, rfl, by omega, by omega, rfl⟩)
theorem tys (d : Nat) (x : T) (h : x.depth ≤ d) : x.size < 2 ^ d := by
  induction x generalizing d with
  | any | int | bool => simp only [T.depth, T.size] at *; exact Nat.one_lt_two_pow (by omega)
  | fn a b iha ihb | pr a b iha ihb =>
    simp only [T.depth, T.size] at *
    obtain ⟨d, rfl⟩ : ∃ e, d = e + 1 := ⟨d - 1, by omega⟩
    have := iha d (by omega); have := ihb d (by omega)
    rw [Nat.pow_succ]; omega
theorem sizes_append (l m : List Ty) : Ty.sizes (l ++ m) = Ty.sizes l + Ty.sizes m := by
  induction l with
  | nil => simp [Ty.sizes]
  | cons x l ih => simp only [List.cons_append, Ty.sizes, ih]; omega
/-- a draw of some type, not too large -/
def DrawsY (bs : List Int) (p c n : Nat) (r : AV) (H' : List Blk) : Prop := ∃ (x : Ty) (p' : Nat), r = .agg (tyC x) ∧ x.size ≤ n ∧ p' ≤ p + c ∧ H' = [(⟨2, 61, .mut, [[.sl (byR bs), .sc (.int .i64 ((p' : Nat) : Int))]]⟩ : Blk)]
theorem l1Mutate (bs : List Int) (hB : Bs bs) (p : Nat) (hp : p < 999999000) (t : Ty) (ht : t.size < 1000000) : ACl Try.prog 49 [.one (.ptr 2 0 0 0), .agg (tyC t)] [(⟨2, 61, .mut, [[.sl (byR bs), .sc (.int .i64 ((p : Nat) : Int))]]⟩ : Blk)] (DrawsY bs p 2 (t.size + 8)) := by
  have hc := l1CopyO 1000000 (by omega) t ht
  have hk := pick bs hB p (by omega) 40 (by omega) (by omega)
  have hl : t.kids.length < 1000000 := by have := Ty.length_le_sizes t.kids; cases t; simp only [Ty.size, Ty.kids] at *; omega
  have hn := num bs hB (p + 1) (by omega) [0, 6, 1, 4, -1] (by decide) (by decide)
  have hcap : (t.kids.length + 1) * 32 ≤ 140737488355328 := by omega
  obtain ⟨k, l⟩ := t
  simp only [Ty.kids, Ty.kind] at hl hcap
  refine acl_in Try.func49 rfl isfn_49 (Nat.le_of_ble_eq_true rfl) (fun R hR => ?_); rw [Try.results49] at hR; refine wg_run ?_; (simp only [Try.f49, go_sem])
  ((first | refine wd_cl [] (by (simp only [go_sem]) <;> rfl) (hc) ?_ | refine wm_cl [] (by (simp only [go_sem]) <;> rfl) (hc) (by (simp only [go_sem]) <;> rfl) (by (simp only [go_sem]) <;> rfl) ?_); rintro _ _ (⟨hk0, rfl, rfl⟩ | ⟨hk0, rfl, rfl⟩) <;> (simp only [go_sem]))
  · simp only [Ty.kids] at hk0
    subst hk0
    ((first | refine wd_cl [0] (by (simp only [go_sem]) <;> rfl) (hk) ?_ | refine wm_cl [0] (by (simp only [go_sem]) <;> rfl) (hk) (by (simp only [go_sem]) <;> rfl) (by (simp only [go_sem]) <;> rfl) ?_); rintro _ _ ⟨z, rfl, hz, hz1, rfl⟩; (simp only [go_sem]))
    repeat' (first | ((first | refine wd_split _ (fun hb => ?_) (fun hb => ?_) | refine wd_nwant _ (fun hb => ?_) (fun hb => ?_) | refine wm_nwant _ (fun hb => ?_) (fun hb => ?_) | refine wd_want _ (fun hb => ?_) (fun hb => ?_) | refine wm_want _ (fun hb => ?_) (fun hb => ?_)) <;> (simp only [go_sem, hb])) | (refine wm_done ?_; (simp only [go_sem])) | (refine wg_run ?_; (simp only [go_sem])))
    · ((first | refine wd_cl [0] (by (simp only [go_sem]) <;> rfl) (hn) ?_ | refine wm_cl [0] (by (simp only [go_sem]) <;> rfl) (hn) (by (simp only [go_sem]) <;> rfl) (by (simp only [go_sem]) <;> rfl) ?_); rintro _ _ ⟨y, rfl, hy, rfl⟩; (simp only [go_sem]))
      exact hR _ (ret_at [] (by (simp only [go_sem]) <;> rfl) (by (simp only [go_sem]) <;> rfl) ⟨.mk y [], p + 2, rfl, by simp [Ty.size, Ty.sizes], by omega, rfl⟩)
    · ((first | refine wd_mix 6 [0] follows (by decide +kernel) (by (simp only [go_sem]) <;> rfl) ?_ | refine wd_mix 5 [0] follows (by decide +kernel) (by (simp only [go_sem]) <;> rfl) ?_ | refine wd_mix 4 [0] follows (by decide +kernel) (by (simp only [go_sem]) <;> rfl) ?_ | refine wd_mix 3 [0] follows (by decide +kernel) (by (simp only [go_sem]) <;> rfl) ?_ | refine wd_mix 2 [0] follows (by decide +kernel) (by (simp only [go_sem]) <;> rfl) ?_ | refine wd_mix 1 [0] follows (by decide +kernel) (by (simp only [go_sem]) <;> rfl) ?_ | refine wd_mix 0 [0] follows (by decide +kernel) (by (simp only [go_sem]) <;> rfl) ?_); (simp only [go_sem]))
      repeat' (first | (first | ((first | refine wd_split _ (fun hb => ?_) (fun hb => ?_) | refine wd_nwant _ (fun hb => ?_) (fun hb => ?_) | refine wm_nwant _ (fun hb => ?_) (fun hb => ?_) | refine wd_want _ (fun hb => ?_) (fun hb => ?_) | refine wm_want _ (fun hb => ?_) (fun hb => ?_)) <;> (simp only [go_sem, hb])) | (refine wm_done ?_; (simp only [go_sem])) | (refine wg_run ?_; (simp only [go_sem]))) | (first | refine wd_fn (by (simp only [go_sem]) <;> rfl) (l1Any) ?_ | refine wm_fn (by (simp only [go_sem]) <;> rfl) (l1Any) (by (simp only [go_sem]) <;> rfl) (by (simp only [go_sem]) <;> rfl) ?_); (simp only [go_sem]))
      exact hR _ (ret_at [] (by (simp only [go_sem]) <;> rfl) (by (simp only [go_sem]) <;> rfl) ⟨.mk k [.mk 1 []], p + 1, rfl, by simp [Ty.size, Ty.sizes], by omega, rfl⟩)
    · repeat' (first | (first | ((first | refine wd_split _ (fun hb => ?_) (fun hb => ?_) | refine wd_nwant _ (fun hb => ?_) (fun hb => ?_) | refine wm_nwant _ (fun hb => ?_) (fun hb => ?_) | refine wd_want _ (fun hb => ?_) (fun hb => ?_) | refine wm_want _ (fun hb => ?_) (fun hb => ?_)) <;> (simp only [go_sem, hb])) | (refine wm_done ?_; (simp only [go_sem])) | (refine wg_run ?_; (simp only [go_sem]))) | (first | (refine wl_next (wg_run ?_); (simp only [go_sem])) | refine wd_rounds 6 ?_) | (first | refine wd_fn (by (simp only [go_sem]) <;> rfl) (l1Any) ?_ | refine wm_fn (by (simp only [go_sem]) <;> rfl) (l1Any) (by (simp only [go_sem]) <;> rfl) (by (simp only [go_sem]) <;> rfl) ?_); (simp only [go_sem]) | ((first | refine wd_mix 6 [0] follows (by decide +kernel) (by (simp only [go_sem]) <;> rfl) ?_ | refine wd_mix 5 [0] follows (by decide +kernel) (by (simp only [go_sem]) <;> rfl) ?_ | refine wd_mix 4 [0] follows (by decide +kernel) (by (simp only [go_sem]) <;> rfl) ?_ | refine wd_mix 3 [0] follows (by decide +kernel) (by (simp only [go_sem]) <;> rfl) ?_ | refine wd_mix 2 [0] follows (by decide +kernel) (by (simp only [go_sem]) <;> rfl) ?_ | refine wd_mix 1 [0] follows (by decide +kernel) (by (simp only [go_sem]) <;> rfl) ?_ | refine wd_mix 0 [0] follows (by decide +kernel) (by (simp only [go_sem]) <;> rfl) ?_); (simp only [go_sem])))
      exact hR _ (ret_at [] (by (simp only [go_sem]) <;> rfl) (by (simp only [go_sem]) <;> rfl) ⟨.mk 4 [.mk 1 [], .mk 4 [.mk 1 [], .mk 4 [.mk 1 [], .mk 4 [.mk 1 [], .mk k []]]]], p + 1, rfl, by simp [Ty.size, Ty.sizes], by omega, rfl⟩)
    · exact hR _ (ret_at [] (by (simp only [go_sem]) <;> rfl) (by (simp only [go_sem]) <;> rfl) ⟨.mk k [], p + 1, rfl, by simp [Ty.size, Ty.sizes], by omega, rfl⟩)
  · simp only [Ty.kids] at hk0
    ((first | refine wd_cl [0] (by (simp only [go_sem]) <;> rfl) (hk) ?_ | refine wm_cl [0] (by (simp only [go_sem]) <;> rfl) (hk) (by (simp only [go_sem]) <;> rfl) (by (simp only [go_sem]) <;> rfl) ?_); rintro _ _ ⟨z, rfl, hz, hz1, rfl⟩; (simp only [go_sem]))
    repeat' (first | ((first | refine wd_split _ (fun hb => ?_) (fun hb => ?_) | refine wd_nwant _ (fun hb => ?_) (fun hb => ?_) | refine wm_nwant _ (fun hb => ?_) (fun hb => ?_) | refine wd_want _ (fun hb => ?_) (fun hb => ?_) | refine wm_want _ (fun hb => ?_) (fun hb => ?_)) <;> (simp only [go_sem, hb])) | (refine wm_done ?_; (simp only [go_sem])) | (refine wg_run ?_; (simp only [go_sem])))
    · ((first | refine wd_cl [0] (by (simp only [go_sem]) <;> rfl) (hn) ?_ | refine wm_cl [0] (by (simp only [go_sem]) <;> rfl) (hn) (by (simp only [go_sem]) <;> rfl) (by (simp only [go_sem]) <;> rfl) ?_); rintro _ _ ⟨y, rfl, hy, rfl⟩; (simp only [go_sem]))
      exact hR _ (ret_at [] (by (simp only [go_sem]) <;> rfl) (by (simp only [go_sem]) <;> rfl) ⟨.mk y l, p + 2, rfl, by simp [Ty.size, Ty.sizes], by omega, rfl⟩)
    · ((first | refine wd_mix 6 [0] follows (by decide +kernel) (by (simp only [go_sem]) <;> rfl) ?_ | refine wd_mix 5 [0] follows (by decide +kernel) (by (simp only [go_sem]) <;> rfl) ?_ | refine wd_mix 4 [0] follows (by decide +kernel) (by (simp only [go_sem]) <;> rfl) ?_ | refine wd_mix 3 [0] follows (by decide +kernel) (by (simp only [go_sem]) <;> rfl) ?_ | refine wd_mix 2 [0] follows (by decide +kernel) (by (simp only [go_sem]) <;> rfl) ?_ | refine wd_mix 1 [0] follows (by decide +kernel) (by (simp only [go_sem]) <;> rfl) ?_ | refine wd_mix 0 [0] follows (by decide +kernel) (by (simp only [go_sem]) <;> rfl) ?_); (simp only [go_sem]))
      repeat' (first | (first | ((first | refine wd_split _ (fun hb => ?_) (fun hb => ?_) | refine wd_nwant _ (fun hb => ?_) (fun hb => ?_) | refine wm_nwant _ (fun hb => ?_) (fun hb => ?_) | refine wd_want _ (fun hb => ?_) (fun hb => ?_) | refine wm_want _ (fun hb => ?_) (fun hb => ?_)) <;> (simp only [go_sem, hb, hcap])) | (refine wm_done ?_; (simp only [go_sem, hcap])) | (refine wg_run ?_; (simp only [go_sem, hcap])) | (simp only [go_sem, hcap])) | (first | refine wd_fn (by (simp only [go_sem]) <;> rfl) (l1Any) ?_ | refine wm_fn (by (simp only [go_sem]) <;> rfl) (l1Any) (by (simp only [go_sem]) <;> rfl) (by (simp only [go_sem]) <;> rfl) ?_); (simp only [go_sem]))
      refine hR _ (ret_at [] (by (simp only [go_sem]) <;> rfl) (by (simp only [go_sem]) <;> rfl) ⟨Ty.mk k (l ++ [Ty.mk 1 []]), p + 1, ?_, ?_, by omega, rfl⟩)
      · rw [tyC_eq (Ty.mk k (l ++ [Ty.mk 1 []])), kind_mk, kids_mk, tyR_append]; rfl
      · simp only [Ty.size, sizes_append, Ty.sizes]; omega
    · repeat' (first | (first | ((first | refine wd_split _ (fun hb => ?_) (fun hb => ?_) | refine wd_nwant _ (fun hb => ?_) (fun hb => ?_) | refine wm_nwant _ (fun hb => ?_) (fun hb => ?_) | refine wd_want _ (fun hb => ?_) (fun hb => ?_) | refine wm_want _ (fun hb => ?_) (fun hb => ?_)) <;> (simp only [go_sem, hb])) | (refine wm_done ?_; (simp only [go_sem])) | (refine wg_run ?_; (simp only [go_sem]))) | (first | (refine wl_next (wg_run ?_); (simp only [go_sem])) | refine wd_rounds 6 ?_) | (first | refine wd_fn (by (simp only [go_sem]) <;> rfl) (l1Any) ?_ | refine wm_fn (by (simp only [go_sem]) <;> rfl) (l1Any) (by (simp only [go_sem]) <;> rfl) (by (simp only [go_sem]) <;> rfl) ?_); (simp only [go_sem]) | ((first | refine wd_mix 6 [0] follows (by decide +kernel) (by (simp only [go_sem]) <;> rfl) ?_ | refine wd_mix 5 [0] follows (by decide +kernel) (by (simp only [go_sem]) <;> rfl) ?_ | refine wd_mix 4 [0] follows (by decide +kernel) (by (simp only [go_sem]) <;> rfl) ?_ | refine wd_mix 3 [0] follows (by decide +kernel) (by (simp only [go_sem]) <;> rfl) ?_ | refine wd_mix 2 [0] follows (by decide +kernel) (by (simp only [go_sem]) <;> rfl) ?_ | refine wd_mix 1 [0] follows (by decide +kernel) (by (simp only [go_sem]) <;> rfl) ?_ | refine wd_mix 0 [0] follows (by decide +kernel) (by (simp only [go_sem]) <;> rfl) ?_); (simp only [go_sem])))
      exact hR _ (ret_at [] (by (simp only [go_sem]) <;> rfl) (by (simp only [go_sem]) <;> rfl) ⟨.mk 4 [.mk 1 [], .mk 4 [.mk 1 [], .mk 4 [.mk 1 [], .mk 4 [.mk 1 [], .mk k l]]]], p + 1, rfl, by simp [Ty.size, Ty.sizes]; omega, by omega, rfl⟩)
    · exact hR _ (ret_at [] (by (simp only [go_sem]) <;> rfl) (by (simp only [go_sem]) <;> rfl) ⟨.mk k l, p + 1, rfl, by simp [Ty.size, Ty.sizes], by omega, rfl⟩)
end Go.Proofs.Ytkkijdlgmlffoaa
