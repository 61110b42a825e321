/- Texts of the proof, one behind another. -/
import Derived.Test.YtbiobfbonpiiiaaKV8
import Derived.Test.YtbiobfbonpiiiaaKV9
set_option linter.unusedSimpArgs false
set_option linter.unusedVariables false
/- Coercions: equality and search of lists, on shadows. -/
namespace Go.Proofs.Sh
open Go.Proofs.Grad
def coall2 (f : Co → Co → Bool) : List Co → List Co → Bool
  | [], [] => true
  | a :: l, b :: m => f a b && coall2 f l m
  | _, _ => false
theorem coall2_kid {f : Co → Co → Bool} {a b : List Co} {i : Nat} (ha : i < a.length) (hb : i < b.length) : coall2 f (a.drop i) (b.drop i) = (f (coKid a i) (coKid b i) && coall2 f (a.drop (i + 1)) (b.drop (i + 1))) := by
  rw [codrop_kid ha, codrop_kid hb]; rfl
theorem coall2_end {f : Co → Co → Bool} {a b : List Co} {i : Nat} (ha : ¬ i < a.length) (hb : a.length = b.length) : coall2 f (a.drop i) (b.drop i) = true := by
  rw [List.drop_eq_nil_of_le (by omega), List.drop_eq_nil_of_le (by omega)]; rfl
theorem coall2_len {f : Co → Co → Bool} : ∀ {a b : List Co}, a.length ≠ b.length → coall2 f a b = false
  | [], [], h => by simp at h
  | [], _ :: _, _ => rfl
  | _ :: _, [], _ => rfl
  | _ :: a, _ :: b, h => by simp only [coall2]; rw [coall2_len (by simpa using h)]; simp
theorem cosames_all2 : ∀ a b : List Co, Co.sames a b = coall2 Co.same a b
  | [], [] => rfl
  | [], _ :: _ => rfl
  | _ :: _, [] => rfl
  | _ :: a, _ :: b => by simp only [Co.sames, coall2, cosames_all2 a b]
/-- the index of the first one, -1 for none -/
def coidx (p : Co → Bool) : Nat → List Co → Int
  | _, [] => -1
  | k, t :: l => if p t then (k : Nat) else coidx p (k + 1) l
theorem coidx_any (p : Co → Bool) : ∀ (l : List Co) (k : Nat), decide (0 ≤ coidx p k l) = l.any p
  | [], k => by simp [coidx]
  | t :: l, k => by
    simp only [coidx, List.any_cons]
    split
    · rename_i h; simp [h]
    · rename_i h; rw [coidx_any p l (k + 1)]; simp [h]
end Go.Proofs.Sh
namespace Go.Proofs.Ytbiobfbonpiiiaa
open Go.RowKit Go.Proofs.Sh Go.Proofs.Grad
set_option maxRecDepth 100000
set_option maxHeartbeats 4000000
theorem coEqFunc (g : FuncId) (Q : Co → Co → Bool) (l m : List Co) (hl : l.length < 4611686018427387904)
    (hg : ∀ k, k < l.length → k < m.length → AFn Try.prog g [.agg (coC (coKid l k)), .agg (coC (coKid m k))] (.one (.sc (.bool (Q (coKid l k) (coKid m k)))))) :
    AFn Try.prog 55 [.one (.sl (coR l)), .one (.sl (coR m)), .one (.fn g [])] (.one (.sc (.bool (coall2 Q l m)))) := by
  refine fn_in ?_; refine acl_in Try.func55 rfl isfn_55 (Nat.le_of_ble_eq_true rfl) (fun R hR => ?_); rw [Try.results55] at hR; refine wg_run ?_; (simp only [Try.f55, go_sem])
  repeat' (first | (((first | apply sp1 | apply sp2 | apply sp3 | apply sp4 | apply sp5 | apply sp6 | apply sp7) <;> intro hb) <;> (simp only [go_sem, hb])) | ((first | apply wm_done | apply wt_done | apply wg_run | refine fk ?_ ?_) <;> (simp only [go_sem])))
  · (refine hR _ (rat [] (hK := ⟨?_, rfl⟩)))
    rw [coall2_len]
    intro h; simp [h] at hb
  · have hlm : l.length = m.length := by simp at hb; omega
    clear hb
    refine wd_for [0, 1, 2, 15, 16, 17] (fun k => [.one (.sl (coR l)), .one (.sl (coR m)), .one (.fn g []), .one (.sl (coR l)), .one (.sc (.int .i64 l.length)), .one (.sc (.int .i64 (k : Nat)))]) (fun k => [])
      (fun k => k ≤ l.length ∧ coall2 Q (l.drop k) (m.drop k) = coall2 Q l m) (fun k => l.length - k) 0 ⟨Nat.zero_le _, rfl⟩ (hat [] (hI := ⟨rfl, rfl⟩)) ?_
    rintro k ⟨hk, hs⟩ G hG
    refine wg_run ?_
    (simp only [go_sem])
    ((first | apply sp1 | apply sp2 | apply sp3 | apply sp4 | apply sp5 | apply sp6 | apply sp7) <;> intro hb) <;> (simp only [go_sem, hb])
    · have hk1 : k < l.length := by have := of_decide_eq_true hb; omega
      have hk2 : decide ((k : Int) < (m.length : Int)) = true := by simp; omega
      rw [coall2_kid hk1 (by omega)] at hs
      have hw1 := wrap_succ hk1 (by omega)
      (simp only [go_sem, hk2])
      (first | refine cdq ?_ (hc := hg k hk1 (by omega)) | refine cmq ?_ (hc := hg k hk1 (by omega)) | refine ctq ?_ (hc := hg k hk1 (by omega))); (simp only [go_sem])
      repeat' (first | (simp only [go_sem, hw1]) | (((first | apply sp1 | apply sp2 | apply sp3 | apply sp4 | apply sp5 | apply sp6 | apply sp7) <;> intro hb) <;> (simp only [go_sem, hb, hw1])) | ((first | apply wm_done | apply wt_done | apply wg_run | refine fk ?_ ?_) <;> (simp only [go_sem, hw1])))
      · exact hG (k + 1) _ _ ⟨by omega, by simpa [hb] using hs⟩ (by omega) (hat [] (hI := ⟨rfl, rfl⟩))
      · (refine hR _ (rat [] (hK := ⟨?_, rfl⟩)))
        simpa [hb] using hs
    · have hk1 : ¬ k < l.length := by have := of_decide_eq_false hb; omega
      rw [coall2_end hk1 hlm] at hs
      (refine hR _ (rat [] (hK := ⟨?_, rfl⟩)))
      simpa using hs
theorem coIndexFunc0 (g : FuncId) (p : Co → Bool) (l : List Co) (hl : l.length < 4611686018427387904)
    (hg : ∀ k, k < l.length → ACl Try.prog g [.agg (coC (coKid l k))] [] (fun r H' => r = .one (.sc (.bool (p (coKid l k)))) ∧ H' = [])) :
    ACl Try.prog 114 [.one (.sl (coR l)), .one (.fn g [])] [] (fun r H' => r = .one (.sc (.int .i64 (coidx p 0 l))) ∧ H' = []) := by
  refine acl_in Try.func114 rfl isfn_114 (Nat.le_of_ble_eq_true rfl) (fun R hR => ?_); rw [Try.results114] at hR; refine wg_run ?_; (simp only [Try.f114, go_sem])
  refine wd_for [0, 1, 7, 8] (fun k => [.one (.sl (coR l)), .one (.fn g []), .one (.sc (.int .i64 l.length)), .one (.sc (.int .i64 (k : Nat)))]) (fun k => [])
      (fun k => k ≤ l.length ∧ coidx p k (l.drop k) = coidx p 0 l) (fun k => l.length - k) 0 ⟨Nat.zero_le _, rfl⟩ (hat [] (hI := ⟨rfl, rfl⟩)) ?_
  rintro k ⟨hk, hs⟩ G hG
  refine wg_run ?_
  (simp only [go_sem])
  ((first | apply sp1 | apply sp2 | apply sp3 | apply sp4 | apply sp5 | apply sp6 | apply sp7) <;> intro hb) <;> (simp only [go_sem, hb])
  · have hk1 : k < l.length := by have := of_decide_eq_true hb; omega
    rw [codrop_kid hk1, coidx] at hs
    have hw1 := wrap_succ hk1 (by omega)
    (first | refine kdq [] ?_ (hc := hg k hk1) | refine kmq [] ?_ (hc := hg k hk1) | refine ktq [] ?_ (hc := hg k hk1)); rintro _ _ ⟨rfl, rfl⟩; (simp only [go_sem])
    repeat' (first | (simp only [go_sem, hw1]) | (((first | apply sp1 | apply sp2 | apply sp3 | apply sp4 | apply sp5 | apply sp6 | apply sp7) <;> intro hb) <;> (simp only [go_sem, hb, hw1])) | ((first | apply wm_done | apply wt_done | apply wg_run | refine fk ?_ ?_) <;> (simp only [go_sem, hw1])))
    · (refine hR _ (rat [] (hK := ⟨?_, ?_⟩)))
      · simpa [hb] using hs
      · rfl
    · exact hG (k + 1) _ _ ⟨by omega, by simpa [hb] using hs⟩ (by omega) (hat [] (hI := ⟨rfl, rfl⟩))
  · have hk1 : ¬ k < l.length := by have := of_decide_eq_false hb; omega
    rw [List.drop_eq_nil_of_le (by omega), coidx] at hs
    (refine hR _ (rat [] (hK := ⟨?_, ?_⟩)))
    · rw [← hs]
    · rfl
theorem coContainsFunc0 (g : FuncId) (p : Co → Bool) (l : List Co) (hl : l.length < 4611686018427387904)
    (hg : ∀ k, k < l.length → ACl Try.prog g [.agg (coC (coKid l k))] [] (fun r H' => r = .one (.sc (.bool (p (coKid l k)))) ∧ H' = [])) :
    ACl Try.prog 101 [.one (.sl (coR l)), .one (.fn g [])] [] (fun r H' => r = .one (.sc (.bool (l.any p))) ∧ H' = []) := by
  have hi := coIndexFunc0 g p l hl hg
  refine acl_in Try.func101 rfl isfn_101 (Nat.le_of_ble_eq_true rfl) (fun R hR => ?_); rw [Try.results101] at hR; refine wg_run ?_; (simp only [Try.f101, go_sem])
  (first | refine kdq [] ?_ (hc := hi) | refine kmq [] ?_ (hc := hi) | refine ktq [] ?_ (hc := hi)); rintro _ _ ⟨rfl, rfl⟩; (simp only [go_sem])
  (refine hR _ (rat [] (hK := ⟨?_, ?_⟩)))
  · rw [← coidx_any p l 0]
  · rfl
theorem coIndexFunc1 (g : FuncId) (d : Int) (p : Co → Bool) (l : List Co) (hl : l.length < 4611686018427387904)
    (hg : ∀ k, k < l.length → ACl Try.prog g [.agg (coC (coKid l k)), .one (.ptr 1 0 0 0)] [⟨1, 3, .mut, [[.sc (.int .i64 d)]]⟩] (fun r H' => r = .one (.sc (.bool (p (coKid l k)))) ∧ H' = [⟨1, 3, .mut, [[.sc (.int .i64 d)]]⟩])) :
    ACl Try.prog 114 [.one (.sl (coR l)), .one (.fn g [.ptr 1 0 0 0])] [⟨1, 3, .mut, [[.sc (.int .i64 d)]]⟩] (fun r H' => r = .one (.sc (.int .i64 (coidx p 0 l))) ∧ H' = [⟨1, 3, .mut, [[.sc (.int .i64 d)]]⟩]) := by
  refine acl_in Try.func114 rfl isfn_114 (Nat.le_of_ble_eq_true rfl) (fun R hR => ?_); rw [Try.results114] at hR; refine wg_run ?_; (simp only [Try.f114, go_sem])
  refine wd_for [0, 1, 7, 8] (fun k => [.one (.sl (coR l)), .one (.fn g [.ptr 1 0 0 0]), .one (.sc (.int .i64 l.length)), .one (.sc (.int .i64 (k : Nat)))]) (fun k => [⟨1, 3, .mut, [[.sc (.int .i64 d)]]⟩])
      (fun k => k ≤ l.length ∧ coidx p k (l.drop k) = coidx p 0 l) (fun k => l.length - k) 0 ⟨Nat.zero_le _, rfl⟩ (hat [] (hI := ⟨rfl, rfl⟩)) ?_
  rintro k ⟨hk, hs⟩ G hG
  refine wg_run ?_
  (simp only [go_sem])
  ((first | apply sp1 | apply sp2 | apply sp3 | apply sp4 | apply sp5 | apply sp6 | apply sp7) <;> intro hb) <;> (simp only [go_sem, hb])
  · have hk1 : k < l.length := by have := of_decide_eq_true hb; omega
    rw [codrop_kid hk1, coidx] at hs
    have hw1 := wrap_succ hk1 (by omega)
    (first | refine kdq [0] ?_ (hc := hg k hk1) | refine kmq [0] ?_ (hc := hg k hk1) | refine ktq [0] ?_ (hc := hg k hk1)); rintro _ _ ⟨rfl, rfl⟩; (simp only [go_sem])
    repeat' (first | (simp only [go_sem, hw1]) | (((first | apply sp1 | apply sp2 | apply sp3 | apply sp4 | apply sp5 | apply sp6 | apply sp7) <;> intro hb) <;> (simp only [go_sem, hb, hw1])) | ((first | apply wm_done | apply wt_done | apply wg_run | refine fk ?_ ?_) <;> (simp only [go_sem, hw1])))
    · (refine hR _ (rat [] (hK := ⟨?_, ?_⟩)))
      · simpa [hb] using hs
      · rfl
    · exact hG (k + 1) _ _ ⟨by omega, by simpa [hb] using hs⟩ (by omega) (hat [] (hI := ⟨rfl, rfl⟩))
  · have hk1 : ¬ k < l.length := by have := of_decide_eq_false hb; omega
    rw [List.drop_eq_nil_of_le (by omega), coidx] at hs
    (refine hR _ (rat [] (hK := ⟨?_, ?_⟩)))
    · rw [← hs]
    · rfl
theorem coContainsFunc1 (g : FuncId) (d : Int) (p : Co → Bool) (l : List Co) (hl : l.length < 4611686018427387904)
    (hg : ∀ k, k < l.length → ACl Try.prog g [.agg (coC (coKid l k)), .one (.ptr 1 0 0 0)] [⟨1, 3, .mut, [[.sc (.int .i64 d)]]⟩] (fun r H' => r = .one (.sc (.bool (p (coKid l k)))) ∧ H' = [⟨1, 3, .mut, [[.sc (.int .i64 d)]]⟩])) :
    ACl Try.prog 101 [.one (.sl (coR l)), .one (.fn g [.ptr 1 0 0 0])] [⟨1, 3, .mut, [[.sc (.int .i64 d)]]⟩] (fun r H' => r = .one (.sc (.bool (l.any p))) ∧ H' = [⟨1, 3, .mut, [[.sc (.int .i64 d)]]⟩]) := by
  have hi := coIndexFunc1 g d p l hl hg
  refine acl_in Try.func101 rfl isfn_101 (Nat.le_of_ble_eq_true rfl) (fun R hR => ?_); rw [Try.results101] at hR; refine wg_run ?_; (simp only [Try.f101, go_sem])
  (first | refine kdq [0] ?_ (hc := hi) | refine kmq [0] ?_ (hc := hi) | refine ktq [0] ?_ (hc := hi)); rintro _ _ ⟨rfl, rfl⟩; (simp only [go_sem])
  (refine hR _ (rat [] (hK := ⟨?_, ?_⟩)))
  · rw [← coidx_any p l 0]
  · rfl
end Go.Proofs.Ytbiobfbonpiiiaa
/- Types: the reference's functions, on shadows. -/
namespace Go.Proofs.Ytbiobfbonpiiiaa
open Go.RowKit Go.Proofs.Sh Go.Proofs.Grad
set_option maxRecDepth 100000
set_option maxHeartbeats 1000000
@[go_sem] theorem kind_mk (k : Int) (l : List Ty) : (Ty.mk k l).kind = k := rfl
@[go_sem] theorem kids_mk (k : Int) (l : List Ty) : (Ty.mk k l).kids = l := rfl
theorem l1Kids (k : Int) : AFn Try.prog 105 [.one (.sc (.int .i64 k))] (.one (.sc (.int .i64 (kidsN k)))) := by
  refine fn_in ?_; refine acl_in Try.func105 rfl isfn_105 (Nat.le_of_ble_eq_true rfl) (fun R hR => ?_); rw [Try.results105] at hR; refine wg_run ?_; (simp only [Try.f105, go_sem])
  repeat' (first | (((first | apply sp1 | apply sp2 | apply sp3 | apply sp4 | apply sp5 | apply sp6 | apply sp7) <;> intro hb) <;> (simp only [go_sem, hb])) | ((first | apply wm_done | apply wt_done | apply wg_run | refine fk ?_ ?_) <;> (simp only [go_sem])))
  all_goals (refine hR _ (rat [] (hK := ⟨?_, rfl⟩)))
  all_goals simp_all [kidsN]
@[go_sem] theorem kidsN_1 : kidsN 1 = 0 := rfl
@[go_sem] theorem kidsN_2 : kidsN 2 = 0 := rfl
@[go_sem] theorem kidsN_3 : kidsN 3 = 0 := rfl
@[go_sem] theorem kidsN_4 : kidsN 4 = 2 := rfl
@[go_sem] theorem kidsN_5 : kidsN 5 = 2 := rfl
theorem l1Shape (m : Nat) (hm : m ≤ 4) : ∀ t : Ty, AFn Try.prog 104 [.agg (tyC t), .one (.sc (.int .i64 m))] (.one (.sc (.bool (t.shape m)))) := by
  induction m with
  | zero =>
    intro t
    refine fn_in ?_; refine acl_in Try.func104 rfl isfn_104 (Nat.le_of_ble_eq_true rfl) (fun R hR => ?_); rw [Try.results104] at hR; refine wg_run ?_; (simp only [Try.f104, go_sem])
    (refine wd_mix 0 [] follows (by kernel_rfl) (by (simp only [go_sem]); first | done | rfl) ?_; (simp only [go_sem]))
    repeat' (first | (((first | apply sp1 | apply sp2 | apply sp3 | apply sp4 | apply sp5 | apply sp6 | apply sp7) <;> intro hb) <;> (simp only [go_sem, hb])) | ((first | apply wm_done | apply wt_done | apply wg_run | refine fk ?_ ?_) <;> (simp only [go_sem])))
    all_goals (refine hR _ (rat [] (hK := ⟨?_, rfl⟩)))
    all_goals rfl
  | succ m ih =>
    intro t
    have hd : decide ((((m + 1 : Nat) : Int) < 1)) = false := by simp; omega
    have hw : IntKind.i64.wrap (((m + 1 : Nat) : Int) - 1) = (m : Int) := by rw [IntWalk.i64_in _ (by omega)]; omega
    refine fn_in ?_; refine acl_in Try.func104 rfl isfn_104 (Nat.le_of_ble_eq_true rfl) (fun R hR => ?_); rw [Try.results104] at hR; refine wg_run ?_; (simp only [Try.f104, go_sem])
    (refine wd_mix 0 [] follows (by kernel_rfl) (by (simp only [go_sem]); first | done | rfl) ?_; (simp only [go_sem]))
    (simp only [go_sem, hd])
    (first | refine cdq ?_ (hc := l1Kids _) | refine cmq ?_ (hc := l1Kids _) | refine ctq ?_ (hc := l1Kids _)); (simp only [go_sem])
    repeat' (first | (((first | apply sp1 | apply sp2 | apply sp3 | apply sp4 | apply sp5 | apply sp6 | apply sp7) <;> intro hb) <;> (simp only [go_sem, hb])) | ((first | apply wm_done | apply wt_done | apply wg_run | refine fk ?_ ?_) <;> (simp only [go_sem])))
    · (refine hR _ (rat [] (hK := ⟨?_, rfl⟩)))
      simp_all [Ty.shape]
    · refine wd_for [1, 2, 5] (fun k => [.one (.sc (.int .i64 ((m + 1 : Nat) : Int))), .one (.ptr 2 0 0 0), .one (.sc (.int .i64 (k : Nat)))]) (fun k => [⟨2, 25, .mut, [tyC t]⟩])
        (fun k => k ≤ t.kids.length ∧ (t.kids.drop k).all (Ty.shape m) = t.shape (m + 1)) (fun k => t.kids.length - k) 0 ⟨Nat.zero_le _, ?_⟩ (hat [0] (hI := ⟨rfl, rfl⟩)) ?_
      · clear hR
        simp_all [Ty.shape]
      rintro k ⟨hk, hs⟩ G hG
      refine wg_run ?_
      (simp only [go_sem])
      have hl : t.kids.length < 3 := by simp [kidsN] at hb; split at hb <;> try split at hb
                                        all_goals omega
      ((first | apply sp1 | apply sp2 | apply sp3 | apply sp4 | apply sp5 | apply sp6 | apply sp7) <;> intro hb) <;> (simp only [go_sem, hb, hw])
      · have hk1 : k < t.kids.length := by have := of_decide_eq_true hb; omega
        rw [drop_kid hk1, List.all_cons] at hs
        have hw1 := wrap_succ hk1 (by omega)
        (first | refine cdq ?_ (hc := ih (by omega) _) | refine cmq ?_ (hc := ih (by omega) _) | refine ctq ?_ (hc := ih (by omega) _)); (simp only [go_sem])
        repeat' (first | (simp only [go_sem, hw1]) | (((first | apply sp1 | apply sp2 | apply sp3 | apply sp4 | apply sp5 | apply sp6 | apply sp7) <;> intro hb) <;> (simp only [go_sem, hb, hw1])) | ((first | apply wm_done | apply wt_done | apply wg_run | refine fk ?_ ?_) <;> (simp only [go_sem, hw1])))
        · exact hG (k + 1) _ _ ⟨by omega, by simpa [hb] using hs⟩ (by omega) (hat [0] (hI := ⟨rfl, rfl⟩))
        · (refine hR _ (rat [] (hK := ⟨?_, rfl⟩)))
          simpa [hb] using hs
      · have hk1 : ¬ k < t.kids.length := by have := of_decide_eq_false hb; omega
        rw [List.drop_eq_nil_of_le (by omega)] at hs
        (refine hR _ (rat [] (hK := ⟨?_, rfl⟩)))
        simpa using hs
theorem sValid (t : Ty) : AFn Try.prog 69 [.agg (tyC t)] (.one (.sc (.bool t.valid))) := by
  refine fn_in ?_; refine acl_in Try.func69 rfl isfn_69 (Nat.le_of_ble_eq_true rfl) (fun R hR => ?_); rw [Try.results69] at hR; refine wg_run ?_; (simp only [Try.f69, go_sem])
  repeat' (first | (first | (((first | apply sp1 | apply sp2 | apply sp3 | apply sp4 | apply sp5 | apply sp6 | apply sp7) <;> intro hb) <;> (simp only [go_sem, hb])) | ((first | apply wm_done | apply wt_done | apply wg_run | refine fk ?_ ?_) <;> (simp only [go_sem]))) | (first | refine cdq ?_ (hc := l1Shape 4 (by omega) _) | refine cmq ?_ (hc := l1Shape 4 (by omega) _) | refine ctq ?_ (hc := l1Shape 4 (by omega) _)); (simp only [go_sem]))
  (refine hR _ (rat [] (hK := ⟨?_, rfl⟩)))
  rfl
end Go.Proofs.Ytbiobfbonpiiiaa
/- Numbers and labels, on shadows. -/
namespace Go.Proofs.Ytbiobfbonpiiiaa
open Go.RowKit Go.Proofs.Sh Go.Proofs.Grad
set_option maxRecDepth 100000
set_option maxHeartbeats 4000000
theorem within (n lo hi : Int) : AFn Try.prog 86 [.one (.sc (.int .i64 n)), .one (.sc (.int .i64 lo)), .one (.sc (.int .i64 hi))] (.one (.sc (.bool (decide (lo ≤ n) && decide (n ≤ hi))))) := by
  refine fn_in ?_; refine acl_in Try.func86 rfl isfn_86 (Nat.le_of_ble_eq_true rfl) (fun R hR => ?_); rw [Try.results86] at hR; refine wg_run ?_; (simp only [Try.f86, go_sem])
  repeat' (first | (((first | apply sp1 | apply sp2 | apply sp3 | apply sp4 | apply sp5 | apply sp6 | apply sp7) <;> intro hb) <;> (simp only [go_sem, hb])) | ((first | apply wm_done | apply wt_done | apply wg_run | refine fk ?_ ?_) <;> (simp only [go_sem])))
  all_goals (refine hR _ (rat [] (hK := ⟨?_, rfl⟩)))
  all_goals simp [hb]
theorem isLabel (n : Int) : AFn Try.prog 50 [.one (.sc (.int .i64 n))] (.one (.sc (.bool (lab n)))) := by
  refine fn_in ?_; refine acl_in Try.func50 rfl isfn_50 (Nat.le_of_ble_eq_true rfl) (fun R hR => ?_); rw [Try.results50] at hR; refine wg_run ?_; (simp only [Try.f50, go_sem])
  repeat' (first | (first | (((first | apply sp1 | apply sp2 | apply sp3 | apply sp4 | apply sp5 | apply sp6 | apply sp7) <;> intro hb) <;> (simp only [go_sem, hb])) | ((first | apply wm_done | apply wt_done | apply wg_run | refine fk ?_ ?_) <;> (simp only [go_sem]))) | (first | refine cdq ?_ (hc := within _ _ _) | refine cmq ?_ (hc := within _ _ _) | refine ctq ?_ (hc := within _ _ _)); (simp only [go_sem]))
  all_goals (refine hR _ (rat [] (hK := ⟨?_, rfl⟩)))
  all_goals simp_all [lab]
  all_goals (intros; omega)
/-- the absolute value of a label, 0 for none -/
def labN (n : Int) : Int := if n < -99 ∨ n > 99 then 0 else if n < 0 then -n else n
theorem l1Abs (n : Int) : AFn Try.prog 89 [.one (.sc (.int .i64 n))] (.one (.sc (.int .i64 (labN n)))) := by
  by_cases h1 : n < -99
  · have d1 : decide (n < -99) = true := by simp; omega
    have e : labN n = 0 := by unfold labN; rw [if_pos (by omega)]
    rw [e]
    refine fn_in ?_; refine acl_in Try.func89 rfl isfn_89 (Nat.le_of_ble_eq_true rfl) (fun R hR => ?_); rw [Try.results89] at hR; refine wg_run ?_; (simp only [Try.f89, go_sem, d1])
    (refine hR _ (rat [] (hK := ⟨rfl, rfl⟩)))
  · have d1 : decide (n < -99) = false := by simp; omega
    by_cases h2 : n > 99
    · have d2 : decide (n > 99) = true := by simp; omega
      have e : labN n = 0 := by unfold labN; rw [if_pos (by omega)]
      rw [e]
      refine fn_in ?_; refine acl_in Try.func89 rfl isfn_89 (Nat.le_of_ble_eq_true rfl) (fun R hR => ?_); rw [Try.results89] at hR; refine wg_run ?_; (simp only [Try.f89, go_sem, d1, d2])
      (refine hR _ (rat [] (hK := ⟨rfl, rfl⟩)))
    · have d2 : decide (n > 99) = false := by simp; omega
      have hw : IntKind.i64.wrap (0 - n) = -n := by rw [IntWalk.i64_in _ (by omega)]; omega
      by_cases h3 : n < 0
      · have d3 : decide (n < 0) = true := by simp; omega
        have e : labN n = -n := by unfold labN; rw [if_neg (by omega), if_pos h3]
        rw [e]
        refine fn_in ?_; refine acl_in Try.func89 rfl isfn_89 (Nat.le_of_ble_eq_true rfl) (fun R hR => ?_); rw [Try.results89] at hR; refine wg_run ?_; (simp only [Try.f89, go_sem, d1, d2, d3, hw])
        (refine hR _ (rat [] (hK := ⟨rfl, rfl⟩)))
      · have d3 : decide (n < 0) = false := by simp; omega
        have e : labN n = n := by unfold labN; rw [if_neg (by omega), if_neg h3]
        rw [e]
        refine fn_in ?_; refine acl_in Try.func89 rfl isfn_89 (Nat.le_of_ble_eq_true rfl) (fun R hR => ?_); rw [Try.results89] at hR; refine wg_run ?_; (simp only [Try.f89, go_sem, d1, d2, d3])
        (refine hR _ (rat [] (hK := ⟨rfl, rfl⟩)))
theorem l6Label (n : Int) : AFn Try.prog 53 [.one (.sc (.int .i64 n))] (.one (.sc (.bool (lab n)))) := by
  refine fn_in ?_; refine acl_in Try.func53 rfl isfn_53 (Nat.le_of_ble_eq_true rfl) (fun R hR => ?_); rw [Try.results53] at hR; refine wg_run ?_; (simp only [Try.f53, go_sem])
  (first | refine cdq ?_ (hc := l1Abs _) | refine cmq ?_ (hc := l1Abs _) | refine ctq ?_ (hc := l1Abs _)); (simp only [go_sem])
  (refine hR _ (rat [] (hK := ⟨?_, rfl⟩)))
  have : decide (labN n ≥ 1) = lab n := by
    rw [Bool.eq_iff_iff]; unfold labN lab; simp; split <;> (try split) <;> omega
  rw [this]
end Go.Proofs.Ytbiobfbonpiiiaa
/- Coercions: the program's checks, on shadows. -/
namespace Go.Proofs.Sh
open Go.Proofs.Grad
@[go_sem] theorem kid_kind (g : Int) : (K.id g).co.kind = 1 := rfl
@[go_sem] theorem kid_tag (g : Int) : (K.id g).co.tag = g := rfl
@[go_sem] theorem kid_label (g : Int) : (K.id g).co.label = 0 := rfl
@[go_sem] theorem kid_kids (g : Int) : (K.id g).co.kids = [] := rfl
@[go_sem] theorem kfn_kind (a : K) (b : K) : (K.fn a b).co.kind = 2 := rfl
@[go_sem] theorem kfn_tag (a : K) (b : K) : (K.fn a b).co.tag = 0 := rfl
@[go_sem] theorem kfn_label (a : K) (b : K) : (K.fn a b).co.label = 0 := rfl
@[go_sem] theorem kfn_kids (a : K) (b : K) : (K.fn a b).co.kids = [a.co, b.co] := rfl
@[go_sem] theorem kpr_kind (a : K) (b : K) : (K.pr a b).co.kind = 3 := rfl
@[go_sem] theorem kpr_tag (a : K) (b : K) : (K.pr a b).co.tag = 0 := rfl
@[go_sem] theorem kpr_label (a : K) (b : K) : (K.pr a b).co.label = 0 := rfl
@[go_sem] theorem kpr_kids (a : K) (b : K) : (K.pr a b).co.kids = [a.co, b.co] := rfl
@[go_sem] theorem kinj_kind (c : K) : (K.inj c).co.kind = 4 := rfl
@[go_sem] theorem kinj_tag (c : K) : (K.inj c).co.tag = 0 := rfl
@[go_sem] theorem kinj_label (c : K) : (K.inj c).co.label = 0 := rfl
@[go_sem] theorem kinj_kids (c : K) : (K.inj c).co.kids = [c.co] := rfl
@[go_sem] theorem kprj_kind (l : Int) (c : K) : (K.prj l c).co.kind = 5 := rfl
@[go_sem] theorem kprj_tag (l : Int) (c : K) : (K.prj l c).co.tag = 0 := rfl
@[go_sem] theorem kprj_label (l : Int) (c : K) : (K.prj l c).co.label = l := rfl
@[go_sem] theorem kprj_kids (l : Int) (c : K) : (K.prj l c).co.kids = [c.co] := rfl
@[go_sem] theorem kfail_kind (l : Int) (g : Int) : (K.fail l g).co.kind = 6 := rfl
@[go_sem] theorem kfail_tag (l : Int) (g : Int) : (K.fail l g).co.tag = g := rfl
@[go_sem] theorem kfail_label (l : Int) (g : Int) : (K.fail l g).co.label = l := rfl
@[go_sem] theorem kfail_kids (l : Int) (g : Int) : (K.fail l g).co.kids = [] := rfl
/-- how many operands -/
def coN (k : Int) : Int := if k = 1 then 0 else if k = 2 then 2 else if k = 3 then 2 else if k = 4 then 1 else if k = 5 then 1 else if k = 6 then 0 else -1
@[go_sem] theorem coN_1 : coN 1 = 0 := rfl
@[go_sem] theorem coN_2 : coN 2 = 2 := rfl
@[go_sem] theorem coN_3 : coN 3 = 2 := rfl
@[go_sem] theorem coN_4 : coN 4 = 1 := rfl
@[go_sem] theorem coN_5 : coN 5 = 1 := rfl
@[go_sem] theorem coN_6 : coN 6 = 0 := rfl
end Go.Proofs.Sh
namespace Go.Proofs.Ytbiobfbonpiiiaa
open Go.RowKit Go.Proofs.Sh Go.Proofs.Grad
set_option maxRecDepth 100000
set_option maxHeartbeats 4000000
theorem coOperands (k : Int) : AFn Try.prog 99 [.one (.sc (.int .i64 k))] (.one (.sc (.int .i64 (coN k)))) := by
  have hw := within k 1 6
  by_cases h : 1 ≤ k ∧ k ≤ 6
  · obtain rfl | rfl | rfl | rfl | rfl | rfl : k = 1 ∨ k = 2 ∨ k = 3 ∨ k = 4 ∨ k = 5 ∨ k = 6 := by omega
    all_goals
      refine fn_in ?_; refine acl_in Try.func99 rfl isfn_99 (Nat.le_of_ble_eq_true rfl) (fun R hR => ?_); rw [Try.results99] at hR; refine wg_run ?_; (simp only [Try.f99, go_sem])
      repeat' (first | (first | (((first | apply sp1 | apply sp2 | apply sp3 | apply sp4 | apply sp5 | apply sp6 | apply sp7) <;> intro hb) <;> (simp only [go_sem, hb])) | ((first | apply wm_done | apply wt_done | apply wg_run | refine fk ?_ ?_) <;> (simp only [go_sem]))) | (first | refine cdq ?_ (hc := hw) | refine cmq ?_ (hc := hw) | refine ctq ?_ (hc := hw)); (simp only [go_sem]))
      (refine hR _ (rat [] (hK := ⟨?_, rfl⟩)))
      rfl
  · have hf : (decide (1 ≤ k) && decide (k ≤ 6)) = false := by simp; omega
    rw [hf] at hw
    refine fn_in ?_; refine acl_in Try.func99 rfl isfn_99 (Nat.le_of_ble_eq_true rfl) (fun R hR => ?_); rw [Try.results99] at hR; refine wg_run ?_; (simp only [Try.f99, go_sem])
    repeat' (first | (first | (((first | apply sp1 | apply sp2 | apply sp3 | apply sp4 | apply sp5 | apply sp6 | apply sp7) <;> intro hb) <;> (simp only [go_sem, hb])) | ((first | apply wm_done | apply wt_done | apply wg_run | refine fk ?_ ?_) <;> (simp only [go_sem]))) | (first | refine cdq ?_ (hc := hw) | refine cmq ?_ (hc := hw) | refine ctq ?_ (hc := hw)); (simp only [go_sem]))
    (refine hR _ (rat [] (hK := ⟨?_, rfl⟩)))
    have : coN k = -1 := by unfold coN; repeat' (first | rw [if_neg (by omega)]); 
    rw [this]
theorem coPlain (c : Co) : AFn Try.prog 100 [.agg (coC c)] (.one (.sc (.bool c.plain))) := by
  refine fn_in ?_; refine acl_in Try.func100 rfl isfn_100 (Nat.le_of_ble_eq_true rfl) (fun R hR => ?_); rw [Try.results100] at hR; refine wg_run ?_; (simp only [Try.f100, go_sem])
  repeat' (first | (((first | apply sp1 | apply sp2 | apply sp3 | apply sp4 | apply sp5 | apply sp6 | apply sp7) <;> intro hb) <;> (simp only [go_sem, hb])) | ((first | apply wm_done | apply wt_done | apply wg_run | refine fk ?_ ?_) <;> (simp only [go_sem])))
  all_goals (refine hR _ (rat [] (hK := ⟨?_, rfl⟩)))
  all_goals simp_all [Co.plain]
theorem coAny (c : Co) : AFn Try.prog 92 [.agg (coC c)] (.one (.sc (.bool (c.kind == 1 && c.tag == 1)))) := by
  refine fn_in ?_; refine acl_in Try.func92 rfl isfn_92 (Nat.le_of_ble_eq_true rfl) (fun R hR => ?_); rw [Try.results92] at hR; refine wg_run ?_; (simp only [Try.f92, go_sem])
  repeat' (first | (((first | apply sp1 | apply sp2 | apply sp3 | apply sp4 | apply sp5 | apply sp6 | apply sp7) <;> intro hb) <;> (simp only [go_sem, hb])) | ((first | apply wm_done | apply wt_done | apply wg_run | refine fk ?_ ?_) <;> (simp only [go_sem])))
  all_goals (refine hR _ (rat [] (hK := ⟨?_, rfl⟩)))
  all_goals simp_all
theorem coTag (k : K) : AFn Try.prog 94 [.agg (coC k.co)] (.one (.sc (.int .i64 k.tag))) := by
  induction k with
  | inj c ih =>
    refine fn_in ?_; refine acl_in Try.func94 rfl isfn_94 (Nat.le_of_ble_eq_true rfl) (fun R hR => ?_); rw [Try.results94] at hR; refine wg_run ?_; (simp only [Try.f94, go_sem])
    repeat' (first | (first | (((first | apply sp1 | apply sp2 | apply sp3 | apply sp4 | apply sp5 | apply sp6 | apply sp7) <;> intro hb) <;> (simp only [go_sem, hb])) | ((first | apply wm_done | apply wt_done | apply wg_run | refine fk ?_ ?_) <;> (simp only [go_sem]))) | (first | refine cdq ?_ (hc := ih) | refine cmq ?_ (hc := ih) | refine ctq ?_ (hc := ih)); (simp only [go_sem]))
    (refine hR _ (rat [] (hK := ⟨rfl, rfl⟩)))
  | _ =>
    refine fn_in ?_; refine acl_in Try.func94 rfl isfn_94 (Nat.le_of_ble_eq_true rfl) (fun R hR => ?_); rw [Try.results94] at hR; refine wg_run ?_; (simp only [Try.f94, go_sem])
    (refine hR _ (rat [] (hK := ⟨rfl, rfl⟩)))
theorem coSame (n : Nat) (hn : n ≤ 4611686018427387904) : ∀ a b : Co, a.size < n → AFn Try.prog 16 [.agg (coC a), .agg (coC b)] (.one (.sc (.bool (a.same b)))) := by
  induction n with
  | zero => intro a b h; omega
  | succ n ih =>
    intro a b h
    have hl := colen_lt a
    have hk : ∀ k, k < a.kids.length → k < b.kids.length → AFn Try.prog 16 [.agg (coC (coKid a.kids k)), .agg (coC (coKid b.kids k))] (.one (.sc (.bool ((coKid a.kids k).same (coKid b.kids k))))) := fun k h1 h2 => ih (by omega) _ _ (by have := coKid_lt h1; omega)
    have hf := coEqFunc _ Co.same a.kids b.kids (by omega) hk
    have he : a.same b = (a.kind == b.kind && (a.tag == b.tag && (a.label == b.label && coall2 Co.same a.kids b.kids))) := by cases a; cases b; simp only [Co.same, Co.kind, Co.tag, Co.label, Co.kids, cosames_all2]
    clear hk ih
    rw [he]
    refine fn_in ?_; refine acl_in Try.func16 rfl isfn_16 (Nat.le_of_ble_eq_true rfl) (fun R hR => ?_); rw [Try.results16] at hR; refine wg_run ?_; (simp only [Try.f16, go_sem])
    repeat' (first | (first | (((first | apply sp1 | apply sp2 | apply sp3 | apply sp4 | apply sp5 | apply sp6 | apply sp7) <;> intro hb) <;> (simp only [go_sem, hb])) | ((first | apply wm_done | apply wt_done | apply wg_run | refine fk ?_ ?_) <;> (simp only [go_sem]))) | (first | refine cdq ?_ (hc := hf) | refine cmq ?_ (hc := hf) | refine ctq ?_ (hc := hf)); (simp only [go_sem]) | ((first | refine mxq6 [] ?_ | refine mxq5 [] ?_ | refine mxq4 [] ?_ | refine mxq3 [] ?_ | refine mxq2 [] ?_ | refine mxq1 [] ?_ | refine mxq0 [] ?_ | fail); (simp only [go_sem])))
    all_goals (refine hR _ (rat [] (hK := ⟨?_, rfl⟩)))
    all_goals simp_all
theorem co_cases (k : Int) : k = 1 ∨ k = 2 ∨ k = 3 ∨ k = 4 ∨ k = 5 ∨ k = 6 ∨ (coN k = -1 ∧ ∀ t l ks, (Co.mk k t l ks).okN = false) := by
  by_cases h : 1 ≤ k ∧ k ≤ 6
  · omega
  · right; right; right; right; right; right
    constructor
    · unfold coN; repeat' (first | rw [if_neg (by omega)])
    · intro t l ks
      unfold Co.okN
      simp only []
      repeat' (first | rw [if_neg (by omega)])
theorem okN_len {k t l : Int} {ks : List Co} (h : coN k ≠ (ks.length : Int)) : (Co.mk k t l ks).okN = false := by
  rcases co_cases k with rfl | rfl | rfl | rfl | rfl | rfl | ⟨_, h⟩
  · simp only [coN_1] at h; simp [Co.okN]; intro h'; subst h'; simp at h
  · simp only [coN_2] at h; simp [Co.okN]; intro h'; omega
  · simp only [coN_3] at h; simp [Co.okN]; intro h'; omega
  · simp only [coN_4] at h; simp only [Co.okN]; match ks, h with | [], _ => rfl | [_], h => simp at h | _ :: _ :: _, _ => rfl
  · simp only [coN_5] at h; simp only [Co.okN]; match ks, h with | [], _ => rfl | [_], h => simp at h | _ :: _ :: _, _ => rfl
  · simp only [coN_6] at h; simp [Co.okN]; intro h'; subst h'; simp at h
  · exact h t l ks
theorem coScan (m : Nat) (hm : m ≤ 9) : ∀ c : Co, AFn Try.prog 65 [.agg (coC c), .one (.sc (.int .i64 (10 - (m : Int))))] (.one (.sc (.bool (c.shape m)))) := by
  induction m with
  | zero =>
    intro c
    refine fn_in ?_; refine acl_in Try.func65 rfl isfn_65 (Nat.le_of_ble_eq_true rfl) (fun R hR => ?_); rw [Try.results65] at hR; refine wg_run ?_; (simp only [Try.f65, go_sem])
    repeat' (first | (first | (((first | apply sp1 | apply sp2 | apply sp3 | apply sp4 | apply sp5 | apply sp6 | apply sp7) <;> intro hb) <;> (simp only [go_sem, hb])) | ((first | apply wm_done | apply wt_done | apply wg_run | refine fk ?_ ?_) <;> (simp only [go_sem]))) | ((first | refine mxq6 [] ?_ | refine mxq5 [] ?_ | refine mxq4 [] ?_ | refine mxq3 [] ?_ | refine mxq2 [] ?_ | refine mxq1 [] ?_ | refine mxq0 [] ?_ | fail); (simp only [go_sem])))
    all_goals (refine hR _ (rat [] (hK := ⟨?_, rfl⟩)))
    all_goals rfl
  | succ m ih =>
    intro c
    have hd : decide (10 - ((m + 1 : Nat) : Int) > 9) = false := by simp; omega
    have hw : IntKind.i64.wrap (10 - ((m + 1 : Nat) : Int) + 1) = 10 - (m : Int) := by rw [IntWalk.i64_in _ (by omega)]; omega
    have hcc : ∀ l : List Co, l.length < 4611686018427387904 → ACl Try.prog 101 [.one (.sl (coR l)), .one (.fn 102 [.ptr 1 0 0 0])] [⟨1, 3, .mut, [[.sc (.int .i64 (10 - ((m + 1 : Nat) : Int)))]]⟩] (fun r H' => r = .one (.sc (.bool (l.any (fun x => !x.shape m)))) ∧ H' = [⟨1, 3, .mut, [[.sc (.int .i64 (10 - ((m + 1 : Nat) : Int)))]]⟩]) := by
      intro l hl
      refine coContainsFunc1 _ _ (fun x => !x.shape m) _ (by omega) ?_
      intro k hk
      refine acl_in Try.func102 rfl isfn_102 (Nat.le_of_ble_eq_true rfl) (fun R hR => ?_); rw [Try.results102] at hR; refine wg_run ?_; (simp only [Try.f102, go_sem])
      (simp only [go_sem, hw])
      (first | refine cdq ?_ (hc := ih (by omega) _) | refine cmq ?_ (hc := ih (by omega) _) | refine ctq ?_ (hc := ih (by omega) _)); (simp only [go_sem])
      (refine hR _ (rat [] (hK := ⟨?_, ?_⟩)))
      · rfl
      · rfl
    clear ih
    obtain ⟨k, t, l, ks⟩ := c
    have hco := coOperands k
    by_cases hlen : coN k = (ks.length : Int)
    · rcases co_cases k with rfl | rfl | rfl | rfl | rfl | rfl | ⟨h, _⟩
      · obtain rfl : ks = [] := List.eq_nil_of_length_eq_zero (by rw [coN_1] at hlen; omega)
        have hc := hcc [] (by decide)
        refine fn_in ?_; refine acl_in Try.func65 rfl isfn_65 (Nat.le_of_ble_eq_true rfl) (fun R hR => ?_); rw [Try.results65] at hR; refine wg_run ?_; (simp only [Try.f65, go_sem])
        repeat' (first | (first | (simp only [go_sem, hd]) | (((first | apply sp1 | apply sp2 | apply sp3 | apply sp4 | apply sp5 | apply sp6 | apply sp7) <;> intro hb) <;> (simp only [go_sem, hb, hd])) | ((first | apply wm_done | apply wt_done | apply wg_run | refine fk ?_ ?_) <;> (simp only [go_sem, hd]))) | ((first | refine mxq6 [] ?_ | refine mxq5 [] ?_ | refine mxq4 [] ?_ | refine mxq3 [] ?_ | refine mxq2 [] ?_ | refine mxq1 [] ?_ | refine mxq0 [] ?_ | fail); (simp only [go_sem, hd])) | (first | refine cdq ?_ (hc := hco) | refine cmq ?_ (hc := hco) | refine ctq ?_ (hc := hco)); (simp only [go_sem]) | (first | refine cdq ?_ (hc := within _ _ _) | refine cmq ?_ (hc := within _ _ _) | refine ctq ?_ (hc := within _ _ _)); (simp only [go_sem]) | (first | refine cdq ?_ (hc := isLabel _) | refine cmq ?_ (hc := isLabel _) | refine ctq ?_ (hc := isLabel _)); (simp only [go_sem]) | (first | refine kdq [1] ?_ (hc := hc) | refine kmq [1] ?_ (hc := hc) | refine ktq [1] ?_ (hc := hc)); rintro _ _ ⟨rfl, rfl⟩; (simp only [go_sem]))
        all_goals (refine hR _ (rat [] (hK := ⟨?_, rfl⟩)))
        all_goals clear hR hco hc hcc hd hw
        all_goals simp_all [Co.shape, Co.okN, Co.kids]
        all_goals (try grind)
      · obtain ⟨a, b, rfl⟩ : ∃ a b, ks = [a, b] := by
          simp only [coN_2] at hlen
          match ks, hlen with
          | [a, b], _ => exact ⟨a, b, rfl⟩
          | [], h => simp at h
          | [_], h => simp at h
          | _ :: _ :: _ :: _, h => simp at h; omega
        have hc := hcc [a, b] (by simp)
        refine fn_in ?_; refine acl_in Try.func65 rfl isfn_65 (Nat.le_of_ble_eq_true rfl) (fun R hR => ?_); rw [Try.results65] at hR; refine wg_run ?_; (simp only [Try.f65, go_sem])
        repeat' (first | (first | (simp only [go_sem, hd]) | (((first | apply sp1 | apply sp2 | apply sp3 | apply sp4 | apply sp5 | apply sp6 | apply sp7) <;> intro hb) <;> (simp only [go_sem, hb, hd])) | ((first | apply wm_done | apply wt_done | apply wg_run | refine fk ?_ ?_) <;> (simp only [go_sem, hd]))) | ((first | refine mxq6 [] ?_ | refine mxq5 [] ?_ | refine mxq4 [] ?_ | refine mxq3 [] ?_ | refine mxq2 [] ?_ | refine mxq1 [] ?_ | refine mxq0 [] ?_ | fail); (simp only [go_sem, hd])) | (first | refine cdq ?_ (hc := hco) | refine cmq ?_ (hc := hco) | refine ctq ?_ (hc := hco)); (simp only [go_sem]) | (first | refine cdq ?_ (hc := within _ _ _) | refine cmq ?_ (hc := within _ _ _) | refine ctq ?_ (hc := within _ _ _)); (simp only [go_sem]) | (first | refine cdq ?_ (hc := isLabel _) | refine cmq ?_ (hc := isLabel _) | refine ctq ?_ (hc := isLabel _)); (simp only [go_sem]) | (first | refine kdq [1] ?_ (hc := hc) | refine kmq [1] ?_ (hc := hc) | refine ktq [1] ?_ (hc := hc)); rintro _ _ ⟨rfl, rfl⟩; (simp only [go_sem]))
        all_goals (refine hR _ (rat [] (hK := ⟨?_, rfl⟩)))
        all_goals clear hR hco hc hcc hd hw
        all_goals simp_all [Co.shape, Co.okN, Co.kids]
        all_goals (try grind)
      · obtain ⟨a, b, rfl⟩ : ∃ a b, ks = [a, b] := by
          simp only [coN_3] at hlen
          match ks, hlen with
          | [a, b], _ => exact ⟨a, b, rfl⟩
          | [], h => simp at h
          | [_], h => simp at h
          | _ :: _ :: _ :: _, h => simp at h; omega
        have hc := hcc [a, b] (by simp)
        refine fn_in ?_; refine acl_in Try.func65 rfl isfn_65 (Nat.le_of_ble_eq_true rfl) (fun R hR => ?_); rw [Try.results65] at hR; refine wg_run ?_; (simp only [Try.f65, go_sem])
        repeat' (first | (first | (simp only [go_sem, hd]) | (((first | apply sp1 | apply sp2 | apply sp3 | apply sp4 | apply sp5 | apply sp6 | apply sp7) <;> intro hb) <;> (simp only [go_sem, hb, hd])) | ((first | apply wm_done | apply wt_done | apply wg_run | refine fk ?_ ?_) <;> (simp only [go_sem, hd]))) | ((first | refine mxq6 [] ?_ | refine mxq5 [] ?_ | refine mxq4 [] ?_ | refine mxq3 [] ?_ | refine mxq2 [] ?_ | refine mxq1 [] ?_ | refine mxq0 [] ?_ | fail); (simp only [go_sem, hd])) | (first | refine cdq ?_ (hc := hco) | refine cmq ?_ (hc := hco) | refine ctq ?_ (hc := hco)); (simp only [go_sem]) | (first | refine cdq ?_ (hc := within _ _ _) | refine cmq ?_ (hc := within _ _ _) | refine ctq ?_ (hc := within _ _ _)); (simp only [go_sem]) | (first | refine cdq ?_ (hc := isLabel _) | refine cmq ?_ (hc := isLabel _) | refine ctq ?_ (hc := isLabel _)); (simp only [go_sem]) | (first | refine kdq [1] ?_ (hc := hc) | refine kmq [1] ?_ (hc := hc) | refine ktq [1] ?_ (hc := hc)); rintro _ _ ⟨rfl, rfl⟩; (simp only [go_sem]))
        all_goals (refine hR _ (rat [] (hK := ⟨?_, rfl⟩)))
        all_goals clear hR hco hc hcc hd hw
        all_goals simp_all [Co.shape, Co.okN, Co.kids]
        all_goals (try grind)
      · obtain ⟨a, rfl⟩ : ∃ a, ks = [a] := by
          simp only [coN_4] at hlen
          match ks, hlen with
          | [a], _ => exact ⟨a, rfl⟩
          | [], h => simp at h
          | _ :: _ :: _, h => simp at h; omega
        have hc := hcc [a] (by simp)
        refine fn_in ?_; refine acl_in Try.func65 rfl isfn_65 (Nat.le_of_ble_eq_true rfl) (fun R hR => ?_); rw [Try.results65] at hR; refine wg_run ?_; (simp only [Try.f65, go_sem])
        repeat' (first | (first | (simp only [go_sem, hd]) | (((first | apply sp1 | apply sp2 | apply sp3 | apply sp4 | apply sp5 | apply sp6 | apply sp7) <;> intro hb) <;> (simp only [go_sem, hb, hd])) | ((first | apply wm_done | apply wt_done | apply wg_run | refine fk ?_ ?_) <;> (simp only [go_sem, hd]))) | ((first | refine mxq6 [] ?_ | refine mxq5 [] ?_ | refine mxq4 [] ?_ | refine mxq3 [] ?_ | refine mxq2 [] ?_ | refine mxq1 [] ?_ | refine mxq0 [] ?_ | fail); (simp only [go_sem, hd])) | (first | refine cdq ?_ (hc := hco) | refine cmq ?_ (hc := hco) | refine ctq ?_ (hc := hco)); (simp only [go_sem]) | (first | refine cdq ?_ (hc := within _ _ _) | refine cmq ?_ (hc := within _ _ _) | refine ctq ?_ (hc := within _ _ _)); (simp only [go_sem]) | (first | refine cdq ?_ (hc := isLabel _) | refine cmq ?_ (hc := isLabel _) | refine ctq ?_ (hc := isLabel _)); (simp only [go_sem]) | (first | refine cdq ?_ (hc := coPlain _) | refine cmq ?_ (hc := coPlain _) | refine ctq ?_ (hc := coPlain _)); (simp only [go_sem]) | (first | refine cdq ?_ (hc := coAny _) | refine cmq ?_ (hc := coAny _) | refine ctq ?_ (hc := coAny _)); (simp only [go_sem]) | (first | refine kdq [1] ?_ (hc := hc) | refine kmq [1] ?_ (hc := hc) | refine ktq [1] ?_ (hc := hc)); rintro _ _ ⟨rfl, rfl⟩; (simp only [go_sem]))
        all_goals (refine hR _ (rat [] (hK := ⟨?_, rfl⟩)))
        all_goals clear hR hco hc hcc hd hw
        all_goals simp_all [Co.shape, Co.okN, Co.kids]
        all_goals (try grind)
      · obtain ⟨a, rfl⟩ : ∃ a, ks = [a] := by
          simp only [coN_5] at hlen
          match ks, hlen with
          | [a], _ => exact ⟨a, rfl⟩
          | [], h => simp at h
          | _ :: _ :: _, h => simp at h; omega
        have hc := hcc [a] (by simp)
        refine fn_in ?_; refine acl_in Try.func65 rfl isfn_65 (Nat.le_of_ble_eq_true rfl) (fun R hR => ?_); rw [Try.results65] at hR; refine wg_run ?_; (simp only [Try.f65, go_sem])
        repeat' (first | (first | (simp only [go_sem, hd]) | (((first | apply sp1 | apply sp2 | apply sp3 | apply sp4 | apply sp5 | apply sp6 | apply sp7) <;> intro hb) <;> (simp only [go_sem, hb, hd])) | ((first | apply wm_done | apply wt_done | apply wg_run | refine fk ?_ ?_) <;> (simp only [go_sem, hd]))) | ((first | refine mxq6 [] ?_ | refine mxq5 [] ?_ | refine mxq4 [] ?_ | refine mxq3 [] ?_ | refine mxq2 [] ?_ | refine mxq1 [] ?_ | refine mxq0 [] ?_ | fail); (simp only [go_sem, hd])) | (first | refine cdq ?_ (hc := hco) | refine cmq ?_ (hc := hco) | refine ctq ?_ (hc := hco)); (simp only [go_sem]) | (first | refine cdq ?_ (hc := within _ _ _) | refine cmq ?_ (hc := within _ _ _) | refine ctq ?_ (hc := within _ _ _)); (simp only [go_sem]) | (first | refine cdq ?_ (hc := isLabel _) | refine cmq ?_ (hc := isLabel _) | refine ctq ?_ (hc := isLabel _)); (simp only [go_sem]) | (first | refine cdq ?_ (hc := coPlain _) | refine cmq ?_ (hc := coPlain _) | refine ctq ?_ (hc := coPlain _)); (simp only [go_sem]) | (first | refine cdq ?_ (hc := coAny _) | refine cmq ?_ (hc := coAny _) | refine ctq ?_ (hc := coAny _)); (simp only [go_sem]) | (first | refine kdq [1] ?_ (hc := hc) | refine kmq [1] ?_ (hc := hc) | refine ktq [1] ?_ (hc := hc)); rintro _ _ ⟨rfl, rfl⟩; (simp only [go_sem]))
        all_goals (refine hR _ (rat [] (hK := ⟨?_, rfl⟩)))
        all_goals clear hR hco hc hcc hd hw
        all_goals simp_all [Co.shape, Co.okN, Co.kids]
        all_goals (try grind)
      · obtain rfl : ks = [] := List.eq_nil_of_length_eq_zero (by rw [coN_6] at hlen; omega)
        have hc := hcc [] (by decide)
        refine fn_in ?_; refine acl_in Try.func65 rfl isfn_65 (Nat.le_of_ble_eq_true rfl) (fun R hR => ?_); rw [Try.results65] at hR; refine wg_run ?_; (simp only [Try.f65, go_sem])
        repeat' (first | (first | (simp only [go_sem, hd]) | (((first | apply sp1 | apply sp2 | apply sp3 | apply sp4 | apply sp5 | apply sp6 | apply sp7) <;> intro hb) <;> (simp only [go_sem, hb, hd])) | ((first | apply wm_done | apply wt_done | apply wg_run | refine fk ?_ ?_) <;> (simp only [go_sem, hd]))) | ((first | refine mxq6 [] ?_ | refine mxq5 [] ?_ | refine mxq4 [] ?_ | refine mxq3 [] ?_ | refine mxq2 [] ?_ | refine mxq1 [] ?_ | refine mxq0 [] ?_ | fail); (simp only [go_sem, hd])) | (first | refine cdq ?_ (hc := hco) | refine cmq ?_ (hc := hco) | refine ctq ?_ (hc := hco)); (simp only [go_sem]) | (first | refine cdq ?_ (hc := within _ _ _) | refine cmq ?_ (hc := within _ _ _) | refine ctq ?_ (hc := within _ _ _)); (simp only [go_sem]) | (first | refine cdq ?_ (hc := isLabel _) | refine cmq ?_ (hc := isLabel _) | refine ctq ?_ (hc := isLabel _)); (simp only [go_sem]) | (first | refine kdq [1] ?_ (hc := hc) | refine kmq [1] ?_ (hc := hc) | refine ktq [1] ?_ (hc := hc)); rintro _ _ ⟨rfl, rfl⟩; (simp only [go_sem]))
        all_goals (refine hR _ (rat [] (hK := ⟨?_, rfl⟩)))
        all_goals clear hR hco hc hcc hd hw
        all_goals simp_all [Co.shape, Co.okN, Co.kids]
        all_goals (try grind)
      · rw [h] at hlen; omega
    · have hn : (coN k != (ks.length : Int)) = true := by simp [hlen]
      have hs : (Co.mk k t l ks).shape (m + 1) = false := by simp only [Co.shape, okN_len hlen, Bool.false_and]
      rw [hs]
      refine fn_in ?_; refine acl_in Try.func65 rfl isfn_65 (Nat.le_of_ble_eq_true rfl) (fun R hR => ?_); rw [Try.results65] at hR; refine wg_run ?_; (simp only [Try.f65, go_sem])
      repeat' (first | (first | (simp only [go_sem, hd, hn]) | (((first | apply sp1 | apply sp2 | apply sp3 | apply sp4 | apply sp5 | apply sp6 | apply sp7) <;> intro hb) <;> (simp only [go_sem, hb, hd, hn])) | ((first | apply wm_done | apply wt_done | apply wg_run | refine fk ?_ ?_) <;> (simp only [go_sem, hd, hn]))) | ((first | refine mxq6 [] ?_ | refine mxq5 [] ?_ | refine mxq4 [] ?_ | refine mxq3 [] ?_ | refine mxq2 [] ?_ | refine mxq1 [] ?_ | refine mxq0 [] ?_ | fail); (simp only [go_sem, hd])) | (first | refine cdq ?_ (hc := hco) | refine cmq ?_ (hc := hco) | refine ctq ?_ (hc := hco)); (simp only [go_sem]))
      (refine hR _ (rat [] (hK := ⟨rfl, rfl⟩)))
theorem coValid (c : Co) : AFn Try.prog 23 [.agg (coC c)] (.one (.sc (.bool c.valid))) := by
  refine fn_in ?_; refine acl_in Try.func23 rfl isfn_23 (Nat.le_of_ble_eq_true rfl) (fun R hR => ?_); rw [Try.results23] at hR; refine wg_run ?_; (simp only [Try.f23, go_sem])
  (first | refine cdq ?_ (hc := coScan 9 (by omega) _) | refine cmq ?_ (hc := coScan 9 (by omega) _) | refine ctq ?_ (hc := coScan 9 (by omega) _)); (simp only [go_sem])
  (refine hR _ (rat [] (hK := ⟨?_, rfl⟩)))
  rfl
end Go.Proofs.Ytbiobfbonpiiiaa
/- Casts as coercions. No program, no world. -/
namespace Go.Proofs.Grad
def castM (a b : T) : Nat := 2 * (a.size + b.size) + (match a, b with | .any, .any => 0 | .any, _ => 5 | _, .any => 5 | _, _ => 0)
/-- the coercion of a cast between types -/
def T.cast (a b : T) (l : Int) : K :=
  match a, b with
  | .any, .any => .id 1
  | .int, .any => .inj (.id 2)
  | .bool, .any => .inj (.id 3)
  | .fn a1 a2, .any => .inj (.fn (T.cast .any a1 (-l)) (T.cast a2 .any l))
  | .pr a1 a2, .any => .inj (.pr (T.cast a1 .any l) (T.cast a2 .any l))
  | .any, .int => .prj l (.id 2)
  | .any, .bool => .prj l (.id 3)
  | .any, .fn b1 b2 => .prj l (.fn (T.cast b1 .any (-l)) (T.cast .any b2 l))
  | .any, .pr b1 b2 => .prj l (.pr (T.cast .any b1 l) (T.cast .any b2 l))
  | .fn a1 a2, .fn b1 b2 => .fn (T.cast b1 a1 (-l)) (T.cast a2 b2 l)
  | .pr a1 a2, .pr b1 b2 => .pr (T.cast a1 b1 l) (T.cast a2 b2 l)
  | .int, _ => .id 2
  | .bool, _ => .id 3
  | _, _ => .id 1
termination_by a.size + b.size
decreasing_by all_goals (simp only [T.size]; omega)
theorem T.cons_any (a : T) : a.cons .any = true := by cases a <;> rfl
theorem lab_neg {l : Int} (h : lab l = true) : lab (-l) = true := by
  simp [lab] at *; omega
theorem T.cast_wf (a b : T) (l : Int) (hl : lab l = true) : (T.cast a b l).wf = true := by
  fun_induction T.cast a b l <;> simp_all [K.wf, K.plain, K.isPrj, K.isAny, lab_neg]
theorem T.depth_pos (a : T) : 1 ≤ a.depth := by cases a <;> simp [T.depth]
theorem T.cast_depth (a b : T) (l : Int) : (T.cast a b l).depth ≤ 2 * max a.depth b.depth := by
  fun_induction T.cast a b l <;> simp only [K.depth, T.depth] at * <;> (try omega)
  all_goals grind [T.depth_pos]
end Go.Proofs.Grad
/- Laws of composition. No program, no world. -/
namespace Go.Proofs.Grad
theorem K.isPrj_id (g : Int) : (K.id g).isPrj = false := rfl
theorem K.isPrj_fn (a b : K) : (K.fn a b).isPrj = false := rfl
theorem K.isPrj_pr (a b : K) : (K.pr a b).isPrj = false := rfl
theorem K.isPrj_inj (c : K) : (K.inj c).isPrj = false := rfl
theorem K.isPrj_prj (l : Int) (c : K) : (K.prj l c).isPrj = true := rfl
theorem K.isPrj_fail (l g : Int) : (K.fail l g).isPrj = false := rfl
theorem K.isAny_id (g : Int) : (K.id g).isAny = (g == 1) := rfl
theorem K.isAny_fn (a b : K) : (K.fn a b).isAny = false := rfl
theorem K.isAny_pr (a b : K) : (K.pr a b).isAny = false := rfl
theorem K.isAny_inj (c : K) : (K.inj c).isAny = false := rfl
theorem K.isAny_prj (l : Int) (c : K) : (K.prj l c).isAny = false := rfl
theorem K.isAny_fail (l g : Int) : (K.fail l g).isAny = false := rfl
theorem K.plain_id (g : Int) : (K.id g).plain = (g != 1) := rfl
theorem K.plain_fn (a b : K) : (K.fn a b).plain = true := rfl
theorem K.plain_pr (a b : K) : (K.pr a b).plain = true := rfl
theorem K.plain_inj (c : K) : (K.inj c).plain = false := rfl
theorem K.plain_prj (l : Int) (c : K) : (K.prj l c).plain = false := rfl
theorem K.plain_fail (l g : Int) : (K.fail l g).plain = false := rfl
theorem K.plain_tag {k : K} (h : k.plain = true) (w : k.wf = true) : 2 ≤ k.tag ∧ k.tag ≤ 5 := by
  cases k <;> simp_all [K.isPrj_id, K.isPrj_fn, K.isPrj_pr, K.isPrj_inj, K.isPrj_prj, K.isPrj_fail, K.isAny_id, K.isAny_fn, K.isAny_pr, K.isAny_inj, K.isAny_prj, K.isAny_fail, K.plain_id, K.plain_fn, K.plain_pr, K.plain_inj, K.plain_prj, K.plain_fail, K.wf, K.tag]
  omega
end Go.Proofs.Grad
