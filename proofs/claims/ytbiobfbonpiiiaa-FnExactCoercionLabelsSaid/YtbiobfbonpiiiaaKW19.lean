/- Texts of the proof, one behind another. -/
import Derived.Laws.BitsLemmas
import Derived.Test.YtbiobfbonpiiiaaKW8
import Derived.Test.YtbiobfbonpiiiaaKW9
import Derived.Test.YtbiobfbonpiiiaaKW10
import Derived.Test.YtbiobfbonpiiiaaKW15
import Derived.Test.YtbiobfbonpiiiaaKW18
set_option linter.unusedSimpArgs false
set_option linter.unusedVariables false
/- Types: the helpers of the exact laws, on shadows. -/
namespace Go.Proofs.Sh
open Go.RowKit Go.Proofs.Grad

/-! ### trees from memory: lengths fit -/
def szR (x : Nat) (left : Int) : Int := if (x : Int) ≤ left then left - x else -1
theorem szR_neg {x : Nat} {left : Int} (h : decide (szR x left < 0) = true) : szR x left = -1 := by
  have h := of_decide_eq_true h
  unfold szR at h ⊢
  split <;> rename_i h' <;> simp [h'] at h ⊢
  omega
def tyF (l : List Ty) (k : Nat) : List (List C) := tyR (l.take k) ++ List.replicate (l.length - k) [.sc (.int .i64 0), .sc (.slice none 0 0)]
@[go_sem] theorem tyF_pr (h : List Blk) (ks : List Nat) (l : List Ty) (k : Nat) : prRs h ks (tyF l k) = some (tyF l k, []) := by
  have h1 : ∀ n, prRs h ks (List.replicate n [.sc (.int .i64 0), .sc (.slice none 0 0)]) = some (List.replicate n [.sc (.int .i64 0), .sc (.slice none 0 0)], []) := by
    intro n
    induction n with
    | zero => rfl
    | succ n ih => rw [List.replicate_succ, prRs, ih]; rfl
  have h2 : ∀ (m : List Ty) n, prRs h ks (tyR m ++ List.replicate n [.sc (.int .i64 0), .sc (.slice none 0 0)]) = some (tyR m ++ List.replicate n [.sc (.int .i64 0), .sc (.slice none 0 0)], []) := by
    intro m n
    induction m with
    | nil => exact h1 n
    | cons x m ih => rw [tyR, List.cons_append, prRs, ih, prL, if_pos (tyC_treeL x)]; rfl
  exact h2 _ _
@[go_sem] theorem tyF_rows (l : List Ty) (k : Nat) : rowsLen 2 (tyF l k) = true := by
  have : ∀ n, rowsLen 2 (List.replicate n [.sc (.int .i64 0), .sc (.slice none 0 0)]) = true := by
    intro n
    induction n with
    | zero => rfl
    | succ n ih => rw [List.replicate_succ, rowsLen_cons, ih]; rfl
  rw [tyF, rowsLen_append, tyR_len, this]; rfl
end Go.Proofs.Sh
namespace Go.Proofs.Ytbiobfbonpiiiaa
open Go.RowKit Go.Proofs.Sh Go.Proofs.Grad
set_option maxRecDepth 100000
set_option maxHeartbeats 4000000

end Go.Proofs.Ytbiobfbonpiiiaa
/- Terms: the helpers of the exact laws, on shadows. -/
namespace Go.Proofs.Sh
open Go.RowKit Go.Proofs.Grad

/-! ### sizes -/
def teF (l : List Tm) (k : Nat) : List (List C) := teR (l.take k) ++ List.replicate (l.length - k) [.sc (.int .i64 0), .sc (.string { data := { toList := [] } }), .sc (.int .i64 0), .sc (.int .i64 0), .sc (.slice none 0 0), .sc (.int .i64 0), .sc (.slice none 0 0), .sc (.int .i64 0), .sc (.slice none 0 0)]
@[go_sem] theorem teF_pr (h : List Blk) (ks : List Nat) (l : List Tm) (k : Nat) : prRs h ks (teF l k) = some (teF l k, []) := by
  have h1 : ∀ n, prRs h ks (List.replicate n [.sc (.int .i64 0), .sc (.string { data := { toList := [] } }), .sc (.int .i64 0), .sc (.int .i64 0), .sc (.slice none 0 0), .sc (.int .i64 0), .sc (.slice none 0 0), .sc (.int .i64 0), .sc (.slice none 0 0)]) = some (List.replicate n [.sc (.int .i64 0), .sc (.string { data := { toList := [] } }), .sc (.int .i64 0), .sc (.int .i64 0), .sc (.slice none 0 0), .sc (.int .i64 0), .sc (.slice none 0 0), .sc (.int .i64 0), .sc (.slice none 0 0)], []) := by
    intro n
    induction n with
    | zero => rfl
    | succ n ih => rw [List.replicate_succ, prRs, ih]; rfl
  have h2 : ∀ (m : List Tm) n, prRs h ks (teR m ++ List.replicate n [.sc (.int .i64 0), .sc (.string { data := { toList := [] } }), .sc (.int .i64 0), .sc (.int .i64 0), .sc (.slice none 0 0), .sc (.int .i64 0), .sc (.slice none 0 0), .sc (.int .i64 0), .sc (.slice none 0 0)]) = some (teR m ++ List.replicate n [.sc (.int .i64 0), .sc (.string { data := { toList := [] } }), .sc (.int .i64 0), .sc (.int .i64 0), .sc (.slice none 0 0), .sc (.int .i64 0), .sc (.slice none 0 0), .sc (.int .i64 0), .sc (.slice none 0 0)], []) := by
    intro m n
    induction m with
    | nil => exact h1 n
    | cons x m ih => rw [teR, List.cons_append, prRs, ih, prL, if_pos (teC_treeL x)]; rfl
  exact h2 _ _
@[go_sem] theorem teF_rows (l : List Tm) (k : Nat) : rowsLen 9 (teF l k) = true := by
  have : ∀ n, rowsLen 9 (List.replicate n [.sc (.int .i64 0), .sc (.string { data := { toList := [] } }), .sc (.int .i64 0), .sc (.int .i64 0), .sc (.slice none 0 0), .sc (.int .i64 0), .sc (.slice none 0 0), .sc (.int .i64 0), .sc (.slice none 0 0)]) = true := by
    intro n
    induction n with
    | zero => rfl
    | succ n ih => rw [List.replicate_succ, rowsLen_cons, ih]; rfl
  rw [teF, rowsLen_append, teR_len, this]; rfl
end Go.Proofs.Sh
namespace Go.Proofs.Ytbiobfbonpiiiaa
open Go.RowKit Go.Proofs.Sh Go.Proofs.Grad
set_option maxRecDepth 100000
set_option maxHeartbeats 4000000

end Go.Proofs.Ytbiobfbonpiiiaa
/- Copies from the law's types and terms to the program's, owned. On shadows. -/
namespace Go.Proofs.Ytbiobfbonpiiiaa
open Go.RowKit Go.Proofs.Sh Go.Proofs.Grad
set_option maxRecDepth 100000
set_option maxHeartbeats 8000000
end Go.Proofs.Ytbiobfbonpiiiaa
/- The law's marks: the text of a mark. On shadows. -/
namespace Go.Proofs.Ytbiobfbonpiiiaa
open Go.RowKit Go.Proofs.Sh Go.Proofs.Grad
set_option maxRecDepth 100000
set_option maxHeartbeats 8000000
end Go.Proofs.Ytbiobfbonpiiiaa
/- The law's marks on owned types and terms. On shadows. -/
namespace Go.Proofs.Ytbiobfbonpiiiaa
open Go.RowKit Go.Proofs.Sh Go.Proofs.Grad
set_option maxRecDepth 100000
set_option maxHeartbeats 8000000
end Go.Proofs.Ytbiobfbonpiiiaa
/- The law's marks, read again. On shadows. -/
namespace Go.Proofs.Grad
open Go.Proofs.Sh
end Go.Proofs.Grad
namespace Go.Proofs.Ytbiobfbonpiiiaa
open Go.RowKit Go.Proofs.Sh Go.Proofs.Grad
set_option maxRecDepth 100000
set_option maxHeartbeats 8000000
end Go.Proofs.Ytbiobfbonpiiiaa
/- Calls that yield numbers of the caller's own, read them and mark them. -/
namespace Go.Proofs.Sh
open Go.RowKit
theorem IntsR_flat {L : List Int} {r : AV} {H' : List Blk} (h : IntsR L r H') : r.flat = true ∧ H'.all Blk.flat = true := by
  rcases h with ⟨_, rfl, rfl⟩ | ⟨rfl, rfl⟩
  · exact ⟨rfl, rfl⟩
  · refine ⟨rfl, ?_⟩
    simp only [List.all_cons, List.all_nil, Bool.and_true, Blk.flat, St.isMut, Bool.true_and]
    induction L with
    | nil => rfl
    | cons z L ih => simp only [intR, List.all_cons, ih, Bool.and_true]; rfl
/-- a call that reads trees, of which some are one's own, and yields numbers -/
theorem acalls_ints {P : Program} {f : FuncId} {args args' : List AV} {h : List Blk} {is : List Nat} {L : List Int} (hz : Lents h args args' is) (hc : ACl P f args' [] (IntsR L)) :
    ACalls P f args h [] (fun r h' => (L = [] ∧ r = .one (.sl []) ∧ h' = h) ∨ (r = .one (.row 1 h.length L.length) ∧ h' = h ++ [⟨1, 3, .mut, intR L⟩])) := by
  refine (acalls_lend hz hc (fun _ _ h => IntsR_flat h)).mono ?_
  rintro r h' ⟨r0, H', hI, rfl, rfl⟩
  rcases hI with ⟨h1, rfl, rfl⟩ | ⟨rfl, rfl⟩
  · exact .inl ⟨h1, rfl, by simp⟩
  · refine .inr ⟨?_, ?_⟩
    · simp only [AV.ren, C.ren, back_nil, Nat.add_zero]
    · simp only [List.map_cons, List.map_nil, Blk.ren, renRows, intR_tree, if_true]
/-- a call that marks one's own numbers -/
theorem acalls_mark {P : Program} {f : FuncId} {b n k : Nat} {h : List Blk} {x : Blk} {v : AV} (hc : ACl P f [.one (.row 1 b n), .one (.sc (.int .i64 (k : Nat)))] h (fun r h' => r = v ∧ h' = h.set b x)) :
    ∃ ks, ACalls P f [.one (.row 1 b n), .one (.sc (.int .i64 (k : Nat)))] h ks (fun r h' => r = v ∧ h' = h.set b x) := ⟨_, acalls_full hc⟩
theorem lent_ints {h : List Blk} {b n t : Nat} {L : List Int} (hb : h[b]? = some ⟨1, t, .mut, intR L⟩) (hn : n = L.length) : Lent h (.one (.row 1 b n)) (.one (.sl (intR L))) [b] := .one (ow_ints hb hn)
end Go.Proofs.Sh
namespace Go.Proofs.Ytbiobfbonpiiiaa
open Go.RowKit Go.Proofs.Sh Go.Proofs.Grad
set_option maxRecDepth 100000
set_option maxHeartbeats 8000000
theorem markNone (k : Nat) : AFn Try.prog 37 [.one (.sl []), .one (.sc (.int .i64 (k : Nat)))] (.one (.sc (.int .i64 (k : Nat)))) := by
  refine fn_in ?_; refine acl_in Try.func37 rfl isfn_37 (Nat.le_of_ble_eq_true rfl) (fun R hR => ?_); rw [Try.results37] at hR; refine wg_run ?_; (simp only [Try.f37, go_sem])
  repeat' (first | (first | (((first | apply sp1 | apply sp2 | apply sp3 | apply sp4 | apply sp5 | apply sp6 | apply sp7) <;> intro hb) <;> (simp only [go_sem, hb])) | ((first | apply wm_done | apply wt_done | apply wg_run | refine fk ?_ ?_) <;> (simp only [go_sem]))) | (first | (refine wl_next (wg_run ?_); (simp only [go_sem])) | refine wd_rounds 6 ?_) | fail)
  (refine hR _ (rat [] (hK := ⟨rfl, rfl⟩)))
end Go.Proofs.Ytbiobfbonpiiiaa
/- Coercions: the helpers of the exact laws, on shadows. -/
namespace Go.Proofs.Sh
open Go.RowKit Go.Proofs.Grad

/-! ### sizes -/
theorem cow_mem {l : List Co} {k : Nat} (h : k < l.length) : Co.wts (l.take (k + 1)) = Co.wts (l.take k) + (1 + (coKid l k).wt) := by
  rw [cotake_kid h]
  induction l.take k with
  | nil => simp [Co.wts]
  | cons x m ih => simp only [List.cons_append, Co.wts, ih]; omega
theorem cow_rest (l : List Co) : ∀ k, k ≤ l.length → Co.wts (l.take k) + (l.length - k) ≤ Co.wts l := by
  induction l with
  | nil => intro k _; simp [Co.wts]
  | cons x l ih =>
    intro k hk
    cases k with
    | zero => have := ih 0 (by omega); simp [Co.wts] at this ⊢; omega
    | succ k => have := ih k (by simpa using hk); simp [Co.wts] at this ⊢; omega
theorem cow_fit {l : List Co} (h : Co.fitss l) {k : Nat} (hk : k < l.length) : (coKid l k).fits := by
  rw [coKid_eq hk]; exact Co.fitss_mem h (List.getElem_mem hk)

/-! ### lists filled from the front -/
def coF (l : List Co) (k : Nat) : List (List C) := coR (l.take k) ++ List.replicate (l.length - k) [.sc (.int .i64 0), .sc (.int .i64 0), .sc (.int .i64 0), .sc (.slice none 0 0)]
theorem coF_0 (l : List Co) : coF l 0 = List.replicate l.length [.sc (.int .i64 0), .sc (.int .i64 0), .sc (.int .i64 0), .sc (.slice none 0 0)] := by simp [coF, coR]
theorem coF_get {l : List Co} {k : Nat} (h : k < l.length) : (coF l k)[k]? = some [.sc (.int .i64 0), .sc (.int .i64 0), .sc (.int .i64 0), .sc (.slice none 0 0)] := by
  have e : (coR (l.take k)).length = k := by rw [coR_length, List.length_take]; omega
  rw [coF, List.getElem?_append_right (by omega), e, Nat.sub_self, List.getElem?_replicate, if_pos (by omega)]
theorem coF_set {l : List Co} {k : Nat} (h : k < l.length) : (coF l k).set k (coC (coKid l k)) = coF l (k + 1) := by
  have e : (coR (l.take k)).length = k := by rw [coR_length, List.length_take]; omega
  rw [coF, coF, List.set_append_right _ _ (by omega), e, Nat.sub_self, show l.length - k = (l.length - (k + 1)) + 1 by omega, List.replicate_succ, List.set_cons_zero, coR_take h, List.append_assoc]
  rfl
theorem coF_end (l : List Co) : coF l l.length = coR l := by simp [coF]
@[go_sem] theorem coF_pr (h : List Blk) (ks : List Nat) (l : List Co) (k : Nat) : prRs h ks (coF l k) = some (coF l k, []) := by
  have h1 : ∀ n, prRs h ks (List.replicate n [.sc (.int .i64 0), .sc (.int .i64 0), .sc (.int .i64 0), .sc (.slice none 0 0)]) = some (List.replicate n [.sc (.int .i64 0), .sc (.int .i64 0), .sc (.int .i64 0), .sc (.slice none 0 0)], []) := by
    intro n
    induction n with
    | zero => rfl
    | succ n ih => rw [List.replicate_succ, prRs, ih]; rfl
  have h2 : ∀ (m : List Co) n, prRs h ks (coR m ++ List.replicate n [.sc (.int .i64 0), .sc (.int .i64 0), .sc (.int .i64 0), .sc (.slice none 0 0)]) = some (coR m ++ List.replicate n [.sc (.int .i64 0), .sc (.int .i64 0), .sc (.int .i64 0), .sc (.slice none 0 0)], []) := by
    intro m n
    induction m with
    | nil => exact h1 n
    | cons x m ih => rw [coR, List.cons_append, prRs, ih, prL, if_pos (coC_treeL x)]; rfl
  exact h2 _ _
@[go_sem] theorem coF_rows (l : List Co) (k : Nat) : rowsLen 4 (coF l k) = true := by
  have : ∀ n, rowsLen 4 (List.replicate n [.sc (.int .i64 0), .sc (.int .i64 0), .sc (.int .i64 0), .sc (.slice none 0 0)]) = true := by
    intro n
    induction n with
    | zero => rfl
    | succ n ih => rw [List.replicate_succ, rowsLen_cons, ih]; rfl
  rw [coF, rowsLen_append, coR_len, this]; rfl
end Go.Proofs.Sh
namespace Go.Proofs.Ytbiobfbonpiiiaa
open Go.RowKit Go.Proofs.Sh Go.Proofs.Grad
set_option maxRecDepth 100000
set_option maxHeartbeats 4000000

theorem szCoS (n : Nat) (ih : ∀ t : Co, t.size < n → t.fits → ∀ left : Int, 0 ≤ left → left ≤ 1048576 → AFn Try.prog 30 [.agg (coC t), .one (.sc (.int .i64 left))] (.one (.sc (.int .i64 (szR t.wt left)))))
    (l : List Co) (hn : Co.sizes l < n) (hlen : l.length ≤ 9223372036854775807) (hf : Co.fitss l) (left : Int) (h0 : 0 ≤ left) (h1 : left ≤ 1048576) : AFn Try.prog 72 [.one (.sl (coR l)), .one (.sc (.int .i64 left))] (.one (.sc (.int .i64 (szR (Co.wts l) left)))) := by
  have hw0 : IntKind.i64.wrap (left - (l.length : Int)) = left - (l.length : Int) := IntWalk.i64_in _ (by omega)
  have hge := cow_rest l 0 (Nat.zero_le _)
  simp only [List.take_zero, Co.wts] at hge
  by_cases hfit : (l.length : Int) ≤ left
  · have d0 : decide (left - (l.length : Int) < 0) = false := by simp; omega
    refine fn_in ?_; refine acl_in Try.func72 rfl isfn_72 (Nat.le_of_ble_eq_true rfl) (fun R hR => ?_); rw [Try.results72] at hR; refine wg_run ?_; (simp only [Try.f72, go_sem, hw0, d0])
    refine wd_for [0, 1, 5] (fun k => [.one (.sl (coR l)), .one (.sc (.int .i64 (left - (l.length : Int) - ((Co.wts (l.take k) : Int) - (k : Int))))), .one (.sc (.int .i64 (k : Nat)))]) (fun _ => [])
      (fun k => k ≤ l.length ∧ (Co.wts (l.take k) : Int) + (l.length : Int) ≤ left + (k : Int)) (fun k => l.length - k) 0 ⟨Nat.zero_le _, by simp [Co.wts]; omega⟩ (hat [] (hI := ⟨by simp [Co.wts], rfl⟩)) ?_
    rintro k ⟨hk, hs⟩ G hG
    refine wg_run ?_
    (simp only [go_sem])
    have hr := cow_rest l k hk
    ((first | apply sp1 | apply sp2 | apply sp3 | apply sp4 | apply sp5 | apply sp6 | apply sp7) <;> intro hb) <;> (simp only [go_sem, hb])
    · have hk1 : k < l.length := by have := of_decide_eq_true hb; omega
      have hw1 := wrap_succ hk1 (by omega)
      have hm := cow_mem hk1
      have hr1 := cow_rest l (k + 1) hk1
      have hc := ih (coKid l k) (by rw [coKid_eq hk1]; have := cosizes_mem (List.getElem_mem hk1); omega) (cow_fit hf hk1) (left - (l.length : Int) - ((Co.wts (l.take k) : Int) - (k : Int))) (by omega) (by omega)
      by_cases hfk : ((coKid l k).wt : Int) ≤ left - (l.length : Int) - ((Co.wts (l.take k) : Int) - (k : Int))
      · have he : szR (coKid l k).wt (left - (l.length : Int) - ((Co.wts (l.take k) : Int) - (k : Int))) = left - (l.length : Int) - ((Co.wts (l.take (k + 1)) : Int) - ((k + 1 : Nat) : Int)) := by
          unfold szR; rw [if_pos hfk, hm]; omega
        rw [he] at hc
        have d1 : decide (left - (l.length : Int) - ((Co.wts (l.take (k + 1)) : Int) - ((k + 1 : Nat) : Int)) < 0) = false := by simp; omega
        (first | refine cdq ?_ (hc := hc) | refine cmq ?_ (hc := hc) | refine ctq ?_ (hc := hc)); (simp only [go_sem])
        repeat' (first | (simp only [go_sem, hw1, d1]) | (((first | apply sp1 | apply sp2 | apply sp3 | apply sp4 | apply sp5 | apply sp6 | apply sp7) <;> intro hb) <;> (simp only [go_sem, hb, hw1, d1])) | ((first | apply wm_done | apply wt_done | apply wg_run | refine fk ?_ ?_) <;> (simp only [go_sem, hw1, d1])))
        exact hG (k + 1) _ _ ⟨by omega, by omega⟩ (by omega) (hat [] (hI := ⟨rfl, rfl⟩))
      · have he : szR (coKid l k).wt (left - (l.length : Int) - ((Co.wts (l.take k) : Int) - (k : Int))) = -1 := by
          unfold szR; rw [if_neg hfk]
        rw [he] at hc
        have he2 : szR (Co.wts l) left = -1 := by unfold szR; rw [if_neg (by omega)]
        (first | refine cdq ?_ (hc := hc) | refine cmq ?_ (hc := hc) | refine ctq ?_ (hc := hc)); (simp only [go_sem])
        repeat' (first | (simp only [go_sem, hw1]) | (((first | apply sp1 | apply sp2 | apply sp3 | apply sp4 | apply sp5 | apply sp6 | apply sp7) <;> intro hb) <;> (simp only [go_sem, hb, hw1])) | ((first | apply wm_done | apply wt_done | apply wg_run | refine fk ?_ ?_) <;> (simp only [go_sem, hw1])))
        (refine hR _ (rat [] (hK := ⟨?_, rfl⟩)))
        rw [he2]
    · have hk1 : k = l.length := by have := of_decide_eq_false hb; omega
      subst hk1
      rw [List.take_length] at hs hr
      have he2 : szR (Co.wts l) left = left - (l.length : Int) - ((Co.wts l : Int) - (l.length : Int)) := by unfold szR; rw [if_pos (by omega)]; omega
      rw [List.take_length]
      (refine hR _ (rat [] (hK := ⟨?_, rfl⟩)))
      rw [he2]
  · have d0 : decide (left - (l.length : Int) < 0) = true := by simp; omega
    have he2 : szR (Co.wts l) left = -1 := by unfold szR; rw [if_neg (by omega)]
    refine fn_in ?_; refine acl_in Try.func72 rfl isfn_72 (Nat.le_of_ble_eq_true rfl) (fun R hR => ?_); rw [Try.results72] at hR; refine wg_run ?_; (simp only [Try.f72, go_sem, hw0, d0])
    (refine hR _ (rat [] (hK := ⟨?_, rfl⟩)))
    rw [he2]

/-! ### equality -/
theorem eqCoS (n : Nat) (ih : ∀ a b : Co, a.size < n → AFn Try.prog 35 [.agg (coC a), .agg (coC b)] (.one (.sc (.bool (a.same b))))) (l m : List Co) (hn : Co.sizes l < n) (hlen : l.length < 4611686018427387904) :
    AFn Try.prog 78 [.one (.sl (coR l)), .one (.sl (coR m))] (.one (.sc (.bool (Co.sames l m)))) := by
  rw [cosames_all2]
  by_cases hlm : l.length = m.length
  · have hb0 : ((l.length : Int) == (m.length : Int)) = true := by simp; omega
    refine fn_in ?_; refine acl_in Try.func78 rfl isfn_78 (Nat.le_of_ble_eq_true rfl) (fun R hR => ?_); rw [Try.results78] at hR; refine wg_run ?_; (simp only [Try.f78, go_sem, hb0, int_bne])
    refine wd_for [0, 1, 5] (fun k => [.one (.sl (coR l)), .one (.sl (coR m)), .one (.sc (.int .i64 (k : Nat)))]) (fun _ => [])
      (fun k => k ≤ l.length ∧ coall2 Co.same (l.drop k) (m.drop k) = coall2 Co.same l m) (fun k => l.length - k) 0 ⟨Nat.zero_le _, rfl⟩ (hat [] (hI := ⟨rfl, rfl⟩)) ?_
    rintro k ⟨hk, hs⟩ G hG
    refine wg_run ?_
    (simp only [go_sem])
    ((first | apply sp1 | apply sp2 | apply sp3 | apply sp4 | apply sp5 | apply sp6 | apply sp7) <;> intro hb) <;> (simp only [go_sem, hb])
    · have hk1 : k < l.length := by have := of_decide_eq_true hb; omega
      have hk2 : decide ((k : Int) < (m.length : Int)) = true := by simp; omega
      have hw1 := wrap_succ hk1 (by omega)
      rw [coall2_kid hk1 (by omega)] at hs
      have hc := ih (coKid l k) (coKid m k) (by rw [coKid_eq hk1]; have := cosizes_mem (List.getElem_mem hk1); omega)
      repeat' (first | (first | (simp only [go_sem, hb, hk2, hw1]) | (((first | apply sp1 | apply sp2 | apply sp3 | apply sp4 | apply sp5 | apply sp6 | apply sp7) <;> intro hb) <;> (simp only [go_sem, hb, hb, hk2, hw1])) | ((first | apply wm_done | apply wt_done | apply wg_run | refine fk ?_ ?_) <;> (simp only [go_sem, hb, hk2, hw1]))) | ((first | refine mxq6 [] ?_ | refine mxq5 [] ?_ | refine mxq4 [] ?_ | refine mxq3 [] ?_ | refine mxq2 [] ?_ | refine mxq1 [] ?_ | refine mxq0 [] ?_ | fail); (simp only [go_sem, hb, hk2])) | (first | refine cdq ?_ (hc := hc) | refine cmq ?_ (hc := hc) | refine ctq ?_ (hc := hc)); (simp only [go_sem]))
      · exact hG (k + 1) _ _ ⟨by omega, by simpa [hb] using hs⟩ (by omega) (hat [] (hI := ⟨rfl, rfl⟩))
      · (refine hR _ (rat [] (hK := ⟨?_, rfl⟩)))
        simpa [hb] using hs
    · have hk1 : ¬ k < l.length := by have := of_decide_eq_false hb; omega
      rw [coall2_end hk1 hlm] at hs
      (refine hR _ (rat [] (hK := ⟨?_, rfl⟩)))
      rw [hs]
  · have hb0 : ((l.length : Int) == (m.length : Int)) = false := by simp; omega
    refine fn_in ?_; refine acl_in Try.func78 rfl isfn_78 (Nat.le_of_ble_eq_true rfl) (fun R hR => ?_); rw [Try.results78] at hR; refine wg_run ?_; (simp only [Try.f78, go_sem, hb0, int_bne])
    (refine hR _ (rat [] (hK := ⟨?_, rfl⟩)))
    rw [coall2_len hlm]

/-! ### copies from the law's types to the program's -/
theorem toCoS (n : Nat) (ih : ∀ t : Co, t.size < n → AFn Try.prog 32 [.agg (coC t)] (.agg (coC t))) (l : List Co) (hn : Co.sizes l < n) (hlen : l.length < 1099511627776) :
    AFn Try.prog 74 [.one (.sl (coR l))] (.one (.sl (coR l))) := by
  have hcap : decide ((48 : Int) * (l.length : Int) ≤ 140737488355328 ∧ (l.length : Int) ≤ 140737488355328) = true := by simp; omega
  refine fn_in ?_; refine acl_in Try.func74 rfl isfn_74 (Nat.le_of_ble_eq_true rfl) (fun R hR => ?_); rw [Try.results74] at hR; refine wg_run ?_; (simp only [Try.f74, go_sem, hcap])
  rw [← coF_0 l]
  refine wd_for [0, 3, 4] (fun k => [.one (.sl (coR l)), .one (.row 4 0 l.length), .one (.sc (.int .i64 (k : Nat)))]) (fun k => [⟨4, 30, .mut, coF l k⟩])
    (fun k => k ≤ l.length) (fun k => l.length - k) 0 (Nat.zero_le _) (head_at [0] (by (simp only [go_sem]); first | done | rfl) (by (simp only [go_sem]); generalize treeRows _ = b; cases b <;> rfl) ⟨rfl, rfl⟩) ?_
  rintro k hk G hG
  refine wg_run ?_
  (simp only [go_sem])
  ((first | apply sp1 | apply sp2 | apply sp3 | apply sp4 | apply sp5 | apply sp6 | apply sp7) <;> intro hb) <;> (simp only [go_sem, hb])
  · have hk1 : k < l.length := by have := of_decide_eq_true hb; omega
    have hw1 := wrap_succ hk1 (by omega)
    have hc := ih (coKid l k) (by rw [coKid_eq hk1]; have := cosizes_mem (List.getElem_mem hk1); omega)
    have hkn : decide (k < l.length) = true := by simpa using hk1
    repeat' (first | (first | (simp only [go_sem, hb, hw1, hkn, coF_get hk1, coF_set hk1]) | (((first | apply sp1 | apply sp2 | apply sp3 | apply sp4 | apply sp5 | apply sp6 | apply sp7) <;> intro hb) <;> (simp only [go_sem, hb, hb, hw1, hkn, coF_get hk1, coF_set hk1])) | ((first | apply wm_done | apply wt_done | apply wg_run | refine fk ?_ ?_) <;> (simp only [go_sem, hb, hw1, hkn, coF_get hk1, coF_set hk1]))) | ((first | refine mxq6 [] ?_ | refine mxq5 [] ?_ | refine mxq4 [] ?_ | refine mxq3 [] ?_ | refine mxq2 [] ?_ | refine mxq1 [] ?_ | refine mxq0 [] ?_ | fail); (simp only [go_sem, hb, hkn, coF_get hk1, coF_set hk1])) | (first | refine cdq ?_ (hc := hc) | refine cmq ?_ (hc := hc) | refine ctq ?_ (hc := hc)); (simp only [go_sem]))
    exact hG (k + 1) _ _ (by omega) (by omega) (head_at [0] (by (simp only [go_sem]); first | done | rfl) (by (simp only [go_sem]); generalize treeRows _ = b; cases b <;> rfl) ⟨rfl, rfl⟩)
  · have hk1 : k = l.length := by have := of_decide_eq_false hb; omega
    subst hk1
    rw [coF_end]
    (refine hR _ (rat [] (hK := ⟨?_, rfl⟩)))
    rfl

theorem szCo (n : Nat) : ∀ t : Co, t.size < n → t.fits → ∀ left : Int, 0 ≤ left → left ≤ 1048576 → AFn Try.prog 30 [.agg (coC t), .one (.sc (.int .i64 left))] (.one (.sc (.int .i64 (szR t.wt left)))) := by
  induction n with
  | zero => intro t h; omega
  | succ n ih =>
    intro t h hf left h0 h1
    have hc := szCoS n ih t.kids (by cases t; simp only [Co.size, Co.kids] at *; omega) (by cases t; exact hf.1) (by cases t; exact hf.2) left h0 h1
    have e : t.wt = Co.wts t.kids := by cases t; rfl
    rw [← e] at hc
    refine fn_in ?_; refine acl_in Try.func30 rfl isfn_30 (Nat.le_of_ble_eq_true rfl) (fun R hR => ?_); rw [Try.results30] at hR; refine wg_run ?_; (simp only [Try.f30, go_sem])
    (first | refine cdq ?_ (hc := hc) | refine cmq ?_ (hc := hc) | refine ctq ?_ (hc := hc)); (simp only [go_sem])
    repeat' (first | (((first | apply sp1 | apply sp2 | apply sp3 | apply sp4 | apply sp5 | apply sp6 | apply sp7) <;> intro hb) <;> (simp only [go_sem, hb])) | ((first | apply wm_done | apply wt_done | apply wg_run | refine fk ?_ ?_) <;> (simp only [go_sem])))
    · (refine hR _ (rat [] (hK := ⟨?_, rfl⟩)))
      rw [szR_neg hb]
    · (refine hR _ (rat [] (hK := ⟨rfl, rfl⟩)))
theorem eqCo (n : Nat) (hn : n ≤ 4611686018427387904) : ∀ a b : Co, a.size < n → AFn Try.prog 35 [.agg (coC a), .agg (coC b)] (.one (.sc (.bool (a.same b)))) := by
  induction n with
  | zero => intro a b h; omega
  | succ n ih =>
    intro a b h
    have hc := eqCoS n (ih (by omega)) a.kids b.kids (by cases a; simp only [Co.size, Co.kids] at *; omega) (by have := colen_lt a; omega)
    have e : a.same b = (a.kind == b.kind && (a.tag == b.tag && (a.label == b.label && Co.sames a.kids b.kids))) := by cases a; cases b; simp only [Co.same, Co.kind, Co.tag, Co.label, Co.kids, Bool.and_assoc]
    rw [e]
    refine fn_in ?_; refine acl_in Try.func35 rfl isfn_35 (Nat.le_of_ble_eq_true rfl) (fun R hR => ?_); rw [Try.results35] at hR; refine wg_run ?_; (simp only [Try.f35, go_sem])
    repeat' (first | (first | (simp only [go_sem, int_bne]) | (((first | apply sp1 | apply sp2 | apply sp3 | apply sp4 | apply sp5 | apply sp6 | apply sp7) <;> intro hb) <;> (simp only [go_sem, hb, int_bne])) | ((first | apply wm_done | apply wt_done | apply wg_run | refine fk ?_ ?_) <;> (simp only [go_sem, int_bne]))) | (first | refine cdq ?_ (hc := hc) | refine cmq ?_ (hc := hc) | refine ctq ?_ (hc := hc)); (simp only [go_sem]) | ((first | refine mxq6 [] ?_ | refine mxq5 [] ?_ | refine mxq4 [] ?_ | refine mxq3 [] ?_ | refine mxq2 [] ?_ | refine mxq1 [] ?_ | refine mxq0 [] ?_ | fail); (simp only [go_sem])))
    all_goals (refine hR _ (rat [] (hK := ⟨?_, rfl⟩)))
    all_goals simp_all
theorem toCo (n : Nat) (hn : n ≤ 1099511627776) : ∀ t : Co, t.size < n → AFn Try.prog 32 [.agg (coC t)] (.agg (coC t)) := by
  induction n with
  | zero => intro t h; omega
  | succ n ih =>
    intro t h
    have hc := toCoS n (ih (by omega)) t.kids (by cases t; simp only [Co.size, Co.kids] at *; omega) (by have := colen_lt t; omega)
    refine fn_in ?_; refine acl_in Try.func32 rfl isfn_32 (Nat.le_of_ble_eq_true rfl) (fun R hR => ?_); rw [Try.results32] at hR; refine wg_run ?_; (simp only [Try.f32, go_sem])
    repeat' (first | (first | (((first | apply sp1 | apply sp2 | apply sp3 | apply sp4 | apply sp5 | apply sp6 | apply sp7) <;> intro hb) <;> (simp only [go_sem, hb])) | ((first | apply wm_done | apply wt_done | apply wg_run | refine fk ?_ ?_) <;> (simp only [go_sem]))) | (first | refine cdq ?_ (hc := hc) | refine cmq ?_ (hc := hc) | refine ctq ?_ (hc := hc)); (simp only [go_sem]) | ((first | refine mxq6 [] ?_ | refine mxq5 [] ?_ | refine mxq4 [] ?_ | refine mxq3 [] ?_ | refine mxq2 [] ?_ | refine mxq1 [] ?_ | refine mxq0 [] ?_ | fail); (simp only [go_sem])))
    (refine hR _ (rat [] (hK := ⟨?_, rfl⟩)))
    rw [coC_eq]
end Go.Proofs.Ytbiobfbonpiiiaa
/- Coercions copied and marked, owned. On shadows. -/
namespace Go.Proofs.Grad
mutual
def Co.mark : Co → Nat → Co
  | .mk _ _ _ l, k => .mk (k : Int) ((k + 1 : Nat) : Int) ((k + 2 : Nat) : Int) (Co.marks l (k + 3))
def Co.marks : List Co → Nat → List Co
  | [], _ => []
  | t :: l, k => t.mark k :: Co.marks l (k + 3 * t.size)
end
theorem Co.mark_eq (t : Co) (k : Nat) : t.mark k = .mk (k : Int) ((k + 1 : Nat) : Int) ((k + 2 : Nat) : Int) (Co.marks t.kids (k + 3)) := by cases t; rfl
theorem Co.marks_append : ∀ (l m : List Co) (k : Nat), Co.marks (l ++ m) k = Co.marks l k ++ Co.marks m (k + 3 * Co.sizes l)
  | [], m, k => by simp [Co.marks, Co.sizes]
  | t :: l, m, k => by simp only [List.cons_append, Co.marks, Co.sizes, Co.marks_append l m, Nat.add_assoc, Nat.mul_add]
theorem Co.marks_length : ∀ (l : List Co) (k : Nat), (Co.marks l k).length = l.length
  | [], _ => rfl
  | t :: l, k => by simp [Co.marks, Co.marks_length l]
theorem Co.sizes_append : ∀ (l m : List Co), Co.sizes (l ++ m) = Co.sizes l + Co.sizes m
  | [], m => by simp [Co.sizes]
  | t :: l, m => by simp only [List.cons_append, Co.sizes, Co.sizes_append l m, Nat.add_assoc]
/-- a list of which the first i are marked -/
def Co.part (l : List Co) (k i : Nat) : List Co := Co.marks (l.take i) k ++ l.drop i
theorem Co.part_length (l : List Co) (k i : Nat) : (Co.part l k i).length = l.length := by
  simp only [Co.part, List.length_append, Co.marks_length, List.length_take, List.length_drop]; omega
end Go.Proofs.Grad
namespace Go.Proofs.Sh
open Go.RowKit Go.Proofs.Grad
theorem Co.part_get {l : List Co} {k i : Nat} (h : i < l.length) : (Co.part l k i)[i]? = some (coKid l i) := by
  have hl : (Co.marks (l.take i) k).length = i := by rw [Co.marks_length, List.length_take]; omega
  rw [Co.part, List.getElem?_append_right (by omega), hl, Nat.sub_self, codrop_kid h]; rfl
theorem Co.part_set {l : List Co} {k i : Nat} (h : i < l.length) : (Co.part l k i).set i ((coKid l i).mark (k + 3 * Co.sizes (l.take i))) = Co.part l k (i + 1) := by
  have hl : (Co.marks (l.take i) k).length = i := by rw [Co.marks_length, List.length_take]; omega
  rw [Co.part, List.set_append_right _ _ (by omega), hl, Nat.sub_self, codrop_kid h, Co.part, cotake_kid h, Co.marks_append]
  simp [Co.marks]
theorem Co.sizes_take {l : List Co} {i : Nat} (h : i < l.length) : Co.sizes (l.take (i + 1)) = Co.sizes (l.take i) + (coKid l i).size := by
  rw [cotake_kid h, Co.sizes_append]; simp [Co.sizes]
theorem coR_set (l : List Co) (i : Nat) (t : Co) : (coR l).set i (coC t) = coR (l.set i t) := by
  induction l generalizing i with
  | nil => rfl
  | cons x l ih => cases i <;> simp [coR, ih]
theorem Co.sizes_take_le (l : List Co) (i : Nat) : Co.sizes (l.take i) ≤ Co.sizes l := by
  have := Co.sizes_append (l.take i) (l.drop i)
  rw [List.take_append_drop] at this; omega
theorem owL_four {h : List Blk} {d : Nat} {k1 k2 k3 : IntKind} {n1 n2 n3 : Int} {c c' : C} {js : List Nat} (e : Sh.ow h d c = some (c', js)) : fzL (Sh.ow h d) [.sc (.int k1 n1), .sc (.int k2 n2), .sc (.int k3 n3), c] = some ([.sc (.int k1 n1), .sc (.int k2 n2), .sc (.int k3 n3), c'], js) := by
  simp only [fzL, ow_int, e, List.append_nil, List.nil_append]
theorem owL_co {h : List Blk} {d : Nat} {cs : List C} {t : Co} {ids : List Nat} (e : fzL (ow h d) cs = some (coC t, ids)) : ∃ c, cs = [.sc (.int .i64 t.kind), .sc (.int .i64 t.tag), .sc (.int .i64 t.label), c] ∧ ow h d c = some (.sl (coR t.kids), ids) := by
  rw [coC_eq] at e
  obtain ⟨c0, cs1, i0, j0, rfl, e0, f0, rfl⟩ := fzL_cons e
  obtain ⟨c1, cs2, i1, j1, rfl, e1, f1, rfl⟩ := fzL_cons f0
  obtain ⟨c2, cs3, i2, j2, rfl, e2, f2, rfl⟩ := fzL_cons f1
  obtain ⟨c3, cs4, i3, j3, rfl, e3, f3, rfl⟩ := fzL_cons f2
  obtain ⟨rfl, rfl⟩ := fzL_nil f3
  obtain ⟨rfl, rfl⟩ := ow_sc (by simp) e0
  obtain ⟨rfl, rfl⟩ := ow_sc (by simp) e1
  obtain ⟨rfl, rfl⟩ := ow_sc (by simp) e2
  exact ⟨c3, rfl, by simpa using e3⟩
end Go.Proofs.Sh
namespace Go.Proofs.Ytbiobfbonpiiiaa
open Go.RowKit Go.Proofs.Sh Go.Proofs.Grad
set_option maxRecDepth 100000
set_option maxHeartbeats 8000000
theorem toCoSO (n : Nat) (ih : ∀ t : Co, t.size < n → ACl Try.prog 32 [.agg (coC t)] [] (OwnK (coC t) .agg)) (l : List Co) (hn : Co.sizes l < n) (hlen : l.length < 1099511627776) :
    ACl Try.prog 74 [.one (.sl (coR l))] [] (OwnK [.sl (coR l)] Sh.one1) := by
  have hcap : decide ((48 : Int) * (l.length : Int) ≤ 140737488355328 ∧ (l.length : Int) ≤ 140737488355328) = true := by simp; omega
  refine acl_in Try.func74 rfl isfn_74 (Nat.le_of_ble_eq_true rfl) (fun R hR => ?_); rw [Try.results74] at hR; refine wg_run ?_; (simp only [Try.f74, go_sem, hcap])
  refine wd_for (σ := Nat × List (List C) × List Blk) [0, 3, 4] (fun x => [.one (.sl (coR l)), .one (.row 4 0 l.length), .one (.sc (.int .i64 (x.1 : Nat)))]) (fun x => ⟨4, 30, .mut, x.2.1⟩ :: x.2.2)
    (fun x => x.1 ≤ l.length ∧ Filled 4 1 (coR (l.take x.1)) (l.length - x.1) [.sc (.int .i64 0), .sc (.int .i64 0), .sc (.int .i64 0), .sc (.slice none 0 0)] x.2.1 x.2.2) (fun x => l.length - x.1) (0, List.replicate l.length [.sc (.int .i64 0), .sc (.int .i64 0), .sc (.int .i64 0), .sc (.slice none 0 0)], []) ⟨Nat.zero_le _, Filled.zero⟩ (head_all (by (simp only [go_sem]); first | done | rfl) ⟨rfl, rfl⟩) ?_
  rintro ⟨k, rows, T⟩ ⟨hk, hI⟩ G hG
  simp only at hk hI hG ⊢
  refine wg_run ?_
  (simp only [go_sem])
  ((first | apply sp1 | apply sp2 | apply sp3 | apply sp4 | apply sp5 | apply sp6 | apply sp7) <;> intro hb) <;> (simp only [go_sem, hb])
  · have hk1 : k < l.length := by have := of_decide_eq_true hb; omega
    have hw1 := wrap_succ hk1 (by omega)
    have hkn : decide (k < l.length) = true := by simpa using hk1
    have hlt : (coR (l.take k)).length = k := by rw [coR_length, List.length_take]; omega
    rw [show l.length - k = (l.length - (k + 1)) + 1 from by omega] at hI
    have hrow := hI.get
    rw [hlt] at hrow
    repeat' (first | (first | (simp only [go_sem, hb, hw1, hkn, hrow]) | (((first | apply sp1 | apply sp2 | apply sp3 | apply sp4 | apply sp5 | apply sp6 | apply sp7) <;> intro hb) <;> (simp only [go_sem, hb, hb, hw1, hkn, hrow])) | ((first | apply wm_done | apply wt_done | apply wg_run | refine fk ?_ ?_) <;> (simp only [go_sem, hb, hw1, hkn, hrow]))) | ((first | refine mxq6 [] ?_ | refine mxq5 [] ?_ | refine mxq4 [] ?_ | refine mxq3 [] ?_ | refine mxq2 [] ?_ | refine mxq1 [] ?_ | refine mxq0 [] ?_ | fail); (simp only [go_sem, hb, hkn, hrow])))
    refine wd_any (acalls_own (.cons (.same (by (simp only [go_sem]); first | done | rfl)) .nil) (ih (coKid l k) (by rw [coKid_eq hk1]; have := cosizes_mem (List.getElem_mem hk1); omega)) (fun _ h => h) ren_agg) ?_
    rintro _ h' ⟨cs, d, ids, rfl, e1, e2, e3, e4, e5⟩
    obtain ⟨T', rfl, f1, f2⟩ := pre1 e4 e5
    have hcs : cs.length = 4 := by rw [← fzL_len e1]; (simp only [go_sem])
    have hx := hI.next (pre := [_]) rfl f2 e1 hcs e2 (fun b hb => by have := (e3 b hb).1; simp only [List.length_cons] at this; omega)
    rw [hlt] at hx
    (simp only [go_sem, hcs, hkn, hrow])
    repeat' (first | (first | (simp only [go_sem, hb, hw1, hkn, hrow, hcs]) | (((first | apply sp1 | apply sp2 | apply sp3 | apply sp4 | apply sp5 | apply sp6 | apply sp7) <;> intro hb) <;> (simp only [go_sem, hb, hb, hw1, hkn, hrow, hcs])) | ((first | apply wm_done | apply wt_done | apply wg_run | refine fk ?_ ?_) <;> (simp only [go_sem, hb, hw1, hkn, hrow, hcs]))))
    refine hG (k + 1, _, _) _ _ ⟨by omega, ?_⟩ (by simp only; omega) (head_all (by (simp only [go_sem]); first | done | rfl) ⟨rfl, rfl⟩)
    simp only [coR_take hk1]
    exact hx
  · have hk1 : k = l.length := by have := of_decide_eq_false hb; omega
    subst hk1
    rw [List.take_length, Nat.sub_self] at hI
    obtain ⟨d, js, h1, h2⟩ := hI.all (pre := [⟨4, 30, .mut, rows⟩]) (b := 0) (n := l.length) rfl (by omega) rfl rfl rfl rfl (by rw [coR_length])
    exact hR _ (ret_ownK (F := Sh.one1) (cs := [.row 4 0 l.length]) (d := d) (by (simp only [go_sem]); first | done | rfl) (owL_one h1) h2 (prVs_one1 (owL_one h1)))
theorem toCoO (n : Nat) (hn : n ≤ 1099511627776) : ∀ t : Co, t.size < n → ACl Try.prog 32 [.agg (coC t)] [] (OwnK (coC t) .agg) := by
  induction n with
  | zero => intro t h; omega
  | succ n ih =>
    intro t h
    have hc := toCoSO n (ih (by omega)) t.kids (by cases t; simp only [Co.size, Co.kids] at *; omega) (by have := colen_sizes t.kids; cases t; simp only [Co.size, Co.kids] at *; omega)
    refine acl_in Try.func32 rfl isfn_32 (Nat.le_of_ble_eq_true rfl) (fun R hR => ?_); rw [Try.results32] at hR; refine wg_run ?_; (simp only [Try.f32, go_sem])
    repeat' (first | (first | (((first | apply sp1 | apply sp2 | apply sp3 | apply sp4 | apply sp5 | apply sp6 | apply sp7) <;> intro hb) <;> (simp only [go_sem, hb])) | ((first | apply wm_done | apply wt_done | apply wg_run | refine fk ?_ ?_) <;> (simp only [go_sem]))) | ((first | refine mxq6 [] ?_ | refine mxq5 [] ?_ | refine mxq4 [] ?_ | refine mxq3 [] ?_ | refine mxq2 [] ?_ | refine mxq1 [] ?_ | refine mxq0 [] ?_ | fail); (simp only [go_sem])))
    refine wd_any (acalls_own (.cons (.same (by (simp only [go_sem]); first | done | rfl)) .nil) hc one1_flat one1_ren) ?_
    rintro _ h' ⟨cs, d, ids, rfl, e1, e2, e3, e4, e5⟩
    obtain ⟨T', rfl, f1, f2⟩ := pre3 e4 e5
    obtain ⟨c, cs', i, j, rfl, g1, g2, rfl⟩ := fzL_cons e1
    obtain ⟨rfl, rfl⟩ := fzL_nil g2
    rw [List.append_nil] at e2 e3
    simp only [Sh.one1, List.getD_cons_zero]
    (simp only [go_sem])
    repeat' (first | (first | (((first | apply sp1 | apply sp2 | apply sp3 | apply sp4 | apply sp5 | apply sp6 | apply sp7) <;> intro hb) <;> (simp only [go_sem, hb])) | ((first | apply wm_done | apply wt_done | apply wg_run | refine fk ?_ ?_) <;> (simp only [go_sem]))) | ((first | refine mxq6 [] ?_ | refine mxq5 [] ?_ | refine mxq4 [] ?_ | refine mxq3 [] ?_ | refine mxq2 [] ?_ | refine mxq1 [] ?_ | refine mxq0 [] ?_ | fail); (simp only [go_sem])))
    refine hR _ (ret_ownK (d := d) (ids := i) (by (simp only [go_sem]); first | done | rfl) ?_ e2 (fun _ => prVs_agg))
    rw [coC_eq]
    refine owL_four (ow_frame (h := _ :: _ :: _ :: T') g1 (fun b hb => ?_))
    have hb3 : 3 ≤ b := by have := (e3 b hb).1; simp only [List.length_cons] at this; omega
    obtain ⟨b, rfl⟩ : ∃ x, b = x + 3 := ⟨b - 3, by omega⟩
    rfl
/-- what a marking leaves -/
def MarkedC (h : List Blk) (d : Nat) (c : C) (R : List (List C)) (ids : List Nat) (n : Nat) (r : AV) (h' : List Blk) : Prop :=
  r = .one (.sc (.int .i64 (n : Nat))) ∧ ow h' d c = some (.sl R, ids) ∧ h.length ≤ h'.length ∧ ∀ b, b < h.length → b ∉ ids → h'[b]? = h[b]?
theorem markCoS (n : Nat) (hn : n ≤ 1000000000) : ∀ (l : List Co), Co.sizes l < n → ∀ (h : List Blk) (c : C) (d : Nat) (ids : List Nat) (k : Nat), k + 3 * Co.sizes l < 4000000000 → ow h d c = some (.sl (coR l), ids) → ids.Nodup →
    ACl Try.prog 79 [.one c, .one (.sc (.int .i64 (k : Nat)))] h (MarkedC h d c (coR (Co.marks l k)) ids (k + 3 * Co.sizes l)) := by
  induction n with
  | zero => intro l h; omega
  | succ n ih =>
    intro l hl h c d ids k hk e hnd
    have triv : l = [] → (c = .sc (.slice none 0 0) ∨ c = .sl []) → ACl Try.prog 79 [.one c, .one (.sc (.int .i64 (k : Nat)))] h (MarkedC h d c (coR (Co.marks l k)) ids (k + 3 * Co.sizes l)) := by
      intro hl0 hc
      subst hl0
      rcases hc with rfl | rfl
      all_goals
        refine acl_in Try.func79 rfl isfn_79 (Nat.le_of_ble_eq_true rfl) (fun R hR => ?_); rw [Try.results79] at hR; refine wg_run ?_; (simp only [Try.f79, go_sem])
        refine wd_rounds 2 (wl_next (wg_run ?_))
        (simp only [go_sem])
        exact hR _ (ret_all (by (simp only [go_sem]); first | done | rfl) ⟨by simp [Co.sizes], by simpa [Co.marks] using e, Nat.le_refl _, fun _ _ _ => rfl⟩)
    cases c with
    | row s b m =>
      obtain ⟨d, kb, R, js, rfl, hb, hm, hlen, hs, hrs, hrows, hR', rfl⟩ := ow_row e
      cases hR'
      have hml : m = l.length := by rw [← hlen, ← fzRows_len hrows, coR_length]
      subst hml
      clear hb hm hlen hs hrs hrows kb
      refine acl_in Try.func79 rfl isfn_79 (Nat.le_of_ble_eq_true rfl) (fun R hR => ?_); rw [Try.results79] at hR; refine wg_run ?_; (simp only [Try.f79, go_sem])
      refine wd_for (σ := Nat × List Blk) [0, 1, 5] (fun x => [.one (.row s b l.length), .one (.sc (.int .i64 ((k + 3 * Co.sizes (l.take x.1) : Nat)))), .one (.sc (.int .i64 (x.1 : Nat)))]) (fun x => x.2)
        (fun x => x.1 ≤ l.length ∧ ow x.2 (d + 1) (.row s b l.length) = some (.sl (coR (Co.part l k x.1)), b :: js) ∧ h.length ≤ x.2.length ∧ ∀ y, y < h.length → y ∉ b :: js → x.2[y]? = h[y]?) (fun x => l.length - x.1) (0, h) ⟨Nat.zero_le _, e, Nat.le_refl _, fun _ _ _ => rfl⟩ (head_all (by (simp only [go_sem]); first | done | rfl) ⟨rfl, rfl⟩) ?_
      rintro ⟨i, h1⟩ ⟨hi, hI, hle, hfr⟩ G hG
      simp only at hi hI hle hfr hG ⊢
      refine wg_run ?_
      (simp only [go_sem])
      ((first | apply sp1 | apply sp2 | apply sp3 | apply sp4 | apply sp5 | apply sp6 | apply sp7) <;> intro hb) <;> (simp only [go_sem, hb])
      · have hi1 : i < l.length := by have := of_decide_eq_true hb; omega
        have hin : decide (i < l.length) = true := by simpa using hi1
        obtain ⟨ty, rows, r, E, pre, is, post, g1, g2, g3, g4, g5, g6, g7, g8, g9, g10, g11, upd⟩ := row_upd hI hnd (i := i) (by rw [coR_length, Co.part_length]; exact hi1)
        rw [coR_get, Co.part_get hi1] at g5
        cases g5
        obtain ⟨ci, rfl, hci⟩ := owL_co g7
        simp only [List.length_cons, List.length_nil] at g6
        subst g6
        have hbl : b < h1.length := (List.getElem?_eq_some_iff.1 g1).1
        have hset : ∀ X, (h1.set b X)[b]? = some X := fun X => List.getElem?_set_self hbl
        have hrs : ∀ X, (rows.set i X)[i]? = some X := fun X => List.getElem?_set_self (by omega)
        have hsz := Co.sizes_take hi1
        have hszl := Co.sizes_take_le l (i + 1)
        have hkp : (coKid l i).size = 1 + Co.sizes (coKid l i).kids := by cases coKid l i; simp only [Co.size, Co.kids]
        have hw1 : IntKind.i64.wrap (((i : Nat) : Int) + 1) = ((i + 1 : Nat) : Int) := wrap_succ hi1 (by have := colen_sizes l; omega)
        have hss : ∀ X Y, (h1.set b X).set b Y = h1.set b Y := fun X Y => List.set_set X
        have hrr : ∀ X Y, (rows.set i X).set i Y = rows.set i Y := fun X Y => List.set_set X
        have hw3 : IntKind.i64.wrap (((k + 3 * Co.sizes (l.take i) + 1 : Nat) : Int) + 1) = ((k + 3 * Co.sizes (l.take i) + 2 : Nat) : Int) := by rw [IntWalk.i64_in _ (by omega)]; omega
        have hw4 : IntKind.i64.wrap (((k + 3 * Co.sizes (l.take i) + 2 : Nat) : Int) + 1) = ((k + 3 * Co.sizes (l.take i) + 3 : Nat) : Int) := by rw [IntWalk.i64_in _ (by omega)]; omega
        have hw2 : IntKind.i64.wrap (((k + 3 * Co.sizes (l.take i) : Nat) : Int) + 1) = ((k + 3 * Co.sizes (l.take i) + 1 : Nat) : Int) := by rw [IntWalk.i64_in _ (by omega)]; omega
        repeat' (first | (first | (simp only [go_sem, hb, hin, g1, g4, hset, hrs, hss, hrr, hw1, hw2, hw3, hw4]) | (((first | apply sp1 | apply sp2 | apply sp3 | apply sp4 | apply sp5 | apply sp6 | apply sp7) <;> intro hb) <;> (simp only [go_sem, hb, hb, hin, g1, g4, hset, hrs, hss, hrr, hw1, hw2, hw3, hw4])) | ((first | apply wm_done | apply wt_done | apply wg_run | refine fk ?_ ?_) <;> (simp only [go_sem, hb, hin, g1, g4, hset, hrs, hss, hrr, hw1, hw2, hw3, hw4]))))
        refine wd_any (acalls_full (ih (by omega) (coKid l i).kids (by omega) _ ci d is (k + 3 * Co.sizes (l.take i) + 3) (by omega) (ow_frame hci (fun x hx => List.getElem?_set_ne (fun e => g10 (by rw [e]; exact hx)))) g9)) ?_
        rintro _ h2 ⟨rfl, u1, u2, u3⟩
        rw [show k + 3 * Co.sizes (l.take i) + 3 + 3 * Co.sizes (coKid l i).kids = k + 3 * Co.sizes (l.take (i + 1)) from by omega]
        rw [List.length_set] at u2 u3
        (simp only [go_sem])
        repeat' (first | (first | (simp only [go_sem, hb, hin, hw1]) | (((first | apply sp1 | apply sp2 | apply sp3 | apply sp4 | apply sp5 | apply sp6 | apply sp7) <;> intro hb) <;> (simp only [go_sem, hb, hb, hin, hw1])) | ((first | apply wm_done | apply wt_done | apply wg_run | refine fk ?_ ?_) <;> (simp only [go_sem, hb, hin, hw1]))))
        refine hG (i + 1, h2) _ _ ⟨hi1, ?_, by show h.length ≤ h2.length; omega, fun y hy hyn => ?_⟩ (by simp only; omega) (head_all (by (simp only [go_sem]); first | done | rfl) ⟨rfl, rfl⟩)
        · have := upd h2 _ (coC (.mk ((k + 3 * Co.sizes (l.take i) : Nat) : Int) ((k + 3 * Co.sizes (l.take i) + 1 : Nat) : Int) ((k + 3 * Co.sizes (l.take i) + 2 : Nat) : Int) (Co.marks (coKid l i).kids (k + 3 * Co.sizes (l.take i) + 3)))) rfl (by rw [u3 b hbl g10]; exact hset _) (by rw [coC_eq]; exact owL_four u1) (fun x hx => by
            obtain ⟨x1, x2⟩ := g11 x hx
            have hxl := (owR_lt hI x (by rw [g8]; rcases List.mem_append.1 hx with hx | hx <;> simp [hx]))
            rw [u3 x hxl x1, List.getElem?_set_ne (fun e => x2 e.symm)])
          rw [coR_set, ← Co.mark_eq, Co.part_set hi1] at this
          exact this
        · simp only [List.mem_cons, not_or] at hyn
          rw [u3 y (by omega) (fun hm => hyn.2 (by rw [g8]; simp [hm])), List.getElem?_set_ne (fun e => hyn.1 e.symm)]
          exact hfr y hy (by simp only [List.mem_cons, not_or]; exact hyn)
      · have hi1 : i = l.length := by have := of_decide_eq_false hb; omega
        subst hi1
        refine hR _ (ret_all (by (simp only [go_sem]); first | done | rfl) ⟨by rw [List.take_length], ?_, hle, hfr⟩)
        rw [hI, Co.part, List.take_length, List.drop_length, List.append_nil]
    | _ =>
      rw [ow_leaf (by simp)] at e
      obtain ⟨rfl, ⟨h1, h2⟩ | ⟨v, h1, hv, h2⟩ | ⟨h1, h2⟩⟩ := leaf_cases e
      · exact triv (by cases l with | nil => rfl | cons => simp [coR] at h2) (.inl h1)
      · cases h2
      · exact triv (by cases l with | nil => rfl | cons => simp [coR] at h2) (.inr h1)
theorem markCo (t : Co) (ht : Co.sizes t.kids < 1000000000) (h : List Blk) (c : C) (d : Nat) (ids : List Nat) (k : Nat) (hk : k + 3 * Co.sizes t.kids < 4000000000) (kd k2 k3 : Int) (e : ow h d c = some (.sl (coR t.kids), ids)) (hnd : ids.Nodup) :
    ACl Try.prog 36 [.agg [.sc (.int .i64 kd), .sc (.int .i64 k2), .sc (.int .i64 k3), c], .one (.sc (.int .i64 (k : Nat)))] h (MarkedC h d c (coR (Co.marks t.kids k)) ids (k + 3 * Co.sizes t.kids)) := by
  refine acl_in Try.func36 rfl isfn_36 (Nat.le_of_ble_eq_true rfl) (fun R hR => ?_); rw [Try.results36] at hR; refine wg_run ?_; (simp only [Try.f36, go_sem])
  repeat' (first | (((first | apply sp1 | apply sp2 | apply sp3 | apply sp4 | apply sp5 | apply sp6 | apply sp7) <;> intro hb) <;> (simp only [go_sem, hb])) | ((first | apply wm_done | apply wt_done | apply wg_run | refine fk ?_ ?_) <;> (simp only [go_sem])))
  refine wd_any (acalls_full (markCoS 1000000000 (by omega) t.kids ht _ c d ids k hk (ow_frame e (fun x hx => List.getElem?_append_left (ow_mut e x hx).lt)) hnd)) ?_
  rintro _ h2 ⟨rfl, u1, u2, u3⟩
  (simp only [go_sem])
  repeat' (first | (((first | apply sp1 | apply sp2 | apply sp3 | apply sp4 | apply sp5 | apply sp6 | apply sp7) <;> intro hb) <;> (simp only [go_sem, hb])) | ((first | apply wm_done | apply wt_done | apply wg_run | refine fk ?_ ?_) <;> (simp only [go_sem])))
  simp only [List.length_append, List.length_cons, List.length_nil] at u2 u3
  exact hR _ (ret_all (by (simp only [go_sem]); first | done | rfl) ⟨rfl, u1, by simp only; omega, fun b hb hm => by simp only; rw [u3 b (by omega) hm, List.getElem?_append_left hb]⟩)
/-- a coercion is marked -/
theorem markOwnC {t : Co} {p k : Nat} {pre T : List Blk} {cs : List C} {ids : List Nat} (h : OwnT p T cs (coC t) ids) (hp : pre.length = p) (hk0 : Co.sizes t.kids < 1000000000) (hk : k + 3 * Co.sizes t.kids < 4000000000) :
    ∃ ks, ACalls Try.prog 36 [.agg cs, .one (.sc (.int .i64 (k : Nat)))] (pre ++ T) ks (fun r h' => ∃ T', r = .one (.sc (.int .i64 ((k + 3 * Co.sizes t.kids : Nat)))) ∧ h' = pre ++ T' ∧ T.length ≤ T'.length ∧ (∀ i, i < T.length → i + p ∉ ids → T'[i]? = T[i]?) ∧ OwnT p T' cs (coC (.mk t.kind t.tag t.label (Co.marks t.kids k))) ids) := by
  obtain ⟨d, hd⟩ := h.own
  have h1 := hd pre hp
  obtain ⟨c, rfl, hc⟩ := owL_co h1
  refine acalls_changeT hp h.ge h.nodup ⟨d, (markCo t hk0 _ c d ids k hk t.kind t.tag t.label hc h.nodup).mono fun r h' ⟨e1, e2, e3, e4⟩ => ⟨e1, ?_, e3, e4⟩⟩
  rw [coC_eq]
  exact owL_four e2
end Go.Proofs.Ytbiobfbonpiiiaa
