/- Texts of the proof, one behind another. -/
import Derived.Test.YtfgjiamolknicaaRows
import Derived.ProofKit
import Derived.OpenShut
import Derived.Test.YtfgjiamolknicaaKY9
import Derived.Test.YtfgjiamolknicaaKY10
import Derived.Test.YtfgjiamolknicaaKY11
import Derived.Test.YtfgjiamolknicaaKY12
import Derived.Test.YtfgjiamolknicaaKY19
import Derived.Test.YtfgjiamolknicaaKY20
set_option linter.unusedSimpArgs false
set_option linter.unusedVariables false
/- Blurred and erased terms, in the program. On shadows. -/
namespace Go.Proofs.Grad
/-- a list of types, of which the first k are blurred -/
def blurK (m : Nat) (l : List T) (k : Nat) : List T := (blurL m l).take k ++ l.drop k
theorem blurK_length (m : Nat) (l : List T) (k : Nat) : (blurK m l k).length = l.length := by
  simp only [blurK, List.length_append, List.length_take, List.length_drop, blurL_length]; omega
theorem blurK_zero (m : Nat) (l : List T) : blurK m l 0 = l := by simp [blurK]
theorem blurK_all (m : Nat) (l : List T) {k : Nat} (h : l.length ≤ k) : blurK m l k = blurL m l := by
  rw [blurK, List.take_of_length_le (by rw [blurL_length]; exact h), List.drop_of_length_le h, List.append_nil]
theorem blurK_get (m : Nat) (l : List T) (k i : Nat) (h : i < l.length) : (blurK m l k)[i]? = some (match decide (i < k) with | true => (match m.testBit i with | true => .any | false => l[i]) | false => l[i]) := by
  unfold blurK
  by_cases hi : i < k
  · rw [List.getElem?_append_left (by simp [blurL_length]; omega), List.getElem?_take_of_lt hi, decide_eq_true hi]
    rw [List.getElem?_eq_getElem (by rw [blurL_length]; exact h)]
    simp only [blurL, List.getElem_mapIdx]; rfl
  · rw [List.getElem?_append_right (by simp [blurL_length]; omega), decide_eq_false hi]
    simp only [List.length_take, blurL_length, List.getElem?_drop]
    rw [List.getElem?_eq_getElem (by omega)]
    congr 2; omega
theorem blurK_set (m : Nat) (l : List T) {k : Nat} (h : k < l.length) (hb : m.testBit k = true) : (blurK m l k).set k .any = blurK m l (k + 1) := by
  refine List.ext_getElem? fun i => ?_
  by_cases hi : i < l.length
  · rw [blurK_get m l (k + 1) i hi]
    by_cases e : k = i
    · subst e
      rw [List.getElem?_set_self (by rw [blurK_length]; exact h), decide_eq_true (by omega)]
      simp [hb]
    · rw [List.getElem?_set_ne e, blurK_get m l k i hi]
      rw [show decide (i < k) = decide (i < k + 1) from by rw [decide_eq_decide]; omega]
  · rw [List.getElem?_eq_none (by rw [List.length_set, blurK_length]; omega), List.getElem?_eq_none (by rw [blurK_length]; omega)]
theorem blurK_keep (m : Nat) (l : List T) {k : Nat} (h : k < l.length) (hb : m.testBit k = false) : blurK m l k = blurK m l (k + 1) := by
  refine List.ext_getElem? fun i => ?_
  by_cases hi : i < l.length
  · rw [blurK_get m l (k + 1) i hi, blurK_get m l k i hi]
    by_cases e : i = k
    · subst e
      rw [decide_eq_false (by omega), decide_eq_true (by omega)]
      simp [hb]
    · rw [show decide (i < k) = decide (i < k + 1) from by rw [decide_eq_decide]; omega]
  · rw [List.getElem?_eq_none (by rw [blurK_length]; omega), List.getElem?_eq_none (by rw [blurK_length]; omega)]
/-- a bit of a mask, as the code takes it -/
theorem bit_at (m k : Nat) (hm : m < 2 ^ 62) (hk : k < 64) : (IntKind.i64.wrap ((BitVec.ofInt 64 ((m : Int).fdiv (2 ^ (min k 64))) &&& BitVec.ofInt 64 1).toNat : Nat) == 1) = m.testBit k := by
  have e1 : (m : Int).fdiv (2 ^ (min k 64)) = ((m / 2 ^ k : Nat) : Int) := by
    rw [Nat.min_eq_left (by omega)]
    have e0 : (2 : Int) ^ k = ((2 ^ k : Nat) : Int) := (Int.natCast_pow 2 k).symm
    rw [e0, Int.fdiv_eq_ediv_of_nonneg _ (Int.natCast_nonneg _)]
    exact (Int.natCast_ediv m (2 ^ k)).symm
  have h1 : m / 2 ^ k < 2 ^ 62 := Nat.lt_of_le_of_lt (Nat.div_le_self _ _) hm
  rw [e1, Nat.testBit_eq_decide_div_mod_eq]
  clear e1
  generalize m / 2 ^ k = x at *
  have e2 : (BitVec.ofInt 64 (x : Int) &&& BitVec.ofInt 64 1).toNat = x % 2 := by
    rw [BitVec.toNat_and, BitVec.toNat_ofInt, BitVec.toNat_ofInt]
    have : ((x : Int) % (2 ^ 64 : Nat)).toNat = x := by omega
    rw [this]
    exact Nat.and_one_is_mod _
  rw [e2]
  have h2 : x % 2 < 2 := Nat.mod_lt _ (by omega)
  rw [IntWalk.i64_in _ (by omega)]
  rw [Bool.eq_iff_iff]; simp; omega
theorem shl_at (n : Nat) (h : n < 62) : IntKind.i64.wrap (1 * 2 ^ (min n 64)) = ((2 ^ n : Nat) : Int) := by
  have : (2 : Nat) ^ n ≤ 2 ^ 62 := Nat.pow_le_pow_right (by omega) (by omega)
  rw [Nat.min_eq_left (by omega), Int.one_mul]
  have e : (2 : Int) ^ n = ((2 ^ n : Nat) : Int) := (Int.natCast_pow 2 n).symm
  rw [e]
  generalize (2 : Nat) ^ n = x at *
  rw [IntWalk.i64_in _ (by omega)]
theorem tyRset (l : List Ty) (i : Nat) (t : Ty) : (Sh.tyR l).set i (Sh.tyC t) = Sh.tyR (l.set i t) := by
  induction l generalizing i with
  | nil => rfl
  | cons a l ih => cases i <;> simp [Sh.tyR, ih]
end Go.Proofs.Grad
namespace Go.Proofs.Ytfgjiamolknicaa
open Go.RowKit Go.Proofs.Sh Go.Proofs.Grad
set_option maxRecDepth 100000
set_option maxHeartbeats 8000000
/-- a list of types, one's own -/
def TyOwn (l : List Ty) (r : AV) (H' : List Blk) : Prop := (l = [] ∧ r = .one (.sc (.slice none 0 0)) ∧ H' = []) ∨ (r = .one (.row 2 0 l.length) ∧ H' = [⟨2, 25, .mut, tyR l⟩] ∧ 0 < l.length)
theorem iTypesO (n : Nat) (hn : n ≤ 2199023255552) (t : Tm) (h : t.size < n) : ACl Try.prog 96 [.agg (teC t)] [] (TyOwn t.types) := by
    have hl := telen_lt t
    have hnl := t.nodes_le
    have hne := t.nodes_eq
    have ho := iOwnTy _ (by omega) t.type (by cases t; simp only [Tm.size, Tm.type] at *; omega : t.type.size < n)
    have hh := iHasType t
    have e0 : ownTys t.kind t.type = (match hasTy t.kind with | true => [t.type] | false => []) := rfl
    cases hty : hasTy t.kind
    all_goals
      rw [hty] at hh e0
      simp only [] at e0
      refine acl_in Try.func96 rfl isfn_96 (Nat.le_of_ble_eq_true rfl) (fun R hR => ?_); rw [Try.results96] at hR; refine wg_run ?_; (simp only [Try.f96, go_sem])
      repeat' (first | (first | (((first | apply sp1 | apply sp2 | apply sp3 | apply sp4 | apply sp5 | apply sp6 | apply sp7) <;> intro hb) <;> (simp only [go_sem, hb])) | ((first | apply wm_done | apply wt_done | apply wg_run | refine fk ?_ ?_) <;> (simp only [go_sem]))) | (first | refine cdq ?_ (hc := hh) | refine cmq ?_ (hc := hh) | refine ctq ?_ (hc := hh)); (simp only [go_sem]) | (first | refine cdq ?_ (hc := ho) | refine cmq ?_ (hc := ho) | refine ctq ?_ (hc := ho)); (simp only [go_sem]))
      first
        | refine wd_for [3, 15, 16, 17] (fun (x : Nat × List Ty) => [.one (match x.2 with | [] => .sc (.slice none 0 0) | a :: l => .row 2 0 (l.length + 1)), .one (.sl (teR t.kids)), .one (.sc (.int .i64 t.kids.length)), .one (.sc (.int .i64 (x.1 : Nat)))])
            (fun x => match x.2 with | [] => [] | a :: l => [⟨2, 25, .mut, tyR (a :: l)⟩])
            (fun x => x.1 ≤ t.kids.length ∧ x.2 = ownTys t.kind t.type ++ Tm.typess (t.kids.take x.1)) (fun x => t.kids.length - x.1) (0, []) ⟨Nat.zero_le _, by rw [e0]; rfl⟩ (hat [] (hI := ⟨rfl, rfl⟩)) ?_
        | refine wd_for [3, 15, 16, 17] (fun (x : Nat × List Ty) => [.one (match x.2 with | [] => .sc (.slice none 0 0) | a :: l => .row 2 0 (l.length + 1)), .one (.sl (teR t.kids)), .one (.sc (.int .i64 t.kids.length)), .one (.sc (.int .i64 (x.1 : Nat)))])
            (fun x => match x.2 with | [] => [] | a :: l => [⟨2, 25, .mut, tyR (a :: l)⟩])
            (fun x => x.1 ≤ t.kids.length ∧ x.2 = ownTys t.kind t.type ++ Tm.typess (t.kids.take x.1)) (fun x => t.kids.length - x.1) (0, [t.type]) ⟨Nat.zero_le _, by rw [e0]; rfl⟩ (hat [2] (hI := ⟨rfl, rfl⟩)) ?_
      rintro ⟨k, acc⟩ ⟨hk, hacc⟩ G hG
      simp only [] at hk hacc hG
      have hal : acc.length ≤ 1 + Tm.nodess t.kids := by
        have := ownTys_len t.kind t.type; have := Tm.typess_take_len t.kids k
        rw [hacc, List.length_append]; omega
      rcases acc with _ | ⟨a, acc⟩
      all_goals
        refine wg_run ?_
        (simp only [go_sem])
        ((first | apply sp1 | apply sp2 | apply sp3 | apply sp4 | apply sp5 | apply sp6 | apply sp7) <;> intro hb) <;> (simp only [go_sem, hb])
        · have hk1 : k < t.kids.length := by have := of_decide_eq_true hb; omega
          have hw1 := wrap_succ hk1 (by omega)
          have hc := iTypes _ hn (teKid t.kids k) (by have := teKid_lt hk1; omega)
          have hkl := Tm.types_len (teKid t.kids k)
          have hkn := Tm.nodess_le_take t.kids (k + 1)
          rw [Tm.nodess_take hk1] at hkn
          have hnx : ownTys t.kind t.type ++ Tm.typess (t.kids.take (k + 1)) = ownTys t.kind t.type ++ Tm.typess (t.kids.take k) ++ (teKid t.kids k).types := by rw [Tm.typess_take hk1, List.append_assoc]
          rw [← hacc] at hnx
          cases hkt : (teKid t.kids k).types with
          | nil =>
            rw [hkt] at hc hnx
            repeat' (first | (first | (simp only [go_sem, hw1, hb]) | (((first | apply sp1 | apply sp2 | apply sp3 | apply sp4 | apply sp5 | apply sp6 | apply sp7) <;> intro hb) <;> (simp only [go_sem, hb, hw1, hb])) | ((first | apply wm_done | apply wt_done | apply wg_run | refine fk ?_ ?_) <;> (simp only [go_sem, hw1, hb]))) | (first | refine cdq ?_ (hc := hc) | refine cmq ?_ (hc := hc) | refine ctq ?_ (hc := hc)); (simp only [go_sem]))
            rw [List.append_nil] at hnx
            first
              | exact hG (k + 1, []) _ _ ⟨by omega, hnx.symm⟩ (by simp only []; omega) (hat [] (hI := ⟨rfl, rfl⟩))
              | exact hG (k + 1, a :: acc) _ _ ⟨by omega, hnx.symm⟩ (by simp only []; omega) (hat [0] (hI := ⟨rfl, rfl⟩))
          | cons b m =>
            rw [hkt] at hc hnx hkl
            simp only [List.length_cons] at hkl hal
            have hcap1 : (m.length + 1) * 32 ≤ 140737488355328 := by omega
            first
              | (have hcap2 : (acc.length + 1 + (m.length + 1)) * 32 ≤ 140737488355328 := by omega
                 repeat' (first | (first | (simp only [go_sem, hw1, hb, hcap1, hcap2]) | (((first | apply sp1 | apply sp2 | apply sp3 | apply sp4 | apply sp5 | apply sp6 | apply sp7) <;> intro hb) <;> (simp only [go_sem, hb, hw1, hb, hcap1, hcap2])) | ((first | apply wm_done | apply wt_done | apply wg_run | refine fk ?_ ?_) <;> (simp only [go_sem, hw1, hb, hcap1, hcap2]))) | (first | refine cdq ?_ (hc := hc) | refine cmq ?_ (hc := hc) | refine ctq ?_ (hc := hc)); (simp only [go_sem]))
                 refine hG (k + 1, a :: acc ++ b :: m) _ _ ⟨by omega, hnx.symm⟩ (by simp only []; omega) (hat [2] (hI := ⟨?_, ?_⟩))
                 · simp only [List.cons_append, List.length_append, List.length_cons]
                   rw [show acc.length + 1 + (m.length + 1) = acc.length + (m.length + 1) + 1 by omega]
                 · simp only [List.cons_append, tyR, tyR_append])
              | (repeat' (first | (first | (simp only [go_sem, hw1, hb, hcap1]) | (((first | apply sp1 | apply sp2 | apply sp3 | apply sp4 | apply sp5 | apply sp6 | apply sp7) <;> intro hb) <;> (simp only [go_sem, hb, hw1, hb, hcap1])) | ((first | apply wm_done | apply wt_done | apply wg_run | refine fk ?_ ?_) <;> (simp only [go_sem, hw1, hb, hcap1]))) | (first | refine cdq ?_ (hc := hc) | refine cmq ?_ (hc := hc) | refine ctq ?_ (hc := hc)); (simp only [go_sem]))
                 refine hG (k + 1, b :: m) _ _ ⟨by omega, hnx.symm⟩ (by simp only []; omega) (hat [1] (hI := ⟨rfl, rfl⟩)))
        · have hk1 : t.kids.take k = t.kids := List.take_of_length_le (by have := of_decide_eq_false hb; omega)
          rw [hk1, ← Tm.types_eq] at hacc
          first
            | exact hR _ (rwn [] (hK := (.inl ⟨hacc.symm, rfl, rfl⟩)))
            | exact hR _ (rwn [0] (hK := (.inr ⟨by rw [← hacc]; rfl, by rw [← hacc]; rfl, by rw [← hacc]; simp⟩)))
theorem iEra1 (x : E) (h : x.wf = true) : AFn Try.prog 90 [.agg (teC x.tm)] (.agg (teC x.era1.tm)) := by
  have hb := base 1
  have hh := iHasType x.tm
  cases x with
  | lam x t a =>
    rw [show hasTy (E.tm (.lam x t a)).kind = true from rfl] at hh
    simp only [E.tm, E.era1, T.ty] at hh ⊢
    refine fn_in ?_; refine acl_in Try.func90 rfl isfn_90 (Nat.le_of_ble_eq_true rfl) (fun R hR => ?_); rw [Try.results90] at hR; refine wg_run ?_; (simp only [Try.f90, go_sem])
    repeat' (first | (first | (((first | apply sp1 | apply sp2 | apply sp3 | apply sp4 | apply sp5 | apply sp6 | apply sp7) <;> intro hb) <;> (simp only [go_sem, hb])) | ((first | apply wm_done | apply wt_done | apply wg_run | refine fk ?_ ?_) <;> (simp only [go_sem]))) | (first | refine cdq ?_ (hc := hb) | refine cmq ?_ (hc := hb) | refine ctq ?_ (hc := hb)); (simp only [go_sem]) | (first | refine cdq ?_ (hc := hh) | refine cmq ?_ (hc := hh) | refine ctq ?_ (hc := hh)); (simp only [go_sem]) | ((first | refine mxq6 [] ?_ | refine mxq5 [] ?_ | refine mxq4 [] ?_ | refine mxq3 [] ?_ | refine mxq2 [] ?_ | refine mxq1 [] ?_ | refine mxq0 [] ?_ | fail); (simp only [go_sem])) | fail)
    (refine hR _ (rat [] (hK := ⟨rfl, rfl⟩)))
  | asc t a =>
    rw [show hasTy (E.tm (.asc t a)).kind = true from rfl] at hh
    simp only [E.tm, E.era1, T.ty] at hh ⊢
    refine fn_in ?_; refine acl_in Try.func90 rfl isfn_90 (Nat.le_of_ble_eq_true rfl) (fun R hR => ?_); rw [Try.results90] at hR; refine wg_run ?_; (simp only [Try.f90, go_sem])
    repeat' (first | (first | (((first | apply sp1 | apply sp2 | apply sp3 | apply sp4 | apply sp5 | apply sp6 | apply sp7) <;> intro hb) <;> (simp only [go_sem, hb])) | ((first | apply wm_done | apply wt_done | apply wg_run | refine fk ?_ ?_) <;> (simp only [go_sem]))) | (first | refine cdq ?_ (hc := hb) | refine cmq ?_ (hc := hb) | refine ctq ?_ (hc := hb)); (simp only [go_sem]) | (first | refine cdq ?_ (hc := hh) | refine cmq ?_ (hc := hh) | refine ctq ?_ (hc := hh)); (simp only [go_sem]) | ((first | refine mxq6 [] ?_ | refine mxq5 [] ?_ | refine mxq4 [] ?_ | refine mxq3 [] ?_ | refine mxq2 [] ?_ | refine mxq1 [] ?_ | refine mxq0 [] ?_ | fail); (simp only [go_sem])) | fail)
    (refine hR _ (rat [] (hK := ⟨rfl, rfl⟩)))
  | _ =>
    simp only [E.tm, nd, E.era1] at hh ⊢
    simp only [Tm.kind, hasTy] at hh
    refine fn_in ?_; refine acl_in Try.func90 rfl isfn_90 (Nat.le_of_ble_eq_true rfl) (fun R hR => ?_); rw [Try.results90] at hR; refine wg_run ?_; (simp only [Try.f90, go_sem])
    repeat' (first | (first | (((first | apply sp1 | apply sp2 | apply sp3 | apply sp4 | apply sp5 | apply sp6 | apply sp7) <;> intro hb) <;> (simp only [go_sem, hb])) | ((first | apply wm_done | apply wt_done | apply wg_run | refine fk ?_ ?_) <;> (simp only [go_sem]))) | (first | refine cdq ?_ (hc := hb) | refine cmq ?_ (hc := hb) | refine ctq ?_ (hc := hb)); (simp only [go_sem]) | (first | refine cdq ?_ (hc := hh) | refine cmq ?_ (hc := hh) | refine ctq ?_ (hc := hh)); (simp only [go_sem]) | ((first | refine mxq6 [] ?_ | refine mxq5 [] ?_ | refine mxq4 [] ?_ | refine mxq3 [] ?_ | refine mxq2 [] ?_ | refine mxq1 [] ?_ | refine mxq0 [] ?_ | fail); (simp only [go_sem])) | fail)
    (refine hR _ (rat [] (hK := ⟨rfl, rfl⟩)))
theorem iErase (e : E) (h : e.okT = true) : AFn Try.prog 31 [.agg (teC e.tm)] (.tup [.agg (teC (e.mapE E.era1).tm), .one (.sc (.bool true))]) := by
  have h1 := iTermV e.tm
  rw [E.termV_tm, h] at h1
  have hw : e.wf = true := by simp only [E.okT, Bool.and_eq_true] at h; exact h.1
  have h2 := iMapped 90 E.era1 E.era1_wf iEra1 e hw
  refine fn_in ?_; refine acl_in Try.func31 rfl isfn_31 (Nat.le_of_ble_eq_true rfl) (fun R hR => ?_); rw [Try.results31] at hR; refine wg_run ?_; (simp only [Try.f31, go_sem])
  repeat' (first | (first | (((first | apply sp1 | apply sp2 | apply sp3 | apply sp4 | apply sp5 | apply sp6 | apply sp7) <;> intro hb) <;> (simp only [go_sem, hb])) | ((first | apply wm_done | apply wt_done | apply wg_run | refine fk ?_ ?_) <;> (simp only [go_sem]))) | (first | refine cdq ?_ (hc := h1) | refine cmq ?_ (hc := h1) | refine ctq ?_ (hc := h1)); (simp only [go_sem]) | (first | refine cdq ?_ (hc := h2) | refine cmq ?_ (hc := h2) | refine ctq ?_ (hc := h2)); (simp only [go_sem]) | ((first | refine mxq6 [] ?_ | refine mxq5 [] ?_ | refine mxq4 [] ?_ | refine mxq3 [] ?_ | refine mxq2 [] ?_ | refine mxq1 [] ?_ | refine mxq0 [] ?_ | fail); (simp only [go_sem])) | fail)
  (refine hR _ (rat [] (hK := ⟨rfl, rfl⟩)))
theorem iEraseBad (t : Tm) (h : t.termV = false) : AFn Try.prog 31 [.agg (teC t)] (.tup [.agg (teC tm0), .one (.sc (.bool false))]) := by
  have h1 := iTermV t
  rw [h] at h1
  simp only [tm0, noTy]
  refine fn_in ?_; refine acl_in Try.func31 rfl isfn_31 (Nat.le_of_ble_eq_true rfl) (fun R hR => ?_); rw [Try.results31] at hR; refine wg_run ?_; (simp only [Try.f31, go_sem])
  repeat' (first | (first | (((first | apply sp1 | apply sp2 | apply sp3 | apply sp4 | apply sp5 | apply sp6 | apply sp7) <;> intro hb) <;> (simp only [go_sem, hb])) | ((first | apply wm_done | apply wt_done | apply wg_run | refine fk ?_ ?_) <;> (simp only [go_sem]))) | (first | refine cdq ?_ (hc := h1) | refine cmq ?_ (hc := h1) | refine ctq ?_ (hc := h1)); (simp only [go_sem]) | fail)
  (refine hR _ (rat [] (hK := ⟨rfl, rfl⟩)))
theorem iBlurred (e : E) (h : e.okT = true) (m : Nat) (hm : m < 2 ^ 62) : AFn Try.prog 103 [.agg (teC e.tm), .one (.sc (.int .i64 (m : Nat)))] (.agg (teC (e.blur m).tm)) := by
  have h' := h
  simp only [E.okT, Bool.and_eq_true, decide_eq_true_eq] at h'
  have hz := E.size_okT h
  have hd := E.tl_depth e h'.1 h'.2.1
  have hc := iTypesO 100000 (by omega) e.tm (by omega)
  have ht := E.types_tm e h'.2.1
  have hnl := e.tl_length
  have hn30 : e.nt ≤ 30 := by
    have := Tm.types_len e.tm; rw [ht, List.length_map, hnl, E.tm_nodes] at this; omega
  rw [ht] at hc
  have hret := iRetyped e (blurL m e.tl) h'.1 h'.2.1 (blurL_depth m hd) (by rw [blurL_length, hnl]; exact Nat.le_refl _)
  have hb1 := base 1
  rw [show (e.wt (blurL m e.tl)).1 = e.blur m from rfl] at hret
  generalize (e.wt (blurL m e.tl)).2 = L2 at hret
  generalize e.tl = L at *
  generalize e.tm = t at *
  generalize (e.blur m).tm = t2 at *
  refine fn_in ?_; refine acl_in Try.func103 rfl isfn_103 (Nat.le_of_ble_eq_true rfl) (fun R hR => ?_); rw [Try.results103] at hR; refine wg_run ?_; (simp only [Try.f103, go_sem])
  repeat' (first | (first | (((first | apply sp1 | apply sp2 | apply sp3 | apply sp4 | apply sp5 | apply sp6 | apply sp7) <;> intro hb) <;> (simp only [go_sem, hb])) | ((first | apply wm_done | apply wt_done | apply wg_run | refine fk ?_ ?_) <;> (simp only [go_sem]))) | ((first | refine kdq [] ?_ (hc := hc) | refine kmq [] ?_ (hc := hc) | refine ktq [] ?_ (hc := hc)); rintro _ _ (⟨hL0, rfl, rfl⟩ | ⟨rfl, rfl, hL0⟩) <;> (simp only [go_sem])) | fail)
  · have hb0 : blurL m L = [] := by rw [← List.length_eq_zero_iff, blurL_length]; simpa using hL0
    rw [hb0] at hret
    repeat' (first | (first | (((first | apply sp1 | apply sp2 | apply sp3 | apply sp4 | apply sp5 | apply sp6 | apply sp7) <;> intro hb) <;> (simp only [go_sem, hb])) | ((first | apply wm_done | apply wt_done | apply wg_run | refine fk ?_ ?_) <;> (simp only [go_sem]))) | (first | (refine wl_next (wg_run ?_); (simp only [go_sem])) | refine wd_rounds 6 ?_) | (first | refine cdq ?_ (hc := hret) | refine cmq ?_ (hc := hret) | refine ctq ?_ (hc := hret)); (simp only [go_sem]) | ((first | refine mxq6 [] ?_ | refine mxq5 [] ?_ | refine mxq4 [] ?_ | refine mxq3 [] ?_ | refine mxq2 [] ?_ | refine mxq1 [] ?_ | refine mxq0 [] ?_ | fail); (simp only [go_sem])) | fail)
    (refine hR _ (rat [] (hK := ⟨rfl, rfl⟩)))
  · simp only [List.length_map] at hL0 ⊢
    refine wd_for [1, 2, 4, 5, 12, 13] (fun k => [.one (.sc (.int .i64 (m : Nat))), .one (.ptr 9 0 0 0), .one (.ptr 9 1 0 0), .one (.row 2 2 L.length), .one (.sc (.int .i64 (L.length : Nat))), .one (.sc (.int .i64 (k : Nat)))])
      (fun k => [⟨9, 28, .mut, [teC t]⟩, ⟨9, 28, .mut, [[.sc (.int .i64 0), .sc (.string { data := { toList := [] } }), .sc (.int .i64 0), .sc (.int .i64 0), .sc (.slice none 0 0), .sc (.int .i64 0), .sc (.slice none 0 0), .sc (.int .i64 0), .sc (.slice none 0 0)]]⟩, ⟨2, 25, .mut, tyR ((blurK m L k).map T.ty)⟩])
      (fun k => k ≤ L.length) (fun k => L.length - k) 0 (Nat.zero_le _) (hat [0, 1, 2] (hI := ⟨rfl, by rw [blurK_zero]⟩)) ?_
    rintro k hk G hG
    refine wg_run ?_
    (simp only [go_sem])
    ((first | apply sp1 | apply sp2 | apply sp3 | apply sp4 | apply sp5 | apply sp6 | apply sp7) <;> intro hb) <;> (simp only [go_sem, hb])
    · have hk1 : k < L.length := by have := of_decide_eq_true hb; omega
      have hw1 := wrap_succ hk1 (by omega)
      have hin : decide (k < L.length) = true := by simpa using hk1
      obtain ⟨c1, c2, hg⟩ : ∃ c1 c2, (tyR ((blurK m L k).map T.ty))[k]? = some [c1, c2] := by
        rw [tyR_get, List.getElem?_map, blurK_get m L k k hk1]
        exact ⟨_, _, congrArg some (tyC_eq _)⟩
      have hd := hb
      clear hb
      repeat' (first | (simp only [go_sem, hw1, hd, hin]) | ((first | refine mxq6 [] ?_ | refine mxq5 [] ?_ | refine mxq4 [] ?_ | refine mxq3 [] ?_ | refine mxq2 [] ?_ | refine mxq1 [] ?_ | refine mxq0 [] ?_ | fail); (simp only [go_sem, hw1, hd, hin])) | ((first | apply wm_done | apply wt_done | apply wg_run) <;> (simp only [go_sem, hw1, hd, hin])) | fail)
      ((first | apply sp1 | apply sp2 | apply sp3 | apply sp4 | apply sp5 | apply sp6 | apply sp7) <;> intro hb)
      · have htb : m.testBit k = true := by rw [← bit_at m k hm (by omega)]; exact hb
        have hset := tyRset ((blurK m L k).map T.ty) k T.any.ty
        rw [← List.map_set, blurK_set m L hk1 htb] at hset
        simp only [T.ty] at hset
        clear hb
        repeat' (first | (first | (simp only [go_sem, hw1, hd, hin, hg, hset]) | (((first | apply sp1 | apply sp2 | apply sp3 | apply sp4 | apply sp5 | apply sp6 | apply sp7) <;> intro hb) <;> (simp only [go_sem, hb, hw1, hd, hin, hg, hset])) | ((first | apply wm_done | apply wt_done | apply wg_run | refine fk ?_ ?_) <;> (simp only [go_sem, hw1, hd, hin, hg, hset]))) | (first | refine cdq ?_ (hc := hb1) | refine cmq ?_ (hc := hb1) | refine ctq ?_ (hc := hb1)); (simp only [go_sem]) | ((first | refine mxq6 [] ?_ | refine mxq5 [] ?_ | refine mxq4 [] ?_ | refine mxq3 [] ?_ | refine mxq2 [] ?_ | refine mxq1 [] ?_ | refine mxq0 [] ?_ | fail); (simp only [go_sem, hw1, hd, hin, hg, hset])) | fail)
        exact hG (k + 1) _ _ (by omega) (by omega) (hat [0, 1, 2] (hI := ⟨rfl, rfl⟩))
      · have htb : m.testBit k = false := by rw [← bit_at m k hm (by omega)]; exact hb
        clear hb
        repeat' (first | (first | (simp only [go_sem, hw1, hd, hin]) | (((first | apply sp1 | apply sp2 | apply sp3 | apply sp4 | apply sp5 | apply sp6 | apply sp7) <;> intro hb) <;> (simp only [go_sem, hb, hw1, hd, hin])) | ((first | apply wm_done | apply wt_done | apply wg_run | refine fk ?_ ?_) <;> (simp only [go_sem, hw1, hd, hin]))) | ((first | refine mxq6 [] ?_ | refine mxq5 [] ?_ | refine mxq4 [] ?_ | refine mxq3 [] ?_ | refine mxq2 [] ?_ | refine mxq1 [] ?_ | refine mxq0 [] ?_ | fail); (simp only [go_sem, hw1, hd, hin])) | fail)
        exact hG (k + 1) _ _ (by omega) (by omega) (hat [0, 1, 2] (hI := ⟨rfl, by rw [blurK_keep m L hk1 htb]⟩))
    · have hb0 : blurK m L k = blurL m L := blurK_all m L (by have := of_decide_eq_false hb; omega)
      rw [hb0]
      have hlb : (blurL m L).length = L.length := blurL_length m L
      have htk : (tyR ((blurL m L).map T.ty)).take L.length = tyR ((blurL m L).map T.ty) := List.take_of_length_le (by rw [tyR_length, List.length_map, hlb]; exact Nat.le_refl _)
      repeat' (first | (first | (simp only [go_sem, hb, hlb, htk, List.length_map]) | (((first | apply sp1 | apply sp2 | apply sp3 | apply sp4 | apply sp5 | apply sp6 | apply sp7) <;> intro hb) <;> (simp only [go_sem, hb, hb, hlb, htk, List.length_map])) | ((first | apply wm_done | apply wt_done | apply wg_run | refine fk ?_ ?_) <;> (simp only [go_sem, hb, hlb, htk, List.length_map]))) | (first | refine cd (hp := (by (simp only [go_sem, hlb, htk, List.length_map]); first | done | rfl)) (hc := hret) (hK := ?_) | refine cm (hp := (by (simp only [go_sem, hlb, htk, List.length_map]); first | done | rfl)) (hc := hret) (hK := ?_) | refine ct (hp := (by (simp only [go_sem, hlb, htk, List.length_map]); first | done | rfl)) (hc := hret) (hK := ?_)); (simp only [go_sem, hlb, htk, List.length_map]) | ((first | refine mxq6 [] ?_ | refine mxq5 [] ?_ | refine mxq4 [] ?_ | refine mxq3 [] ?_ | refine mxq2 [] ?_ | refine mxq1 [] ?_ | refine mxq0 [] ?_ | fail); (simp only [go_sem, hb, hlb, htk, List.length_map])) | fail)
      (refine hR _ (rat [] (hK := ⟨rfl, rfl⟩)))
theorem nt30 {e : E} (h : e.okT = true) : e.nt ≤ 30 := by
  simp only [E.okT, Bool.and_eq_true, decide_eq_true_eq] at h
  have := Tm.types_len e.tm
  rw [E.types_tm e h.2.1, List.length_map, E.tl_length, E.tm_nodes] at this; omega
theorem iBlurTerm (e : E) (h : e.okT = true) (m : Nat) (hm : m < 2 ^ e.nt) : AFn Try.prog 40 [.agg (teC e.tm), .one (.sc (.int .i64 (m : Nat)))] (.tup [.agg (teC (e.blur m).tm), .one (.sc (.bool true))]) := by
  have hz := E.size_okT h
  have hn30 := nt30 h
  have hp30 : 2 ^ e.nt ≤ 2 ^ 30 := Nat.pow_le_pow_right (by omega) hn30
  have h1 := iTermV e.tm
  rw [E.termV_tm, h] at h1
  have h' := h
  simp only [E.okT, Bool.and_eq_true] at h'
  have h2 := iTypes 100000 (by omega) e.tm (by omega)
  rw [E.types_tm e h'.2.1] at h2
  have h3 := iBlurred e h m (by omega)
  have hnl := e.tl_length
  have hs := shl_at e.nt (by omega)
  have hs2 : IntKind.i64.wrap (((2 ^ e.nt : Nat) : Int) - 1) = ((2 ^ e.nt : Nat) : Int) - 1 := by
    generalize 2 ^ e.nt = x at *
    rw [IntWalk.i64_in _ (by omega)]
  have h4 := within (m : Nat) 0 (((2 ^ e.nt : Nat) : Int) - 1)
  have d1 : decide (0 ≤ (m : Int)) = true := decide_eq_true (by omega)
  have d2 : decide ((m : Int) ≤ ((2 ^ e.nt : Nat) : Int) - 1) = true := decide_eq_true (by generalize 2 ^ e.nt = x at *; omega)
  rw [d1, d2] at h4
  generalize 2 ^ e.nt = x at *
  generalize e.tl = L at *
  generalize e.nt = n at *
  generalize e.tm = t at *
  generalize (e.blur m).tm = t2 at *
  subst hnl
  refine fn_in ?_; refine acl_in Try.func40 rfl isfn_40 (Nat.le_of_ble_eq_true rfl) (fun R hR => ?_); rw [Try.results40] at hR; refine wg_run ?_; (simp only [Try.f40, go_sem])
  repeat' (first | (first | (simp only [go_sem, hs, hs2]) | (((first | apply sp1 | apply sp2 | apply sp3 | apply sp4 | apply sp5 | apply sp6 | apply sp7) <;> intro hb) <;> (simp only [go_sem, hb, hs, hs2])) | ((first | apply wm_done | apply wt_done | apply wg_run | refine fk ?_ ?_) <;> (simp only [go_sem, hs, hs2]))) | (first | refine cdq ?_ (hc := h1) | refine cmq ?_ (hc := h1) | refine ctq ?_ (hc := h1)); (simp only [go_sem]) | (first | refine cd (hp := (by (simp only [go_sem, List.length_map]); first | done | rfl)) (hc := h2) (hK := ?_) | refine cm (hp := (by (simp only [go_sem, List.length_map]); first | done | rfl)) (hc := h2) (hK := ?_) | refine ct (hp := (by (simp only [go_sem, List.length_map]); first | done | rfl)) (hc := h2) (hK := ?_)); (simp only [go_sem, List.length_map]) | (first | refine cdq ?_ (hc := h3) | refine cmq ?_ (hc := h3) | refine ctq ?_ (hc := h3)); (simp only [go_sem]) | (first | refine cd (hp := (by (simp only [go_sem, hs, hs2]); first | done | rfl)) (hc := h4) (hK := ?_) | refine cm (hp := (by (simp only [go_sem, hs, hs2]); first | done | rfl)) (hc := h4) (hK := ?_) | refine ct (hp := (by (simp only [go_sem, hs, hs2]); first | done | rfl)) (hc := h4) (hK := ?_)); (simp only [go_sem, hs, hs2]) | ((first | refine mxq6 [] ?_ | refine mxq5 [] ?_ | refine mxq4 [] ?_ | refine mxq3 [] ?_ | refine mxq2 [] ?_ | refine mxq1 [] ?_ | refine mxq0 [] ?_ | fail); (simp only [go_sem, hs, hs2])) | fail)
  (refine hR _ (rat [] (hK := ⟨rfl, rfl⟩)))
theorem iBlurNot (e : E) (h : e.okT = true) (m : Int) (hm : m < 0 ∨ ((2 ^ e.nt : Nat) : Int) ≤ m) : AFn Try.prog 40 [.agg (teC e.tm), .one (.sc (.int .i64 m))] (.tup [.agg (teC tm0), .one (.sc (.bool false))]) := by
  have hz := E.size_okT h
  have hn30 := nt30 h
  have hp30 : 2 ^ e.nt ≤ 2 ^ 30 := Nat.pow_le_pow_right (by omega) hn30
  have h1 := iTermV e.tm
  rw [E.termV_tm, h] at h1
  have h' := h
  simp only [E.okT, Bool.and_eq_true] at h'
  have h2 := iTypes 100000 (by omega) e.tm (by omega)
  rw [E.types_tm e h'.2.1] at h2
  have hnl := e.tl_length
  have hs := shl_at e.nt (by omega)
  have hs2 : IntKind.i64.wrap (((2 ^ e.nt : Nat) : Int) - 1) = ((2 ^ e.nt : Nat) : Int) - 1 := by
    generalize 2 ^ e.nt = x at *
    rw [IntWalk.i64_in _ (by omega)]
  have h4 := within m 0 (((2 ^ e.nt : Nat) : Int) - 1)
  have d : (decide (0 ≤ m) && decide (m ≤ ((2 ^ e.nt : Nat) : Int) - 1)) = false := by
    generalize 2 ^ e.nt = x at *
    rw [Bool.and_eq_false_iff, decide_eq_false_iff_not, decide_eq_false_iff_not]; omega
  rw [d] at h4
  generalize 2 ^ e.nt = x at *
  generalize e.tl = L at *
  generalize e.nt = n at *
  generalize e.tm = t at *
  subst hnl
  simp only [tm0, noTy]
  refine fn_in ?_; refine acl_in Try.func40 rfl isfn_40 (Nat.le_of_ble_eq_true rfl) (fun R hR => ?_); rw [Try.results40] at hR; refine wg_run ?_; (simp only [Try.f40, go_sem])
  repeat' (first | (first | (simp only [go_sem, hs, hs2]) | (((first | apply sp1 | apply sp2 | apply sp3 | apply sp4 | apply sp5 | apply sp6 | apply sp7) <;> intro hb) <;> (simp only [go_sem, hb, hs, hs2])) | ((first | apply wm_done | apply wt_done | apply wg_run | refine fk ?_ ?_) <;> (simp only [go_sem, hs, hs2]))) | (first | refine cdq ?_ (hc := h1) | refine cmq ?_ (hc := h1) | refine ctq ?_ (hc := h1)); (simp only [go_sem]) | (first | refine cd (hp := (by (simp only [go_sem, List.length_map]); first | done | rfl)) (hc := h2) (hK := ?_) | refine cm (hp := (by (simp only [go_sem, List.length_map]); first | done | rfl)) (hc := h2) (hK := ?_) | refine ct (hp := (by (simp only [go_sem, List.length_map]); first | done | rfl)) (hc := h2) (hK := ?_)); (simp only [go_sem, List.length_map]) | (first | refine cd (hp := (by (simp only [go_sem, hs, hs2]); first | done | rfl)) (hc := h4) (hK := ?_) | refine cm (hp := (by (simp only [go_sem, hs, hs2]); first | done | rfl)) (hc := h4) (hK := ?_) | refine ct (hp := (by (simp only [go_sem, hs, hs2]); first | done | rfl)) (hc := h4) (hK := ?_)); (simp only [go_sem, hs, hs2]) | ((first | refine mxq6 [] ?_ | refine mxq5 [] ?_ | refine mxq4 [] ?_ | refine mxq3 [] ?_ | refine mxq2 [] ?_ | refine mxq1 [] ?_ | refine mxq0 [] ?_ | fail); (simp only [go_sem, hs, hs2])) | fail)
  (refine hR _ (rat [] (hK := ⟨rfl, rfl⟩)))
theorem iBlurBad (t : Tm) (h : t.termV = false) (m : Int) : AFn Try.prog 40 [.agg (teC t), .one (.sc (.int .i64 m))] (.tup [.agg (teC tm0), .one (.sc (.bool false))]) := by
  have h1 := iTermV t
  rw [h] at h1
  simp only [tm0, noTy]
  refine fn_in ?_; refine acl_in Try.func40 rfl isfn_40 (Nat.le_of_ble_eq_true rfl) (fun R hR => ?_); rw [Try.results40] at hR; refine wg_run ?_; (simp only [Try.f40, go_sem])
  repeat' (first | (first | (((first | apply sp1 | apply sp2 | apply sp3 | apply sp4 | apply sp5 | apply sp6 | apply sp7) <;> intro hb) <;> (simp only [go_sem, hb])) | ((first | apply wm_done | apply wt_done | apply wg_run | refine fk ?_ ?_) <;> (simp only [go_sem]))) | (first | refine cdq ?_ (hc := h1) | refine cmq ?_ (hc := h1) | refine ctq ?_ (hc := h1)); (simp only [go_sem]) | ((first | refine mxq6 [] ?_ | refine mxq5 [] ?_ | refine mxq4 [] ?_ | refine mxq3 [] ?_ | refine mxq2 [] ?_ | refine mxq1 [] ?_ | refine mxq0 [] ?_ | fail); (simp only [go_sem])) | fail)
  (refine hR _ (rat [] (hK := ⟨rfl, rfl⟩)))
end Go.Proofs.Ytfgjiamolknicaa
/- Terms: sameness, in the program; on shadows. -/
namespace Go.Proofs.Ytfgjiamolknicaa
open Go.RowKit Go.Proofs.Sh Go.Proofs.Grad
set_option maxRecDepth 100000
set_option maxHeartbeats 8000000
theorem iTmSame (n : Nat) (hn : n ≤ 4611686018427387904) : ∀ a b : Tm, a.size < n → AFn Try.prog 21 [.agg (teC a), .agg (teC b)] (.one (.sc (.bool (a.same b)))) := by
  induction n with
  | zero => intro a b h; omega
  | succ n ih =>
    intro a b h
    have hl := telen_lt a
    have hk : ∀ k, k < a.kids.length → k < b.kids.length → AFn Try.prog 21 [.agg (teC (teKid a.kids k)), .agg (teC (teKid b.kids k))] (.one (.sc (.bool ((teKid a.kids k).same (teKid b.kids k))))) := fun k h1 h2 => ih (by omega) _ _ (by have := teKid_lt h1; omega)
    have hf := teEqFunc _ Tm.same a.kids b.kids (by omega) hk
    have h1 := iSame 4611686018427387904 (by omega) a.type b.type (by cases a; simp only [Tm.size, Tm.type] at *; omega)
    have h2 := iSame 4611686018427387904 (by omega) a.frm b.frm (by cases a; simp only [Tm.size, Tm.frm] at *; omega)
    clear hk ih
    have e : a.same b = (a.kind == b.kind && (a.name.toList == b.name.toList && (a.num == b.num && (a.type.same b.type && (a.frm.same b.frm && (a.label == b.label && teall2 Tm.same a.kids b.kids)))))) := by
      cases a; cases b; rw [← tesames_all2]; simp only [Tm.same, Tm.kind, Tm.name, Tm.num, Tm.type, Tm.frm, Tm.label, Tm.kids, Bool.and_assoc]
    rw [e]
    refine fn_in ?_; refine acl_in Try.func21 rfl isfn_21 (Nat.le_of_ble_eq_true rfl) (fun R hR => ?_); rw [Try.results21] at hR; refine wg_run ?_; (simp only [Try.f21, go_sem])
    repeat' (first | (first | (((first | apply sp1 | apply sp2 | apply sp3 | apply sp4 | apply sp5 | apply sp6 | apply sp7) <;> intro hb) <;> (simp only [go_sem, hb])) | ((first | apply wm_done | apply wt_done | apply wg_run | refine fk ?_ ?_) <;> (simp only [go_sem]))) | (first | refine cdq ?_ (hc := h1) | refine cmq ?_ (hc := h1) | refine ctq ?_ (hc := h1)); (simp only [go_sem]) | (first | refine cdq ?_ (hc := h2) | refine cmq ?_ (hc := h2) | refine ctq ?_ (hc := h2)); (simp only [go_sem]) | (first | refine cdq ?_ (hc := hf) | refine cmq ?_ (hc := hf) | refine ctq ?_ (hc := hf)); (simp only [go_sem]) | ((first | refine mxq6 [] ?_ | refine mxq5 [] ?_ | refine mxq4 [] ?_ | refine mxq3 [] ?_ | refine mxq2 [] ?_ | refine mxq1 [] ?_ | refine mxq0 [] ?_ | fail); (simp only [go_sem])))
    all_goals (refine hR _ (rat [] (hK := ⟨?_, rfl⟩)))
    all_goals (clear hR h1 h2 hf; simp_all)
end Go.Proofs.Ytfgjiamolknicaa
/- Blurring with all bits and with none. On shadows. -/
namespace Go.Proofs.Ytfgjiamolknicaa
open Go.RowKit Go.Proofs.Sh Go.Proofs.Grad
set_option maxRecDepth 100000
set_option maxHeartbeats 16000000
theorem tmRefl (t : Tm) (ht : t.size < 4611686018427387904) : AFn Try.prog 21 [.agg (teC t), .agg (teC t)] (.one (.sc (.bool true))) := by
  have := iTmSame 4611686018427387904 (by omega) t t ht
  rwa [Tm.same_refl] at this
theorem lBlurAll (l : List Int) (hc : ∀ k, 0 ≤ byte l k ∧ byte l k < 256) : AFn Try.prog 8 [.one (.sl (byR l))] (.one (.sc (.bool true))) := by
  by_cases hlen : 1048576 < l.length
  · have hg : decide (((l.length : Nat) : Int) > 1048576) = true := by simp; omega
    refine fn_in ?_; refine acl_in Try.func8 rfl isfn_8 (Nat.le_of_ble_eq_true rfl) (fun R hR => ?_); rw [Try.results8] at hR; refine wg_run ?_; (simp only [Try.f8, go_sem, hg])
    (refine hR _ (rat [] (hK := ⟨rfl, rfl⟩)))
  · have hg : decide (((l.length : Nat) : Int) > 1048576) = false := by simp; omega
    have hd := dCountSlots l ⟨by omega, hc⟩
    refine fn_in ?_; refine acl_in Try.func8 rfl isfn_8 (Nat.le_of_ble_eq_true rfl) (fun R hR => ?_); rw [Try.results8] at hR; refine wg_run ?_; (simp only [Try.f8, go_sem, hg])
    ((first | refine kdq [] ?_ (hc := hd) | refine kmq [] ?_ (hc := hd) | refine ktq [] ?_ (hc := hd)); rintro _ _ ⟨x, rfl, hx, rfl⟩ <;> (simp only [go_sem]))
    have h1 := iCountSlots x (by omega)
    have h2 := sCountSlots x (by omega)
    have h3 := iTermV x
    cases ev : x.termV
    · rw [ev] at h3
      repeat' (first | (first | (simp only [go_sem, int_bne, beq_self_eq_true]) | (((first | apply sp1 | apply sp2 | apply sp3 | apply sp4 | apply sp5 | apply sp6 | apply sp7) <;> intro hb) <;> (simp only [go_sem, hb, int_bne, beq_self_eq_true])) | ((first | apply wm_done | apply wt_done | apply wg_run | refine fk ?_ ?_) <;> (simp only [go_sem, int_bne, beq_self_eq_true]))) | (first | refine cdq ?_ (hc := h1) | refine cmq ?_ (hc := h1) | refine ctq ?_ (hc := h1)); (simp only [go_sem]) | (first | refine cdq ?_ (hc := h2) | refine cmq ?_ (hc := h2) | refine ctq ?_ (hc := h2)); (simp only [go_sem]) | (first | refine cdq ?_ (hc := h3) | refine cmq ?_ (hc := h3) | refine ctq ?_ (hc := h3)); (simp only [go_sem]) | ((first | refine mxq6 [] ?_ | refine mxq5 [] ?_ | refine mxq4 [] ?_ | refine mxq3 [] ?_ | refine mxq2 [] ?_ | refine mxq1 [] ?_ | refine mxq0 [] ?_ | fail); (simp only [go_sem, int_bne, beq_self_eq_true])) | fail)
      all_goals (refine hR _ (rat [] (hK := ⟨rfl, rfl⟩)))
    · obtain ⟨e, rfl, ho⟩ := Tm.termV_E ev
      rw [ev] at h3
      rw [typesV_E ho, List.length_map, E.tl_length] at h1 h2
      have hn30 := nt30 ho
      have hp0 : 0 < 2 ^ e.nt := Nat.two_pow_pos _
      have hp30 : 2 ^ e.nt ≤ 2 ^ 30 := Nat.pow_le_pow_right (by omega) hn30
      have hs := shl_at e.nt (by omega)
      have hs2 : IntKind.i64.wrap (((2 ^ e.nt : Nat) : Int) - 1) = ((2 ^ e.nt - 1 : Nat) : Int) := by
        generalize 2 ^ e.nt = x at *
        rw [IntWalk.i64_in _ (by omega)]; omega
      have h4 := iBlurTerm e ho (2 ^ e.nt - 1) (by omega)
      have h5 := iBlurTerm e ho 0 (by omega)
      have h6 := iErase e ho
      rw [E.blur_full] at h4
      rw [E.blur_zero] at h5
      have hz := E.size_okT ho
      have hz2 : (e.mapE E.era1).tm.size ≤ 1200 := by rw [← E.blur_full]; exact E.size_okT (E.blur_okT ho _)
      have h7 := tmRefl e.tm (by omega)
      have h8 := tmRefl (e.mapE E.era1).tm (by omega)
      simp only [Int.natCast_zero] at h5
      generalize (2 ^ e.nt - 1) = y at *
      generalize 2 ^ e.nt = x at *
      generalize (e.mapE E.era1).tm = t2 at *
      generalize e.tm = t at *
      generalize e.nt = n at *
      repeat' (first | (first | (simp only [go_sem, int_bne, beq_self_eq_true, hs, hs2]) | (((first | apply sp1 | apply sp2 | apply sp3 | apply sp4 | apply sp5 | apply sp6 | apply sp7) <;> intro hb) <;> (simp only [go_sem, hb, int_bne, beq_self_eq_true, hs, hs2])) | ((first | apply wm_done | apply wt_done | apply wg_run | refine fk ?_ ?_) <;> (simp only [go_sem, int_bne, beq_self_eq_true, hs, hs2]))) | (first | refine cdq ?_ (hc := h1) | refine cmq ?_ (hc := h1) | refine ctq ?_ (hc := h1)); (simp only [go_sem]) | (first | refine cdq ?_ (hc := h2) | refine cmq ?_ (hc := h2) | refine ctq ?_ (hc := h2)); (simp only [go_sem]) | (first | refine cdq ?_ (hc := h3) | refine cmq ?_ (hc := h3) | refine ctq ?_ (hc := h3)); (simp only [go_sem]) | (first | refine cd (hp := (by (simp only [go_sem, hs, hs2]); first | done | rfl)) (hc := h4) (hK := ?_) | refine cm (hp := (by (simp only [go_sem, hs, hs2]); first | done | rfl)) (hc := h4) (hK := ?_) | refine ct (hp := (by (simp only [go_sem, hs, hs2]); first | done | rfl)) (hc := h4) (hK := ?_)); (simp only [go_sem, hs, hs2]) | (first | refine cdq ?_ (hc := h5) | refine cmq ?_ (hc := h5) | refine ctq ?_ (hc := h5)); (simp only [go_sem]) | (first | refine cdq ?_ (hc := h6) | refine cmq ?_ (hc := h6) | refine ctq ?_ (hc := h6)); (simp only [go_sem]) | (first | refine cdq ?_ (hc := h7) | refine cmq ?_ (hc := h7) | refine ctq ?_ (hc := h7)); (simp only [go_sem]) | (first | refine cdq ?_ (hc := h8) | refine cmq ?_ (hc := h8) | refine ctq ?_ (hc := h8)); (simp only [go_sem]) | ((first | refine mxq6 [] ?_ | refine mxq5 [] ?_ | refine mxq4 [] ?_ | refine mxq3 [] ?_ | refine mxq2 [] ?_ | refine mxq1 [] ?_ | refine mxq0 [] ?_ | fail); (simp only [go_sem, int_bne, beq_self_eq_true, hs, hs2])) | (first | (refine tr (.op 0 false (.op 1 false (.op 2 false (.op 3 false (.fork 4 true (.op 5 false (.op 6 false (.op 7 false (.op 8 false (.op 9 true (.op 10 false .nil)))))) (.op 8 false (.op 4 true (.op 5 false (.op 6 false (.op 7 false (.op 9 true (.op 10 false .nil)))))))))))) [] follows ?_; (simp only [go_sem, int_bne, beq_self_eq_true, hs, hs2])) | fail) | fail)
      all_goals (refine hR _ (rat [] (hK := ⟨rfl, rfl⟩)))
end Go.Proofs.Ytfgjiamolknicaa
/- From contracts on shadows to calls in worlds; a law's argument of bytes. -/
namespace Go.Proofs.Sh
open Go.RowKit
theorem sim_nil (w : World) : Sim [] [] [] w :=
  ⟨rfl, by simp, by simp, fun i b g h => by simp at h, fun i j b b' g _ h => by simp at h, fun i b g h => by simp at h⟩
theorem law_calls {P : Program} {f : FuncId} {args : List AV} {vs : Array Value} {w : World} (h : AFn P f args (.one (.sc (.bool true)))) (hr : AV.repl [] [] w args vs.toList) :
    Calls P f vs w (fun e w' => e = .returned (.bool true) ∧ Below w.heap.size w w') := by
  refine (h.out.2 [] [] w vs (sim_nil w) hr).mono ?_
  rintro e w' ⟨r, H', μ', v, rfl, ⟨rfl, rfl⟩, hS, hT, hv⟩
  simp only [AV.rep, C.rep] at hv
  refine ⟨by rw [hv.1], hT.keep.os, hT.keep.tape, hT.keep.output, hT.keep.size, fun b hb => hT.keep.block b (by simp [alive]) hb⟩
/-- bytes in memory -/
def Byt (w : World) (q : Option Addr) (n c : Nat) : Prop :=
  n ≤ c ∧ c ≤ maxLen ∧ ∀ i, i < n → ∃ b off, ∃ x : Int, q = some ⟨b, off, none⟩ ∧ b < w.heap.size ∧ w.cell? ⟨b, off + i, none⟩ = some (.int .u8 x) ∧ 0 ≤ x ∧ x ≤ 255
def byAt (w : World) (b off i : Nat) : Int := match w.cell? ⟨b, off + i, none⟩ with | some (.int _ x) => x | _ => 0
theorem repss_by {w : World} {b : Nat} : ∀ (l : List Int) (off : Nat), (∀ i (h : i < l.length), w.cell? ⟨b, off + i, none⟩ = some (.int .u8 l[i])) → C.repss [] [] w 1 (byR l) b off
  | [], _, _ => trivial
  | x :: l, off, h => by
    have h0 : w.cell? ⟨b, off, none⟩ = some (.int .u8 x) := h 0 (by simp)
    refine ⟨rfl, ⟨⟨_, h0, ⟨rfl, rfl⟩⟩, trivial⟩, repss_by l (off + 1) fun i hi => ?_⟩
    have := h (i + 1) (by simpa using hi)
    rw [show off + 1 + i = off + (i + 1) by omega]
    simpa using this
theorem Byt.rep {w : World} {q : Option Addr} {n c : Nat} (h : Byt w q n c) : ∃ l : List Int, (∀ k, 0 ≤ byte l k ∧ byte l k < 256) ∧ AV.rep [] [] w (.one (.sl (byR l))) (.slice q n c) := by
  obtain ⟨h1, h2, h3⟩ := h
  cases n with
  | zero =>
    refine ⟨[], fun k => by simp [byte], ?_⟩
    simp only [AV.rep, C.rep]
    exact ⟨q, c, rfl, by simp [byR], h2, .inl rfl⟩
  | succ n =>
    obtain ⟨b, off, x0, rfl, hb, _⟩ := h3 0 (by omega)
    have h4 : ∀ i, i < n + 1 → w.cell? ⟨b, off + i, none⟩ = some (.int .u8 (byAt w b off i)) ∧ 0 ≤ byAt w b off i ∧ byAt w b off i ≤ 255 := by
      intro i hi
      obtain ⟨b', off', x, e, _, g1, g2, g3⟩ := h3 i hi
      cases e
      simp only [byAt, g1]
      exact ⟨trivial, g2, g3⟩
    refine ⟨(List.range (n + 1)).map (byAt w b off), fun k => ?_, ?_⟩
    · by_cases hk : k < n + 1
      · have := h4 k hk
        simp [byte, hk]; omega
      · simp [byte, hk]
    · simp only [AV.rep, C.rep]
      refine ⟨_, c, by simp [byR_length], by simpa [byR_length] using h1, h2, .inr ⟨b, off, 1, rfl, hb, by simp, repss_by _ _ fun i hi => ?_⟩⟩
      simp at hi
      simpa using (h4 i hi).1
end Go.Proofs.Sh
namespace Go.Proofs.Ytfgjiamolknicaa
open Go.RowKit Go.Proofs.Sh
open Go.ChangeShapes Go.WideShapes Go.ChangeAt
theorem own_k : ownKnob Try.prog.godebug = none := by kernel_rfl
theorem laid_k : laidOutB Try.prog = true := by kernel_rfl
variable {H : Type} {enc : TypeId × Value → H} {w : World} {base : Nat} {spare : Nat → Bool} {held : Bool}
theorem add_no {b o k : Nat} : (⟨b, o, none⟩ : Addr).add k = ⟨b, o + k, none⟩ := by
  unfold Addr.add; split <;> simp_all
theorem spot_no {a : Addr} {v : Value} (h : w.cell? a = some v) : a.spot = none := by
  obtain ⟨b, o, s⟩ := a
  cases s with
  | none => rfl
  | some s =>
    simp only [World.cell?] at h
    split at h <;> simp at h
theorem read_Byt {fuel : Nat} {v : Value} {x : DataW H × List MemPlace} (h : DataW.trod enc Try.prog w base spare held fuel 22 [v] = some x) :
    ∃ (q : Option Addr) (n c : Nat), v = .slice q n c ∧ Byt w q n c := by
  have hc1 : Try.prog.cellsOf 5 = 1 := by kernel_rfl
  rcases DataW.trod_slice Try.underlying22 h with ⟨e1, _⟩ | ⟨a, len, cap, elems, rest, m', hm', e1, _, hb, hlc, hcm, hel, hall, _, _⟩
  · simp at e1
    subst e1
    exact ⟨none, 0, 0, rfl, by omega, by simp [maxLen], fun i hi => by omega⟩
  · simp at e1
    subst e1
    have hcell : ∀ i, i < len → ∃ k : Int, w.cell? (a.add i) = some (.int .u8 k) ∧ (Lit.int IntKind.u8 k).wf = true := by
      intro i hi
      have h1 := hall i hi
      rw [hc1, List.getElem?_eq_getElem (by omega), Nat.mul_one] at h1
      cases h2 : w.cells? base (a.add i) 1 with
      | none => rw [h2] at h1; simp at h1
      | some ds =>
        rw [h2] at h1
        simp only [Option.bind_some] at h1
        obtain ⟨k, e0, k1, k2⟩ := DataW.trod_int Try.underlying5 h1
        subst e0
        have h3 : w.cell? (a.add i) = some (.int .u8 k) := by
          unfold World.cells? at h2
          split at h2
          · simp only [List.range_succ, List.range_zero, List.nil_append, List.mapM_cons, List.mapM_nil, Option.pure_def, Option.bind_eq_bind] at h2
            cases h0 : w.cell? ((a.add i).add 0) with
            | none => simp [h0] at h2
            | some u =>
              simp [h0] at h2
              have e0 : (a.add i).add 0 = a.add i := by simp [Addr.add]
              rw [e0] at h0; rw [h0, h2]
          · cases h2
        exact ⟨k, h3, k2⟩
    refine ⟨some a, len, cap, rfl, hlc, hcm, fun i hi => ?_⟩
    have hs : a.spot = none := by
      obtain ⟨k, h3, _⟩ := hcell 0 (by omega)
      have := spot_no h3
      simp [Addr.add] at this
      exact this
    obtain ⟨k, h3, k2⟩ := hcell i hi
    obtain ⟨b, o, s⟩ := a
    simp at hs
    subst hs
    rw [add_no] at h3
    refine ⟨b, o, k, rfl, lt_of_cell h3, h3, ?_⟩
    simp [Lit.wf, IntKind.min, IntKind.max, IntKind.signed, IntKind.bits] at k2
    omega
set_option maxRecDepth 100000 in
theorem open_Byt {v : Value} {d : DataW H} {p : List MemPlace} {r : Reach} {b0 : Nat} (hv : Value.okWide Try.prog w r b0 22 v) (h : DataW.Trod enc Try.prog w base spare held 22 v d p) :
    ∃ (q : Option Addr) (n c : Nat), v = .slice q n c ∧ Byt w q n c := by
  obtain ⟨a, len, cap, rfl⟩ := okWide_slice Try.underlying22 hv
  obtain ⟨fuel, hf⟩ := h
  exact read_Byt hf
end Go.Proofs.Ytfgjiamolknicaa
