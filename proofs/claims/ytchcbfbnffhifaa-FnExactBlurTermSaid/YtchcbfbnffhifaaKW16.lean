/- Texts of the proof, one behind another. -/
import Derived.Test.YtchcbfbnffhifaaKW11
import Derived.Test.YtchcbfbnffhifaaKW15
set_option linter.unusedSimpArgs false
set_option linter.unusedVariables false
/- Blurred and erased terms, in the program. On shadows. -/
namespace Go.Proofs.Grad
/-- a list of types, of which the first k are blurred -/
def blurK (m : Nat) (l : List T) (k : Nat) : List T := (blurL m l).take k ++ l.drop k
theorem blurK_length (m : Nat) (l : List T) (k : Nat) : (blurK m l k).length = l.length := by
  simp only [blurK, List.length_append, List.length_take, List.length_drop, blurL_length]; omega
theorem blurK_zero (m : Nat) (l : List T) : blurK m l 0 = l := by simp [blurK]
theorem blurK_all (m : Nat) (l : List T) {k : Nat} (h : l.length ≤ k) : blurK m l k = blurL m l := by
  rw [blurK, List.take_of_length_le (by rw [blurL_length]; exact h), List.drop_of_length_le h, List.append_nil]
theorem blurK_get (m : Nat) (l : List T) (k i : Nat) (h : i < l.length) : (blurK m l k)[i]? = some (match decide (i < k) with | true => (match m.testBit i with | true => .any | false => l[i]) | false => l[i]) := by
  unfold blurK
  by_cases hi : i < k
  · rw [List.getElem?_append_left (by rw [List.length_take, blurL_length]; omega), List.getElem?_take_of_lt hi, decide_eq_true hi]
    rw [List.getElem?_eq_getElem (by rw [blurL_length]; exact h)]
    simp only [blurL, List.getElem_mapIdx] <;> rfl
  · rw [List.getElem?_append_right (by rw [List.length_take, blurL_length]; omega), decide_eq_false hi]
    simp only [List.length_take, blurL_length, List.getElem?_drop]
    rw [List.getElem?_eq_getElem (by omega)]
    congr 2; omega
theorem blurK_set (m : Nat) (l : List T) {k : Nat} (h : k < l.length) (hb : m.testBit k = true) : (blurK m l k).set k .any = blurK m l (k + 1) := by
  refine List.ext_getElem? fun i => ?_
  by_cases hi : i < l.length
  · rw [blurK_get m l (k + 1) i hi]
    by_cases e : k = i
    · subst e
      rw [List.getElem?_set_self (by rw [blurK_length]; exact h), decide_eq_true (by omega)]
      simp [hb]
    · rw [List.getElem?_set_ne e, blurK_get m l k i hi]
      rw [show decide (i < k) = decide (i < k + 1) from by rw [decide_eq_decide]; omega]
  · rw [List.getElem?_eq_none (by rw [List.length_set, blurK_length]; omega), List.getElem?_eq_none (by rw [blurK_length]; omega)]
theorem blurK_keep (m : Nat) (l : List T) {k : Nat} (h : k < l.length) (hb : m.testBit k = false) : blurK m l k = blurK m l (k + 1) := by
  refine List.ext_getElem? fun i => ?_
  by_cases hi : i < l.length
  · rw [blurK_get m l (k + 1) i hi, blurK_get m l k i hi]
    by_cases e : i = k
    · subst e
      rw [decide_eq_false (by omega), decide_eq_true (by omega)]
      simp [hb]
    · rw [show decide (i < k) = decide (i < k + 1) from by rw [decide_eq_decide]; omega]
  · rw [List.getElem?_eq_none (by rw [blurK_length]; omega), List.getElem?_eq_none (by rw [blurK_length]; omega)]
/-- a bit of a mask, as the code takes it -/
theorem bit_at (m k : Nat) (hm : m < 2 ^ 62) (hk : k < 64) : (IntKind.i64.wrap ((BitVec.ofInt 64 ((m : Int).fdiv (2 ^ (min k 64))) &&& BitVec.ofInt 64 1).toNat : Nat) == 1) = m.testBit k := by
  have e1 : (m : Int).fdiv (2 ^ (min k 64)) = ((m / 2 ^ k : Nat) : Int) := by
    rw [Nat.min_eq_left (by omega)]
    have e0 : (2 : Int) ^ k = ((2 ^ k : Nat) : Int) := (Int.natCast_pow 2 k).symm
    rw [e0, Int.fdiv_eq_ediv_of_nonneg _ (Int.natCast_nonneg _)]
    exact (Int.natCast_ediv m (2 ^ k)).symm
  have h1 : m / 2 ^ k < 2 ^ 62 := Nat.lt_of_le_of_lt (Nat.div_le_self _ _) hm
  rw [e1, Nat.testBit_eq_decide_div_mod_eq]
  clear e1
  generalize m / 2 ^ k = x at *
  have e2 : (BitVec.ofInt 64 (x : Int) &&& BitVec.ofInt 64 1).toNat = x % 2 := by
    rw [BitVec.toNat_and, BitVec.toNat_ofInt, BitVec.toNat_ofInt]
    have : ((x : Int) % (2 ^ 64 : Nat)).toNat = x := by omega
    rw [this]
    exact Nat.and_one_is_mod _
  rw [e2]
  have h2 : x % 2 < 2 := Nat.mod_lt _ (by omega)
  rw [IntWalk.i64_in _ (by omega)]
  rw [Bool.eq_iff_iff]; simp; omega
theorem shl_at (n : Nat) (h : n < 62) : IntKind.i64.wrap (1 * 2 ^ (min n 64)) = ((2 ^ n : Nat) : Int) := by
  have : (2 : Nat) ^ n ≤ 2 ^ 62 := Nat.pow_le_pow_right (by omega) (by omega)
  rw [Nat.min_eq_left (by omega), Int.one_mul]
  have e : (2 : Int) ^ n = ((2 ^ n : Nat) : Int) := (Int.natCast_pow 2 n).symm
  rw [e]
  generalize (2 : Nat) ^ n = x at *
  rw [IntWalk.i64_in _ (by omega)]
theorem tyRset (l : List Ty) (i : Nat) (t : Ty) : (Sh.tyR l).set i (Sh.tyC t) = Sh.tyR (l.set i t) := by
  induction l generalizing i with
  | nil => rfl
  | cons a l ih => cases i <;> simp [Sh.tyR, ih]
end Go.Proofs.Grad
namespace Go.Proofs.Ytchcbfbnffhifaa
open Go.RowKit Go.Proofs.Sh Go.Proofs.Grad
set_option maxRecDepth 100000
set_option maxHeartbeats 8000000
/-- a list of types, one's own -/
def TyOwn (l : List Ty) (r : AV) (H' : List Blk) : Prop := (l = [] ∧ r = .one (.sc (.slice none 0 0)) ∧ H' = []) ∨ (r = .one (.row 2 0 l.length) ∧ H' = [⟨2, 32, .mut, tyR l⟩] ∧ 0 < l.length)
theorem iTypesO (n : Nat) (hn : n ≤ 2199023255552) (t : Tm) (h : t.size < n) : ACl Try.prog 91 [.agg (teC t)] [] (TyOwn t.types) := by
    have hl := telen_lt t
    have hnl := t.nodes_le
    have hne := t.nodes_eq
    have ho := iOwnTy _ (by omega) t.type (by cases t; simp only [Tm.size, Tm.type] at *; omega : t.type.size < n)
    have hh := iHasType t
    have e0 : ownTys t.kind t.type = (match hasTy t.kind with | true => [t.type] | false => []) := rfl
    cases hty : hasTy t.kind
    all_goals
      rw [hty] at hh e0
      simp only [] at e0
      refine acl_in Try.func91 rfl isfn_91 (Nat.le_of_ble_eq_true rfl) (fun R hR => ?_); rw [Try.results91] at hR; refine wg_run ?_; (simp only [Try.f91, go_sem])
      repeat' (first | (first | (((first | apply sp1 | apply sp2 | apply sp3 | apply sp4 | apply sp5 | apply sp6 | apply sp7) <;> intro hb) <;> (simp only [go_sem, hb])) | ((first | apply wm_done | apply wt_done | apply wg_run | refine fk ?_ ?_) <;> (simp only [go_sem]))) | (first | refine cdq ?_ (hc := hh) | refine cmq ?_ (hc := hh) | refine ctq ?_ (hc := hh)); (simp only [go_sem]) | (first | refine cdq ?_ (hc := ho) | refine cmq ?_ (hc := ho) | refine ctq ?_ (hc := ho)); (simp only [go_sem]))
      first
        | refine wd_for [3, 15, 16, 17] (fun (x : Nat × List Ty) => [.one (match x.2 with | [] => .sc (.slice none 0 0) | a :: l => .row 2 0 (l.length + 1)), .one (.sl (teR t.kids)), .one (.sc (.int .i64 t.kids.length)), .one (.sc (.int .i64 (x.1 : Nat)))])
            (fun x => match x.2 with | [] => [] | a :: l => [⟨2, 32, .mut, tyR (a :: l)⟩])
            (fun x => x.1 ≤ t.kids.length ∧ x.2 = ownTys t.kind t.type ++ Tm.typess (t.kids.take x.1)) (fun x => t.kids.length - x.1) (0, []) ⟨Nat.zero_le _, by rw [e0]; rfl⟩ (hat [] (hI := ⟨rfl, rfl⟩)) ?_
        | refine wd_for [3, 15, 16, 17] (fun (x : Nat × List Ty) => [.one (match x.2 with | [] => .sc (.slice none 0 0) | a :: l => .row 2 0 (l.length + 1)), .one (.sl (teR t.kids)), .one (.sc (.int .i64 t.kids.length)), .one (.sc (.int .i64 (x.1 : Nat)))])
            (fun x => match x.2 with | [] => [] | a :: l => [⟨2, 32, .mut, tyR (a :: l)⟩])
            (fun x => x.1 ≤ t.kids.length ∧ x.2 = ownTys t.kind t.type ++ Tm.typess (t.kids.take x.1)) (fun x => t.kids.length - x.1) (0, [t.type]) ⟨Nat.zero_le _, by rw [e0]; rfl⟩ (hat [2] (hI := ⟨rfl, rfl⟩)) ?_
      rintro ⟨k, acc⟩ ⟨hk, hacc⟩ G hG
      simp only [] at hk hacc hG
      have hal : acc.length ≤ 1 + Tm.nodess t.kids := by
        have := ownTys_len t.kind t.type; have := Tm.typess_take_len t.kids k
        rw [hacc, List.length_append]; omega
      rcases acc with _ | ⟨a, acc⟩
      all_goals
        refine wg_run ?_
        (simp only [go_sem])
        ((first | apply sp1 | apply sp2 | apply sp3 | apply sp4 | apply sp5 | apply sp6 | apply sp7) <;> intro hb) <;> (simp only [go_sem, hb])
        · have hk1 : k < t.kids.length := by have := of_decide_eq_true hb; omega
          have hw1 := wrap_succ hk1 (by omega)
          have hc := iTypes _ hn (teKid t.kids k) (by have := teKid_lt hk1; omega)
          have hkl := Tm.types_len (teKid t.kids k)
          have hkn := Tm.nodess_le_take t.kids (k + 1)
          rw [Tm.nodess_take hk1] at hkn
          have hnx : ownTys t.kind t.type ++ Tm.typess (t.kids.take (k + 1)) = ownTys t.kind t.type ++ Tm.typess (t.kids.take k) ++ (teKid t.kids k).types := by rw [Tm.typess_take hk1, List.append_assoc]
          rw [← hacc] at hnx
          cases hkt : (teKid t.kids k).types with
          | nil =>
            rw [hkt] at hc hnx
            repeat' (first | (first | (simp only [go_sem, hw1, hb]) | (((first | apply sp1 | apply sp2 | apply sp3 | apply sp4 | apply sp5 | apply sp6 | apply sp7) <;> intro hb) <;> (simp only [go_sem, hb, hw1, hb])) | ((first | apply wm_done | apply wt_done | apply wg_run | refine fk ?_ ?_) <;> (simp only [go_sem, hw1, hb]))) | (first | refine cdq ?_ (hc := hc) | refine cmq ?_ (hc := hc) | refine ctq ?_ (hc := hc)); (simp only [go_sem]))
            rw [List.append_nil] at hnx
            first
              | exact hG (k + 1, []) _ _ ⟨by omega, hnx.symm⟩ (by simp only []; omega) (hat [] (hI := ⟨rfl, rfl⟩))
              | exact hG (k + 1, a :: acc) _ _ ⟨by omega, hnx.symm⟩ (by simp only []; omega) (hat [0] (hI := ⟨rfl, rfl⟩))
          | cons b m =>
            rw [hkt] at hc hnx hkl
            simp only [List.length_cons] at hkl hal
            have hcap1 : (m.length + 1) * 32 ≤ 140737488355328 := by omega
            first
              | (have hcap2 : (acc.length + 1 + (m.length + 1)) * 32 ≤ 140737488355328 := by omega
                 repeat' (first | (first | (simp only [go_sem, hw1, hb, hcap1, hcap2]) | (((first | apply sp1 | apply sp2 | apply sp3 | apply sp4 | apply sp5 | apply sp6 | apply sp7) <;> intro hb) <;> (simp only [go_sem, hb, hw1, hb, hcap1, hcap2])) | ((first | apply wm_done | apply wt_done | apply wg_run | refine fk ?_ ?_) <;> (simp only [go_sem, hw1, hb, hcap1, hcap2]))) | (first | refine cdq ?_ (hc := hc) | refine cmq ?_ (hc := hc) | refine ctq ?_ (hc := hc)); (simp only [go_sem]))
                 refine hG (k + 1, a :: acc ++ b :: m) _ _ ⟨by omega, hnx.symm⟩ (by simp only []; omega) (hat [2] (hI := ⟨?_, ?_⟩))
                 · simp only [List.cons_append, List.length_append, List.length_cons]
                   rw [show acc.length + 1 + (m.length + 1) = acc.length + (m.length + 1) + 1 by omega]
                 · simp only [List.cons_append, tyR, tyR_append])
              | (repeat' (first | (first | (simp only [go_sem, hw1, hb, hcap1]) | (((first | apply sp1 | apply sp2 | apply sp3 | apply sp4 | apply sp5 | apply sp6 | apply sp7) <;> intro hb) <;> (simp only [go_sem, hb, hw1, hb, hcap1])) | ((first | apply wm_done | apply wt_done | apply wg_run | refine fk ?_ ?_) <;> (simp only [go_sem, hw1, hb, hcap1]))) | (first | refine cdq ?_ (hc := hc) | refine cmq ?_ (hc := hc) | refine ctq ?_ (hc := hc)); (simp only [go_sem]))
                 refine hG (k + 1, b :: m) _ _ ⟨by omega, hnx.symm⟩ (by simp only []; omega) (hat [1] (hI := ⟨rfl, rfl⟩)))
        · have hk1 : t.kids.take k = t.kids := List.take_of_length_le (by have := of_decide_eq_false hb; omega)
          rw [hk1, ← Tm.types_eq] at hacc
          first
            | exact hR _ (rwn [] (hK := (.inl ⟨hacc.symm, rfl, rfl⟩)))
            | exact hR _ (rwn [0] (hK := (.inr ⟨by rw [← hacc]; rfl, by rw [← hacc]; rfl, by rw [← hacc]; simp⟩)))
theorem nt30 {e : E} (h : e.okT = true) : e.nt ≤ 30 := by
  simp only [E.okT, Bool.and_eq_true, decide_eq_true_eq] at h
  have := Tm.types_len e.tm
  rw [E.types_tm e h.2.1, List.length_map, E.tl_length, E.tm_nodes] at this; omega
theorem iBlurNot (e : E) (h : e.okT = true) (m : Int) (hm : m < 0 ∨ ((2 ^ e.nt : Nat) : Int) ≤ m) : AFn Try.prog 41 [.agg (teC e.tm), .one (.sc (.int .i64 m))] (.tup [.agg (teC tm0), .one (.sc (.bool false))]) := by
  have hz := E.size_okT h
  have hn30 := nt30 h
  have hp30 : 2 ^ e.nt ≤ 2 ^ 30 := Nat.pow_le_pow_right (by omega) hn30
  have h1 := iTermV e.tm
  rw [E.termV_tm, h] at h1
  have h' := h
  simp only [E.okT, Bool.and_eq_true] at h'
  have h2 := iTypes 100000 (by omega) e.tm (by omega)
  rw [E.types_tm e h'.2.1] at h2
  have hnl := e.tl_length
  have hs := shl_at e.nt (by omega)
  have hs2 : IntKind.i64.wrap (((2 ^ e.nt : Nat) : Int) - 1) = ((2 ^ e.nt : Nat) : Int) - 1 := by
    generalize 2 ^ e.nt = x at *
    rw [IntWalk.i64_in _ (by omega)]
  have h4 := within m 0 (((2 ^ e.nt : Nat) : Int) - 1)
  have d : (decide (0 ≤ m) && decide (m ≤ ((2 ^ e.nt : Nat) : Int) - 1)) = false := by
    generalize 2 ^ e.nt = x at *
    rw [Bool.and_eq_false_iff, decide_eq_false_iff_not, decide_eq_false_iff_not]; omega
  rw [d] at h4
  generalize 2 ^ e.nt = x at *
  generalize e.tl = L at *
  generalize e.nt = n at *
  generalize e.tm = t at *
  subst hnl
  simp only [tm0, noTy]
  refine fn_in ?_; refine acl_in Try.func41 rfl isfn_41 (Nat.le_of_ble_eq_true rfl) (fun R hR => ?_); rw [Try.results41] at hR; refine wg_run ?_; (simp only [Try.f41, go_sem])
  repeat' (first | (first | (simp only [go_sem, hs, hs2]) | (((first | apply sp1 | apply sp2 | apply sp3 | apply sp4 | apply sp5 | apply sp6 | apply sp7) <;> intro hb) <;> (simp only [go_sem, hb, hs, hs2])) | ((first | apply wm_done | apply wt_done | apply wg_run | refine fk ?_ ?_) <;> (simp only [go_sem, hs, hs2]))) | (first | refine cdq ?_ (hc := h1) | refine cmq ?_ (hc := h1) | refine ctq ?_ (hc := h1)); (simp only [go_sem]) | (first | refine cd (hp := (by (simp only [go_sem, List.length_map]); first | done | rfl)) (hc := h2) (hK := ?_) | refine cm (hp := (by (simp only [go_sem, List.length_map]); first | done | rfl)) (hc := h2) (hK := ?_) | refine ct (hp := (by (simp only [go_sem, List.length_map]); first | done | rfl)) (hc := h2) (hK := ?_)); (simp only [go_sem, List.length_map]) | (first | refine cd (hp := (by (simp only [go_sem, hs, hs2]); first | done | rfl)) (hc := h4) (hK := ?_) | refine cm (hp := (by (simp only [go_sem, hs, hs2]); first | done | rfl)) (hc := h4) (hK := ?_) | refine ct (hp := (by (simp only [go_sem, hs, hs2]); first | done | rfl)) (hc := h4) (hK := ?_)); (simp only [go_sem, hs, hs2]) | ((first | refine mxq6 [] ?_ | refine mxq5 [] ?_ | refine mxq4 [] ?_ | refine mxq3 [] ?_ | refine mxq2 [] ?_ | refine mxq1 [] ?_ | refine mxq0 [] ?_ | fail); (simp only [go_sem, hs, hs2])) | fail)
  (refine hR _ (rat [] (hK := ⟨rfl, rfl⟩)))
theorem iBlurBad (t : Tm) (h : t.termV = false) (m : Int) : AFn Try.prog 41 [.agg (teC t), .one (.sc (.int .i64 m))] (.tup [.agg (teC tm0), .one (.sc (.bool false))]) := by
  have h1 := iTermV t
  rw [h] at h1
  simp only [tm0, noTy]
  refine fn_in ?_; refine acl_in Try.func41 rfl isfn_41 (Nat.le_of_ble_eq_true rfl) (fun R hR => ?_); rw [Try.results41] at hR; refine wg_run ?_; (simp only [Try.f41, go_sem])
  repeat' (first | (first | (((first | apply sp1 | apply sp2 | apply sp3 | apply sp4 | apply sp5 | apply sp6 | apply sp7) <;> intro hb) <;> (simp only [go_sem, hb])) | ((first | apply wm_done | apply wt_done | apply wg_run | refine fk ?_ ?_) <;> (simp only [go_sem]))) | (first | refine cdq ?_ (hc := h1) | refine cmq ?_ (hc := h1) | refine ctq ?_ (hc := h1)); (simp only [go_sem]) | ((first | refine mxq6 [] ?_ | refine mxq5 [] ?_ | refine mxq4 [] ?_ | refine mxq3 [] ?_ | refine mxq2 [] ?_ | refine mxq1 [] ?_ | refine mxq0 [] ?_ | fail); (simp only [go_sem])) | fail)
  (refine hR _ (rat [] (hK := ⟨rfl, rfl⟩)))
end Go.Proofs.Ytchcbfbnffhifaa
/- Owned trees: rows changed where they lie. -/
namespace Go.Proofs.Sh
def dgs (k : Nat) (out : ByteArray) : ByteArray := if h : k = 0 then out else dgs (k / 10) (bytesOf [((48 + k % 10 : Nat) : Int)] ++ out)
termination_by k
decreasing_by omega
theorem dgs_zero (out : ByteArray) : dgs 0 out = out := by rw [dgs]; simp
theorem dgs_pos {k : Nat} (h : 0 < k) (out : ByteArray) : dgs k out = dgs (k / 10) (bytesOf [((48 + k % 10 : Nat) : Int)] ++ out) := by
  rw [dgs, dif_neg (by omega)]
def mkT (k : Nat) : ByteArray := ⟨#[109]⟩ ++ dgs k ByteArray.empty
end Go.Proofs.Sh
namespace Go.Proofs.Sh
open Go.RowKit Go.Proofs.Grad

/-- a row of an owned slice, and what is so when it has been changed -/
theorem row_upd {h : List Blk} {d s b n i : Nat} {R : List (List C)} {js : List Nat} (h0 : ow h (d + 1) (.row s b n) = some (.sl R, b :: js)) (hn : (b :: js).Nodup) (hi : i < R.length) :
    ∃ ty rows r E pre is post, h[b]? = some ⟨s, ty, .mut, rows⟩ ∧ rows.length = n ∧ R.length = n ∧ rows[i]? = some r ∧ R[i]? = some E ∧ r.length = s ∧ fzL (ow h d) r = some (E, is) ∧ js = pre ++ (is ++ post) ∧ is.Nodup ∧ b ∉ is ∧ (∀ x ∈ pre ++ post, x ∉ is ∧ x ≠ b) ∧
      (∀ h2 r' E', r'.length = s → h2[b]? = some ⟨s, ty, .mut, rows.set i r'⟩ → fzL (ow h2 d) r' = some (E', is) → (∀ x ∈ pre ++ post, h2[x]? = h[x]?) → ow h2 (d + 1) (.row s b n) = some (.sl (R.set i E'), b :: js)) := by
  obtain ⟨d', k, R', js', e, h1, h2, h3, h4, h5, h6, h7, h8⟩ := ow_row h0
  cases e; cases h7; cases h8
  obtain ⟨ks, kty, kst, rows⟩ := k
  simp only at h2 h3 h4 h5 h6
  have hst : kst = .mut := by cases kst <;> simp [St.isMut] at h2 ⊢
  subst hst h4
  have hl := fzRows_len h6
  have hir : i < rows.length := by omega
  obtain ⟨E, pre, is, post, q1, q2, q3, q4, q5⟩ := fzRows_split h6 (List.getElem?_eq_getElem hir)
  obtain ⟨hb, hjs⟩ := List.nodup_cons.1 hn
  have hjs' := hjs
  rw [q3] at hjs' hb
  obtain ⟨a1, a2, a3⟩ := List.nodup_append.1 hjs'
  obtain ⟨a4, a5, a6⟩ := List.nodup_append.1 a2
  refine ⟨kty, rows, rows[i], E, pre, is, post, h1, h3, by omega, List.getElem?_eq_getElem hir, q1, rowsLen_spec h5 _ (List.getElem_mem hir), q2, q3, a4, fun hm => hb (by simp [hm]), fun x hx => ⟨fun hm => ?_, fun e => hb (by subst e; rcases List.mem_append.1 hx with hx | hx <;> simp [hx])⟩, fun h2' r' E' hr hb he hx => ?_⟩
  · rcases List.mem_append.1 hx with hx | hx
    · exact a3 x hx x (by simp [hm]) rfl
    · exact a6 x hm x hx rfl
  · refine ow_row_of hb rfl (by simp [h3]) rfl ?_ ?_
    · simp only [rowsLen, List.all_eq_true, beq_iff_eq]
      intro x hx
      rcases List.mem_or_eq_of_mem_set hx with hx | rfl
      · exact rowsLen_spec h5 x hx
      · exact hr
    · rw [q3]
      exact fzRows_set hir hl (owR_frame q4 (fun x hx' => hx x (by simp [hx']))) he (owR_frame q5 (fun x hx' => hx x (by simp [hx'])))
theorem owR_lt {h : List Blk} {d s b n : Nat} {c' : C} {js : List Nat} (h0 : ow h d (.row s b n) = some (c', b :: js)) (x : Nat) (hx : x ∈ js) : x < h.length := (ow_mut h0 x (by simp [hx])).lt
end Go.Proofs.Sh
namespace Go.Proofs.Grad
mutual
def Ty.mark : Ty → Nat → Ty
  | .mk _ l, k => .mk (k : Int) (Ty.marks l (k + 1))
def Ty.marks : List Ty → Nat → List Ty
  | [], _ => []
  | t :: l, k => t.mark k :: Ty.marks l (k + t.size)
end
theorem Ty.mark_eq (t : Ty) (k : Nat) : t.mark k = .mk (k : Int) (Ty.marks t.kids (k + 1)) := by cases t; rfl
theorem Ty.marks_append : ∀ (l m : List Ty) (k : Nat), Ty.marks (l ++ m) k = Ty.marks l k ++ Ty.marks m (k + Ty.sizes l)
  | [], m, k => by simp [Ty.marks, Ty.sizes]
  | t :: l, m, k => by simp only [List.cons_append, Ty.marks, Ty.sizes, Ty.marks_append l m, Nat.add_assoc]
theorem Ty.marks_length : ∀ (l : List Ty) (k : Nat), (Ty.marks l k).length = l.length
  | [], _ => rfl
  | t :: l, k => by simp [Ty.marks, Ty.marks_length l]
theorem Ty.sizes_append : ∀ (l m : List Ty), Ty.sizes (l ++ m) = Ty.sizes l + Ty.sizes m
  | [], m => by simp [Ty.sizes]
  | t :: l, m => by simp only [List.cons_append, Ty.sizes, Ty.sizes_append l m, Nat.add_assoc]
/-- a list of which the first i are marked -/
def Ty.part (l : List Ty) (k i : Nat) : List Ty := Ty.marks (l.take i) k ++ l.drop i
theorem Ty.part_length (l : List Ty) (k i : Nat) : (Ty.part l k i).length = l.length := by
  simp only [Ty.part, List.length_append, Ty.marks_length, List.length_take, List.length_drop]; omega
end Go.Proofs.Grad
namespace Go.Proofs.Sh
open Go.RowKit Go.Proofs.Grad
theorem Ty.part_get {l : List Ty} {k i : Nat} (h : i < l.length) : (Ty.part l k i)[i]? = some (kid l i) := by
  have hl : (Ty.marks (l.take i) k).length = i := by rw [Ty.marks_length, List.length_take]; omega
  rw [Ty.part, List.getElem?_append_right (by omega), hl, Nat.sub_self, drop_kid h]; rfl
theorem Ty.part_set {l : List Ty} {k i : Nat} (h : i < l.length) : (Ty.part l k i).set i ((kid l i).mark (k + Ty.sizes (l.take i))) = Ty.part l k (i + 1) := by
  have hl : (Ty.marks (l.take i) k).length = i := by rw [Ty.marks_length, List.length_take]; omega
  rw [Ty.part, List.set_append_right _ _ (by omega), hl, Nat.sub_self, drop_kid h, Ty.part, take_kid h, Ty.marks_append]
  simp [Ty.marks]
theorem Ty.sizes_take {l : List Ty} {i : Nat} (h : i < l.length) : Ty.sizes (l.take (i + 1)) = Ty.sizes (l.take i) + (kid l i).size := by
  rw [take_kid h, Ty.sizes_append]; simp [Ty.sizes]
theorem tyR_set (l : List Ty) (i : Nat) (t : Ty) : (tyR l).set i (tyC t) = tyR (l.set i t) := by
  induction l generalizing i with
  | nil => rfl
  | cons x l ih => cases i <;> simp [tyR, ih]
theorem Ty.sizes_take_le (l : List Ty) (i : Nat) : Ty.sizes (l.take i) ≤ Ty.sizes l := by
  have := Ty.sizes_append (l.take i) (l.drop i)
  rw [List.take_append_drop] at this; omega
end Go.Proofs.Sh
namespace Go.Proofs.Grad
open Go.Proofs.Sh
mutual
/-- how many marks a term takes -/
def Tm.mw : Tm → Nat
  | .mk _ _ _ t f _ l => 6 + (Ty.sizes t.kids + (Ty.sizes f.kids + Tm.mws l))
def Tm.mws : List Tm → Nat
  | [] => 0
  | t :: l => t.mw + Tm.mws l
end
mutual
def Tm.mark : Tm → Nat → Tm
  | .mk _ _ _ t f _ l, k => .mk (k : Int) (mkT (k + 1)) ((k + 2 : Nat) : Int) (.mk ((k + 3 : Nat) : Int) (Ty.marks t.kids (k + 4))) (.mk ((k + 4 + Ty.sizes t.kids : Nat) : Int) (Ty.marks f.kids (k + 4 + Ty.sizes t.kids + 1)))
      ((k + 4 + Ty.sizes t.kids + 1 + Ty.sizes f.kids : Nat) : Int) (Tm.marks l (k + 4 + Ty.sizes t.kids + 1 + Ty.sizes f.kids + 1))
def Tm.marks : List Tm → Nat → List Tm
  | [], _ => []
  | t :: l, k => t.mark k :: Tm.marks l (k + t.mw)
end
theorem Tm.mark_eq (t : Tm) (k : Nat) : t.mark k = .mk (k : Int) (mkT (k + 1)) ((k + 2 : Nat) : Int) (.mk ((k + 3 : Nat) : Int) (Ty.marks t.type.kids (k + 4))) (.mk ((k + 4 + Ty.sizes t.type.kids : Nat) : Int) (Ty.marks t.frm.kids (k + 4 + Ty.sizes t.type.kids + 1)))
      ((k + 4 + Ty.sizes t.type.kids + 1 + Ty.sizes t.frm.kids : Nat) : Int) (Tm.marks t.kids (k + 4 + Ty.sizes t.type.kids + 1 + Ty.sizes t.frm.kids + 1)) := by cases t; rfl
theorem Tm.mw_eq (t : Tm) : t.mw = 6 + (Ty.sizes t.type.kids + (Ty.sizes t.frm.kids + Tm.mws t.kids)) := by cases t; rfl
theorem Tm.marks_append : ∀ (l m : List Tm) (k : Nat), Tm.marks (l ++ m) k = Tm.marks l k ++ Tm.marks m (k + Tm.mws l)
  | [], m, k => by simp [Tm.marks, Tm.mws]
  | t :: l, m, k => by simp only [List.cons_append, Tm.marks, Tm.mws, Tm.marks_append l m, Nat.add_assoc]
theorem Tm.marks_length : ∀ (l : List Tm) (k : Nat), (Tm.marks l k).length = l.length
  | [], _ => rfl
  | t :: l, k => by simp [Tm.marks, Tm.marks_length l]
theorem Tm.mws_append : ∀ (l m : List Tm), Tm.mws (l ++ m) = Tm.mws l + Tm.mws m
  | [], m => by simp [Tm.mws]
  | t :: l, m => by simp only [List.cons_append, Tm.mws, Tm.mws_append l m, Nat.add_assoc]
def Tm.part (l : List Tm) (k i : Nat) : List Tm := Tm.marks (l.take i) k ++ l.drop i
theorem Tm.part_length (l : List Tm) (k i : Nat) : (Tm.part l k i).length = l.length := by
  simp only [Tm.part, List.length_append, Tm.marks_length, List.length_take, List.length_drop]; omega
theorem Tm.part_get {l : List Tm} {k i : Nat} (h : i < l.length) : (Tm.part l k i)[i]? = some (teKid l i) := by
  have hl : (Tm.marks (l.take i) k).length = i := by rw [Tm.marks_length, List.length_take]; omega
  rw [Tm.part, List.getElem?_append_right (by omega), hl, Nat.sub_self, tedrop_kid h]; rfl
theorem Tm.part_set {l : List Tm} {k i : Nat} (h : i < l.length) : (Tm.part l k i).set i ((teKid l i).mark (k + Tm.mws (l.take i))) = Tm.part l k (i + 1) := by
  have hl : (Tm.marks (l.take i) k).length = i := by rw [Tm.marks_length, List.length_take]; omega
  rw [Tm.part, List.set_append_right _ _ (by omega), hl, Nat.sub_self, tedrop_kid h, Tm.part, tetake_kid h, Tm.marks_append]
  simp [Tm.marks]
theorem Tm.mws_take {l : List Tm} {i : Nat} (h : i < l.length) : Tm.mws (l.take (i + 1)) = Tm.mws (l.take i) + (teKid l i).mw := by
  rw [tetake_kid h, Tm.mws_append]; simp [Tm.mws]
theorem Tm.mws_take_le (l : List Tm) (i : Nat) : Tm.mws (l.take i) ≤ Tm.mws l := by
  have := Tm.mws_append (l.take i) (l.drop i)
  rw [List.take_append_drop] at this; omega
theorem Tm.len_mws : ∀ l : List Tm, l.length ≤ Tm.mws l
  | [] => Nat.le_refl _
  | t :: l => by have := Tm.len_mws l; have := t.mw_eq; simp only [List.length_cons, Tm.mws]; omega
end Go.Proofs.Grad
namespace Go.Proofs.Sh
open Go.RowKit Go.Proofs.Grad
theorem teR_set (l : List Tm) (i : Nat) (t : Tm) : (teR l).set i (teC t) = teR (l.set i t) := by
  induction l generalizing i with
  | nil => rfl
  | cons x l ih => cases i <;> simp [teR, ih]
end Go.Proofs.Sh
/- Owned trees behind known blocks: calls that make, read and mark them. -/
namespace Go.Proofs.Sh
open Go.RowKit Go.Proofs.Grad

/-- a struct's cells, a tree owned in T, which lies behind p blocks -/
structure OwnT (p : Nat) (T : List Blk) (cs enc : List C) (ids : List Nat) : Prop where
  nodup : ids.Nodup
  ge : ∀ b ∈ ids, p ≤ b
  own : ∃ d, ∀ pre : List Blk, pre.length = p → fzL (ow (pre ++ T) d) cs = some (enc, ids)
theorem OwnT.lt {p : Nat} {T : List Blk} {cs enc : List C} {ids : List Nat} (h : OwnT p T cs enc ids) : ∀ b ∈ ids, b < T.length + p := fun b hb => by
  obtain ⟨d, hd⟩ := h.own
  have := (owL_mut (hd (List.replicate p ⟨0, 0, .dead, []⟩) (by simp)) b hb).lt
  simp only [List.length_append, List.length_replicate] at this; omega
theorem OwnT.len {p : Nat} {T : List Blk} {cs enc : List C} {ids : List Nat} (h : OwnT p T cs enc ids) : cs.length = enc.length := by
  obtain ⟨d, hd⟩ := h.own
  exact (fzL_len (hd (List.replicate p ⟨0, 0, .dead, []⟩) (by simp))).symm
theorem OwnT.ext {p : Nat} {T T' : List Blk} {cs enc : List C} {ids : List Nat} (h : OwnT p T cs enc ids) (hf : ∀ i, i < T.length → i + p ∈ ids → T'[i]? = T[i]?) : OwnT p T' cs enc ids := by
  refine ⟨h.nodup, h.ge, ?_⟩
  obtain ⟨d, hd⟩ := h.own
  refine ⟨d, fun pre hp => owL_frame (hd pre hp) (fun b hb => ?_)⟩
  have h1 := h.ge b hb
  have h2 := h.lt b hb
  rw [List.getElem?_append_right (by omega), List.getElem?_append_right (by omega), hp]
  exact hf _ (by omega) (by rw [Nat.sub_add_cancel h1]; exact hb)
theorem OwnT.app {p : Nat} {T : List Blk} {cs enc : List C} {ids : List Nat} (h : OwnT p T cs enc ids) (X : List Blk) : OwnT p (T ++ X) cs enc ids := h.ext (fun i hi _ => List.getElem?_append_left hi)
theorem OwnT.lent {p : Nat} {T pre : List Blk} {cs enc : List C} {ids : List Nat} (h : OwnT p T cs enc ids) (hp : pre.length = p) : Lent (pre ++ T) (.agg cs) (.agg enc) ids := by
  obtain ⟨d, hd⟩ := h.own
  exact .agg (hd pre hp)

/-- a call that yields an owned tree -/
theorem acalls_ownT {P : Program} {f : FuncId} {args args' : List AV} {p : Nat} {pre T : List Blk} {is : List Nat} {enc : List C} {F : List C → AV} (hp : pre.length = p) (hz : Lents (pre ++ T) args args' is) (hc : ACl P f args' [] (OwnK enc F)) (hF : ∀ cs, cs.all C.flat = true → (F cs).flat = true) (hR : ∀ cs g, (F cs).ren g = F (cs.map (C.ren g))) :
    ACalls P f args (pre ++ T) [] (fun r h' => ∃ cs T' ids, r = F cs ∧ h' = pre ++ T' ∧ T.length ≤ T'.length ∧ (∀ i, i < T.length → T'[i]? = T[i]?) ∧ OwnT p T' cs enc ids ∧ ∀ b ∈ ids, T.length + p ≤ b) := by
  refine (acalls_own hz hc hF hR).mono ?_
  rintro r h' ⟨cs, d, ids, rfl, e1, e2, e3, e4, e5⟩
  obtain ⟨T', rfl, f1, f2⟩ := pre_split pre e4 e5
  have hge : ∀ b ∈ ids, T.length + p ≤ b := fun b hb => by have := (e3 b hb).1; simp only [List.length_append] at this; omega
  refine ⟨cs, T', ids, rfl, rfl, f1, f2, ⟨e2, fun b hb => by have := hge b hb; omega, d, fun pre' hp' => ?_⟩, hge⟩
  exact owL_pre (by omega) (fun _ _ => rfl) e1 (fun b hb => by have := hge b hb; omega)
/-- a call that reads owned trees -/
theorem acalls_readT {P : Program} {f : FuncId} {args args' : List AV} {h : List Blk} {is : List Nat} {v : Value} (hz : Lents h args args' is) (hc : AFn P f args' (.one (.sc v))) : ACalls P f args h [] (fun r' h' => r' = .one (.sc v) ∧ h' = h) :=
  acalls_read hz hc rfl (fun _ => rfl)
/-- a call that changes an owned tree -/
theorem acalls_changeT {P : Program} {f : FuncId} {args : List AV} {p : Nat} {pre T : List Blk} {cs enc : List C} {ids : List Nat} {v : Value} (hp : pre.length = p) (hge : ∀ b ∈ ids, p ≤ b) (hn : ids.Nodup)
    (hc : ∃ d, ACl P f args (pre ++ T) (fun r h' => r = .one (.sc v) ∧ fzL (ow h' d) cs = some (enc, ids) ∧ (pre ++ T).length ≤ h'.length ∧ ∀ b, b < (pre ++ T).length → b ∉ ids → h'[b]? = (pre ++ T)[b]?)) :
    ∃ ks, ACalls P f args (pre ++ T) ks (fun r h' => ∃ T', r = .one (.sc v) ∧ h' = pre ++ T' ∧ T.length ≤ T'.length ∧ (∀ i, i < T.length → i + p ∉ ids → T'[i]? = T[i]?) ∧ OwnT p T' cs enc ids) := by
  obtain ⟨d, hc⟩ := hc
  refine ⟨_, (acalls_full hc).mono ?_⟩
  rintro r h' ⟨rfl, e1, e2, e3⟩
  have hh : h' = pre ++ h'.drop pre.length := by
    apply List.ext_getElem?
    intro i
    by_cases hi : i < pre.length
    · rw [e3 i (by simp only [List.length_append]; omega) (fun hm => by have := hge i hm; omega), List.getElem?_append_left hi, List.getElem?_append_left hi]
    · rw [List.getElem?_append_right (by omega), List.getElem?_drop]; congr 1; omega
  refine ⟨h'.drop pre.length, rfl, hh, by simp only [List.length_append, List.length_drop] at *; omega, fun i hi hm => ?_, hn, hge, d, fun pre' hp' => ?_⟩
  · rw [List.getElem?_drop, e3 _ (by simp only [List.length_append]; omega) (by rw [hp, Nat.add_comm]; exact hm), List.getElem?_append_right (by omega)]
    congr 1; omega
  · rw [hh] at e1
    exact owL_pre (by omega) (fun _ _ => rfl) e1 (fun b hb => by have := hge b hb; omega)
theorem wm_at {P : Program} {N : Nat} {R : ASt → Prop} {c : MC} {k : List Item} {f : FuncId} {args : List AV} {o : Oper} {l : List Oper} {U : List Nat} {ok : Bool} {s : ASt} {ks : List Nat} {K' : AV → List Blk → Prop} {h0 : List Blk} (hc : ACalls P f args h0 ks K') (hok : ((ok && ks.all c.ms.contains) || decide (l.length < c.f)) = true)
    (hmut : c.ms.all (fun b => match c.h0[b]? with | some k => k.st.isMut | none => false) = true) (hs : h0 = s.h)
    (hK : ∀ r h', K' r h' → WM P N c R k (mrun P c l (addU o.dst U) (ok && ks.all c.ms.contains) (ASt.put ⟨s.n, s.t, h'⟩ o.dst r))) : WM P N c R k (.call f args o l U ok s) := by
  subst hs
  exact wm_any hc hok hmut hK
/-- a list of terms' marks are few -/
theorem _root_.Go.Proofs.Grad.Ty.sizes_kids (t : Ty) : Ty.sizes t.kids < t.size := by cases t; simp only [Ty.size, Ty.kids]; omega
end Go.Proofs.Sh
namespace Go.Proofs.Grad
mutual
theorem Tm.mw_le : ∀ t : Tm, t.mw ≤ 6 * t.size
  | .mk k n m t f l a => by
    have h1 := Ty.sizes_kids t; have h2 := Ty.sizes_kids f; have h3 := Tm.mws_le a
    simp only [Tm.mw, Tm.size]; omega
theorem Tm.mws_le : ∀ l : List Tm, Tm.mws l ≤ 6 * Tm.sizes l
  | [] => Nat.le_refl _
  | t :: l => by have h1 := Tm.mw_le t; have h2 := Tm.mws_le l; simp only [Tm.mws, Tm.sizes]; omega
end
end Go.Proofs.Grad
/- Owned results, and the same seen as frozen ones. -/
namespace Go.Proofs.Sh
open Go.RowKit Go.Proofs.Grad

@[go_sem] theorem app3a {α : Type} (T : List α) (x y z : α) : (T ++ [x] ++ [y] ++ [z])[T.length]? = some x := by simp
@[go_sem] theorem app3b {α : Type} (T : List α) (x y z : α) : (T ++ [x] ++ [y] ++ [z])[T.length + 1]? = some y := by simp
@[go_sem] theorem app3c {α : Type} (T : List α) (x y z : α) : (T ++ [x] ++ [y] ++ [z])[T.length + 1 + 1]? = some z := by
  rw [List.append_assoc, List.append_assoc, List.getElem?_append_right (by omega), show T.length + 1 + 1 - T.length = 2 from by omega]; rfl
@[go_sem] theorem set3a {α : Type} (T : List α) (x y z u : α) : (T ++ [x] ++ [y] ++ [z]).set T.length u = T ++ [u] ++ [y] ++ [z] := by simp
@[go_sem] theorem set3b {α : Type} (T : List α) (x y z u : α) : (T ++ [x] ++ [y] ++ [z]).set (T.length + 1) u = T ++ [x] ++ [u] ++ [z] := by simp
@[go_sem] theorem set3c {α : Type} (T : List α) (x y z u : α) : (T ++ [x] ++ [y] ++ [z]).set (T.length + 1 + 1) u = T ++ [x] ++ [y] ++ [u] := by
  rw [List.append_assoc, List.append_assoc, List.set_append_right _ _ (by omega), show T.length + 1 + 1 - T.length = 2 from by omega]; simp
/-- what stands about a struct's cells in a result -/
structure WF (F : List C → AV) : Prop where
  flat : ∀ cs, cs.all C.flat = true → (F cs).flat = true
  ren : ∀ cs g, (F cs).ren g = F (cs.map (C.ren g))
  pr : ∀ {h : List Blk} {ids : List Nat} {cs cs' : List C}, prL false h ids cs = some (cs', []) → prVs false h ids [F cs] = some ([F cs'], [])
  frz : ∀ {L L' μ : List Nat} {w : World} {cs enc : List C} {v : Value}, (∀ us, C.repl L μ w cs us → C.repl L' [] w enc us) → AV.rep L μ w (F cs) v → AV.rep L' [] w (F enc) v
theorem WF.agg : WF .agg := ⟨fun _ h => h, ren_agg, prVs_agg, fun h hr => by
  simp only [AV.rep] at hr ⊢
  obtain ⟨arr, rfl, h2⟩ := hr
  exact ⟨arr, rfl, h _ h2⟩⟩
def boolF (b : Bool) (cs : List C) : AV := .tup [.agg cs, .one (.sc (.bool b))]
theorem WF.bool (b : Bool) : WF (boolF b) :=
  ⟨fun cs h => by simp only [boolF, AV.flat, AV.flats, h, C.flat, Bool.and_true], fun cs g => by simp only [boolF, AV.ren, AV.renL, renA_map, C.ren],
   fun e => by simp only [boolF, prVs, prV, e, prC, List.append_nil], fun h hr => by
    simp only [boolF, AV.rep, AV.repl] at hr ⊢
    obtain ⟨arr, rfl, u, us', e1, ⟨a2, rfl, h2⟩, h3⟩ := hr
    exact ⟨arr, rfl, .agg a2, us', e1, ⟨a2, rfl, h _ h2⟩, by simpa only [C.rep] using h3⟩⟩
/-- a function that yields an owned tree yields a tree -/
theorem own_frz {P : Program} {f : FuncId} {args : List AV} {enc : List C} {F : List C → AV} (hF : WF F) (h : ACl P f args [] (OwnK enc F)) : AFn P f args (F enc) := by
  obtain ⟨⟨hfn, hcall⟩⟩ := h
  refine ⟨⟨hfn, fun X μ w vs hS hr => (hcall X μ w vs hS hr).mono ?_⟩⟩
  rintro e w' ⟨r, H', μ', v, he, ⟨cs, d, ids, rfl, e1, e2, e3⟩, s1, s2, s3⟩
  have hX : ∀ x ∈ X, x ∈ X ++ alive μ' H' := fun x hx => List.mem_append.2 (.inl hx)
  refine ⟨F enc, [], [], v, he, ⟨rfl, rfl⟩, ⟨rfl, fun _ h => by simp at h, s1.xlt, fun i b g h => by simp at h, fun i j b b' g _ h => by simp at h, fun i b g h => by simp at h⟩, ⟨?_, fun b g hb => ?_, fun g hg => by simp [alive] at hg⟩, ?_⟩
  · exact s2.keep
  · have := hS.len; simp at this; subst this; simp at hb
  · simp only [alive, List.append_nil]
    refine hF.frz (fun us hu => ?_) s3
    exact fzL_rep s1 hX (owL_fz e1) (fun b hb g hg hx => by
      obtain ⟨k, hk, hm⟩ := owL_mut e1 b hb
      exact s1.out b k g hk (known_of_mut hm) hg hx) hu
/-- the end of a function whose result is an owned tree -/
theorem ret_ownT {P : Program} {rs : List ResultVar} {s : ASt} {p : Nat} {pre T : List Blk} {cs enc : List C} {ids : List Nat} {F : List C → AV} (hF : WF F) (O : OwnT p T cs enc ids) (hs : s.h = pre ++ T) (hp : pre.length = p) (h : aresult P s rs = some (F cs)) : ARet P rs 0 (OwnK enc F) s := by
  obtain ⟨d, hd⟩ := O.own
  exact ret_ownK (d := d) h (by rw [hs]; exact hd pre hp) O.nodup (fun _ => hF.pr)
end Go.Proofs.Sh
/- Owned results: none at all. -/
namespace Go.Proofs.Sh
open Go.RowKit Go.Proofs.Grad
theorem tm0_ow (h : List Blk) (d : Nat) : fzL (ow h d) (teC tm0) = some (teC tm0, []) := by
  simp only [tm0, noTy, teC, tyR, teR, Ty.kind, Ty.kids, fzL, ow_int, ow_str]
  rw [ow_leaf (by simp)]
  rfl
theorem own_none {P : Program} {f : FuncId} {args : List AV} {F : List C → AV} (h : AFn P f args (F (teC tm0))) : ACl P f args [] (OwnK (teC tm0) F) :=
  h.cl.mono fun r H' ⟨e1, e2⟩ => by subst e1 e2; exact ⟨teC tm0, 0, [], rfl, tm0_ow _ _, List.nodup_nil, by simp⟩
end Go.Proofs.Sh
/- Calls with frozen arguments that yield an owned tree beside a slice that is not. -/
namespace Go.Proofs.Sh
open Go.RowKit Go.Proofs.Grad
theorem acalls_ownS {P : Program} {f : FuncId} {args args' : List AV} {h h1 : List Blk} {enc : List C} {F : List C → AV} (hp : prep true h [] args = some (args', [], h1)) (hc : ACl P f args' [] (OwnK enc F)) (hR : ∀ cs g, (F cs).ren g = F (cs.map (C.ren g))) : ACalls P f args h [] (Owned h1 enc F) := by
  refine acalls_at [] (prepC_nil hp) hc.out (fun r H' ⟨cs, d, ids, e1, e2, e3, e4⟩ => ?_)
  subst e1
  have hm : merge h1 [] H' = h1 ++ H'.map (Blk.ren (back h1.length [])) := by simp [merge, setAll]
  rw [hm]
  refine ⟨_, d, ids.map (back h1.length []), hR _ _, owL_ren e2 (fun b _ k hk => ?_), ?_, fun b hb => ?_, by simp, fun b hb => List.getElem?_append_left hb⟩
  · rw [back_nil, List.getElem?_append_right (by omega), Nat.add_sub_cancel_left, List.getElem?_map, hk]; rfl
  · exact nodup_map (fun x _ y _ hxy => by simpa [back_nil] using hxy) e3
  · obtain ⟨x, hx, rfl⟩ := List.mem_map.1 hb
    have := (owL_mut e2 x hx).lt
    rw [back_nil]
    simp only [List.length_append, List.length_map]
    omega
/-- a struct's cells, and a slice -/
def pairF (R : List (List C)) (cs : List C) : AV := .tup [.agg cs, .one (.sl R)]
theorem pairF_ren (R : List (List C)) (cs : List C) (g : Nat → Nat) : (pairF R cs).ren g = pairF R (cs.map (C.ren g)) := by
  simp only [pairF, AV.ren, AV.renL, renA_map, C.ren]
theorem prVs_pairF {R : List (List C)} {h : List Blk} {ids : List Nat} {cs cs' : List C} (e : prL false h ids cs = some (cs', [])) : prVs false h ids [pairF R cs] = some ([pairF R cs'], []) := by
  simp only [pairF, prVs, prV, e, prC, List.append_nil]
end Go.Proofs.Sh
