/- Texts of the proof, one behind another. -/
import Derived.Test.YtfgjiamolknicaaKW14
import Derived.Test.YtfgjiamolknicaaKW15
set_option linter.unusedSimpArgs false
set_option linter.unusedVariables false
/- Free names of terms, names in order, and substitution: the plain law. No program, no world. -/
namespace Go.Proofs.Grad
/-- x stands free in a term -/
def E.fr (x : UInt8) : E → Bool
  | .var y => y == x
  | .num _ | .tru | .fls => false
  | .lam y _ a => !(y == x) && a.fr x
  | .app a b | .add a b | .less a b | .pair a b => a.fr x || b.fr x
  | .ite a b c => a.fr x || (b.fr x || c.fr x)
  | .fst a | .snd a | .asc _ a | .cast _ _ _ a => a.fr x
def letters : List UInt8 := (List.range 26).map (fun i => UInt8.ofNat (97 + i))
def names (p : UInt8 → Bool) : List UInt8 := letters.filter p
theorem mem_letters {x : UInt8} : x ∈ letters ↔ nmB x = true := by
  simp only [letters, List.mem_map, List.mem_range, nmB, Bool.and_eq_true, decide_eq_true_eq]
  constructor
  · rintro ⟨i, hi, rfl⟩
    simp only [UInt8.toNat_ofNat']
    omega
  · rintro ⟨h1, h2⟩
    refine ⟨x.toNat - 97, by omega, UInt8.toNat_inj.1 ?_⟩
    simp only [UInt8.toNat_ofNat']
    omega
theorem mem_names {p : UInt8 → Bool} {x : UInt8} : x ∈ names p ↔ nmB x = true ∧ p x = true := by rw [names, List.mem_filter, mem_letters]
theorem letters_sorted : letters.Pairwise (· < ·) := by decide
theorem names_sorted (p : UInt8 → Bool) : (names p).Pairwise (· < ·) := letters_sorted.filter _
theorem names_congr {p q : UInt8 → Bool} (h : ∀ x, nmB x = true → p x = q x) : names p = names q := List.filter_congr fun x hx => h x (mem_letters.1 hx)
theorem names_len (p : UInt8 → Bool) : (names p).length ≤ 26 := Nat.le_trans (List.length_filter_le _ _) (by decide)
theorem sorted_ext : ∀ {l m : List UInt8}, l.Pairwise (· < ·) → m.Pairwise (· < ·) → (∀ x, x ∈ l ↔ x ∈ m) → l = m
  | [], [], _, _, _ => rfl
  | [], b :: m, _, _, h => by have := (h b).2 (by simp); simp at this
  | a :: l, [], _, _, h => by have := (h a).1 (by simp); simp at this
  | a :: l, b :: m, hl, hm, h => by
    rw [List.pairwise_cons] at hl hm
    have hab : a = b := by
      have h1 := (h a).1 (by simp)
      have h2 := (h b).2 (by simp)
      rw [List.mem_cons] at h1 h2
      rcases h1 with h1 | h1
      · exact h1
      · rcases h2 with h2 | h2
        · exact h2.symm
        · exact absurd (UInt8.lt_trans (hl.1 b h2) (hm.1 a h1)) (UInt8.lt_irrefl _)
    subst hab
    rw [sorted_ext hl.2 hm.2 fun x => ?_]
    constructor
    · intro hx
      have := (h x).1 (List.mem_cons_of_mem _ hx)
      rcases List.mem_cons.1 this with e | e
      · subst e; exact absurd (hl.1 x hx) (UInt8.lt_irrefl _)
      · exact e
    · intro hx
      have := (h x).2 (List.mem_cons_of_mem _ hx)
      rcases List.mem_cons.1 this with e | e
      · subst e; exact absurd (hm.1 x hx) (UInt8.lt_irrefl _)
      · exact e
theorem names_have {p : UInt8 → Bool} {y : UInt8} (h : y ∈ names p) : names p = names (fun x => p x || x == y) := by
  refine names_congr fun x hx => ?_
  cases e : (x == y) with
  | false => simp
  | true => rw [eq_of_beq e, (mem_names.1 h).2]; rfl
theorem names_add {p : UInt8 → Bool} {y : UInt8} (hy : nmB y = true) {k : Nat} (hk : k ≤ (names p).length) (h1 : ∀ x ∈ (names p).take k, x < y) (h2 : ∀ x ∈ (names p).drop k, y < x) : (names p).take k ++ [y] ++ (names p).drop k = names (fun x => p x || x == y) := by
  have hs := names_sorted p
  refine sorted_ext ?_ (names_sorted _) fun x => ?_
  · have e := hs
    rw [← List.take_append_drop k (names p), List.pairwise_append] at e
    rw [List.append_assoc, List.pairwise_append]
    refine ⟨e.1, ?_, ?_⟩
    · rw [List.singleton_append, List.pairwise_cons]; exact ⟨h2, e.2.1⟩
    · intro a ha b hb
      rw [List.singleton_append, List.mem_cons] at hb
      rcases hb with rfl | hb
      · exact h1 a ha
      · exact e.2.2 a ha b hb
  · rw [mem_names, Bool.or_eq_true, beq_iff_eq]
    have hm : x ∈ names p ↔ x ∈ (names p).take k ∨ x ∈ (names p).drop k := by rw [← List.mem_append, List.take_append_drop]
    simp only [List.mem_append, List.mem_singleton]
    constructor
    · rintro ((h | h) | h)
      · have := mem_names.1 (hm.2 (.inl h)); exact ⟨this.1, .inl this.2⟩
      · subst h; exact ⟨hy, .inr rfl⟩
      · have := mem_names.1 (hm.2 (.inr h)); exact ⟨this.1, .inl this.2⟩
    · rintro ⟨h, h3 | h3⟩
      · rcases hm.1 (mem_names.2 ⟨h, h3⟩) with h | h
        · exact .inl (.inl h)
        · exact .inr h
      · exact .inl (.inr h3)
/-- the first k letters that are in a set -/
def namesK (p : UInt8 → Bool) (k : Nat) : List UInt8 := (letters.take k).filter p
theorem namesK_all (p : UInt8 → Bool) : namesK p 26 = names p := rfl
theorem letters_get (k : Nat) (h : k < 26) : letters[k]? = some (UInt8.ofNat (97 + k)) := by simp [letters, h]
theorem namesK_succ (p : UInt8 → Bool) (k : Nat) (h : k < 26) : namesK p (k + 1) = namesK p k ++ (match p (UInt8.ofNat (97 + k)) with | true => [UInt8.ofNat (97 + k)] | false => []) := by
  rw [namesK, List.take_add_one, letters_get k h, List.filter_append, namesK]
  generalize UInt8.ofNat (97 + k) = y
  cases e : p y <;> simp [e]
theorem namesK_len (p : UInt8 → Bool) (k : Nat) : (namesK p k).length ≤ 26 := by
  refine Nat.le_trans (List.length_filter_le _ _) ?_
  have : letters.length = 26 := by decide
  rw [List.length_take, this]; omega
end Go.Proofs.Grad
/- Terms: values, on shadows. -/
namespace Go.Proofs.Grad
end Go.Proofs.Grad
namespace Go.Proofs.Ytfgjiamolknicaa
open Go.RowKit Go.Proofs.Sh Go.Proofs.Grad
set_option maxRecDepth 100000
set_option maxHeartbeats 8000000
theorem sSame (n : Nat) (hn : n ≤ 4611686018427387904) : ∀ a b : Ty, a.size < n → AFn Try.prog 142 [.agg (tyC a), .agg (tyC b)] (.one (.sc (.bool (a.same b)))) := by
  induction n with
  | zero => intro a b h; omega
  | succ n ih =>
    intro a b h
    have hl : a.kids.length < 4611686018427387904 := by have := Ty.length_le_sizes a.kids; cases a; simp only [Ty.size, Ty.kids] at *; omega
    have e : a.same b = (a.kind == b.kind && all2 Ty.same a.kids b.kids) := by cases a; cases b; simp only [Ty.same, Ty.kind, Ty.kids, Ty.sames_all2]
    rw [e]
    cases hk : (a.kind == b.kind)
    · refine fn_in ?_; refine acl_in Try.func142 rfl isfn_142 (Nat.le_of_ble_eq_true rfl) (fun R hR => ?_); rw [Try.results142] at hR; refine wg_run ?_; (simp only [Try.f142, go_sem, hk, int_bne])
      repeat' (first | (simp only [go_sem, hk, int_bne]) | (((first | apply sp1 | apply sp2 | apply sp3 | apply sp4 | apply sp5 | apply sp6 | apply sp7) <;> intro hb) <;> (simp only [go_sem, hb, hk, int_bne])) | ((first | apply wm_done | apply wt_done | apply wg_run | refine fk ?_ ?_) <;> (simp only [go_sem, hk, int_bne])))
      (refine hR _ (rat [] (hK := ⟨rfl, rfl⟩)))
    · by_cases hlm : a.kids.length = b.kids.length
      · have hb0 : ((a.kids.length : Int) == (b.kids.length : Int)) = true := by simp; omega
        refine fn_in ?_; refine acl_in Try.func142 rfl isfn_142 (Nat.le_of_ble_eq_true rfl) (fun R hR => ?_); rw [Try.results142] at hR; refine wg_run ?_; (simp only [Try.f142, go_sem, hk, int_bne, hb0])
        repeat' (first | (simp only [go_sem, hk, int_bne, hb0]) | (((first | apply sp1 | apply sp2 | apply sp3 | apply sp4 | apply sp5 | apply sp6 | apply sp7) <;> intro hb) <;> (simp only [go_sem, hb, hk, int_bne, hb0])) | ((first | apply wm_done | apply wt_done | apply wg_run | refine fk ?_ ?_) <;> (simp only [go_sem, hk, int_bne, hb0])))
        refine wd_for [2, 3, 5] (fun k => [.one (.ptr 2 0 0 0), .one (.ptr 2 1 0 0), .one (.sc (.int .i64 (k : Nat)))]) (fun _ => [⟨2, 25, .mut, [tyC a]⟩, ⟨2, 25, .mut, [tyC b]⟩])
          (fun k => k ≤ a.kids.length ∧ all2 Ty.same (a.kids.drop k) (b.kids.drop k) = all2 Ty.same a.kids b.kids) (fun k => a.kids.length - k) 0 ⟨Nat.zero_le _, rfl⟩ (hat [0, 1] (hI := ⟨rfl, rfl⟩)) ?_
        rintro k ⟨hk0, hs⟩ G hG
        refine wg_run ?_
        (simp only [go_sem])
        ((first | apply sp1 | apply sp2 | apply sp3 | apply sp4 | apply sp5 | apply sp6 | apply sp7) <;> intro hb) <;> (simp only [go_sem, hb])
        · have hk1 : k < a.kids.length := by have := of_decide_eq_true hb; omega
          have hk2 : decide ((k : Int) < (b.kids.length : Int)) = true := by simp; omega
          have hw1 := wrap_succ hk1 (by omega)
          rw [drop_kid hk1, drop_kid (by omega : k < b.kids.length), all2] at hs
          have hc := ih (by omega) (kid a.kids k) (kid b.kids k) (by have := kid_lt hk1; omega)
          repeat' (first | (first | (simp only [go_sem, hb, hk2, hw1]) | (((first | apply sp1 | apply sp2 | apply sp3 | apply sp4 | apply sp5 | apply sp6 | apply sp7) <;> intro hb) <;> (simp only [go_sem, hb, hb, hk2, hw1])) | ((first | apply wm_done | apply wt_done | apply wg_run | refine fk ?_ ?_) <;> (simp only [go_sem, hb, hk2, hw1]))) | ((first | refine mxq6 [] ?_ | refine mxq5 [] ?_ | refine mxq4 [] ?_ | refine mxq3 [] ?_ | refine mxq2 [] ?_ | refine mxq1 [] ?_ | refine mxq0 [] ?_ | fail); (simp only [go_sem, hb, hk2])) | (first | refine cdq ?_ (hc := hc) | refine cmq ?_ (hc := hc) | refine ctq ?_ (hc := hc)); (simp only [go_sem]))
          · exact hG (k + 1) _ _ ⟨by omega, by simpa [hb] using hs⟩ (by omega) (hat [0, 1] (hI := ⟨rfl, rfl⟩))
          · (refine hR _ (rat [] (hK := ⟨?_, rfl⟩)))
            simpa [hb] using hs
        · have hk1 : ¬ k < a.kids.length := by have := of_decide_eq_false hb; omega
          rw [List.drop_eq_nil_of_le (by omega), List.drop_eq_nil_of_le (by omega), all2] at hs
          (refine hR _ (rat [] (hK := ⟨?_, rfl⟩)))
          rw [← hs]; rfl
      · have hb0 : ((a.kids.length : Int) == (b.kids.length : Int)) = false := by simp; omega
        refine fn_in ?_; refine acl_in Try.func142 rfl isfn_142 (Nat.le_of_ble_eq_true rfl) (fun R hR => ?_); rw [Try.results142] at hR; refine wg_run ?_; (simp only [Try.f142, go_sem, hk, int_bne, hb0])
        repeat' (first | (simp only [go_sem, hk, int_bne, hb0]) | (((first | apply sp1 | apply sp2 | apply sp3 | apply sp4 | apply sp5 | apply sp6 | apply sp7) <;> intro hb) <;> (simp only [go_sem, hb, hk, int_bne, hb0])) | ((first | apply wm_done | apply wt_done | apply wg_run | refine fk ?_ ?_) <;> (simp only [go_sem, hk, int_bne, hb0])))
        (refine hR _ (rat [] (hK := ⟨?_, rfl⟩)))
        rw [all2_len hlm]; rfl
end Go.Proofs.Ytfgjiamolknicaa
/- Steps of terms with casts: substitution and the rules, in the program. On shadows. -/
namespace Go.Proofs.Grad
theorem nm_beq (x y : UInt8) : ((nm x).toList == (nm y).toList) = (x == y) := by
  rw [Go.ByteArray.toList_eq, Go.ByteArray.toList_eq]; simp [nm]
end Go.Proofs.Grad
namespace Go.Proofs.Ytfgjiamolknicaa
open Go.RowKit Go.Proofs.Sh Go.Proofs.Grad
set_option maxRecDepth 100000
set_option maxHeartbeats 8000000
theorem iSubst (x : UInt8) (v : E) (e : E) : AFn Try.prog 69 [.agg (teC e.tm), .one (.sc (.string (nm x))), .agg (teC v.tm)] (.agg (teC (e.subst x v).tm)) := by
  induction e with
  | var y =>
    have hn := nm_beq y x
    simp only [E.subst]
    cases e1 : (y == x)
    all_goals
      rw [e1] at hn
      simp only [E.tm]
      refine fn_in ?_; refine acl_in Try.func69 rfl isfn_69 (Nat.le_of_ble_eq_true rfl) (fun R hR => ?_); rw [Try.results69] at hR; refine wg_run ?_; (simp only [Try.f69, go_sem, hn])
      repeat' (first | (first | (simp only [go_sem, hn]) | (((first | apply sp1 | apply sp2 | apply sp3 | apply sp4 | apply sp5 | apply sp6 | apply sp7) <;> intro hb) <;> (simp only [go_sem, hb, hn])) | ((first | apply wm_done | apply wt_done | apply wg_run | refine fk ?_ ?_) <;> (simp only [go_sem, hn]))) | (first | (refine wl_next (wg_run ?_); (simp only [go_sem])) | refine wd_rounds 6 ?_) | ((first | refine mxq6 [] ?_ | refine mxq5 [] ?_ | refine mxq4 [] ?_ | refine mxq3 [] ?_ | refine mxq2 [] ?_ | refine mxq1 [] ?_ | refine mxq0 [] ?_ | fail); (simp only [go_sem, hn])) | fail)
      (refine hR _ ?_; refine rat [] (hK := ⟨rfl, rfl⟩))
  | lam y t a ih =>
    have hn := nm_beq y x
    simp only [E.subst]
    cases e1 : (y == x)
    all_goals
      rw [e1] at hn
      simp only [E.tm]
      refine fn_in ?_; refine acl_in Try.func69 rfl isfn_69 (Nat.le_of_ble_eq_true rfl) (fun R hR => ?_); rw [Try.results69] at hR; refine wg_run ?_; (simp only [Try.f69, go_sem, hn])
      repeat' (first | (first | (simp only [go_sem, hn]) | (((first | apply sp1 | apply sp2 | apply sp3 | apply sp4 | apply sp5 | apply sp6 | apply sp7) <;> intro hb) <;> (simp only [go_sem, hb, hn])) | ((first | apply wm_done | apply wt_done | apply wg_run | refine fk ?_ ?_) <;> (simp only [go_sem, hn]))) | (first | (refine wl_next (wg_run ?_); (simp only [go_sem])) | refine wd_rounds 6 ?_) | ((first | refine mxq6 [] ?_ | refine mxq5 [] ?_ | refine mxq4 [] ?_ | refine mxq3 [] ?_ | refine mxq2 [] ?_ | refine mxq1 [] ?_ | refine mxq0 [] ?_ | fail); (simp only [go_sem, hn])) | (first | refine cdq ?_ (hc := ih) | refine cmq ?_ (hc := ih) | refine ctq ?_ (hc := ih)); (simp only [go_sem]) | fail)
      (refine hR _ ?_; refine rat [] (hK := ⟨rfl, rfl⟩))
  | num _ | tru | fls =>
    simp only [E.subst, E.tm, nd]
    refine fn_in ?_; refine acl_in Try.func69 rfl isfn_69 (Nat.le_of_ble_eq_true rfl) (fun R hR => ?_); rw [Try.results69] at hR; refine wg_run ?_; (simp only [Try.f69, go_sem])
    repeat' (first | (first | (((first | apply sp1 | apply sp2 | apply sp3 | apply sp4 | apply sp5 | apply sp6 | apply sp7) <;> intro hb) <;> (simp only [go_sem, hb])) | ((first | apply wm_done | apply wt_done | apply wg_run | refine fk ?_ ?_) <;> (simp only [go_sem]))) | (first | (refine wl_next (wg_run ?_); (simp only [go_sem])) | refine wd_rounds 6 ?_) | ((first | refine mxq6 [] ?_ | refine mxq5 [] ?_ | refine mxq4 [] ?_ | refine mxq3 [] ?_ | refine mxq2 [] ?_ | refine mxq1 [] ?_ | refine mxq0 [] ?_ | fail); (simp only [go_sem])) | fail)
    (refine hR _ ?_; refine rat [] (hK := ⟨rfl, rfl⟩))
  | app a b iha ihb | add a b iha ihb | less a b iha ihb | pair a b iha ihb =>
    simp only [E.subst, E.tm, nd]
    refine fn_in ?_; refine acl_in Try.func69 rfl isfn_69 (Nat.le_of_ble_eq_true rfl) (fun R hR => ?_); rw [Try.results69] at hR; refine wg_run ?_; (simp only [Try.f69, go_sem])
    repeat' (first | (first | (((first | apply sp1 | apply sp2 | apply sp3 | apply sp4 | apply sp5 | apply sp6 | apply sp7) <;> intro hb) <;> (simp only [go_sem, hb])) | ((first | apply wm_done | apply wt_done | apply wg_run | refine fk ?_ ?_) <;> (simp only [go_sem]))) | (first | (refine wl_next (wg_run ?_); (simp only [go_sem])) | refine wd_rounds 6 ?_) | ((first | refine mxq6 [] ?_ | refine mxq5 [] ?_ | refine mxq4 [] ?_ | refine mxq3 [] ?_ | refine mxq2 [] ?_ | refine mxq1 [] ?_ | refine mxq0 [] ?_ | fail); (simp only [go_sem])) | (first | refine cdq ?_ (hc := iha) | refine cmq ?_ (hc := iha) | refine ctq ?_ (hc := iha)); (simp only [go_sem]) | (first | refine cdq ?_ (hc := ihb) | refine cmq ?_ (hc := ihb) | refine ctq ?_ (hc := ihb)); (simp only [go_sem]) | fail)
    (refine hR _ ?_; refine rat [] (hK := ⟨rfl, rfl⟩))
  | ite a b c iha ihb ihc =>
    simp only [E.subst, E.tm, nd]
    refine fn_in ?_; refine acl_in Try.func69 rfl isfn_69 (Nat.le_of_ble_eq_true rfl) (fun R hR => ?_); rw [Try.results69] at hR; refine wg_run ?_; (simp only [Try.f69, go_sem])
    repeat' (first | (first | (((first | apply sp1 | apply sp2 | apply sp3 | apply sp4 | apply sp5 | apply sp6 | apply sp7) <;> intro hb) <;> (simp only [go_sem, hb])) | ((first | apply wm_done | apply wt_done | apply wg_run | refine fk ?_ ?_) <;> (simp only [go_sem]))) | (first | (refine wl_next (wg_run ?_); (simp only [go_sem])) | refine wd_rounds 6 ?_) | ((first | refine mxq6 [] ?_ | refine mxq5 [] ?_ | refine mxq4 [] ?_ | refine mxq3 [] ?_ | refine mxq2 [] ?_ | refine mxq1 [] ?_ | refine mxq0 [] ?_ | fail); (simp only [go_sem])) | (first | refine cdq ?_ (hc := iha) | refine cmq ?_ (hc := iha) | refine ctq ?_ (hc := iha)); (simp only [go_sem]) | (first | refine cdq ?_ (hc := ihb) | refine cmq ?_ (hc := ihb) | refine ctq ?_ (hc := ihb)); (simp only [go_sem]) | (first | refine cdq ?_ (hc := ihc) | refine cmq ?_ (hc := ihc) | refine ctq ?_ (hc := ihc)); (simp only [go_sem]) | fail)
    (refine hR _ ?_; refine rat [] (hK := ⟨rfl, rfl⟩))
  | fst a ih | snd a ih | cast s t l a ih =>
    simp only [E.subst, E.tm, nd]
    refine fn_in ?_; refine acl_in Try.func69 rfl isfn_69 (Nat.le_of_ble_eq_true rfl) (fun R hR => ?_); rw [Try.results69] at hR; refine wg_run ?_; (simp only [Try.f69, go_sem])
    repeat' (first | (first | (((first | apply sp1 | apply sp2 | apply sp3 | apply sp4 | apply sp5 | apply sp6 | apply sp7) <;> intro hb) <;> (simp only [go_sem, hb])) | ((first | apply wm_done | apply wt_done | apply wg_run | refine fk ?_ ?_) <;> (simp only [go_sem]))) | (first | (refine wl_next (wg_run ?_); (simp only [go_sem])) | refine wd_rounds 6 ?_) | ((first | refine mxq6 [] ?_ | refine mxq5 [] ?_ | refine mxq4 [] ?_ | refine mxq3 [] ?_ | refine mxq2 [] ?_ | refine mxq1 [] ?_ | refine mxq0 [] ?_ | fail); (simp only [go_sem])) | (first | refine cdq ?_ (hc := ih) | refine cmq ?_ (hc := ih) | refine ctq ?_ (hc := ih)); (simp only [go_sem]) | fail)
    (refine hR _ ?_; refine rat [] (hK := ⟨rfl, rfl⟩))
  | _ =>
    rename_i t a ih
    simp only [E.subst, E.tm, nd]
    refine fn_in ?_; refine acl_in Try.func69 rfl isfn_69 (Nat.le_of_ble_eq_true rfl) (fun R hR => ?_); rw [Try.results69] at hR; refine wg_run ?_; (simp only [Try.f69, go_sem])
    repeat' (first | (first | (((first | apply sp1 | apply sp2 | apply sp3 | apply sp4 | apply sp5 | apply sp6 | apply sp7) <;> intro hb) <;> (simp only [go_sem, hb])) | ((first | apply wm_done | apply wt_done | apply wg_run | refine fk ?_ ?_) <;> (simp only [go_sem]))) | (first | (refine wl_next (wg_run ?_); (simp only [go_sem])) | refine wd_rounds 6 ?_) | ((first | refine mxq6 [] ?_ | refine mxq5 [] ?_ | refine mxq4 [] ?_ | refine mxq3 [] ?_ | refine mxq2 [] ?_ | refine mxq1 [] ?_ | refine mxq0 [] ?_ | fail); (simp only [go_sem])) | (first | refine cdq ?_ (hc := ih) | refine cmq ?_ (hc := ih) | refine ctq ?_ (hc := ih)); (simp only [go_sem]) | fail)
    (refine hR _ ?_; refine rat [] (hK := ⟨rfl, rfl⟩))
end Go.Proofs.Ytfgjiamolknicaa
