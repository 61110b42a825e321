/- Texts of the proof, one behind another. -/
import Derived.Test.YtnaebafafhamjaaKZ12
import Derived.Test.YtnaebafafhamjaaKZ13
import Derived.Test.YtnaebafafhamjaaKZ14
import Derived.Test.YtnaebafafhamjaaKZ17
set_option linter.unusedSimpArgs false
set_option linter.unusedVariables false
/- Typing of terms with casts: rules, in the program. On shadows. -/
namespace Go.Proofs.Grad
end Go.Proofs.Grad
namespace Go.Proofs.Ytnaebafafhamjaa
open Go.RowKit Go.Proofs.Sh Go.Proofs.Grad
set_option maxRecDepth 100000
set_option maxHeartbeats 8000000
theorem iMeet (a : T) : ∀ b : T, a.depth ≤ 4 → b.depth ≤ 4 → a.cons b = true → AFn Try.prog 38 [.agg (tyC a.ty), .agg (tyC b.ty)] (.agg (tyC (a.meet b).ty)) := by
  induction a with
  | any =>
    intro b ha hb hc
    have h1 := iOwnT hb
    simp only [T.meet]
    simp only [T.ty]
    refine fn_in ?_; refine acl_in Try.func38 rfl isfn_38 (Nat.le_of_ble_eq_true rfl) (fun R hR => ?_); rw [Try.results38] at hR; refine wg_run ?_; (simp only [Try.f38, go_sem])
    repeat' (first | (first | (((first | apply sp1 | apply sp2 | apply sp3 | apply sp4 | apply sp5 | apply sp6 | apply sp7) <;> intro hb) <;> (simp only [go_sem, hb])) | ((first | apply wm_done | apply wt_done | apply wg_run | refine fk ?_ ?_) <;> (simp only [go_sem]))) | (first | refine cdq ?_ (hc := h1) | refine cmq ?_ (hc := h1) | refine ctq ?_ (hc := h1)); (simp only [go_sem]) | fail)
    all_goals (refine hR _ ?_; refine rat [] (hK := ⟨rfl, rfl⟩))
  | int | bool =>
    intro b ha hb hc
    have h1 := iOwnT ha
    cases b <;> simp only [T.cons, Bool.false_eq_true] at hc
    all_goals
      simp only [T.meet]
      simp only [T.ty] at h1 ⊢
      refine fn_in ?_; refine acl_in Try.func38 rfl isfn_38 (Nat.le_of_ble_eq_true rfl) (fun R hR => ?_); rw [Try.results38] at hR; refine wg_run ?_; (simp only [Try.f38, go_sem])
      repeat' (first | (first | (((first | apply sp1 | apply sp2 | apply sp3 | apply sp4 | apply sp5 | apply sp6 | apply sp7) <;> intro hb) <;> (simp only [go_sem, hb])) | ((first | apply wm_done | apply wt_done | apply wg_run | refine fk ?_ ?_) <;> (simp only [go_sem]))) | (first | refine cdq ?_ (hc := h1) | refine cmq ?_ (hc := h1) | refine ctq ?_ (hc := h1)); (simp only [go_sem]) | fail)
      all_goals (refine hR _ ?_; refine rat [] (hK := ⟨rfl, rfl⟩))
  | fn a1 a2 ih1 ih2 | pr a1 a2 ih1 ih2 =>
    intro b ha hb hc
    have h1 := iOwnT ha
    have hbo := fun k x y => both k x y
    cases b <;> simp only [T.cons, Bool.false_eq_true, Bool.and_eq_true] at hc
    · simp only [T.meet]
      simp only [T.ty] at h1 ⊢
      refine fn_in ?_; refine acl_in Try.func38 rfl isfn_38 (Nat.le_of_ble_eq_true rfl) (fun R hR => ?_); rw [Try.results38] at hR; refine wg_run ?_; (simp only [Try.f38, go_sem])
      repeat' (first | (first | (((first | apply sp1 | apply sp2 | apply sp3 | apply sp4 | apply sp5 | apply sp6 | apply sp7) <;> intro hb) <;> (simp only [go_sem, hb])) | ((first | apply wm_done | apply wt_done | apply wg_run | refine fk ?_ ?_) <;> (simp only [go_sem]))) | (first | refine cdq ?_ (hc := h1) | refine cmq ?_ (hc := h1) | refine ctq ?_ (hc := h1)); (simp only [go_sem]) | fail)
      all_goals (refine hR _ ?_; refine rat [] (hK := ⟨rfl, rfl⟩))
    · rename_i b1 b2
      simp only [T.depth] at ha hb
      have i1 := ih1 b1 (by omega) (by omega) hc.1
      have i2 := ih2 b2 (by omega) (by omega) hc.2
      simp only [T.meet]
      simp only [T.ty]
      refine fn_in ?_; refine acl_in Try.func38 rfl isfn_38 (Nat.le_of_ble_eq_true rfl) (fun R hR => ?_); rw [Try.results38] at hR; refine wg_run ?_; (simp only [Try.f38, go_sem])
      repeat' (first | (first | (((first | apply sp1 | apply sp2 | apply sp3 | apply sp4 | apply sp5 | apply sp6 | apply sp7) <;> intro hb) <;> (simp only [go_sem, hb])) | ((first | apply wm_done | apply wt_done | apply wg_run | refine fk ?_ ?_) <;> (simp only [go_sem]))) | ((first | refine mxq6 [] ?_ | refine mxq5 [] ?_ | refine mxq4 [] ?_ | refine mxq3 [] ?_ | refine mxq2 [] ?_ | refine mxq1 [] ?_ | refine mxq0 [] ?_ | fail); (simp only [go_sem])) | (first | refine cdq ?_ (hc := i1) | refine cmq ?_ (hc := i1) | refine ctq ?_ (hc := i1)); (simp only [go_sem]) | (first | refine cdq ?_ (hc := i2) | refine cmq ?_ (hc := i2) | refine ctq ?_ (hc := i2)); (simp only [go_sem]) | (first | refine cdq ?_ (hc := hbo _ _ _) | refine cmq ?_ (hc := hbo _ _ _) | refine ctq ?_ (hc := hbo _ _ _)); (simp only [go_sem]) | fail)
      all_goals (refine hR _ ?_; refine rat [] (hK := ⟨rfl, rfl⟩))
end Go.Proofs.Ytnaebafafhamjaa
/- Terms: values, on shadows. -/
namespace Go.Proofs.Grad
end Go.Proofs.Grad
namespace Go.Proofs.Ytnaebafafhamjaa
open Go.RowKit Go.Proofs.Sh Go.Proofs.Grad
set_option maxRecDepth 100000
set_option maxHeartbeats 8000000
theorem sSame (n : Nat) (hn : n ≤ 4611686018427387904) : ∀ a b : Ty, a.size < n → AFn Try.prog 95 [.agg (tyC a), .agg (tyC b)] (.one (.sc (.bool (a.same b)))) := by
  induction n with
  | zero => intro a b h; omega
  | succ n ih =>
    intro a b h
    have hl : a.kids.length < 4611686018427387904 := by have := Ty.length_le_sizes a.kids; cases a; simp only [Ty.size, Ty.kids] at *; omega
    have e : a.same b = (a.kind == b.kind && all2 Ty.same a.kids b.kids) := by cases a; cases b; simp only [Ty.same, Ty.kind, Ty.kids, Ty.sames_all2]
    rw [e]
    cases hk : (a.kind == b.kind)
    · refine fn_in ?_; refine acl_in Try.func95 rfl isfn_95 (Nat.le_of_ble_eq_true rfl) (fun R hR => ?_); rw [Try.results95] at hR; refine wg_run ?_; (simp only [Try.f95, go_sem, hk, int_bne])
      repeat' (first | (simp only [go_sem, hk, int_bne]) | (((first | apply sp1 | apply sp2 | apply sp3 | apply sp4 | apply sp5 | apply sp6 | apply sp7) <;> intro hb) <;> (simp only [go_sem, hb, hk, int_bne])) | ((first | apply wm_done | apply wt_done | apply wg_run | refine fk ?_ ?_) <;> (simp only [go_sem, hk, int_bne])))
      (refine hR _ (rat [] (hK := ⟨rfl, rfl⟩)))
    · by_cases hlm : a.kids.length = b.kids.length
      · have hb0 : ((a.kids.length : Int) == (b.kids.length : Int)) = true := by simp; omega
        refine fn_in ?_; refine acl_in Try.func95 rfl isfn_95 (Nat.le_of_ble_eq_true rfl) (fun R hR => ?_); rw [Try.results95] at hR; refine wg_run ?_; (simp only [Try.f95, go_sem, hk, int_bne, hb0])
        repeat' (first | (simp only [go_sem, hk, int_bne, hb0]) | (((first | apply sp1 | apply sp2 | apply sp3 | apply sp4 | apply sp5 | apply sp6 | apply sp7) <;> intro hb) <;> (simp only [go_sem, hb, hk, int_bne, hb0])) | ((first | apply wm_done | apply wt_done | apply wg_run | refine fk ?_ ?_) <;> (simp only [go_sem, hk, int_bne, hb0])))
        refine wd_for [2, 3, 5] (fun k => [.one (.ptr 2 0 0 0), .one (.ptr 2 1 0 0), .one (.sc (.int .i64 (k : Nat)))]) (fun _ => [⟨2, 25, .mut, [tyC a]⟩, ⟨2, 25, .mut, [tyC b]⟩])
          (fun k => k ≤ a.kids.length ∧ all2 Ty.same (a.kids.drop k) (b.kids.drop k) = all2 Ty.same a.kids b.kids) (fun k => a.kids.length - k) 0 ⟨Nat.zero_le _, rfl⟩ (hat [0, 1] (hI := ⟨rfl, rfl⟩)) ?_
        rintro k ⟨hk0, hs⟩ G hG
        refine wg_run ?_
        (simp only [go_sem])
        ((first | apply sp1 | apply sp2 | apply sp3 | apply sp4 | apply sp5 | apply sp6 | apply sp7) <;> intro hb) <;> (simp only [go_sem, hb])
        · have hk1 : k < a.kids.length := by have := of_decide_eq_true hb; omega
          have hk2 : decide ((k : Int) < (b.kids.length : Int)) = true := by simp; omega
          have hw1 := wrap_succ hk1 (by omega)
          rw [drop_kid hk1, drop_kid (by omega : k < b.kids.length), all2] at hs
          have hc := ih (by omega) (kid a.kids k) (kid b.kids k) (by have := kid_lt hk1; omega)
          repeat' (first | (first | (simp only [go_sem, hb, hk2, hw1]) | (((first | apply sp1 | apply sp2 | apply sp3 | apply sp4 | apply sp5 | apply sp6 | apply sp7) <;> intro hb) <;> (simp only [go_sem, hb, hb, hk2, hw1])) | ((first | apply wm_done | apply wt_done | apply wg_run | refine fk ?_ ?_) <;> (simp only [go_sem, hb, hk2, hw1]))) | ((first | refine mxq6 [] ?_ | refine mxq5 [] ?_ | refine mxq4 [] ?_ | refine mxq3 [] ?_ | refine mxq2 [] ?_ | refine mxq1 [] ?_ | refine mxq0 [] ?_ | fail); (simp only [go_sem, hb, hk2])) | (first | refine cdq ?_ (hc := hc) | refine cmq ?_ (hc := hc) | refine ctq ?_ (hc := hc)); (simp only [go_sem]))
          · exact hG (k + 1) _ _ ⟨by omega, by simpa [hb] using hs⟩ (by omega) (hat [0, 1] (hI := ⟨rfl, rfl⟩))
          · (refine hR _ (rat [] (hK := ⟨?_, rfl⟩)))
            simpa [hb] using hs
        · have hk1 : ¬ k < a.kids.length := by have := of_decide_eq_false hb; omega
          rw [List.drop_eq_nil_of_le (by omega), List.drop_eq_nil_of_le (by omega), all2] at hs
          (refine hR _ (rat [] (hK := ⟨?_, rfl⟩)))
          rw [← hs]; rfl
      · have hb0 : ((a.kids.length : Int) == (b.kids.length : Int)) = false := by simp; omega
        refine fn_in ?_; refine acl_in Try.func95 rfl isfn_95 (Nat.le_of_ble_eq_true rfl) (fun R hR => ?_); rw [Try.results95] at hR; refine wg_run ?_; (simp only [Try.f95, go_sem, hk, int_bne, hb0])
        repeat' (first | (simp only [go_sem, hk, int_bne, hb0]) | (((first | apply sp1 | apply sp2 | apply sp3 | apply sp4 | apply sp5 | apply sp6 | apply sp7) <;> intro hb) <;> (simp only [go_sem, hb, hk, int_bne, hb0])) | ((first | apply wm_done | apply wt_done | apply wg_run | refine fk ?_ ?_) <;> (simp only [go_sem, hk, int_bne, hb0])))
        (refine hR _ (rat [] (hK := ⟨?_, rfl⟩)))
        rw [all2_len hlm]; rfl
end Go.Proofs.Ytnaebafafhamjaa
/- Free names of terms, names in order, and substitution: the plain law. No program, no world. -/
namespace Go.Proofs.Grad
/-- x stands free in a term -/
def E.fr (x : UInt8) : E → Bool
  | .var y => y == x
  | .num _ | .tru | .fls => false
  | .lam y _ a => !(y == x) && a.fr x
  | .app a b | .add a b | .less a b | .pair a b => a.fr x || b.fr x
  | .ite a b c => a.fr x || (b.fr x || c.fr x)
  | .fst a | .snd a | .asc _ a | .cast _ _ _ a => a.fr x
def letters : List UInt8 := (List.range 26).map (fun i => UInt8.ofNat (97 + i))
def names (p : UInt8 → Bool) : List UInt8 := letters.filter p
end Go.Proofs.Grad
/- Meets and precision, element by element: the plain law. No program, no world. -/
namespace Go.Proofs.Grad
theorem T.prec_any (a : T) : a.prec .any = true := by cases a <;> rfl
theorem T.prec_self (a : T) : a.prec a = true := by induction a <;> simp [T.prec, *]
theorem T.meet_comm (a : T) : ∀ b : T, a.cons b = true → a.meet b = b.meet a := by
  induction a with
  | any => intro b _; rw [T.meet_any]; rfl
  | int | bool => intro b h; cases b <;> simp_all [T.cons, T.meet]
  | fn a1 a2 ih1 ih2 | pr a1 a2 ih1 ih2 =>
    intro b h
    cases b <;> simp [T.cons, T.meet] at h ⊢
    exact ⟨ih1 _ h.1, ih2 _ h.2⟩
theorem T.meet_prec (a : T) : ∀ b : T, a.cons b = true → (a.meet b).prec a = true ∧ (a.meet b).prec b = true := by
  induction a with
  | any => intro b _; exact ⟨T.prec_any _, T.prec_self _⟩
  | int | bool => intro b h; cases b <;> simp_all [T.cons, T.meet, T.prec]
  | fn a1 a2 ih1 ih2 | pr a1 a2 ih1 ih2 =>
    intro b h
    cases b <;> simp [T.cons, T.meet, T.prec] at h ⊢
    · exact ⟨T.prec_self _, T.prec_self _⟩
    · exact ⟨⟨(ih1 _ h.1).1, (ih2 _ h.2).1⟩, (ih1 _ h.1).2, (ih2 _ h.2).2⟩
theorem T.prec_cons (a : T) : ∀ b : T, a.prec b = true → a.cons b = true := by
  induction a with
  | any => intro b _; cases b <;> rfl
  | int | bool => intro b h; cases b <;> simp_all [T.cons, T.prec]
  | fn a1 a2 ih1 ih2 | pr a1 a2 ih1 ih2 =>
    intro b h
    cases b <;> simp [T.cons, T.prec] at h ⊢
    exact ⟨ih1 _ h.1, ih2 _ h.2⟩
theorem T.prec_meet (a : T) : ∀ b : T, a.prec b = true → a.meet b = a := by
  induction a with
  | any => intro b h; cases b <;> simp_all [T.prec, T.meet]
  | int | bool => intro b h; cases b <;> simp_all [T.prec, T.meet]
  | fn a1 a2 ih1 ih2 | pr a1 a2 ih1 ih2 =>
    intro b h
    cases b <;> simp [T.prec, T.meet] at h ⊢
    exact ⟨ih1 _ h.1, ih2 _ h.2⟩
def all2P (q : T → T → Bool) : List T → List T → Bool
  | [], [] => true
  | a :: l, b :: m => q a b && all2P q l m
  | _, _ => false
/-- meets, element by element -/
def zipM (l m : List T) : List T := List.zipWith T.meet l m
theorem zipM_length {l m : List T} (h : l.length = m.length) : (zipM l m).length = l.length := by simp [zipM]; omega
theorem zipM_depth {l m : List T} (hl : ∀ t ∈ l, t.depth ≤ 4) (hm : ∀ t ∈ m, t.depth ≤ 4) : ∀ t ∈ zipM l m, t.depth ≤ 4 := by
  induction l generalizing m with
  | nil => intro t h; simp [zipM] at h
  | cons a l ih =>
    cases m with
    | nil => intro t h; simp [zipM] at h
    | cons b m =>
      intro t h
      simp only [zipM, List.zipWith_cons_cons, List.mem_cons] at h
      rcases h with rfl | h
      · have := T.meet_depth a b; have := hl a (by simp); have := hm b (by simp); omega
      · exact ih (fun t ht => hl t (by simp [ht])) (fun t ht => hm t (by simp [ht])) t h
theorem zipM_comm : ∀ {l m : List T}, all2P T.cons l m = true → zipM l m = zipM m l
  | [], [], _ => rfl
  | a :: l, b :: m, h => by
    simp only [all2P, Bool.and_eq_true] at h
    have := zipM_comm h.2
    simp only [zipM, List.zipWith_cons_cons] at this ⊢
    rw [T.meet_comm a b h.1, this]
  | [], _ :: _, h => by simp [all2P] at h
  | _ :: _, [], h => by simp [all2P] at h
theorem cons_comm2 : ∀ {l m : List T}, all2P T.cons l m = true → all2P T.cons m l = true
  | [], [], _ => rfl
  | a :: l, b :: m, h => by
    simp only [all2P, Bool.and_eq_true] at h ⊢
    exact ⟨by rw [T.cons_comm]; exact h.1, cons_comm2 h.2⟩
  | [], _ :: _, h => by simp [all2P] at h
  | _ :: _, [], h => by simp [all2P] at h
theorem zipM_prec : ∀ {l m : List T}, all2P T.cons l m = true → all2P T.prec (zipM l m) l = true ∧ all2P T.prec (zipM l m) m = true
  | [], [], _ => ⟨rfl, rfl⟩
  | a :: l, b :: m, h => by
    simp only [all2P, Bool.and_eq_true] at h
    have h1 := zipM_prec h.2
    have h2 := T.meet_prec a b h.1
    simp only [zipM, List.zipWith_cons_cons, all2P, Bool.and_eq_true] at h1 ⊢
    exact ⟨⟨h2.1, h1.1⟩, h2.2, h1.2⟩
  | [], _ :: _, h => by simp [all2P] at h
  | _ :: _, [], h => by simp [all2P] at h
theorem prec_cons2 : ∀ {l m : List T}, all2P T.prec l m = true → all2P T.cons l m = true
  | [], [], _ => rfl
  | a :: l, b :: m, h => by simp only [all2P, Bool.and_eq_true] at h ⊢; exact ⟨T.prec_cons a b h.1, prec_cons2 h.2⟩
  | [], _ :: _, h => by simp [all2P] at h
  | _ :: _, [], h => by simp [all2P] at h
theorem prec_zipM : ∀ {l m : List T}, all2P T.prec l m = true → zipM l m = l
  | [], [], _ => rfl
  | a :: l, b :: m, h => by
    simp only [all2P, Bool.and_eq_true] at h
    have := prec_zipM h.2
    simp only [zipM, List.zipWith_cons_cons] at this ⊢
    rw [T.prec_meet a b h.1, this]
  | [], _ :: _, h => by simp [all2P] at h
  | _ :: _, [], h => by simp [all2P] at h
theorem prec_iff2 {l m : List T} (h : all2P T.cons l m = true) : all2P T.prec l m = decide (zipM l m = l) := by
  rw [Bool.eq_iff_iff, decide_eq_true_iff]
  refine ⟨prec_zipM, fun h2 => ?_⟩
  have := (zipM_prec h).2
  rwa [h2] at this
end Go.Proofs.Grad
