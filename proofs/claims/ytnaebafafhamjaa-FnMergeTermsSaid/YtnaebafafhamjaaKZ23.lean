/- Texts of the proof, one behind another. -/
import Derived.Test.YtnaebafafhamjaaKZ10
import Derived.Test.YtnaebafafhamjaaKZ11
import Derived.Test.YtnaebafafhamjaaKZ20
import Derived.Test.YtnaebafafhamjaaKZ22
set_option linter.unusedSimpArgs false
set_option linter.unusedVariables false
/- Terms that are alike but for their types, related by a relation of types. On shadows. -/
namespace Go.Proofs.Grad
/-- two terms are alike, and their types stand in a relation -/
def alkB (q : Ty → Ty → Bool) (k : Int) (n : ByteArray) (m : Int) (t : Ty) (c : Tm) (r : Bool) : Bool :=
  !(hasTy k && (k == c.kind && !q t c.type)) && (k == c.kind && (n.toList == c.name.toList && (m == c.num && r)))
mutual
def Tm.alk (q : Ty → Ty → Bool) : Tm → Tm → Bool
  | .mk k n m t _ _ l, c => alkB q k n m t c (Tm.alks q l c.kids)
def Tm.alks (q : Ty → Ty → Bool) : List Tm → List Tm → Bool
  | [], [] => true
  | a :: l, b :: m => a.alk q b && Tm.alks q l m
  | _, _ => false
end
theorem alks_all2 (q : Ty → Ty → Bool) : ∀ a b : List Tm, Tm.alks q a b = Sh.teall2 (Tm.alk q) a b
  | [], [] => by simp [Tm.alks, Sh.teall2]
  | [], _ :: _ => by simp [Tm.alks, Sh.teall2]
  | _ :: _, [] => by simp [Tm.alks, Sh.teall2]
  | _ :: a, _ :: b => by simp only [Tm.alks, Sh.teall2, alks_all2 q a b]
/-- a relation holds of two lists' types -/
def all2T (q : Ty → Ty → Bool) : List T → List T → Bool
  | [], [] => true
  | a :: l, b :: m => q a.ty b.ty && all2T q l m
  | _, _ => false
theorem all2T_append {q : Ty → Ty → Bool} : ∀ {l m l' m' : List T}, l.length = l'.length → all2T q (l ++ m) (l' ++ m') = (all2T q l l' && all2T q m m')
  | [], _, [], _, _ => rfl
  | [], _, _ :: _, _, h => by simp at h
  | _ :: _, _, [], _, h => by simp at h
  | a :: l, m, b :: l', m', h => by simp only [List.cons_append, all2T, all2T_append (l := l) (l' := l') (by simpa using h), Bool.and_assoc]
theorem nm_toList {x y : UInt8} : (nm x).toList = (nm y).toList ↔ x = y := by simp [nm, ByteArray.toList_eq]
theorem E.wt_app (e : E) : ∀ l m : List T, l.length = e.nt → e.wt (l ++ m) = ((e.wt l).1, m) := by
  intro l m h
  have h1 : (e.wt (l ++ m)).1 = (e.wt l).1 := by
    rw [← E.wt_wt e l (l ++ m) (by omega) (by rw [List.length_append]; omega)]
    have h2 : (e.wt l).1.tl = l := by rw [E.wt_tl e l (by omega), List.take_of_length_le (by omega)]
    have h3 := E.wt_self (e.wt l).1 m
    rw [h2] at h3; rw [h3]
  have h2 : (e.wt (l ++ m)).2 = m := by rw [E.wt_rest e _ (by rw [List.length_append]; omega), ← h, List.drop_left]
  exact Prod.ext h1 h2
theorem E.alk_wt {q : Ty → Ty → Bool} (e : E) : e.noC = true → ∀ l : List T, l.length = e.nt → e.tm.alk q (e.wt l).1.tm = all2T q e.tl l := by
  induction e with
  | cast _ _ _ a ih => intro h; simp [E.noC] at h
  | lam x t a ih | asc t a ih =>
    intro h l hl
    simp only [E.noC] at h
    cases l with
    | nil => simp only [E.nt, List.length_nil] at hl; omega
    | cons u l =>
      have := ih h l (by simp only [E.nt, List.length_cons] at hl; omega)
      simp [E.wt, E.tm, nd, Tm.alk, Tm.alks, alkB, Tm.kind, Tm.name, Tm.num, Tm.type, Tm.kids, hasTy, E.tl, all2T, this]
  | fst a ih | snd a ih =>
    intro h l hl
    simp only [E.noC] at h
    have := ih h l hl
    simp [E.wt, E.tm, nd, Tm.alk, Tm.alks, alkB, Tm.kind, Tm.name, Tm.num, Tm.type, Tm.kids, hasTy, E.tl, this]
  | app a b iha ihb | add a b iha ihb | less a b iha ihb | pair a b iha ihb =>
    intro h l hl
    simp only [E.noC, Bool.and_eq_true] at h
    simp only [E.nt] at hl
    have h1 := iha h.1 (l.take a.nt) (by rw [List.length_take]; omega)
    have h2 := ihb h.2 (l.drop a.nt) (by rw [List.length_drop]; omega)
    have h3 := E.wt_app a (l.take a.nt) (l.drop a.nt) (by rw [List.length_take]; omega)
    rw [List.take_append_drop] at h3
    have h4 : all2T q (a.tl ++ b.tl) l = (all2T q a.tl (l.take a.nt) && all2T q b.tl (l.drop a.nt)) := by
      rw [← all2T_append (by rw [E.tl_length, List.length_take]; omega), List.take_append_drop]
    simp [E.wt, E.tm, nd, Tm.alk, Tm.alks, alkB, Tm.kind, Tm.name, Tm.num, Tm.type, Tm.kids, hasTy, E.tl, h1, h2, h3, h4]
  | ite a b c iha ihb ihc =>
    intro h l hl
    simp only [E.noC, Bool.and_eq_true] at h
    simp only [E.nt] at hl
    have h1 := iha h.1 (l.take a.nt) (by rw [List.length_take]; omega)
    have h3 := E.wt_app a (l.take a.nt) (l.drop a.nt) (by rw [List.length_take]; omega)
    rw [List.take_append_drop] at h3
    have h4 : all2T q (a.tl ++ (b.tl ++ c.tl)) l = (all2T q a.tl (l.take a.nt) && all2T q (b.tl ++ c.tl) (l.drop a.nt)) := by
      rw [← all2T_append (by rw [E.tl_length, List.length_take]; omega), List.take_append_drop]
    obtain ⟨l2, hl2⟩ : ∃ l2, l2 = l.drop a.nt := ⟨_, rfl⟩
    rw [← hl2] at h3 h4
    have hl2l : l2.length = b.nt + c.nt := by rw [hl2, List.length_drop]; omega
    have h5 := ihb h.2.1 (l2.take b.nt) (by rw [List.length_take]; omega)
    have h6 := ihc h.2.2 (l2.drop b.nt) (by rw [List.length_drop]; omega)
    have h7 := E.wt_app b (l2.take b.nt) (l2.drop b.nt) (by rw [List.length_take]; omega)
    rw [List.take_append_drop] at h7
    have h8 : all2T q (b.tl ++ c.tl) l2 = (all2T q b.tl (l2.take b.nt) && all2T q c.tl (l2.drop b.nt)) := by
      rw [← all2T_append (by rw [E.tl_length, List.length_take]; omega), List.take_append_drop]
    simp [E.wt, E.tm, nd, Tm.alk, Tm.alks, alkB, Tm.kind, Tm.name, Tm.num, Tm.type, Tm.kids, hasTy, E.tl, h1, h3, h4, h5, h6, h7, h8]
  | _ =>
    intro h l hl
    have : l = [] := List.eq_nil_of_length_eq_zero hl
    subst this
    simp [E.wt, E.tm, nd, Tm.alk, Tm.alks, alkB, Tm.kind, Tm.name, Tm.num, Tm.type, Tm.kids, hasTy, E.tl, all2T]
theorem E.alk_form {q : Ty → Ty → Bool} (a : E) : ∀ b : E, a.noC = true → b.noC = true → a.tm.alk q b.tm = true → b = (a.wt b.tl).1 ∧ b.nt = a.nt := by
  induction a with
  | cast _ _ _ a ih => intro b h; simp [E.noC] at h
  | var x | num x | tru | fls =>
    intro b _ _ h
    cases b <;> simp [E.tm, nd, Tm.alk, alkB, Tm.kind, Tm.name, Tm.num, Tm.kids, Tm.alks, nm_toList] at h <;> simp_all [E.wt, E.nt]
  | lam x t a ih =>
    intro b hn hb h
    cases b <;> simp [E.tm, nd, Tm.alk, alkB, Tm.kind, Tm.name, Tm.num, Tm.kids, Tm.alks, nm_toList] at h
    rename_i y u b
    obtain ⟨h1, h2⟩ := ih b hn hb h.2.2
    exact ⟨by rw [h.2.1]; simp only [E.tl, E.wt]; rw [← h1], by simp only [E.nt, h2]⟩
  | asc t a ih =>
    intro b hn hb h
    cases b <;> simp [E.tm, nd, Tm.alk, alkB, Tm.kind, Tm.name, Tm.num, Tm.kids, Tm.alks, nm_toList] at h
    rename_i u b
    obtain ⟨h1, h2⟩ := ih b hn hb h.2
    exact ⟨by simp only [E.tl, E.wt]; rw [← h1], by simp only [E.nt, h2]⟩
  | fst a ih | snd a ih =>
    intro b hn hb h
    cases b <;> simp [E.tm, nd, Tm.alk, alkB, Tm.kind, Tm.name, Tm.num, Tm.kids, Tm.alks, nm_toList, hasTy] at h
    rename_i b
    obtain ⟨h1, h2⟩ := ih b hn hb h
    exact ⟨by simp only [E.tl, E.wt]; rw [← h1], by simp only [E.nt, h2]⟩
  | app a1 a2 ih1 ih2 | add a1 a2 ih1 ih2 | less a1 a2 ih1 ih2 | pair a1 a2 ih1 ih2 =>
    intro b hn hb h
    cases b <;> simp [E.tm, nd, Tm.alk, alkB, Tm.kind, Tm.name, Tm.num, Tm.kids, Tm.alks, nm_toList, hasTy] at h
    rename_i b1 b2
    simp only [E.noC, Bool.and_eq_true] at hn hb
    obtain ⟨h1, h2⟩ := ih1 b1 hn.1 hb.1 h.1
    obtain ⟨h3, h4⟩ := ih2 b2 hn.2 hb.2 h.2
    have h5 := E.wt_app a1 b1.tl b2.tl (by rw [E.tl_length, h2])
    exact ⟨by simp only [E.tl, E.wt]; rw [h5, ← h1, ← h3], by simp only [E.nt, h2, h4]⟩
  | ite a1 a2 a3 ih1 ih2 ih3 =>
    intro b hn hb h
    cases b <;> simp [E.tm, nd, Tm.alk, alkB, Tm.kind, Tm.name, Tm.num, Tm.kids, Tm.alks, nm_toList, hasTy] at h
    rename_i b1 b2 b3
    simp only [E.noC, Bool.and_eq_true] at hn hb
    obtain ⟨h1, h2⟩ := ih1 b1 hn.1 hb.1 h.1
    obtain ⟨h3, h4⟩ := ih2 b2 hn.2.1 hb.2.1 h.2.1
    obtain ⟨h6, h7⟩ := ih3 b3 hn.2.2 hb.2.2 h.2.2
    have h5 := E.wt_app a1 b1.tl (b2.tl ++ b3.tl) (by rw [E.tl_length, h2])
    have h8 := E.wt_app a2 b2.tl b3.tl (by rw [E.tl_length, h4])
    exact ⟨by simp only [E.tl, E.wt]; rw [h5, h8, ← h1, ← h3, ← h6], by simp only [E.nt, h2, h4, h7]⟩
theorem E.alk_iff {q : Ty → Ty → Bool} {a b : E} (ha : a.noC = true) (hb : b.noC = true) (h : a.tm.alk q b.tm = true) : b = (a.wt b.tl).1 ∧ b.nt = a.nt ∧ all2T q a.tl b.tl = true := by
  obtain ⟨h1, h2⟩ := E.alk_form a b ha hb h
  refine ⟨h1, h2, ?_⟩
  rw [← E.alk_wt a ha b.tl (by rw [E.tl_length, h2]), ← h1, h]
end Go.Proofs.Grad
namespace Go.Proofs.Ytnaebafafhamjaa
open Go.RowKit Go.Proofs.Sh Go.Proofs.Grad
set_option maxRecDepth 100000
set_option maxHeartbeats 8000000
theorem teEqFunc1 (g : FuncId) (f : FuncId) (ty : TypeId) (Q : Tm → Tm → Bool) (l m : List Tm) (hl : l.length < 4611686018427387904)
    (hg : ∀ k, k < l.length → k < m.length → ACl Try.prog g [.agg (teC (teKid l k)), .agg (teC (teKid m k)), .one (.ptr 1 0 0 0)] [⟨1, ty, .mut, [[.fn f []]]⟩] (fun r H' => r = .one (.sc (.bool (Q (teKid l k) (teKid m k)))) ∧ H' = [⟨1, ty, .mut, [[.fn f []]]⟩])) :
    ACl Try.prog 48 [.one (.sl (teR l)), .one (.sl (teR m)), .one (.fn g [.ptr 1 0 0 0])] [⟨1, ty, .mut, [[.fn f []]]⟩] (fun r H' => r = .one (.sc (.bool (teall2 Q l m))) ∧ H' = [⟨1, ty, .mut, [[.fn f []]]⟩]) := by
  refine acl_in Try.func48 rfl isfn_48 (Nat.le_of_ble_eq_true rfl) (fun R hR => ?_); rw [Try.results48] at hR; refine wg_run ?_; (simp only [Try.f48, go_sem])
  repeat' (first | (((first | apply sp1 | apply sp2 | apply sp3 | apply sp4 | apply sp5 | apply sp6 | apply sp7) <;> intro hb) <;> (simp only [go_sem, hb])) | ((first | apply wm_done | apply wt_done | apply wg_run | refine fk ?_ ?_) <;> (simp only [go_sem])))
  · (refine hR _ (rat [] (hK := ⟨?_, ?_⟩)))
    · rw [teall2_len]
      intro h; simp [h] at hb
    · rfl
  · have hlm : l.length = m.length := by simp at hb; omega
    clear hb
    refine wd_for [0, 1, 2, 15, 16, 17] (fun k => [.one (.sl (teR l)), .one (.sl (teR m)), .one (.fn g [.ptr 1 0 0 0]), .one (.sl (teR l)), .one (.sc (.int .i64 l.length)), .one (.sc (.int .i64 (k : Nat)))]) (fun k => [⟨1, ty, .mut, [[.fn f []]]⟩])
      (fun k => k ≤ l.length ∧ teall2 Q (l.drop k) (m.drop k) = teall2 Q l m) (fun k => l.length - k) 0 ⟨Nat.zero_le _, rfl⟩ (hat [] (hI := ⟨rfl, rfl⟩)) ?_
    rintro k ⟨hk, hs⟩ G hG
    refine wg_run ?_
    (simp only [go_sem])
    ((first | apply sp1 | apply sp2 | apply sp3 | apply sp4 | apply sp5 | apply sp6 | apply sp7) <;> intro hb) <;> (simp only [go_sem, hb])
    · have hk1 : k < l.length := by have := of_decide_eq_true hb; omega
      have hk2 : decide ((k : Int) < (m.length : Int)) = true := by simp; omega
      rw [teall2_kid hk1 (by omega)] at hs
      have hw1 := wrap_succ hk1 (by omega)
      (simp only [go_sem, hk2])
      (first | refine kdq [0] ?_ (hc := hg k hk1 (by omega)) | refine kmq [0] ?_ (hc := hg k hk1 (by omega)) | refine ktq [0] ?_ (hc := hg k hk1 (by omega))); rintro _ _ ⟨rfl, rfl⟩; (simp only [go_sem])
      repeat' (first | (simp only [go_sem, hw1]) | (((first | apply sp1 | apply sp2 | apply sp3 | apply sp4 | apply sp5 | apply sp6 | apply sp7) <;> intro hb) <;> (simp only [go_sem, hb, hw1])) | ((first | apply wm_done | apply wt_done | apply wg_run | refine fk ?_ ?_) <;> (simp only [go_sem, hw1])))
      · exact hG (k + 1) _ _ ⟨by omega, by simpa [hb] using hs⟩ (by omega) (hat [] (hI := ⟨rfl, rfl⟩))
      · (refine hR _ (rat [] (hK := ⟨?_, ?_⟩)))
        · simpa [hb] using hs
        · rfl
    · have hk1 : ¬ k < l.length := by have := of_decide_eq_false hb; omega
      rw [teall2_end hk1 hlm] at hs
      (refine hR _ (rat [] (hK := ⟨?_, ?_⟩)))
      · simpa using hs
      · rfl
theorem iAlike (g : FuncId) (q : Ty → Ty → Bool) (hg : ∀ x y : Ty, x.size < 4611686018427387904 → AFn Try.prog g [.agg (tyC x), .agg (tyC y)] (.one (.sc (.bool (q x y))))) (n : Nat) (hn : n ≤ 4611686018427387904) : ∀ a b : Tm, a.size < n → AFn Try.prog 35 [.agg (teC a), .agg (teC b), .one (.fn g [])] (.one (.sc (.bool (a.alk q b)))) := by
  induction n with
  | zero => intro a b h; omega
  | succ n ih =>
    intro a b h
    have hl := telen_lt a
    have hk : ∀ k, k < a.kids.length → k < b.kids.length → ACl Try.prog 90 [.agg (teC (teKid a.kids k)), .agg (teC (teKid b.kids k)), .one (.ptr 1 0 0 0)] [⟨1, 58, .mut, [[.fn g []]]⟩] (fun r H' => r = .one (.sc (.bool ((teKid a.kids k).alk q (teKid b.kids k)))) ∧ H' = [⟨1, 58, .mut, [[.fn g []]]⟩]) := by
      intro k h1 h2
      have hi := ih (by omega) (teKid a.kids k) (teKid b.kids k) (by have := teKid_lt h1; omega)
      refine acl_in Try.func90 rfl isfn_90 (Nat.le_of_ble_eq_true rfl) (fun R hR => ?_); rw [Try.results90] at hR; refine wg_run ?_; (simp only [Try.f90, go_sem])
      repeat' (first | (first | (((first | apply sp1 | apply sp2 | apply sp3 | apply sp4 | apply sp5 | apply sp6 | apply sp7) <;> intro hb) <;> (simp only [go_sem, hb])) | ((first | apply wm_done | apply wt_done | apply wg_run | refine fk ?_ ?_) <;> (simp only [go_sem]))) | (first | refine cdq ?_ (hc := hi) | refine cmq ?_ (hc := hi) | refine ctq ?_ (hc := hi)); (simp only [go_sem]) | fail)
      (refine hR _ (rat [] (hK := ⟨?_, ?_⟩)))
      · rfl
      · rfl
    have hf := teEqFunc1 90 g 58 (Tm.alk q) a.kids b.kids (by omega) hk
    have h1 := hg a.type b.type (by cases a; simp only [Tm.size, Tm.type] at *; omega)
    have h0 := iHasType a
    clear hk ih
    have e : a.alk q b = alkB q a.kind a.name a.num a.type b (teall2 (Tm.alk q) a.kids b.kids) := by
      cases a; cases b; rw [← alks_all2]; simp only [Tm.alk, Tm.kind, Tm.name, Tm.num, Tm.type, Tm.kids]
    rw [e]
    unfold alkB
    generalize teall2 (Tm.alk q) a.kids b.kids = z at *
    refine fn_in ?_; refine acl_in Try.func35 rfl isfn_35 (Nat.le_of_ble_eq_true rfl) (fun R hR => ?_); rw [Try.results35] at hR; refine wg_run ?_; (simp only [Try.f35, go_sem])
    repeat' (first | (first | (((first | apply sp1 | apply sp2 | apply sp3 | apply sp4 | apply sp5 | apply sp6 | apply sp7) <;> intro hb) <;> (simp only [go_sem, hb])) | ((first | apply wm_done | apply wt_done | apply wg_run | refine fk ?_ ?_) <;> (simp only [go_sem]))) | (first | refine cdq ?_ (hc := h0) | refine cmq ?_ (hc := h0) | refine ctq ?_ (hc := h0)); (simp only [go_sem]) | (first | refine cdq ?_ (hc := h1) | refine cmq ?_ (hc := h1) | refine ctq ?_ (hc := h1)); (simp only [go_sem]) | (first | refine kdq [2] ?_ (hc := hf) | refine kmq [2] ?_ (hc := hf) | refine ktq [2] ?_ (hc := hf)); rintro _ _ ⟨rfl, rfl⟩; (simp only [go_sem]) | ((first | refine mxq6 [] ?_ | refine mxq5 [] ?_ | refine mxq4 [] ?_ | refine mxq3 [] ?_ | refine mxq2 [] ?_ | refine mxq1 [] ?_ | refine mxq0 [] ?_ | fail); (simp only [go_sem])) | fail)
    all_goals (refine hR _ (rat [] (hK := ⟨?_, rfl⟩)))
    all_goals (clear hR h1 h0 hf; simp_all)
end Go.Proofs.Ytnaebafafhamjaa
/- More on terms with other types: free names, erased terms, precision, merges. No program, no world. -/
namespace Go.Proofs.Grad
theorem E.era_wt (e : E) : e.mapE E.era1 = (e.wt (List.replicate e.nt .any)).1 := by
  have := e.wt_any 0
  rw [Nat.add_zero] at this; rw [this]
theorem E.era_nt (e : E) : (e.mapE E.era1).nt = e.nt := by rw [E.era_wt, E.wt_nt]
theorem any_depth {n : Nat} : ∀ t ∈ List.replicate n T.any, t.depth ≤ 4 := by
  intro t ht; rw [List.eq_of_mem_replicate ht]; decide
theorem E.era_okT {e : E} (h : e.okT = true) : (e.mapE E.era1).okT = true := by rw [E.era_wt]; exact E.wt_okT h any_depth
theorem all2T_P {q : Ty → Ty → Bool} {r : T → T → Bool} (h : ∀ a b : T, q a.ty b.ty = r a b) : ∀ l m : List T, all2T q l m = all2P r l m
  | [], [] => rfl
  | a :: l, b :: m => by simp only [all2T, all2P, h, all2T_P h l m]
  | [], _ :: _ => rfl
  | _ :: _, [] => rfl
end Go.Proofs.Grad
/- Merged terms: the plain law. No program, no world. -/
namespace Go.Proofs.Grad
/-- a list, of which the first k elements are another one's -/
def mixK (A L : List T) (k : Nat) : List T := A.take k ++ L.drop k
theorem mixK_zero (A L : List T) : mixK A L 0 = L := by simp [mixK]
theorem mixK_all {A L : List T} (h : A.length = L.length) {k : Nat} (hk : L.length ≤ k) : mixK A L k = A := by
  rw [mixK, List.take_of_length_le (by omega), List.drop_eq_nil_of_le hk, List.append_nil]
theorem mixK_get {A L : List T} (h : A.length = L.length) {k : Nat} (hk : k < L.length) : (mixK A L k)[k]? = some L[k] := by
  rw [mixK, List.getElem?_append_right (by rw [List.length_take]; omega), List.getElem?_drop, List.length_take, List.getElem?_eq_getElem (by omega)]
  congr 2; omega
theorem mixK_set {A L : List T} (h : A.length = L.length) {k : Nat} (hk : k < L.length) : (mixK A L k).set k (A[k]'(by omega)) = mixK A L (k + 1) := by
  have h1 : (A.take k).length = k := by rw [List.length_take]; omega
  rw [mixK, List.set_append_right _ _ (by omega), h1, Nat.sub_self, List.drop_eq_getElem_cons hk, List.set_cons_zero, mixK, List.take_succ_eq_append_getElem (by omega : k < A.length), List.append_assoc]
  rfl
theorem zipM_get {l m : List T} (h : l.length = m.length) {k : Nat} (hk : k < l.length) : (zipM l m)[k]'(by rw [zipM_length h]; exact hk) = l[k].meet (m[k]'(by omega)) := by
  simp [zipM]
theorem all2P_get {q : T → T → Bool} : ∀ {l m : List T}, all2P q l m = true → ∀ (k : Nat) (hk : k < l.length) (hm : k < m.length), q l[k] m[k] = true
  | [], _, _, k, hk, _ => by simp at hk
  | _ :: _, [], h, _, _, _ => by simp [all2P] at h
  | a :: l, b :: m, h, 0, _, _ => by simp only [all2P, Bool.and_eq_true] at h; exact h.1
  | a :: l, b :: m, h, k + 1, hk, hm => by
    simp only [all2P, Bool.and_eq_true] at h
    exact all2P_get h.2 k (by simpa using hk) (by simpa using hm)
theorem all2P_of {q : T → T → Bool} : ∀ {l m : List T}, l.length = m.length → (∀ (k : Nat) (hk : k < l.length) (hm : k < m.length), q l[k] m[k] = true) → all2P q l m = true
  | [], [], _, _ => rfl
  | [], _ :: _, h, _ => by simp at h
  | _ :: _, [], h, _ => by simp at h
  | a :: l, b :: m, h, hq => by
    simp only [all2P, Bool.and_eq_true]
    exact ⟨hq 0 (by simp) (by simp), all2P_of (by simpa using h) fun k hk hm => hq (k + 1) (by simpa using hk) (by simpa using hm)⟩
/-- alike: the same without types, and their types in the relation -/
theorem E.alk_dec {q : Ty → Ty → Bool} {r : T → T → Bool} (hqr : ∀ a b : T, q a.ty b.ty = r a b) {a b : E} (ha : a.noC = true) (hb : b.noC = true) :
    a.tm.alk q b.tm = ((a.mapE E.era1).tm.same (b.mapE E.era1).tm && all2P r a.tl b.tl) := by
  rw [Bool.eq_iff_iff, Bool.and_eq_true, Tm.same_iff]
  constructor
  · intro h
    obtain ⟨h1, h2, h3⟩ := E.alk_iff ha hb h
    rw [all2T_P hqr] at h3
    refine ⟨?_, h3⟩
    rw [E.era_wt b, E.era_wt a, h2]
    conv => rhs; rw [h1]
    rw [E.wt_wt _ _ _ (by rw [E.tl_length, h2]; exact Nat.le_refl _) (by simp)]
  · intro ⟨h1, h2⟩
    have h3 := E.tm_inj _ _ h1
    have hn : b.nt = a.nt := by rw [← E.era_nt b, ← h3, E.era_nt]
    have h4 : b = (a.wt b.tl).1 := by
      have e1 := E.wt_wt a (List.replicate a.nt .any) b.tl (by simp) (by rw [E.tl_length, hn]; exact Nat.le_refl _)
      have e2 := E.wt_wt b (List.replicate b.nt .any) b.tl (by simp) (by rw [E.tl_length]; exact Nat.le_refl _)
      rw [← E.era_wt] at e1 e2
      rw [h3, e2] at e1
      rw [← e1, E.wt_own]
    conv => lhs; rw [h4]
    rw [E.alk_wt a ha _ (by rw [E.tl_length, hn]), all2T_P hqr]; exact h2
/-- two terms, merged -/
def E.mrg (a b : E) : E := (a.wt (zipM a.tl b.tl)).1
section
variable {a b : E}
theorem E.mrg_okT (ha : a.okT = true) (hb : b.okT = true) : (a.mrg b).okT = true := by
  have ha' := ha; have hb' := hb
  simp only [E.okT, Bool.and_eq_true] at ha' hb'
  exact E.wt_okT ha (zipM_depth (E.tl_depth a ha'.1 ha'.2.1) (E.tl_depth b hb'.1 hb'.2.1))
theorem E.alk_cons (ha : a.noC = true) (hb : b.noC = true) (h : a.tm.alk Ty.cons b.tm = true) : b = (a.wt b.tl).1 ∧ b.nt = a.nt ∧ all2P T.cons a.tl b.tl = true := by
  obtain ⟨h1, h2, h3⟩ := E.alk_iff ha hb h
  rw [all2T_P (fun a b => T.cons_ty a b)] at h3
  exact ⟨h1, h2, h3⟩
theorem E.mrg_tl (hl : b.tl.length = a.nt) : (a.mrg b).tl = zipM a.tl b.tl := by
  have : (zipM a.tl b.tl).length = a.nt := by rw [zipM_length (by rw [E.tl_length, hl]), E.tl_length]
  rw [E.mrg, E.wt_tl _ _ (by omega), List.take_of_length_le (by omega)]
theorem E.mrg_comm (ha : a.noC = true) (hb : b.noC = true) (h : a.tm.alk Ty.cons b.tm = true) : b.mrg a = a.mrg b := by
  obtain ⟨h1, h2, h3⟩ := E.alk_cons ha hb h
  have hl : (zipM b.tl a.tl).length = a.nt := by rw [zipM_length (by rw [E.tl_length, E.tl_length, h2]), E.tl_length, h2]
  rw [E.mrg, E.mrg, ← zipM_comm h3]
  rw [← zipM_comm h3] at hl
  have e1 := E.wt_wt a b.tl (zipM a.tl b.tl) (by rw [E.tl_length, h2]; exact Nat.le_refl _) (by omega)
  rw [← h1] at e1
  rw [e1]
theorem E.mrg_alk (ha : a.noC = true) (hb : b.noC = true) (h : a.tm.alk Ty.cons b.tm = true) : b.tm.alk Ty.cons a.tm = true := by
  rw [E.alk_dec (fun a b => T.cons_ty a b) ha hb, Bool.and_eq_true, Tm.same_iff] at h
  rw [E.alk_dec (fun a b => T.cons_ty a b) hb ha, Bool.and_eq_true, Tm.same_iff]
  exact ⟨h.1.symm, cons_comm2 h.2⟩
theorem E.mrg_era (hl : b.tl.length = a.nt) : (a.mrg b).mapE E.era1 = a.mapE E.era1 := by
  have h1 : (zipM a.tl b.tl).length = a.nt := by rw [zipM_length (by rw [E.tl_length, hl]), E.tl_length]
  have h2 : (a.mrg b).nt = a.nt := E.wt_nt _ _
  rw [E.era_wt, E.era_wt a, h2, E.mrg, E.wt_wt _ _ _ (by omega) (by simp)]
theorem E.mrg_noC (ha : a.noC = true) : (a.mrg b).noC = true := by rw [E.mrg, E.wt_noC]; exact ha
/-- a merge is more precise than both -/
theorem E.mrg_prec (ha : a.noC = true) (hb : b.noC = true) (h : a.tm.alk Ty.cons b.tm = true) : (a.mrg b).tm.alk Ty.prec a.tm = true ∧ (a.mrg b).tm.alk Ty.prec b.tm = true := by
  obtain ⟨h1, h2, h3⟩ := E.alk_cons ha hb h
  have hl : b.tl.length = a.nt := by rw [E.tl_length, h2]
  have h4 := zipM_prec h3
  rw [E.alk_dec (fun a b => T.cons_ty a b) ha hb, Bool.and_eq_true] at h
  rw [E.alk_dec (fun a b => T.prec_ty a b) (E.mrg_noC ha) ha, E.alk_dec (fun a b => T.prec_ty a b) (E.mrg_noC ha) hb, E.mrg_tl hl, E.mrg_era hl, h4.1, h4.2, h.1, Tm.same_refl]
  exact ⟨rfl, rfl⟩
theorem prec_alk (ha : a.noC = true) (hb : b.noC = true) (h : a.tm.alk Ty.prec b.tm = true) : a.tm.alk Ty.cons b.tm = true := by
  rw [E.alk_dec (fun a b => T.prec_ty a b) ha hb, Bool.and_eq_true] at h
  rw [E.alk_dec (fun a b => T.cons_ty a b) ha hb, h.1, prec_cons2 h.2]; rfl
/-- merging again changes nothing -/
theorem E.mrg_mrg (ha : a.noC = true) (hb : b.noC = true) (h : a.tm.alk Ty.cons b.tm = true) : (a.mrg b).mrg a = a.mrg b := by
  obtain ⟨h1, h2, h3⟩ := E.alk_cons ha hb h
  have hl : b.tl.length = a.nt := by rw [E.tl_length, h2]
  have h5 : zipM (zipM a.tl b.tl) a.tl = zipM a.tl b.tl := prec_zipM (zipM_prec h3).1
  have h6 : (zipM a.tl b.tl).length = a.nt := by rw [zipM_length (by rw [E.tl_length, hl]), E.tl_length]
  rw [E.mrg, E.mrg_tl hl, h5, E.mrg, E.wt_wt _ _ _ (by omega) (by omega)]
/-- a term is as precise as another one exactly if their merge is the term -/
theorem E.mrg_iff (ha : a.noC = true) (hb : b.noC = true) (h : a.tm.alk Ty.cons b.tm = true) : a.tm.alk Ty.prec b.tm = (a.mrg b).tm.same a.tm := by
  obtain ⟨h1, h2, h3⟩ := E.alk_cons ha hb h
  have hl : b.tl.length = a.nt := by rw [E.tl_length, h2]
  have h' := h
  rw [E.alk_dec (fun a b => T.cons_ty a b) ha hb, Bool.and_eq_true] at h'
  rw [E.alk_dec (fun a b => T.prec_ty a b) ha hb, h'.1, Bool.true_and, prec_iff2 h3, Bool.eq_iff_iff, decide_eq_true_iff, Tm.same_iff]
  constructor
  · intro h4; rw [E.mrg, h4, E.wt_own]
  · intro h4
    have h5 := E.tm_inj _ _ h4
    rw [← E.mrg_tl hl, h5]
end
end Go.Proofs.Grad
