/- Texts of the proof, one behind another. -/
import Derived.IntWalk
import Derived.Test.YtfgjiamolknicaaKW7
import Derived.Test.YtfgjiamolknicaaKW14
import Derived.Test.YtfgjiamolknicaaKW15
import Derived.Test.YtfgjiamolknicaaKW19
import Derived.Test.YtfgjiamolknicaaKW20
set_option linter.unusedSimpArgs false
set_option linter.unusedVariables false
/- Contexts as shadows. -/
namespace Go.Proofs.Sh
open Go.RowKit Go.Proofs.Grad
def bdC (b : UInt8 × T) : List C := .sc (.string (nm b.1)) :: tyC b.2.ty
def bdR : Ctx → List (List C)
  | [] => []
  | b :: l => bdC b :: bdR l
def bd (l : Ctx) (k : Nat) : UInt8 × T := l.getD k (0, .any)
theorem bdC_eq (b : UInt8 × T) : bdC b = [.sc (.string (nm b.1)), .sc (.int .i64 b.2.ty.kind), .sl (tyR b.2.ty.kids)] := by rw [bdC, tyC_eq]
@[go_sem] theorem bdC_length (b : UInt8 × T) : (bdC b).length = 3 := by rw [bdC_eq]; rfl
@[go_sem] theorem bdC_take (b : UInt8 × T) : (bdC b).take 3 = bdC b := by rw [bdC_eq]; rfl
@[go_sem] theorem bdC_drop (b : UInt8 × T) : (bdC b).drop 0 = bdC b := rfl
@[go_sem] theorem bdC_treeL (b : UInt8 × T) : treeL (bdC b) = true := by rw [bdC_eq]; rfl
@[go_sem] theorem bdC_0 (b : UInt8 × T) : (bdC b)[0]? = some (.sc (.string (nm b.1))) := by rw [bdC_eq]; rfl
@[go_sem] theorem bdC_1 (b : UInt8 × T) : (bdC b)[1]? = some (.sc (.int .i64 b.2.ty.kind)) := by rw [bdC_eq]; rfl
@[go_sem] theorem bdC_2 (b : UInt8 × T) : (bdC b)[2]? = some (.sl (tyR b.2.ty.kids)) := by rw [bdC_eq]; rfl
@[go_sem] theorem bdC_dlen1 (b : UInt8 × T) : ((bdC b).drop 1).length = 2 := by rw [bdC_eq]; rfl
@[go_sem] theorem bdC_part1 (b : UInt8 × T) : ((bdC b).drop 1).take 2 = tyC b.2.ty := by rw [bdC_eq, tyC_eq]; rfl
@[go_sem] theorem bdR_length (l : Ctx) : (bdR l).length = l.length := by
  induction l with
  | nil => rfl
  | cons t l ih => simp [bdR, ih]
theorem bdR_get (l : Ctx) (i : Nat) : (bdR l)[i]? = (l[i]?).map bdC := by
  induction l generalizing i with
  | nil => simp [bdR]
  | cons t l ih => cases i <;> simp [bdR, ih]
@[go_sem] theorem bdR_at (l : Ctx) (i : Nat) : (bdR l)[i]? = match decide ((i : Int) < (l.length : Int)) with | true => some (bdC (bd l i)) | false => none := by
  rw [bdR_get]
  by_cases h : i < l.length
  · have h' : (i : Int) < (l.length : Int) := by omega
    simp [h, h', bd]
  · have h' : ¬ (i : Int) < (l.length : Int) := by omega
    simp [h, h']
@[go_sem] theorem bdR_tree (l : Ctx) : treeRows (bdR l) = true := by
  induction l with
  | nil => rfl
  | cons t l ih => simp only [bdR, treeRows_cons, bdC_treeL, Bool.true_and]; exact ih
@[go_sem] theorem bdR_len (l : Ctx) : rowsLen 3 (bdR l) = true := by
  induction l with
  | nil => rfl
  | cons t l ih => simp only [bdR, rowsLen_cons, bdC_length, beq_self_eq_true, Bool.true_and]; exact ih
attribute [go_sem] bdR
/-- one less, -1 for none -/
def prevI (k : Nat) : Int := match k with | 0 => -1 | k + 1 => (k : Int)
@[go_sem] theorem prevI_zero : prevI 0 = -1 := rfl
@[go_sem] theorem prevI_succ (k : Nat) : prevI (k + 1) = (k : Int) := rfl
end Go.Proofs.Sh
/- Typing of terms with casts: rules, in the program. On shadows. -/
namespace Go.Proofs.Grad
end Go.Proofs.Grad
namespace Go.Proofs.Ytfgjiamolknicaa
open Go.RowKit Go.Proofs.Sh Go.Proofs.Grad
set_option maxRecDepth 100000
set_option maxHeartbeats 8000000
theorem iMeet (a : T) : ∀ b : T, a.depth ≤ 4 → b.depth ≤ 4 → a.cons b = true → AFn Try.prog 109 [.agg (tyC a.ty), .agg (tyC b.ty)] (.agg (tyC (a.meet b).ty)) := by
  induction a with
  | any =>
    intro b ha hb hc
    have h1 := iOwnT hb
    simp only [T.meet]
    simp only [T.ty]
    refine fn_in ?_; refine acl_in Try.func109 rfl isfn_109 (Nat.le_of_ble_eq_true rfl) (fun R hR => ?_); rw [Try.results109] at hR; refine wg_run ?_; (simp only [Try.f109, go_sem])
    repeat' (first | (first | (((first | apply sp1 | apply sp2 | apply sp3 | apply sp4 | apply sp5 | apply sp6 | apply sp7) <;> intro hb) <;> (simp only [go_sem, hb])) | ((first | apply wm_done | apply wt_done | apply wg_run | refine fk ?_ ?_) <;> (simp only [go_sem]))) | (first | refine cdq ?_ (hc := h1) | refine cmq ?_ (hc := h1) | refine ctq ?_ (hc := h1)); (simp only [go_sem]) | fail)
    all_goals (refine hR _ ?_; refine rat [] (hK := ⟨rfl, rfl⟩))
  | int | bool =>
    intro b ha hb hc
    have h1 := iOwnT ha
    cases b <;> simp only [T.cons, Bool.false_eq_true] at hc
    all_goals
      simp only [T.meet]
      simp only [T.ty] at h1 ⊢
      refine fn_in ?_; refine acl_in Try.func109 rfl isfn_109 (Nat.le_of_ble_eq_true rfl) (fun R hR => ?_); rw [Try.results109] at hR; refine wg_run ?_; (simp only [Try.f109, go_sem])
      repeat' (first | (first | (((first | apply sp1 | apply sp2 | apply sp3 | apply sp4 | apply sp5 | apply sp6 | apply sp7) <;> intro hb) <;> (simp only [go_sem, hb])) | ((first | apply wm_done | apply wt_done | apply wg_run | refine fk ?_ ?_) <;> (simp only [go_sem]))) | (first | refine cdq ?_ (hc := h1) | refine cmq ?_ (hc := h1) | refine ctq ?_ (hc := h1)); (simp only [go_sem]) | fail)
      all_goals (refine hR _ ?_; refine rat [] (hK := ⟨rfl, rfl⟩))
  | fn a1 a2 ih1 ih2 | pr a1 a2 ih1 ih2 =>
    intro b ha hb hc
    have h1 := iOwnT ha
    have hbo := fun k x y => both k x y
    cases b <;> simp only [T.cons, Bool.false_eq_true, Bool.and_eq_true] at hc
    · simp only [T.meet]
      simp only [T.ty] at h1 ⊢
      refine fn_in ?_; refine acl_in Try.func109 rfl isfn_109 (Nat.le_of_ble_eq_true rfl) (fun R hR => ?_); rw [Try.results109] at hR; refine wg_run ?_; (simp only [Try.f109, go_sem])
      repeat' (first | (first | (((first | apply sp1 | apply sp2 | apply sp3 | apply sp4 | apply sp5 | apply sp6 | apply sp7) <;> intro hb) <;> (simp only [go_sem, hb])) | ((first | apply wm_done | apply wt_done | apply wg_run | refine fk ?_ ?_) <;> (simp only [go_sem]))) | (first | refine cdq ?_ (hc := h1) | refine cmq ?_ (hc := h1) | refine ctq ?_ (hc := h1)); (simp only [go_sem]) | fail)
      all_goals (refine hR _ ?_; refine rat [] (hK := ⟨rfl, rfl⟩))
    · rename_i b1 b2
      simp only [T.depth] at ha hb
      have i1 := ih1 b1 (by omega) (by omega) hc.1
      have i2 := ih2 b2 (by omega) (by omega) hc.2
      simp only [T.meet]
      simp only [T.ty]
      refine fn_in ?_; refine acl_in Try.func109 rfl isfn_109 (Nat.le_of_ble_eq_true rfl) (fun R hR => ?_); rw [Try.results109] at hR; refine wg_run ?_; (simp only [Try.f109, go_sem])
      repeat' (first | (first | (((first | apply sp1 | apply sp2 | apply sp3 | apply sp4 | apply sp5 | apply sp6 | apply sp7) <;> intro hb) <;> (simp only [go_sem, hb])) | ((first | apply wm_done | apply wt_done | apply wg_run | refine fk ?_ ?_) <;> (simp only [go_sem]))) | ((first | refine mxq6 [] ?_ | refine mxq5 [] ?_ | refine mxq4 [] ?_ | refine mxq3 [] ?_ | refine mxq2 [] ?_ | refine mxq1 [] ?_ | refine mxq0 [] ?_ | fail); (simp only [go_sem])) | (first | refine cdq ?_ (hc := i1) | refine cmq ?_ (hc := i1) | refine ctq ?_ (hc := i1)); (simp only [go_sem]) | (first | refine cdq ?_ (hc := i2) | refine cmq ?_ (hc := i2) | refine ctq ?_ (hc := i2)); (simp only [go_sem]) | (first | refine cdq ?_ (hc := hbo _ _ _) | refine cmq ?_ (hc := hbo _ _ _) | refine ctq ?_ (hc := hbo _ _ _)); (simp only [go_sem]) | fail)
      all_goals (refine hR _ ?_; refine rat [] (hK := ⟨rfl, rfl⟩))
end Go.Proofs.Ytfgjiamolknicaa
/- Typing in the reference: contexts, operands of types, meets. On shadows. -/
namespace Go.Proofs.Grad
end Go.Proofs.Grad
namespace Go.Proofs.Ytfgjiamolknicaa
open Go.RowKit Go.Proofs.Sh Go.Proofs.Grad
set_option maxRecDepth 100000
set_option maxHeartbeats 8000000
theorem sCopyT {t : T} (h : t.depth ≤ 4) : AFn Try.prog 139 [.agg (tyC t.ty)] (.agg (tyC t.ty)) := l1Copy 1000 (by omega) t.ty (T.ty_small h)
end Go.Proofs.Ytfgjiamolknicaa
/- Typing in the reference: meets. On shadows. -/
namespace Go.Proofs.Ytfgjiamolknicaa
open Go.RowKit Go.Proofs.Sh Go.Proofs.Grad
set_option maxRecDepth 100000
set_option maxHeartbeats 8000000
theorem l1Meet (a : T) : ∀ b : T, a.depth ≤ 4 → b.depth ≤ 4 → a.cons b = true → AFn Try.prog 106 [.agg (tyC a.ty), .agg (tyC b.ty)] (.agg (tyC (a.meet b).ty)) := by
  induction a with
  | any =>
    intro b ha hb hc
    have h1 := sCopyT hb
    simp only [T.meet]
    simp only [T.ty]
    refine fn_in ?_; refine acl_in Try.func106 rfl isfn_106 (Nat.le_of_ble_eq_true rfl) (fun R hR => ?_); rw [Try.results106] at hR; refine wg_run ?_; (simp only [Try.f106, go_sem])
    repeat' (first | (first | (((first | apply sp1 | apply sp2 | apply sp3 | apply sp4 | apply sp5 | apply sp6 | apply sp7) <;> intro hb) <;> (simp only [go_sem, hb])) | ((first | apply wm_done | apply wt_done | apply wg_run | refine fk ?_ ?_) <;> (simp only [go_sem]))) | (first | refine cdq ?_ (hc := h1) | refine cmq ?_ (hc := h1) | refine ctq ?_ (hc := h1)); (simp only [go_sem]) | fail)
    all_goals (refine hR _ ?_; refine rat [] (hK := ⟨rfl, rfl⟩))
  | int | bool =>
    intro b ha hb hc
    have h1 := sCopyT ha
    cases b <;> simp only [T.cons, Bool.false_eq_true] at hc
    all_goals
      simp only [T.meet]
      simp only [T.ty] at h1 ⊢
      refine fn_in ?_; refine acl_in Try.func106 rfl isfn_106 (Nat.le_of_ble_eq_true rfl) (fun R hR => ?_); rw [Try.results106] at hR; refine wg_run ?_; (simp only [Try.f106, go_sem])
      repeat' (first | (first | (((first | apply sp1 | apply sp2 | apply sp3 | apply sp4 | apply sp5 | apply sp6 | apply sp7) <;> intro hb) <;> (simp only [go_sem, hb])) | ((first | apply wm_done | apply wt_done | apply wg_run | refine fk ?_ ?_) <;> (simp only [go_sem]))) | (first | (refine wl_next (wg_run ?_); (simp only [go_sem])) | refine wd_rounds 6 ?_) | (first | refine cdq ?_ (hc := h1) | refine cmq ?_ (hc := h1) | refine ctq ?_ (hc := h1)); (simp only [go_sem]) | fail)
      all_goals (refine hR _ ?_; refine rat [] (hK := ⟨rfl, rfl⟩))
  | fn a1 a2 ih1 ih2 | pr a1 a2 ih1 ih2 =>
    intro b ha hb hc
    have h1 := sCopyT ha
    cases b <;> simp only [T.cons, Bool.false_eq_true, Bool.and_eq_true] at hc
    · simp only [T.meet]
      simp only [T.ty] at h1 ⊢
      refine fn_in ?_; refine acl_in Try.func106 rfl isfn_106 (Nat.le_of_ble_eq_true rfl) (fun R hR => ?_); rw [Try.results106] at hR; refine wg_run ?_; (simp only [Try.f106, go_sem])
      repeat' (first | (first | (((first | apply sp1 | apply sp2 | apply sp3 | apply sp4 | apply sp5 | apply sp6 | apply sp7) <;> intro hb) <;> (simp only [go_sem, hb])) | ((first | apply wm_done | apply wt_done | apply wg_run | refine fk ?_ ?_) <;> (simp only [go_sem]))) | (first | (refine wl_next (wg_run ?_); (simp only [go_sem])) | refine wd_rounds 6 ?_) | (first | refine cdq ?_ (hc := h1) | refine cmq ?_ (hc := h1) | refine ctq ?_ (hc := h1)); (simp only [go_sem]) | fail)
      all_goals (refine hR _ ?_; refine rat [] (hK := ⟨rfl, rfl⟩))
    · rename_i b1 b2
      simp only [T.depth] at ha hb
      have i1 := ih1 b1 (by omega) (by omega) hc.1
      have i2 := ih2 b2 (by omega) (by omega) hc.2
      simp only [T.meet]
      simp only [T.ty]
      refine fn_in ?_; refine acl_in Try.func106 rfl isfn_106 (Nat.le_of_ble_eq_true rfl) (fun R hR => ?_); rw [Try.results106] at hR; refine wg_run ?_; (simp only [Try.f106, go_sem])
      repeat' (first | (first | (((first | apply sp1 | apply sp2 | apply sp3 | apply sp4 | apply sp5 | apply sp6 | apply sp7) <;> intro hb) <;> (simp only [go_sem, hb])) | ((first | apply wm_done | apply wt_done | apply wg_run | refine fk ?_ ?_) <;> (simp only [go_sem]))) | (first | (refine wl_next (wg_run ?_); (simp only [go_sem])) | refine wd_rounds 6 ?_) | ((first | refine mxq6 [] ?_ | refine mxq5 [] ?_ | refine mxq4 [] ?_ | refine mxq3 [] ?_ | refine mxq2 [] ?_ | refine mxq1 [] ?_ | refine mxq0 [] ?_ | fail); (simp only [go_sem])) | (first | refine cdq ?_ (hc := i1) | refine cmq ?_ (hc := i1) | refine ctq ?_ (hc := i1)); (simp only [go_sem]) | (first | refine cdq ?_ (hc := i2) | refine cmq ?_ (hc := i2) | refine ctq ?_ (hc := i2)); (simp only [go_sem]) | fail)
      all_goals (refine hR _ ?_; refine rat [] (hK := ⟨rfl, rfl⟩))
end Go.Proofs.Ytfgjiamolknicaa
/- Merged terms: the plain law. No program, no world. -/
namespace Go.Proofs.Grad
/-- a list, of which the first k elements are another one's -/
def mixK (A L : List T) (k : Nat) : List T := A.take k ++ L.drop k
theorem mixK_zero (A L : List T) : mixK A L 0 = L := by simp [mixK]
theorem mixK_all {A L : List T} (h : A.length = L.length) {k : Nat} (hk : L.length ≤ k) : mixK A L k = A := by
  rw [mixK, List.take_of_length_le (by omega), List.drop_eq_nil_of_le hk, List.append_nil]
theorem mixK_get {A L : List T} (h : A.length = L.length) {k : Nat} (hk : k < L.length) : (mixK A L k)[k]? = some L[k] := by
  rw [mixK, List.getElem?_append_right (by rw [List.length_take]; omega), List.getElem?_drop, List.length_take, List.getElem?_eq_getElem (by omega)]
  congr 2; omega
theorem mixK_set {A L : List T} (h : A.length = L.length) {k : Nat} (hk : k < L.length) : (mixK A L k).set k (A[k]'(by omega)) = mixK A L (k + 1) := by
  have h1 : (A.take k).length = k := by rw [List.length_take]; omega
  rw [mixK, List.set_append_right _ _ (by omega), h1, Nat.sub_self, List.drop_eq_getElem_cons hk, List.set_cons_zero, mixK, List.take_succ_eq_append_getElem (by omega : k < A.length), List.append_assoc]
  rfl
theorem zipM_get {l m : List T} (h : l.length = m.length) {k : Nat} (hk : k < l.length) : (zipM l m)[k]'(by rw [zipM_length h]; exact hk) = l[k].meet (m[k]'(by omega)) := by
  simp [zipM]
theorem all2P_get {q : T → T → Bool} : ∀ {l m : List T}, all2P q l m = true → ∀ (k : Nat) (hk : k < l.length) (hm : k < m.length), q l[k] m[k] = true
  | [], _, _, k, hk, _ => by simp at hk
  | _ :: _, [], h, _, _, _ => by simp [all2P] at h
  | a :: l, b :: m, h, 0, _, _ => by simp only [all2P, Bool.and_eq_true] at h; exact h.1
  | a :: l, b :: m, h, k + 1, hk, hm => by
    simp only [all2P, Bool.and_eq_true] at h
    exact all2P_get h.2 k (by simpa using hk) (by simpa using hm)
theorem all2P_of {q : T → T → Bool} : ∀ {l m : List T}, l.length = m.length → (∀ (k : Nat) (hk : k < l.length) (hm : k < m.length), q l[k] m[k] = true) → all2P q l m = true
  | [], [], _, _ => rfl
  | [], _ :: _, h, _ => by simp at h
  | _ :: _, [], h, _ => by simp at h
  | a :: l, b :: m, h, hq => by
    simp only [all2P, Bool.and_eq_true]
    exact ⟨hq 0 (by simp) (by simp), all2P_of (by simpa using h) fun k hk hm => hq (k + 1) (by simpa using hk) (by simpa using hm)⟩
/-- alike: the same without types, and their types in the relation -/
theorem E.alk_dec {q : Ty → Ty → Bool} {r : T → T → Bool} (hqr : ∀ a b : T, q a.ty b.ty = r a b) {a b : E} (ha : a.noC = true) (hb : b.noC = true) :
    a.tm.alk q b.tm = ((a.mapE E.era1).tm.same (b.mapE E.era1).tm && all2P r a.tl b.tl) := by
  rw [Bool.eq_iff_iff, Bool.and_eq_true, Tm.same_iff]
  constructor
  · intro h
    obtain ⟨h1, h2, h3⟩ := E.alk_iff ha hb h
    rw [all2T_P hqr] at h3
    refine ⟨?_, h3⟩
    rw [E.era_wt b, E.era_wt a, h2]
    conv => rhs; rw [h1]
    rw [E.wt_wt _ _ _ (by rw [E.tl_length, h2]; exact Nat.le_refl _) (by simp)]
  · intro ⟨h1, h2⟩
    have h3 := E.tm_inj _ _ h1
    have hn : b.nt = a.nt := by rw [← E.era_nt b, ← h3, E.era_nt]
    have h4 : b = (a.wt b.tl).1 := by
      have e1 := E.wt_wt a (List.replicate a.nt .any) b.tl (by simp) (by rw [E.tl_length, hn]; exact Nat.le_refl _)
      have e2 := E.wt_wt b (List.replicate b.nt .any) b.tl (by simp) (by rw [E.tl_length]; exact Nat.le_refl _)
      rw [← E.era_wt] at e1 e2
      rw [h3, e2] at e1
      rw [← e1, E.wt_own]
    conv => lhs; rw [h4]
    rw [E.alk_wt a ha _ (by rw [E.tl_length, hn]), all2T_P hqr]; exact h2
/-- two terms, merged -/
def E.mrg (a b : E) : E := (a.wt (zipM a.tl b.tl)).1
section
variable {a b : E}
theorem E.mrg_okT (ha : a.okT = true) (hb : b.okT = true) : (a.mrg b).okT = true := by
  have ha' := ha; have hb' := hb
  simp only [E.okT, Bool.and_eq_true] at ha' hb'
  exact E.wt_okT ha (zipM_depth (E.tl_depth a ha'.1 ha'.2.1) (E.tl_depth b hb'.1 hb'.2.1))
theorem E.alk_cons (ha : a.noC = true) (hb : b.noC = true) (h : a.tm.alk Ty.cons b.tm = true) : b = (a.wt b.tl).1 ∧ b.nt = a.nt ∧ all2P T.cons a.tl b.tl = true := by
  obtain ⟨h1, h2, h3⟩ := E.alk_iff ha hb h
  rw [all2T_P (fun a b => T.cons_ty a b)] at h3
  exact ⟨h1, h2, h3⟩
end
end Go.Proofs.Grad
