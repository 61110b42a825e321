/- Texts of the proof, one behind another. -/
import Derived.Test.YtkkijdlgmlffoaaKW9
import Derived.Test.YtkkijdlgmlffoaaKW10
import Derived.Test.YtkkijdlgmlffoaaKW12
set_option linter.unusedSimpArgs false
set_option linter.unusedVariables false
/- Owned trees: rows changed where they lie. -/
namespace Go.Proofs.Sh
def dgs (k : Nat) (out : ByteArray) : ByteArray := if h : k = 0 then out else dgs (k / 10) (bytesOf [((48 + k % 10 : Nat) : Int)] ++ out)
termination_by k
decreasing_by omega
def mkT (k : Nat) : ByteArray := ⟨#[109]⟩ ++ dgs k ByteArray.empty
end Go.Proofs.Sh
namespace Go.Proofs.Sh
open Go.RowKit Go.Proofs.Grad

/-- a row of an owned slice, and what is so when it has been changed -/
theorem row_upd {h : List Blk} {d s b n i : Nat} {R : List (List C)} {js : List Nat} (h0 : ow h (d + 1) (.row s b n) = some (.sl R, b :: js)) (hn : (b :: js).Nodup) (hi : i < R.length) :
    ∃ ty rows r E pre is post, h[b]? = some ⟨s, ty, .mut, rows⟩ ∧ rows.length = n ∧ R.length = n ∧ rows[i]? = some r ∧ R[i]? = some E ∧ r.length = s ∧ fzL (ow h d) r = some (E, is) ∧ js = pre ++ (is ++ post) ∧ is.Nodup ∧ b ∉ is ∧ (∀ x ∈ pre ++ post, x ∉ is ∧ x ≠ b) ∧
      (∀ h2 r' E', r'.length = s → h2[b]? = some ⟨s, ty, .mut, rows.set i r'⟩ → fzL (ow h2 d) r' = some (E', is) → (∀ x ∈ pre ++ post, h2[x]? = h[x]?) → ow h2 (d + 1) (.row s b n) = some (.sl (R.set i E'), b :: js)) := by
  obtain ⟨d', k, R', js', e, h1, h2, h3, h4, h5, h6, h7, h8⟩ := ow_row h0
  cases e; cases h7; cases h8
  obtain ⟨ks, kty, kst, rows⟩ := k
  simp only at h2 h3 h4 h5 h6
  have hst : kst = .mut := by cases kst <;> simp [St.isMut] at h2 ⊢
  subst hst h4
  have hl := fzRows_len h6
  have hir : i < rows.length := by omega
  obtain ⟨E, pre, is, post, q1, q2, q3, q4, q5⟩ := fzRows_split h6 (List.getElem?_eq_getElem hir)
  obtain ⟨hb, hjs⟩ := List.nodup_cons.1 hn
  have hjs' := hjs
  rw [q3] at hjs' hb
  obtain ⟨a1, a2, a3⟩ := List.nodup_append.1 hjs'
  obtain ⟨a4, a5, a6⟩ := List.nodup_append.1 a2
  refine ⟨kty, rows, rows[i], E, pre, is, post, h1, h3, by omega, List.getElem?_eq_getElem hir, q1, rowsLen_spec h5 _ (List.getElem_mem hir), q2, q3, a4, fun hm => hb (by simp [hm]), fun x hx => ⟨fun hm => ?_, fun e => hb (by subst e; rcases List.mem_append.1 hx with hx | hx <;> simp [hx])⟩, fun h2' r' E' hr hb he hx => ?_⟩
  · rcases List.mem_append.1 hx with hx | hx
    · exact a3 x hx x (by simp [hm]) rfl
    · exact a6 x hm x hx rfl
  · refine ow_row_of hb rfl (by simp [h3]) rfl ?_ ?_
    · simp only [rowsLen, List.all_eq_true, beq_iff_eq]
      intro x hx
      rcases List.mem_or_eq_of_mem_set hx with hx | rfl
      · exact rowsLen_spec h5 x hx
      · exact hr
    · rw [q3]
      exact fzRows_set hir hl (owR_frame q4 (fun x hx' => hx x (by simp [hx']))) he (owR_frame q5 (fun x hx' => hx x (by simp [hx'])))
theorem owR_lt {h : List Blk} {d s b n : Nat} {c' : C} {js : List Nat} (h0 : ow h d (.row s b n) = some (c', b :: js)) (x : Nat) (hx : x ∈ js) : x < h.length := (ow_mut h0 x (by simp [hx])).lt
end Go.Proofs.Sh
namespace Go.Proofs.Grad
mutual
def Ty.mark : Ty → Nat → Ty
  | .mk _ l, k => .mk (k : Int) (Ty.marks l (k + 1))
def Ty.marks : List Ty → Nat → List Ty
  | [], _ => []
  | t :: l, k => t.mark k :: Ty.marks l (k + t.size)
end
theorem Ty.mark_eq (t : Ty) (k : Nat) : t.mark k = .mk (k : Int) (Ty.marks t.kids (k + 1)) := by cases t; rfl
theorem Ty.marks_append : ∀ (l m : List Ty) (k : Nat), Ty.marks (l ++ m) k = Ty.marks l k ++ Ty.marks m (k + Ty.sizes l)
  | [], m, k => by simp [Ty.marks, Ty.sizes]
  | t :: l, m, k => by simp only [List.cons_append, Ty.marks, Ty.sizes, Ty.marks_append l m, Nat.add_assoc]
theorem Ty.marks_length : ∀ (l : List Ty) (k : Nat), (Ty.marks l k).length = l.length
  | [], _ => rfl
  | t :: l, k => by simp [Ty.marks, Ty.marks_length l]
theorem Ty.sizes_append : ∀ (l m : List Ty), Ty.sizes (l ++ m) = Ty.sizes l + Ty.sizes m
  | [], m => by simp [Ty.sizes]
  | t :: l, m => by simp only [List.cons_append, Ty.sizes, Ty.sizes_append l m, Nat.add_assoc]
/-- a list of which the first i are marked -/
def Ty.part (l : List Ty) (k i : Nat) : List Ty := Ty.marks (l.take i) k ++ l.drop i
theorem Ty.part_length (l : List Ty) (k i : Nat) : (Ty.part l k i).length = l.length := by
  simp only [Ty.part, List.length_append, Ty.marks_length, List.length_take, List.length_drop]; omega
end Go.Proofs.Grad
namespace Go.Proofs.Sh
open Go.RowKit Go.Proofs.Grad
theorem Ty.part_get {l : List Ty} {k i : Nat} (h : i < l.length) : (Ty.part l k i)[i]? = some (kid l i) := by
  have hl : (Ty.marks (l.take i) k).length = i := by rw [Ty.marks_length, List.length_take]; omega
  rw [Ty.part, List.getElem?_append_right (by omega), hl, Nat.sub_self, drop_kid h]; rfl
theorem Ty.part_set {l : List Ty} {k i : Nat} (h : i < l.length) : (Ty.part l k i).set i ((kid l i).mark (k + Ty.sizes (l.take i))) = Ty.part l k (i + 1) := by
  have hl : (Ty.marks (l.take i) k).length = i := by rw [Ty.marks_length, List.length_take]; omega
  rw [Ty.part, List.set_append_right _ _ (by omega), hl, Nat.sub_self, drop_kid h, Ty.part, take_kid h, Ty.marks_append]
  simp [Ty.marks]
theorem Ty.sizes_take {l : List Ty} {i : Nat} (h : i < l.length) : Ty.sizes (l.take (i + 1)) = Ty.sizes (l.take i) + (kid l i).size := by
  rw [take_kid h, Ty.sizes_append]; simp [Ty.sizes]
theorem tyR_set (l : List Ty) (i : Nat) (t : Ty) : (tyR l).set i (tyC t) = tyR (l.set i t) := by
  induction l generalizing i with
  | nil => rfl
  | cons x l ih => cases i <;> simp [tyR, ih]
theorem Ty.sizes_take_le (l : List Ty) (i : Nat) : Ty.sizes (l.take i) ≤ Ty.sizes l := by
  have := Ty.sizes_append (l.take i) (l.drop i)
  rw [List.take_append_drop] at this; omega
end Go.Proofs.Sh
namespace Go.Proofs.Grad
open Go.Proofs.Sh
mutual
/-- how many marks a term takes -/
def Tm.mw : Tm → Nat
  | .mk _ _ _ t f _ l => 6 + (Ty.sizes t.kids + (Ty.sizes f.kids + Tm.mws l))
def Tm.mws : List Tm → Nat
  | [] => 0
  | t :: l => t.mw + Tm.mws l
end
mutual
def Tm.mark : Tm → Nat → Tm
  | .mk _ _ _ t f _ l, k => .mk (k : Int) (mkT (k + 1)) ((k + 2 : Nat) : Int) (.mk ((k + 3 : Nat) : Int) (Ty.marks t.kids (k + 4))) (.mk ((k + 4 + Ty.sizes t.kids : Nat) : Int) (Ty.marks f.kids (k + 4 + Ty.sizes t.kids + 1)))
      ((k + 4 + Ty.sizes t.kids + 1 + Ty.sizes f.kids : Nat) : Int) (Tm.marks l (k + 4 + Ty.sizes t.kids + 1 + Ty.sizes f.kids + 1))
def Tm.marks : List Tm → Nat → List Tm
  | [], _ => []
  | t :: l, k => t.mark k :: Tm.marks l (k + t.mw)
end
theorem Tm.mark_eq (t : Tm) (k : Nat) : t.mark k = .mk (k : Int) (mkT (k + 1)) ((k + 2 : Nat) : Int) (.mk ((k + 3 : Nat) : Int) (Ty.marks t.type.kids (k + 4))) (.mk ((k + 4 + Ty.sizes t.type.kids : Nat) : Int) (Ty.marks t.frm.kids (k + 4 + Ty.sizes t.type.kids + 1)))
      ((k + 4 + Ty.sizes t.type.kids + 1 + Ty.sizes t.frm.kids : Nat) : Int) (Tm.marks t.kids (k + 4 + Ty.sizes t.type.kids + 1 + Ty.sizes t.frm.kids + 1)) := by cases t; rfl
theorem Tm.marks_append : ∀ (l m : List Tm) (k : Nat), Tm.marks (l ++ m) k = Tm.marks l k ++ Tm.marks m (k + Tm.mws l)
  | [], m, k => by simp [Tm.marks, Tm.mws]
  | t :: l, m, k => by simp only [List.cons_append, Tm.marks, Tm.mws, Tm.marks_append l m, Nat.add_assoc]
theorem Tm.marks_length : ∀ (l : List Tm) (k : Nat), (Tm.marks l k).length = l.length
  | [], _ => rfl
  | t :: l, k => by simp [Tm.marks, Tm.marks_length l]
def Tm.part (l : List Tm) (k i : Nat) : List Tm := Tm.marks (l.take i) k ++ l.drop i
theorem Tm.part_length (l : List Tm) (k i : Nat) : (Tm.part l k i).length = l.length := by
  simp only [Tm.part, List.length_append, Tm.marks_length, List.length_take, List.length_drop]; omega
theorem Tm.part_get {l : List Tm} {k i : Nat} (h : i < l.length) : (Tm.part l k i)[i]? = some (teKid l i) := by
  have hl : (Tm.marks (l.take i) k).length = i := by rw [Tm.marks_length, List.length_take]; omega
  rw [Tm.part, List.getElem?_append_right (by omega), hl, Nat.sub_self, tedrop_kid h]; rfl
theorem Tm.part_set {l : List Tm} {k i : Nat} (h : i < l.length) : (Tm.part l k i).set i ((teKid l i).mark (k + Tm.mws (l.take i))) = Tm.part l k (i + 1) := by
  have hl : (Tm.marks (l.take i) k).length = i := by rw [Tm.marks_length, List.length_take]; omega
  rw [Tm.part, List.set_append_right _ _ (by omega), hl, Nat.sub_self, tedrop_kid h, Tm.part, tetake_kid h, Tm.marks_append]
  simp [Tm.marks]
end Go.Proofs.Grad
namespace Go.Proofs.Sh
open Go.RowKit Go.Proofs.Grad
end Go.Proofs.Sh
/- Types: validity in the program; checks behind validity. On shadows. -/
namespace Go.Proofs.Ytkkijdlgmlffoaa
open Go.RowKit Go.Proofs.Sh Go.Proofs.Grad
set_option maxRecDepth 100000
set_option maxHeartbeats 4000000
theorem iScan (m : Nat) (hm : m ≤ 4) : ∀ t : Ty, AFn Try.prog 52 [.agg (tyC t), .one (.sc (.int .i64 (5 - (m : Int))))] (.one (.sc (.bool (t.shape m)))) := by
  induction m with
  | zero =>
    intro t
    refine fn_in ?_; refine acl_in Try.func52 rfl isfn_52 (Nat.le_of_ble_eq_true rfl) (fun R hR => ?_); rw [Try.results52] at hR; refine wg_run ?_; (simp only [Try.f52, go_sem])
    repeat' (first | (((first | apply sp1 | apply sp2 | apply sp3 | apply sp4 | apply sp5 | apply sp6 | apply sp7) <;> intro hb) <;> (simp only [go_sem, hb])) | ((first | apply wm_done | apply wt_done | apply wg_run | refine fk ?_ ?_) <;> (simp only [go_sem])))
    all_goals (refine hR _ (rat [] (hK := ⟨?_, rfl⟩)))
    all_goals rfl
  | succ m ih =>
    intro t
    have hd : decide (5 - ((m + 1 : Nat) : Int) ≤ 4) = true := by simp; omega
    have hw : IntKind.i64.wrap (5 - ((m + 1 : Nat) : Int) + 1) = 5 - (m : Int) := by rw [IntWalk.i64_in _ (by omega)]; omega
    have hc : t.kids.length < 3 → ACl Try.prog 69 [.one (.sl (tyR t.kids)), .one (.fn 70 [.ptr 1 0 0 0])] [⟨1, 3, .mut, [[.sc (.int .i64 (5 - ((m + 1 : Nat) : Int)))]]⟩] (fun r H' => r = .one (.sc (.bool (t.kids.any (fun x => !x.shape m)))) ∧ H' = [⟨1, 3, .mut, [[.sc (.int .i64 (5 - ((m + 1 : Nat) : Int)))]]⟩]) := by
      intro hl
      refine containsFunc1 _ _ (fun x => !x.shape m) _ (by omega) ?_
      intro k hk
      refine acl_in Try.func70 rfl isfn_70 (Nat.le_of_ble_eq_true rfl) (fun R hR => ?_); rw [Try.results70] at hR; refine wg_run ?_; (simp only [Try.f70, go_sem])
      (simp only [go_sem, hw])
      (first | refine cdq ?_ (hc := ih (by omega) _) | refine cmq ?_ (hc := ih (by omega) _) | refine ctq ?_ (hc := ih (by omega) _)); (simp only [go_sem])
      (refine hR _ (rat [] (hK := ⟨?_, ?_⟩)))
      · rfl
      · rfl
    clear ih
    refine fn_in ?_; refine acl_in Try.func52 rfl isfn_52 (Nat.le_of_ble_eq_true rfl) (fun R hR => ?_); rw [Try.results52] at hR; refine wg_run ?_; (simp only [Try.f52, go_sem])
    repeat' (first | (first | (simp only [go_sem, hd]) | (((first | apply sp1 | apply sp2 | apply sp3 | apply sp4 | apply sp5 | apply sp6 | apply sp7) <;> intro hb) <;> (simp only [go_sem, hb, hd])) | ((first | apply wm_done | apply wt_done | apply wg_run | refine fk ?_ ?_) <;> (simp only [go_sem, hd]))) | (first | refine kdq [1] ?_ (hc := hc (by have := beq_iff_eq.1 hb; omega)) | refine kmq [1] ?_ (hc := hc (by have := beq_iff_eq.1 hb; omega)) | refine ktq [1] ?_ (hc := hc (by have := beq_iff_eq.1 hb; omega))); rintro _ _ ⟨rfl, rfl⟩; (simp only [go_sem]))
    all_goals (refine hR _ (rat [] (hK := ⟨?_, rfl⟩)))
    all_goals clear hR hc
    all_goals simp_all [Ty.shape, kidsN, List.all_eq_not_any_not]
theorem iValid (t : Ty) : AFn Try.prog 25 [.agg (tyC t)] (.one (.sc (.bool t.valid))) := by
  refine fn_in ?_; refine acl_in Try.func25 rfl isfn_25 (Nat.le_of_ble_eq_true rfl) (fun R hR => ?_); rw [Try.results25] at hR; refine wg_run ?_; (simp only [Try.f25, go_sem])
  (first | refine cdq ?_ (hc := iScan 4 (by omega) _) | refine cmq ?_ (hc := iScan 4 (by omega) _) | refine ctq ?_ (hc := iScan 4 (by omega) _)); (simp only [go_sem])
  (refine hR _ (rat [] (hK := ⟨?_, rfl⟩)))
  rfl
end Go.Proofs.Ytkkijdlgmlffoaa
/- Refined types: slices.DeleteFunc at types, RefineType. On shadows. -/
namespace Go.Proofs.Grad
/-- the first l's places hold what stays of what has been seen; i of them -/
theorem filter_take {q : Ty → Bool} {l : List Ty} {j : Nat} (h : j < l.length) : (l.take (j + 1)).filter q = (l.take j).filter q ++ (match q (Sh.kid l j) with | true => [Sh.kid l j] | false => []) := by
  rw [Sh.kid_eq h, List.take_succ_eq_append_getElem h, List.filter_append]
  cases e : q l[j] <;> simp [e]
theorem tyR_mapX (l : List Ty) : Sh.tyR l = l.map Sh.tyC := by induction l with | nil => rfl | cons x l ih => rw [Sh.tyR, ih]; rfl
end Go.Proofs.Grad
namespace Go.Proofs.Ytkkijdlgmlffoaa
open Go.RowKit Go.Proofs.Sh Go.Proofs.Grad
set_option maxRecDepth 100000
set_option maxHeartbeats 8000000
theorem iIdxT (g : FuncId) (p : Ty → Bool) (l : List Ty) (hl : l.length < 4611686018427387904)
    (hg : ∀ t : Ty, AFn Try.prog g [.agg (tyC t)] (.one (.sc (.bool (p t))))) :
    ACl Try.prog 74 [.one (.row 2 0 l.length), .one (.fn g [])] [⟨2, 29, .mut, tyR l⟩] (fun r H' => r = .one (.sc (.int .i64 (idx p 0 l))) ∧ H' = [⟨2, 29, .mut, tyR l⟩]) := by
  refine acl_in Try.func74 rfl isfn_74 (Nat.le_of_ble_eq_true rfl) (fun R hR => ?_); rw [Try.results74] at hR; refine wg_run ?_; (simp only [Try.f74, go_sem])
  refine wd_for [0, 1, 7, 8] (fun k => [.one (.row 2 0 l.length), .one (.fn g []), .one (.sc (.int .i64 l.length)), .one (.sc (.int .i64 (k : Nat)))]) (fun k => [⟨2, 29, .mut, tyR l⟩])
      (fun k => k ≤ l.length ∧ idx p k (l.drop k) = idx p 0 l) (fun k => l.length - k) 0 ⟨Nat.zero_le _, rfl⟩ (head_all (by (simp only [go_sem]); first | done | rfl) ⟨rfl, rfl⟩) ?_
  rintro k ⟨hk, hs⟩ G hG
  refine wg_run ?_
  (simp only [go_sem])
  ((first | apply sp1 | apply sp2 | apply sp3 | apply sp4 | apply sp5 | apply sp6 | apply sp7) <;> intro hb) <;> (simp only [go_sem, hb])
  · have hk1 : k < l.length := by have := of_decide_eq_true hb; omega
    rw [drop_kid hk1, idx] at hs
    have hw1 := wrap_succ hk1 (by omega)
    have b2 : decide ((0 : Int) ≤ (k : Int)) = true := decide_eq_true (by omega)
    have b4 : decide (k < l.length) = true := decide_eq_true hk1
    have hgk := hg (kid l k)
    repeat' (first | (first | (simp only [go_sem, hb, b2, b4, hw1]) | (((first | apply sp1 | apply sp2 | apply sp3 | apply sp4 | apply sp5 | apply sp6 | apply sp7) <;> intro hb) <;> (simp only [go_sem, hb, hb, b2, b4, hw1])) | ((first | apply wm_done | apply wt_done | apply wg_run | refine fk ?_ ?_) <;> (simp only [go_sem, hb, b2, b4, hw1]))) | (first | refine cdq ?_ (hc := hgk) | refine cmq ?_ (hc := hgk) | refine ctq ?_ (hc := hgk)); (simp only [go_sem]) | fail)
    · exact hR _ (ret_all (by (simp only [go_sem]); first | done | rfl) ⟨by rw [← hs]; simp_all, rfl⟩)
    · exact hG (k + 1) _ _ ⟨by omega, by simpa [hb] using hs⟩ (by omega) (head_all (by (simp only [go_sem]); first | done | rfl) ⟨rfl, rfl⟩)
  · have hk1 : ¬ k < l.length := by have := of_decide_eq_false hb; omega
    rw [List.drop_eq_nil_of_le (by omega), idx] at hs
    exact hR _ (ret_all (by (simp only [go_sem]); first | done | rfl) ⟨by rw [← hs], rfl⟩)
theorem iPred (t : Ty) : AFn Try.prog 59 [.agg (tyC t)] (.one (.sc (.bool (!t.valid)))) := by
  have hv := iValid t
  refine fn_in ?_; refine acl_in Try.func59 rfl isfn_59 (Nat.le_of_ble_eq_true rfl) (fun R hR => ?_); rw [Try.results59] at hR; refine wg_run ?_; (simp only [Try.f59, go_sem])
  repeat' (first | (first | (((first | apply sp1 | apply sp2 | apply sp3 | apply sp4 | apply sp5 | apply sp6 | apply sp7) <;> intro hb) <;> (simp only [go_sem, hb])) | ((first | apply wm_done | apply wt_done | apply wg_run | refine fk ?_ ?_) <;> (simp only [go_sem]))) | (first | refine cdq ?_ (hc := hv) | refine cmq ?_ (hc := hv) | refine ctq ?_ (hc := hv)); (simp only [go_sem]) | fail)
  (refine hR _ (rat [] (hK := ⟨rfl, rfl⟩)))
theorem idx_spec (p : Ty → Bool) : ∀ (l : List Ty) (k : Nat), (idx p k l = -1 ∧ l.filter (fun t => !p t) = l) ∨ ∃ i, i < l.length ∧ idx p k l = ((k + i : Nat) : Int) ∧ (l.take (i + 1)).filter (fun t => !p t) = l.take i
  | [], k => .inl ⟨rfl, rfl⟩
  | t :: l, k => by
    simp only [idx]
    cases e : p t
    · rcases idx_spec p l (k + 1) with ⟨h1, h2⟩ | ⟨i, h1, h2, h3⟩
      · exact .inl ⟨by simpa using h1, by simp [e, h2]⟩
      · refine .inr ⟨i + 1, by simpa using h1, ?_, ?_⟩
        · rw [if_neg (by simp), h2]; congr 1; omega
        · rw [List.take_succ_cons, List.filter_cons, if_pos (by simp [e]), h3, List.take_succ_cons]
    · exact .inr ⟨0, by simp, by simp, by simp [e]⟩
theorem iDelT (g : FuncId) (p : Ty → Bool) (l : List Ty) (hl : l.length < 4611686018427387904) (hl0 : 0 < l.length)
    (hg : ∀ t : Ty, AFn Try.prog g [.agg (tyC t)] (.one (.sc (.bool (p t))))) :
    ACl Try.prog 57 [.one (.row 2 0 l.length), .one (.fn g [])] [⟨2, 29, .mut, tyR l⟩] (fun r H' => r = .one (.row 2 0 (l.filter (fun t => !p t)).length) ∧ H' = [⟨2, 29, .mut, tyR (l.filter (fun t => !p t))⟩]) := by
  have hix := iIdxT g p l hl hg
  rcases idx_spec p l 0 with ⟨h1, h2⟩ | ⟨i0, h1, h2, h3⟩
  · rw [h1] at hix
    rw [h2]
    refine acl_in Try.func57 rfl isfn_57 (Nat.le_of_ble_eq_true rfl) (fun R hR => ?_); rw [Try.results57] at hR; refine wg_run ?_; (simp only [Try.f57, go_sem])
    repeat' (first | (first | (((first | apply sp1 | apply sp2 | apply sp3 | apply sp4 | apply sp5 | apply sp6 | apply sp7) <;> intro hb) <;> (simp only [go_sem, hb])) | ((first | apply wm_done | apply wt_done | apply wg_run | refine fk ?_ ?_) <;> (simp only [go_sem]))) | ((first | refine kdq [0] ?_ (hc := hix) | refine kmq [0] ?_ (hc := hix) | refine ktq [0] ?_ (hc := hix)); rintro _ _ ⟨rfl, rfl⟩ <;> (simp only [go_sem])) | fail)
    exact hR _ (ret_all (by (simp only [go_sem]); first | done | rfl) ⟨rfl, rfl⟩)
  · rw [h2, Nat.zero_add] at hix
    have n1 : (((i0 : Nat) : Int) == -1) = false := beq_eq_false_iff_ne.2 (by omega)
    have w1 := wrap_succ h1 (by omega)
    refine acl_in Try.func57 rfl isfn_57 (Nat.le_of_ble_eq_true rfl) (fun R hR => ?_); rw [Try.results57] at hR; refine wg_run ?_; (simp only [Try.f57, go_sem, n1])
    repeat' (first | (first | (simp only [go_sem, n1, w1]) | (((first | apply sp1 | apply sp2 | apply sp3 | apply sp4 | apply sp5 | apply sp6 | apply sp7) <;> intro hb) <;> (simp only [go_sem, hb, n1, w1])) | ((first | apply wm_done | apply wt_done | apply wg_run | refine fk ?_ ?_) <;> (simp only [go_sem, n1, w1]))) | ((first | refine kdq [0] ?_ (hc := hix) | refine kmq [0] ?_ (hc := hix) | refine ktq [0] ?_ (hc := hix)); rintro _ _ ⟨rfl, rfl⟩ <;> (simp only [go_sem])) | fail)
    refine wd_for (σ := Nat × Nat × List Ty) [0, 1, 5, 6] (fun x => [.one (.row 2 0 l.length), .one (.fn g []), .one (.sc (.int .i64 (x.2.1 : Nat))), .one (.sc (.int .i64 (x.1 : Nat)))]) (fun x => [⟨2, 29, .mut, tyR x.2.2⟩])
      (fun x => x.2.1 < x.1 ∧ x.1 ≤ l.length ∧ x.2.2.length = l.length ∧ x.2.2.take x.2.1 = (l.take x.1).filter (fun t => !p t) ∧ x.2.2.drop x.1 = l.drop x.1) (fun x => l.length - x.1) (i0 + 1, i0, l) ⟨by simp only; omega, h1, rfl, h3.symm, rfl⟩ (head_all (by (simp only [go_sem]); first | done | rfl) ⟨rfl, rfl⟩) ?_
    rintro ⟨j, i, m⟩ ⟨hij, hj, hm, ht, hd⟩ G hGo
    simp only at hij hj hm ht hd hGo ⊢
    refine wg_runN 14 ?_
    (simp only [go_sem])
    ((first | apply sp1 | apply sp2 | apply sp3 | apply sp4 | apply sp5 | apply sp6 | apply sp7) <;> intro hb) <;> (simp only [go_sem, hb])
    · have hj1 : j < l.length := by have := of_decide_eq_true hb; omega
      have hkj : kid m j = kid l j := by
        have e1 := drop_kid (l := m) (k := j) (by omega)
        have e2 := drop_kid (l := l) (k := j) hj1
        rw [hd, e2] at e1
        injection e1 with e1 _
        exact e1.symm
      have b0 : decide ((0 : Int) ≤ (j : Int)) = true := decide_eq_true (by omega)
      have b1 : decide (j < l.length) = true := decide_eq_true hj1
      have b2 : decide ((j : Int) < (m.length : Int)) = true := decide_eq_true (by omega)
      have c0 : decide ((0 : Int) ≤ (i : Int)) = true := decide_eq_true (by omega)
      have c1 : decide (i < l.length) = true := decide_eq_true (by omega)
      have c2 : decide ((i : Int) < (m.length : Int)) = true := decide_eq_true (by omega)
      have wj := wrap_succ hj1 (by omega)
      have wi : IntKind.i64.wrap (((i : Nat) : Int) + 1) = ((i + 1 : Nat) : Int) := wrap_succ (n := l.length) (by omega) (by omega)
      have hgk := hg (kid l j)
      have hft := filter_take (q := fun t => !p t) hj1
      refine wd_fuel (wg_run ?_)
      cases ep : p (kid l j)
      all_goals
        rw [ep] at hgk
        simp only [ep, Bool.not_false, Bool.not_true] at hft
        repeat' (first | (first | (simp only [go_sem, b0, b1, b2, c0, c1, c2, wj, wi, hkj, tyR_set]) | (((first | apply sp1 | apply sp2 | apply sp3 | apply sp4 | apply sp5 | apply sp6 | apply sp7) <;> intro hb) <;> (simp only [go_sem, hb, b0, b1, b2, c0, c1, c2, wj, wi, hkj, tyR_set])) | ((first | apply wm_done | apply wt_done | apply wg_run | refine fk ?_ ?_) <;> (simp only [go_sem, b0, b1, b2, c0, c1, c2, wj, wi, hkj, tyR_set]))) | (first | refine cdq ?_ (hc := hgk) | refine cmq ?_ (hc := hgk) | refine ctq ?_ (hc := hgk)); (simp only [go_sem]) | fail)
      · have hs1 : (m.set i (kid l j)).take (i + 1) = m.take i ++ [kid l j] := by
          rw [List.take_succ_eq_append_getElem (by rw [List.length_set]; omega), List.take_set_of_le (Nat.le_refl _)]; simp
        have hs2 : (m.set i (kid l j)).drop (j + 1) = l.drop (j + 1) := by
          rw [List.drop_set_of_lt (by omega), ← List.drop_drop, hd, List.drop_drop]
        exact hGo (j + 1, i + 1, m.set i (kid l j)) _ _ ⟨by simp only; omega, hj1, by simpa using hm, by simp only; rw [hs1, ht, hft], hs2⟩ (by simp only; omega) (hat [] (hI := ⟨rfl, rfl⟩))
      · have hs2 : m.drop (j + 1) = l.drop (j + 1) := by rw [← List.drop_drop, hd, List.drop_drop]
        exact hGo (j + 1, i, m) _ _ ⟨by simp only; omega, hj1, hm, by simp only; rw [ht, hft, List.append_nil], hs2⟩ (by simp only; omega) (hat [] (hI := ⟨rfl, rfl⟩))
    · have hjl : j = l.length := by have := of_decide_eq_false hb; omega
      subst hjl
      rw [List.take_length] at ht
      have hfl : (m.take i).length = i := by rw [List.length_take]; omega
      have htR : (tyR m).take i = tyR (m.take i) := by rw [tyR_mapX, tyR_mapX, List.map_take]
      refine wd_fuel (wg_clear rfl rfl rfl (by show _ < 42; decide) rfl rfl rfl rfl rfl (by omega) (by (simp only [go_sem]); first | done | rfl) (by (simp only [go_sem]); first | done | rfl) (by (simp only [go_sem]); first | done | rfl) rfl (by decide) rfl (by rw [tyR_length, hm]) ?_)
      rw [htR]
      refine wg_runN 4 ?_
      (simp only [go_sem])
      refine wd_fuel (wg_upto rfl rfl rfl (by show _ < 42; decide) rfl rfl (by omega) hl0 (by (simp only [go_sem]); first | done | rfl) (by (simp only [go_sem]); first | done | rfl) (by (simp only [go_sem]); first | done | rfl) ?_)
      refine wg_run ?_
      (simp only [go_sem])
      exact hR _ (ret_all (by (simp only [go_sem]); first | done | rfl) ⟨by rw [← ht, hfl], by rw [← ht]⟩)
end Go.Proofs.Ytkkijdlgmlffoaa
/- Refined types: RefineType in the program. On shadows. -/
namespace Go.Proofs.Grad
theorem T.refs_size (t : T) : ∀ x ∈ t.refs, x.size ≤ t.size + 2 := by
  induction t with
  | any => simp [T.refs, T.size]
  | int => simp [T.refs]
  | bool => simp [T.refs]
  | fn a b iha ihb | pr a b iha ihb =>
    intro x hx
    simp only [T.refs, List.mem_append, List.mem_map] at hx
    rcases hx with ⟨y, hy, rfl⟩ | ⟨y, hy, rfl⟩
    · have := iha y hy; simp only [T.size]; omega
    · have := ihb y hy; simp only [T.size]; omega
theorem T.anys_size (t : T) : t.anys ≤ t.size := by induction t <;> simp only [T.anys, T.size] <;> omega
theorem size_depthR (t : T) : t.size + 1 ≤ 2 ^ t.depth := by
  induction t with
  | fn a b iha ihb | pr a b iha ihb =>
    have h1 : 2 ^ a.depth ≤ 2 ^ (max a.depth b.depth) := Nat.pow_le_pow_right (by omega) (by omega)
    have h2 : 2 ^ b.depth ≤ 2 ^ (max a.depth b.depth) := Nat.pow_le_pow_right (by omega) (by omega)
    simp only [T.size, T.depth, Nat.pow_succ]; omega
  | _ => simp [T.size, T.depth]
theorem T.refs_fn (a b : T) : (T.fn a b).refs.map T.ty = (a.refs.map T.ty).map (fun x => Ty.mk 4 [x, b.ty]) ++ (b.refs.map T.ty).map (fun y => Ty.mk 4 [a.ty, y]) := by
  simp only [T.refs, List.map_append, List.map_map]; rfl
theorem T.refs_pr (a b : T) : (T.pr a b).refs.map T.ty = (a.refs.map T.ty).map (fun x => Ty.mk 5 [x, b.ty]) ++ (b.refs.map T.ty).map (fun y => Ty.mk 5 [a.ty, y]) := by
  simp only [T.refs, List.map_append, List.map_map]; rfl
end Go.Proofs.Grad
namespace Go.Proofs.Ytkkijdlgmlffoaa
open Go.RowKit Go.Proofs.Sh Go.Proofs.Grad
set_option maxRecDepth 100000
set_option maxHeartbeats 8000000
theorem iRefined (t : T) : t.size < 100000 → AFn Try.prog 58 [.agg (tyC t.ty)] (.one (.sl (tyR (t.refs.map T.ty)))) := by
  induction t with
  | any =>
    intro _
    have h2 := base 2
    have h3 := base 3
    have h4 := iGround (.fn .any .any)
    have h5 := iGround (.pr .any .any)
    simp only [T.kind, T.ground] at h4 h5
    refine fn_in ?_; refine acl_in Try.func58 rfl isfn_58 (Nat.le_of_ble_eq_true rfl) (fun R hR => ?_); rw [Try.results58] at hR; refine wg_run ?_; (simp only [Try.f58, go_sem])
    repeat' (first | (first | (((first | apply sp1 | apply sp2 | apply sp3 | apply sp4 | apply sp5 | apply sp6 | apply sp7) <;> intro hb) <;> (simp only [go_sem, hb])) | ((first | apply wm_done | apply wt_done | apply wg_run | refine fk ?_ ?_) <;> (simp only [go_sem]))) | (first | refine cdq ?_ (hc := h2) | refine cmq ?_ (hc := h2) | refine ctq ?_ (hc := h2)); (simp only [go_sem]) | (first | refine cdq ?_ (hc := h3) | refine cmq ?_ (hc := h3) | refine ctq ?_ (hc := h3)); (simp only [go_sem]) | (first | refine cdq ?_ (hc := h4) | refine cmq ?_ (hc := h4) | refine ctq ?_ (hc := h4)); (simp only [go_sem]) | (first | refine cdq ?_ (hc := h5) | refine cmq ?_ (hc := h5) | refine ctq ?_ (hc := h5)); (simp only [go_sem]) | fail)
    (refine hR _ (rat [] (hK := ⟨rfl, rfl⟩)))
  | int | bool =>
    intro _
    simp only [T.ty, T.refs]
    refine fn_in ?_; refine acl_in Try.func58 rfl isfn_58 (Nat.le_of_ble_eq_true rfl) (fun R hR => ?_); rw [Try.results58] at hR; refine wg_run ?_; (simp only [Try.f58, go_sem])
    repeat' (first | (first | (simp only [go_sem, int_bne]) | (((first | apply sp1 | apply sp2 | apply sp3 | apply sp4 | apply sp5 | apply sp6 | apply sp7) <;> intro hb) <;> (simp only [go_sem, hb, int_bne])) | ((first | apply wm_done | apply wt_done | apply wg_run | refine fk ?_ ?_) <;> (simp only [go_sem, int_bne]))) | (first | (refine wl_next (wg_run ?_); (simp only [go_sem])) | refine wd_rounds 6 ?_) | fail)
    (refine hR _ (rat [] (hK := ⟨rfl, rfl⟩)))
  | fn a b iha ihb =>
    intro h
    simp only [T.size] at h
    rw [T.refs_fn]
    have la := a.refs_len; have lb := b.refs_len
    have na := a.anys_size; have nb := b.anys_size
    exact iRefined2 4 rfl a.ty b.ty _ _ (iha (by omega)) (ihb (by omega)) (by simp only [List.length_map]; omega)
  | pr a b iha ihb =>
    intro h
    simp only [T.size] at h
    rw [T.refs_pr]
    have la := a.refs_len; have lb := b.refs_len
    have na := a.anys_size; have nb := b.anys_size
    exact iRefined2 5 rfl a.ty b.ty _ _ (iha (by omega)) (ihb (by omega)) (by simp only [List.length_map]; omega)
theorem iRefinedO (t : T) (h : t.size < 100000) : ACl Try.prog 58 [.agg (tyC t.ty)] [] (RowT (t.refs.map T.ty)) := by
  cases t with
  | any =>
    have h2 := base 2
    have h3 := base 3
    have h4 := iGround (.fn .any .any)
    have h5 := iGround (.pr .any .any)
    simp only [T.kind, T.ground] at h4 h5
    refine acl_in Try.func58 rfl isfn_58 (Nat.le_of_ble_eq_true rfl) (fun R hR => ?_); rw [Try.results58] at hR; refine wg_run ?_; (simp only [Try.f58, go_sem])
    repeat' (first | (first | (((first | apply sp1 | apply sp2 | apply sp3 | apply sp4 | apply sp5 | apply sp6 | apply sp7) <;> intro hb) <;> (simp only [go_sem, hb])) | ((first | apply wm_done | apply wt_done | apply wg_run | refine fk ?_ ?_) <;> (simp only [go_sem]))) | (first | refine cdq ?_ (hc := h2) | refine cmq ?_ (hc := h2) | refine ctq ?_ (hc := h2)); (simp only [go_sem]) | (first | refine cdq ?_ (hc := h3) | refine cmq ?_ (hc := h3) | refine ctq ?_ (hc := h3)); (simp only [go_sem]) | (first | refine cdq ?_ (hc := h4) | refine cmq ?_ (hc := h4) | refine ctq ?_ (hc := h4)); (simp only [go_sem]) | (first | refine cdq ?_ (hc := h5) | refine cmq ?_ (hc := h5) | refine ctq ?_ (hc := h5)); (simp only [go_sem]) | fail)
    exact hR _ (rwn [1] (hK := (.inr ⟨by decide, rfl, rfl⟩)))
  | int | bool =>
    simp only [T.ty, T.refs]
    refine acl_in Try.func58 rfl isfn_58 (Nat.le_of_ble_eq_true rfl) (fun R hR => ?_); rw [Try.results58] at hR; refine wg_run ?_; (simp only [Try.f58, go_sem])
    repeat' (first | (first | (simp only [go_sem, int_bne]) | (((first | apply sp1 | apply sp2 | apply sp3 | apply sp4 | apply sp5 | apply sp6 | apply sp7) <;> intro hb) <;> (simp only [go_sem, hb, int_bne])) | ((first | apply wm_done | apply wt_done | apply wg_run | refine fk ?_ ?_) <;> (simp only [go_sem, int_bne]))) | (first | (refine wl_next (wg_run ?_); (simp only [go_sem])) | refine wd_rounds 6 ?_) | fail)
    exact hR _ (rat [] (hK := (.inl ⟨rfl, rfl, rfl⟩)))
  | fn a b =>
    simp only [T.size] at h
    rw [T.refs_fn]
    have la := a.refs_len; have lb := b.refs_len
    have na := a.anys_size; have nb := b.anys_size
    exact iRefined2O 4 rfl a.ty b.ty _ _ (iRefined a (by omega)) (iRefined b (by omega)) (by simp only [List.length_map]; omega)
  | pr a b =>
    simp only [T.size] at h
    rw [T.refs_pr]
    have la := a.refs_len; have lb := b.refs_len
    have na := a.anys_size; have nb := b.anys_size
    exact iRefined2O 5 rfl a.ty b.ty _ _ (iRefined a (by omega)) (iRefined b (by omega)) (by simp only [List.length_map]; omega)
theorem iDelNil (g : FuncId) : AFn Try.prog 57 [.one (.sl []), .one (.fn g [])] (.one (.sl [])) := by
  have hi : AFn Try.prog 74 [.one (.sl []), .one (.fn g [])] (.one (.sc (.int .i64 (-1)))) := by
    refine fn_in ?_; refine acl_in Try.func74 rfl isfn_74 (Nat.le_of_ble_eq_true rfl) (fun R hR => ?_); rw [Try.results74] at hR; refine wg_run ?_; (simp only [Try.f74, go_sem])
    repeat' (first | (first | (((first | apply sp1 | apply sp2 | apply sp3 | apply sp4 | apply sp5 | apply sp6 | apply sp7) <;> intro hb) <;> (simp only [go_sem, hb])) | ((first | apply wm_done | apply wt_done | apply wg_run | refine fk ?_ ?_) <;> (simp only [go_sem]))) | (first | (refine wl_next (wg_run ?_); (simp only [go_sem])) | refine wd_rounds 6 ?_) | fail)
    (refine hR _ (rat [] (hK := ⟨rfl, rfl⟩)))
  refine fn_in ?_; refine acl_in Try.func57 rfl isfn_57 (Nat.le_of_ble_eq_true rfl) (fun R hR => ?_); rw [Try.results57] at hR; refine wg_run ?_; (simp only [Try.f57, go_sem])
  repeat' (first | (first | (((first | apply sp1 | apply sp2 | apply sp3 | apply sp4 | apply sp5 | apply sp6 | apply sp7) <;> intro hb) <;> (simp only [go_sem, hb])) | ((first | apply wm_done | apply wt_done | apply wg_run | refine fk ?_ ?_) <;> (simp only [go_sem]))) | (first | refine cdq ?_ (hc := hi) | refine cmq ?_ (hc := hi) | refine ctq ?_ (hc := hi)); (simp only [go_sem]) | fail)
  (refine hR _ (rat [] (hK := ⟨rfl, rfl⟩)))
theorem iOwnTys (l : List Ty) (hl : l.length < 1000000) (hz : ∀ k, k < l.length → (kid l k).size < 1000000) : AFn Try.prog 56 [.one (.sl (tyR l))] (.one (.sl (tyR l))) := by
  refine fn_in ?_; refine acl_in Try.func56 rfl isfn_56 (Nat.le_of_ble_eq_true rfl) (fun R hR => ?_); rw [Try.results56] at hR; refine wg_run ?_; (simp only [Try.f56, go_sem])
  refine wd_for (σ := Nat × C × List Blk) [3, 6, 7, 8] (fun x => [.one x.2.1, .one (.sl (tyR l)), .one (.sc (.int .i64 l.length)), .one (.sc (.int .i64 (x.1 : Nat)))])
    (fun x => x.2.2) (fun x => x.1 ≤ l.length ∧ ((x.1 = 0 ∧ x.2.1 = .sc (.slice none 0 0) ∧ x.2.2 = []) ∨ (0 < x.1 ∧ x.2.1 = .row 2 0 x.1 ∧ x.2.2 = [⟨2, 29, .mut, tyR (l.take x.1)⟩]))) (fun x => l.length - x.1) (0, .sc (.slice none 0 0), []) ⟨Nat.zero_le _, .inl ⟨rfl, rfl, rfl⟩⟩ (hat [] (hI := ⟨rfl, rfl⟩)) ?_
  rintro ⟨k, cc, T⟩ ⟨hk, hO⟩ G hGo
  simp only at hk hO hGo ⊢
  rcases hO with ⟨rfl, rfl, rfl⟩ | ⟨hm, rfl, rfl⟩
  · refine wg_run ?_
    (simp only [go_sem])
    ((first | apply sp1 | apply sp2 | apply sp3 | apply sp4 | apply sp5 | apply sp6 | apply sp7) <;> intro hb) <;> (simp only [go_sem, hb])
    · have hk1 : 0 < l.length := by have := of_decide_eq_true hb; omega
      have hc := iOwnTy 1000000 (by omega) (kid l 0) (hz 0 hk1)
      repeat' (first | (first | (simp only [go_sem, hb]) | (((first | apply sp1 | apply sp2 | apply sp3 | apply sp4 | apply sp5 | apply sp6 | apply sp7) <;> intro hb) <;> (simp only [go_sem, hb, hb])) | ((first | apply wm_done | apply wt_done | apply wg_run | refine fk ?_ ?_) <;> (simp only [go_sem, hb]))) | (first | refine cdq ?_ (hc := hc) | refine cmq ?_ (hc := hc) | refine ctq ?_ (hc := hc)); (simp only [go_sem]) | fail)
      refine hGo (1, _, _) _ _ ⟨hk1, .inr ⟨by simp only; omega, rfl, ?_⟩⟩ (by simp only; omega) (hat [2] (hI := ⟨rfl, rfl⟩))
      simp only [tyR_take hk1, List.take_zero, tyR, List.nil_append]
    · have hk1 : l = [] := by have := of_decide_eq_false hb; exact List.eq_nil_of_length_eq_zero (by omega)
      subst hk1
      repeat' (first | (first | (((first | apply sp1 | apply sp2 | apply sp3 | apply sp4 | apply sp5 | apply sp6 | apply sp7) <;> intro hb) <;> (simp only [go_sem, hb])) | ((first | apply wm_done | apply wt_done | apply wg_run | refine fk ?_ ?_) <;> (simp only [go_sem]))) | fail)
      exact hR _ (rat [] (hK := ⟨rfl, rfl⟩))
  · refine wg_run ?_
    (simp only [go_sem])
    ((first | apply sp1 | apply sp2 | apply sp3 | apply sp4 | apply sp5 | apply sp6 | apply sp7) <;> intro hb) <;> (simp only [go_sem, hb])
    · have hk1 : k < l.length := by have := of_decide_eq_true hb; omega
      have hw1 := wrap_succ hk1 (by omega)
      have hc := iOwnTy 1000000 (by omega) (kid l k) (hz k hk1)
      have hlen : (l.take k).length = k := by rw [List.length_take]; omega
      have hcap : (k + 1) * 32 ≤ 140737488355328 := by omega
      repeat' (first | (first | (simp only [go_sem, hb, hw1, hlen, hcap]) | (((first | apply sp1 | apply sp2 | apply sp3 | apply sp4 | apply sp5 | apply sp6 | apply sp7) <;> intro hb) <;> (simp only [go_sem, hb, hb, hw1, hlen, hcap])) | ((first | apply wm_done | apply wt_done | apply wg_run | refine fk ?_ ?_) <;> (simp only [go_sem, hb, hw1, hlen, hcap]))) | (first | refine cdq ?_ (hc := hc) | refine cmq ?_ (hc := hc) | refine ctq ?_ (hc := hc)); (simp only [go_sem]) | fail)
      refine hGo (k + 1, _, _) _ _ ⟨hk1, .inr ⟨by simp only; omega, rfl, ?_⟩⟩ (by simp only; omega) (hat [3] (hI := ⟨rfl, rfl⟩))
      simp only [tyR_take hk1]
    · have hk1 : k = l.length := by have := of_decide_eq_false hb; omega
      subst hk1
      rw [List.take_length]
      repeat' (first | (first | (((first | apply sp1 | apply sp2 | apply sp3 | apply sp4 | apply sp5 | apply sp6 | apply sp7) <;> intro hb) <;> (simp only [go_sem, hb])) | ((first | apply wm_done | apply wt_done | apply wg_run | refine fk ?_ ?_) <;> (simp only [go_sem]))) | fail)
      exact hR _ (rat [] (hK := ⟨rfl, rfl⟩))
theorem iRefineV (t : T) (ht : t.depth ≤ 4) : AFn Try.prog 29 [.agg (tyC t.ty)] (.one (.sl (tyR ((t.steps 4).map T.ty)))) := by
  have hv := iValid t.ty
  rw [T.valid_ty, decide_eq_true ht] at hv
  have hsz : t.size < 100 := by have h1 := size_depthR t; have h3 : 2 ^ t.depth ≤ 2 ^ 4 := Nat.pow_le_pow_right (by omega) ht; omega
  have hr := iRefinedO t (by omega)
  have hal := t.anys_size
  have hrl := t.refs_len
  have hsl := t.steps_len 4
  have hfl : (t.refs.map T.ty).filter (fun x => !(!x.valid)) = (t.steps 4).map T.ty := by
    rw [← T.refs_steps t 4 ht, List.filter_map]
    congr 1
    apply List.filter_congr
    intro x _
    simp only [Function.comp, T.valid_ty, Bool.not_not]
  have hsub : ∀ x ∈ t.steps 4, x ∈ t.refs := by
    intro x hx
    rw [← T.refs_steps t 4 ht] at hx
    exact (List.mem_filter.1 hx).1
  have hor : AFn Try.prog 56 [.one (.sl (tyR ((t.steps 4).map T.ty)))] (.one (.sl (tyR ((t.steps 4).map T.ty)))) := by
    refine iOwnTys _ (by rw [List.length_map]; omega) (fun k hk => ?_)
    rw [kid_eq hk, List.getElem_map, T.ty_size]
    have := t.refs_size _ (hsub _ (List.getElem_mem (by simpa using hk)))
    omega
  generalize hLL : t.refs.map T.ty = L at *
  generalize (t.steps 4).map T.ty = M at *
  have hLl : L.length < 1000000 := by rw [← hLL, List.length_map]; omega
  cases L with
  | nil =>
    have hr0 : AFn Try.prog 58 [.agg (tyC t.ty)] (.one (.sl [])) := by
      have := iRefined t (by omega)
      rw [hLL] at this; exact this
    have hd := iDelNil 59
    have hM : M = [] := by rw [← hfl]; rfl
    subst hM
    refine fn_in ?_; refine acl_in Try.func29 rfl isfn_29 (Nat.le_of_ble_eq_true rfl) (fun R hR => ?_); rw [Try.results29] at hR; refine wg_run ?_; (simp only [Try.f29, go_sem])
    repeat' (first | (first | (((first | apply sp1 | apply sp2 | apply sp3 | apply sp4 | apply sp5 | apply sp6 | apply sp7) <;> intro hb) <;> (simp only [go_sem, hb])) | ((first | apply wm_done | apply wt_done | apply wg_run | refine fk ?_ ?_) <;> (simp only [go_sem]))) | (first | refine cdq ?_ (hc := hv) | refine cmq ?_ (hc := hv) | refine ctq ?_ (hc := hv)); (simp only [go_sem]) | (first | refine cdq ?_ (hc := hr0) | refine cmq ?_ (hc := hr0) | refine ctq ?_ (hc := hr0)); (simp only [go_sem]) | (first | refine cdq ?_ (hc := hd) | refine cmq ?_ (hc := hd) | refine ctq ?_ (hc := hd)); (simp only [go_sem]) | (first | refine cdq ?_ (hc := hor) | refine cmq ?_ (hc := hor) | refine ctq ?_ (hc := hor)); (simp only [go_sem]) | fail)
    (refine hR _ (rat [] (hK := ⟨rfl, rfl⟩)))
  | cons y L =>
    have hd := iDelT 59 (fun x => !x.valid) (y :: L) (by omega) (by simp) iPred
    rw [hfl] at hd
    have hr1 : ACl Try.prog 58 [.agg (tyC t.ty)] [] (fun r H' => r = .one (.row 2 0 (y :: L).length) ∧ H' = [⟨2, 29, .mut, tyR (y :: L)⟩]) := by
      refine hr.mono ?_
      rintro r H' (⟨h, _⟩ | ⟨_, h1, h2⟩)
      · cases h
      · exact ⟨h1, h2⟩
    generalize (y :: L) = L' at *
    refine fn_in ?_; refine acl_in Try.func29 rfl isfn_29 (Nat.le_of_ble_eq_true rfl) (fun R hR => ?_); rw [Try.results29] at hR; refine wg_run ?_; (simp only [Try.f29, go_sem])
    repeat' (first | (first | (simp only [go_sem, List.getD_cons_zero]) | (((first | apply sp1 | apply sp2 | apply sp3 | apply sp4 | apply sp5 | apply sp6 | apply sp7) <;> intro hb) <;> (simp only [go_sem, hb, List.getD_cons_zero])) | ((first | apply wm_done | apply wt_done | apply wg_run | refine fk ?_ ?_) <;> (simp only [go_sem, List.getD_cons_zero]))) | (first | refine cdq ?_ (hc := hv) | refine cmq ?_ (hc := hv) | refine ctq ?_ (hc := hv)); (simp only [go_sem]) | ((first | refine kdq [] ?_ (hc := hr1) | refine kmq [] ?_ (hc := hr1) | refine ktq [] ?_ (hc := hr1)); rintro _ _ ⟨rfl, rfl⟩ <;> (simp only [go_sem])) | ((first | refine kdq [1] ?_ (hc := hd) | refine kmq [1] ?_ (hc := hd) | refine ktq [1] ?_ (hc := hd)); rintro _ _ ⟨rfl, rfl⟩ <;> (simp only [go_sem])) | (first | refine cdq ?_ (hc := hor) | refine cmq ?_ (hc := hor) | refine ctq ?_ (hc := hor)); (simp only [go_sem]) | fail)
    (refine hR _ (rat [] (hK := ⟨rfl, rfl⟩)))
theorem iRefineN (t : Ty) (h : t.valid = false) : AFn Try.prog 29 [.agg (tyC t)] (.one (.sl [])) := by
  have hv := iValid t
  rw [h] at hv
  refine fn_in ?_; refine acl_in Try.func29 rfl isfn_29 (Nat.le_of_ble_eq_true rfl) (fun R hR => ?_); rw [Try.results29] at hR; refine wg_run ?_; (simp only [Try.f29, go_sem])
  repeat' (first | (first | (((first | apply sp1 | apply sp2 | apply sp3 | apply sp4 | apply sp5 | apply sp6 | apply sp7) <;> intro hb) <;> (simp only [go_sem, hb])) | ((first | apply wm_done | apply wt_done | apply wg_run | refine fk ?_ ?_) <;> (simp only [go_sem]))) | (first | refine cdq ?_ (hc := hv) | refine cmq ?_ (hc := hv) | refine ctq ?_ (hc := hv)); (simp only [go_sem]) | fail)
  (refine hR _ (rat [] (hK := ⟨rfl, rfl⟩)))
end Go.Proofs.Ytkkijdlgmlffoaa
/- Types: copies that are owned, in the program. On shadows. -/
namespace Go.Proofs.Ytkkijdlgmlffoaa
open Go.RowKit Go.Proofs.Sh Go.Proofs.Grad
set_option maxRecDepth 100000
set_option maxHeartbeats 4000000
theorem iOwnTyO (n : Nat) (hn : n ≤ 4398046511104) : ∀ t : Ty, t.size < n → ACl Try.prog 73 [.agg (tyC t)] [] (OwnK (tyC t) .agg) := by
  induction n with
  | zero => intro t h; omega
  | succ n ih =>
    intro t h
    have hl : t.kids.length < 4398046511104 := by have := Ty.length_le_sizes t.kids; cases t; simp only [Ty.size, Ty.kids] at *; omega
    refine acl_in Try.func73 rfl isfn_73 (Nat.le_of_ble_eq_true rfl) (fun R hR => ?_); rw [Try.results73] at hR; refine wg_run ?_; (simp only [Try.f73, go_sem])
    refine wd_for (σ := Nat × C × List Blk) [2, 3, 10, 11, 12] (fun x => [.one (.ptr 2 1 0 0), .one (.ptr 2 2 0 0), .one (.sl (tyR t.kids)), .one (.sc (.int .i64 t.kids.length)), .one (.sc (.int .i64 (x.1 : Nat)))])
      (fun x => ⟨2, 29, .mut, [tyC t]⟩ :: ⟨2, 29, .mut, [[.sc (.int .i64 0), .sc (.slice none 0 0)]]⟩ :: ⟨2, 29, .mut, [[.sc (.int .i64 t.kind), x.2.1]]⟩ :: x.2.2)
      (fun x => x.1 ≤ t.kids.length ∧ Grown 2 29 3 (tyR (t.kids.take x.1)) x.2.1 x.2.2) (fun x => t.kids.length - x.1) (0, .sc (.slice none 0 0), []) ⟨Nat.zero_le _, .inl ⟨rfl, rfl⟩⟩ (head_all (by (simp only [go_sem]); first | done | rfl) ⟨rfl, rfl⟩) ?_
    rintro ⟨k, c, T⟩ ⟨hk, hI⟩ G hG
    simp only at hk hI hG ⊢
    refine wg_run ?_
    (simp only [go_sem])
    ((first | apply sp1 | apply sp2 | apply sp3 | apply sp4 | apply sp5 | apply sp6 | apply sp7) <;> intro hb) <;> (simp only [go_sem, hb])
    · have hk1 : k < t.kids.length := by have := of_decide_eq_true hb; omega
      repeat' (first | (first | (simp only [go_sem, hb]) | (((first | apply sp1 | apply sp2 | apply sp3 | apply sp4 | apply sp5 | apply sp6 | apply sp7) <;> intro hb) <;> (simp only [go_sem, hb, hb])) | ((first | apply wm_done | apply wt_done | apply wg_run | refine fk ?_ ?_) <;> (simp only [go_sem, hb]))) | ((first | refine mxq6 [] ?_ | refine mxq5 [] ?_ | refine mxq4 [] ?_ | refine mxq3 [] ?_ | refine mxq2 [] ?_ | refine mxq1 [] ?_ | refine mxq0 [] ?_ | fail); (simp only [go_sem, hb])))
      refine wm_any (acalls_own (.cons (.same (by (simp only [go_sem]); first | done | rfl)) .nil) (ih (by omega) (kid t.kids k) (by have := kid_lt hk1; omega)) (fun _ h => h) (fun _ _ => by simp only [AV.ren, renA_map])) (by (simp only [go_sem]); first | done | rfl) (by (simp only [go_sem]); first | done | rfl) ?_
      rintro _ h' ⟨cs, d, ids, rfl, e1, e2, e3, e4, e5⟩
      obtain ⟨T', rfl, f1, f2⟩ := pre3 e4 e5
      have hcs : cs.length = 2 := by rw [← fzL_len e1, tyC_length]
      have hlen : (t.kids.take k).length = k := by rw [List.length_take]; omega
      have hcap : (k + 1) * 32 ≤ 140737488355328 := by omega
      have hw1 : IntKind.i64.wrap (((k : Nat) : Int) + 1) = ((k + 1 : Nat) : Int) := wrap_succ hk1 (by omega)
      rcases hI.more (pre := [_, _, _]) rfl (Nat.le_trans (by simp) f1) (fun i hi => by rw [f2 i (by simp; omega), List.getElem?_append_left hi]) e1 hcs e2 (fun b hb => by have := (e3 b hb).1; simp at this; omega) with ⟨rfl, h0, hy⟩ | ⟨j, rows, rfl, hpos, hj, hrl, hrs, hy⟩
      · (simp only [go_sem, hcs])
        repeat' (first | (simp only [go_sem, hcs, hw1, hlen, hcap]) | (((first | apply sp1 | apply sp2 | apply sp3 | apply sp4 | apply sp5 | apply sp6 | apply sp7) <;> intro hb) <;> (simp only [go_sem, hb, hcs, hw1, hlen, hcap])) | ((first | apply wm_done | apply wt_done | apply wg_run | refine fk ?_ ?_) <;> (simp only [go_sem, hcs, hw1, hlen, hcap])))
        refine hG (k + 1, _, _) _ _ ⟨by omega, ?_⟩ (by simp only; omega) (head_all (by (simp only [go_sem]); first | done | rfl) ⟨rfl, rfl⟩)
        simp only [tyR_take hk1]
        exact hy _
      · have hj2 := fun U => get_app hj U
        rw [tyR_length, hlen] at hrl hpos hy
        (simp only [go_sem, hcs, hj2, hlen])
        repeat' (first | (simp only [go_sem, hcs, hw1, hlen, hcap, hj2, hrl, hrs]) | (((first | apply sp1 | apply sp2 | apply sp3 | apply sp4 | apply sp5 | apply sp6 | apply sp7) <;> intro hb) <;> (simp only [go_sem, hb, hcs, hw1, hlen, hcap, hj2, hrl, hrs])) | ((first | apply wm_done | apply wt_done | apply wg_run | refine fk ?_ ?_) <;> (simp only [go_sem, hcs, hw1, hlen, hcap, hj2, hrl, hrs])))
        refine hG (k + 1, _, _) _ _ ⟨by omega, ?_⟩ (by simp only; omega) (head_all (by (simp only [go_sem]); first | done | rfl) ⟨rfl, rfl⟩)
        simp only [tyR_take hk1]
        exact hy _
    · have hk1 : k = t.kids.length := by have := of_decide_eq_false hb; omega
      rw [hk1, List.take_length] at hI
      obtain ⟨d, js, h1, h2, h3⟩ := hI.ow
      refine hR _ (ret_ownK (d := d) (ids := js) (by (simp only [go_sem]); first | done | rfl) ?_ h2 (fun _ => prVs_agg))
      rw [tyC_eq]
      exact owL_two (h1 [_, _, _] rfl)
end Go.Proofs.Ytkkijdlgmlffoaa
