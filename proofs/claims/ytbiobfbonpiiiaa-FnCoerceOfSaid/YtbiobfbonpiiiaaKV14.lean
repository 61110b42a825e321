/- Texts of the proof, one behind another. -/
import Derived.Test.YtbiobfbonpiiiaaKV9
import Derived.Test.YtbiobfbonpiiiaaKV10
import Derived.Test.YtbiobfbonpiiiaaKV13
set_option linter.unusedSimpArgs false
set_option linter.unusedVariables false
/- Composition of coercions as they come, in the program and in the reference. On shadows. -/
namespace Go.Proofs.Grad
open Classical in
/-- the form of a valid coercion -/
noncomputable def Co.k? (c : Co) : Option K := if h : c.valid = true then some (Classical.choose ((Co.valid_iff c).1 h)) else none
theorem Co.k?_some {c : Co} {k : K} (h : c.k? = some k) : c = k.co ∧ k.ok = true := by
  unfold Co.k? at h
  split at h
  · rename_i hv
    have hs := Classical.choose_spec ((Co.valid_iff c).1 hv)
    rw [Option.some.inj h] at hs
    exact ⟨hs.1.symm, by simp [K.ok, hs.2.1, hs.2.2]⟩
  · cases h
theorem Co.k?_none {c : Co} (h : c.k? = none) : c.valid = false := by
  unfold Co.k? at h
  split at h
  · cases h
  · rename_i hv; simpa using hv
theorem K.k?_co {k : K} (h : k.ok = true) : k.co.k? = some k := by
  cases e : k.co.k? with
  | none => have := Co.k?_none e; rw [K.ok_valid, h] at this; cases this
  | some x => rw [K.co_inj _ _ (Co.k?_some e).1]
end Go.Proofs.Grad
namespace Go.Proofs.Ytbiobfbonpiiiaa
open Go.RowKit Go.Proofs.Sh Go.Proofs.Grad
set_option maxRecDepth 100000
set_option maxHeartbeats 4000000
theorem iSameR (a : Co) (ha : a.size < 100000) : AFn Try.prog 16 [.agg (coC a), .agg (coC a)] (.one (.sc (.bool true))) := by
  have h := coSame 100000 (by omega) a a ha
  rwa [Co.same_refl] at h
end Go.Proofs.Ytbiobfbonpiiiaa
/- The plain laws of subtyping. -/
namespace Go.Proofs.Grad

theorem T.cons_symm (a : T) : ∀ b : T, a.cons b = b.cons a := by
  induction a with
  | fn a b iha ihb => intro c; cases c <;> simp [T.cons, iha, ihb]
  | pr a b iha ihb => intro c; cases c <;> simp [T.cons, iha, ihb]
  | _ => intro c; cases c <;> simp [T.cons]

end Go.Proofs.Grad
/- Typing of coercions; identities; heights. No program, no world. -/
namespace Go.Proofs.Grad
/-- the ground type of a kind -/
def gT (k : Int) : T := if k = 2 then .int else if k = 3 then .bool else if k = 4 then .fn .any .any else if k = 5 then .pr .any .any else .any
def K.typed : K → T → T → Bool
  | .id g, a, b => a.kind == g && b.kind == g
  | .fn c d, .fn a1 a2, .fn b1 b2 => c.typed b1 a1 && d.typed a2 b2
  | .pr c d, .pr a1 a2, .pr b1 b2 => c.typed a1 b1 && d.typed a2 b2
  | .inj c, a, b => b.kind == 1 && (a.kind == c.tag && c.typed a a.ground)
  | .prj _ c, a, b => a.kind == 1 && c.typed (gT c.tag) b
  | .fail _ g, a, _ => a.kind == g
  | _, _, _ => false
theorem T.cast_typed (n : Nat) : ∀ (a b : T) (l : Int), a.size + b.size < n → a.cons b = true → (T.cast a b l).typed a b = true := by
  induction n with
  | zero => intro a b l h; omega
  | succ n ih =>
    intro a b l hs h
    have p1 := T.size_pos
    cases a <;> cases b <;> simp only [T.cons, Bool.false_eq_true, Bool.and_eq_true] at h <;> simp only [T.size] at hs <;> simp only [T.cast, K.typed, T.kind, K.tag, gT, T.ground, BEq.rfl, Bool.true_and, Bool.and_self, Int.reduceEq, if_true, if_false, Bool.and_eq_true]
    all_goals (try exact ⟨ih _ _ _ (by first | omega | (simp only [T.size]; omega)) (by first | rfl | exact T.cons_any _ | exact h.1 | (rw [T.cons_symm]; first | exact T.cons_any _ | exact h.1)), ih _ _ _ (by first | omega | (simp only [T.size]; omega)) (by first | rfl | exact T.cons_any _ | exact h.2)⟩)
    all_goals (first | rfl | skip)
/-- the identity of a type -/
def T.idK : T → K
  | .any => .id 1 | .int => .id 2 | .bool => .id 3
  | .fn a b => .fn a.idK b.idK | .pr a b => .pr a.idK b.idK
theorem T.cast_self (a : T) (l : Int) : T.cast a a l = a.idK := by
  induction a generalizing l with
  | any | int | bool => simp [T.cast, T.idK]
  | fn a b iha ihb | pr a b iha ihb => simp [T.cast, T.idK, iha, ihb]
theorem T.idK_ident (a : T) : a.idK.ident = true ∧ a.idK.wf = true ∧ a.idK.depth = a.depth ∧ a.idK.labels = [] := by
  induction a <;> simp_all [T.idK, K.ident, K.wf, K.depth, T.depth, K.labels]
end Go.Proofs.Grad
/- Identity coercions, in the program and in the reference. On shadows. -/
namespace Go.Proofs.Grad
mutual
/-- of the nodes of identities only -/
def Co.idn : Co → Bool
  | .mk k _ _ l => (k == 1 || (k == 2 || k == 3)) && Co.idns l
def Co.idns : List Co → Bool
  | [] => true
  | t :: l => t.idn && Co.idns l
end
theorem Co.idns_any (l : List Co) : Co.idns l = !(l.any fun c => !c.idn) := by
  induction l with
  | nil => rfl
  | cons t l ih => simp [Co.idns, ih]
theorem K.co_idn (k : K) : k.co.idn = k.ident := by
  induction k with
  | id g => rfl
  | fail l g => rfl
  | fn a b iha ihb | pr a b iha ihb => simp [K.co, Co.idn, Co.idns, K.ident, iha, ihb]
  | inj c ih => simp [K.co, Co.idn, K.ident]
  | prj l c ih => simp [K.co, Co.idn, K.ident]
noncomputable def Co.ident (c : Co) : Bool := match c.k? with | some k => k.ident | none => false
end Go.Proofs.Grad
namespace Go.Proofs.Ytbiobfbonpiiiaa
open Go.RowKit Go.Proofs.Sh Go.Proofs.Grad
set_option maxRecDepth 100000
set_option maxHeartbeats 8000000
theorem coIdent (n : Nat) (hn : n ≤ 4611686018427387904) : ∀ c : Co, c.size < n → AFn Try.prog 71 [.agg (coC c)] (.one (.sc (.bool c.idn))) := by
  induction n with
  | zero => intro c h; omega
  | succ n ih =>
    intro c h
    have hl := colen_lt c
    have hc := fn_in (coContainsFunc0 106 (fun c => !c.idn) c.kids (by omega) (by
      intro k hk
      have hi := ih (by omega) (coKid c.kids k) (by have := coKid_lt hk; omega)
      refine acl_in Try.func106 rfl isfn_106 (Nat.le_of_ble_eq_true rfl) (fun R hR => ?_); rw [Try.results106] at hR; refine wg_run ?_; (simp only [Try.f106, go_sem])
      repeat' (first | (first | (((first | apply sp1 | apply sp2 | apply sp3 | apply sp4 | apply sp5 | apply sp6 | apply sp7) <;> intro hb) <;> (simp only [go_sem, hb])) | ((first | apply wm_done | apply wt_done | apply wg_run | refine fk ?_ ?_) <;> (simp only [go_sem]))) | (first | refine cdq ?_ (hc := hi) | refine cmq ?_ (hc := hi) | refine ctq ?_ (hc := hi)); (simp only [go_sem]))
      (refine hR _ (rat [] (hK := ⟨?_, rfl⟩)))
      rfl))
    clear ih
    have he : c.idn = ((c.kind == 1 || (c.kind == 2 || c.kind == 3)) && !(c.kids.any fun c => !c.idn)) := by cases c; simp only [Co.idn, Co.kind, Co.kids, Co.idns_any]
    rw [he]
    generalize (c.kids.any fun c => !c.idn) = bb at *
    refine fn_in ?_; refine acl_in Try.func71 rfl isfn_71 (Nat.le_of_ble_eq_true rfl) (fun R hR => ?_); rw [Try.results71] at hR; refine wg_run ?_; (simp only [Try.f71, go_sem])
    repeat' (first | (first | (((first | apply sp1 | apply sp2 | apply sp3 | apply sp4 | apply sp5 | apply sp6 | apply sp7) <;> intro hb) <;> (simp only [go_sem, hb])) | ((first | apply wm_done | apply wt_done | apply wg_run | refine fk ?_ ?_) <;> (simp only [go_sem]))) | (first | refine cdq ?_ (hc := hc) | refine cmq ?_ (hc := hc) | refine ctq ?_ (hc := hc)); (simp only [go_sem]) | ((first | refine mxq6 [] ?_ | refine mxq5 [] ?_ | refine mxq4 [] ?_ | refine mxq3 [] ?_ | refine mxq2 [] ?_ | refine mxq1 [] ?_ | refine mxq0 [] ?_ | fail); (simp only [go_sem])))
    all_goals (refine hR _ (rat [] (hK := ⟨?_, rfl⟩)))
    all_goals simp_all
theorem iIdent (c : Co) (h : c.size < 4611686018427387904) : AFn Try.prog 29 [.agg (coC c)] (.one (.sc (.bool c.ident))) := by
  have hv := coValid c
  have hi := coIdent _ (Nat.le_refl _) c h
  cases e : c.k? with
  | none =>
    rw [Co.k?_none e] at hv
    rw [show c.ident = false by simp [Co.ident, e]]
    refine fn_in ?_; refine acl_in Try.func29 rfl isfn_29 (Nat.le_of_ble_eq_true rfl) (fun R hR => ?_); rw [Try.results29] at hR; refine wg_run ?_; (simp only [Try.f29, go_sem])
    repeat' (first | (first | (((first | apply sp1 | apply sp2 | apply sp3 | apply sp4 | apply sp5 | apply sp6 | apply sp7) <;> intro hb) <;> (simp only [go_sem, hb])) | ((first | apply wm_done | apply wt_done | apply wg_run | refine fk ?_ ?_) <;> (simp only [go_sem]))) | (first | refine cdq ?_ (hc := hv) | refine cmq ?_ (hc := hv) | refine ctq ?_ (hc := hv)); (simp only [go_sem]) | ((first | refine mxq6 [] ?_ | refine mxq5 [] ?_ | refine mxq4 [] ?_ | refine mxq3 [] ?_ | refine mxq2 [] ?_ | refine mxq1 [] ?_ | refine mxq0 [] ?_ | fail); (simp only [go_sem])))
    all_goals (refine hR _ (rat [] (hK := ⟨rfl, rfl⟩)))
  | some k =>
    obtain ⟨rfl, hk⟩ := Co.k?_some e
    rw [K.ok_valid, hk] at hv
    rw [K.co_idn] at hi
    rw [show k.co.ident = k.ident by simp [Co.ident, e]]
    refine fn_in ?_; refine acl_in Try.func29 rfl isfn_29 (Nat.le_of_ble_eq_true rfl) (fun R hR => ?_); rw [Try.results29] at hR; refine wg_run ?_; (simp only [Try.f29, go_sem])
    repeat' (first | (first | (((first | apply sp1 | apply sp2 | apply sp3 | apply sp4 | apply sp5 | apply sp6 | apply sp7) <;> intro hb) <;> (simp only [go_sem, hb])) | ((first | apply wm_done | apply wt_done | apply wg_run | refine fk ?_ ?_) <;> (simp only [go_sem]))) | (first | refine cdq ?_ (hc := hv) | refine cmq ?_ (hc := hv) | refine ctq ?_ (hc := hv)); (simp only [go_sem]) | (first | refine cdq ?_ (hc := hi) | refine cmq ?_ (hc := hi) | refine ctq ?_ (hc := hi)); (simp only [go_sem]) | ((first | refine mxq6 [] ?_ | refine mxq5 [] ?_ | refine mxq4 [] ?_ | refine mxq3 [] ?_ | refine mxq2 [] ?_ | refine mxq1 [] ?_ | refine mxq0 [] ?_ | fail); (simp only [go_sem])))
    all_goals (refine hR _ (rat [] (hK := ⟨rfl, rfl⟩)))
end Go.Proofs.Ytbiobfbonpiiiaa
/- The labels of coercions. No program, no world. -/
namespace Go.Proofs.Grad
theorem T.cast_labels (a b : T) (l : Int) : ∀ x, x ∈ (T.cast a b l).labels → x = l ∨ x = -l := by
  fun_induction T.cast a b l <;> simp_all [K.labels]
  all_goals (try grind)
theorem T.cast_ident (a b : T) (l : Int) : a.cons b = true → (T.cast a b l).ident = true → a = b := by
  fun_induction T.cast a b l
  case case10 ih2 ih1 =>
    intro h1 h2
    simp only [T.cons, K.ident, Bool.and_eq_true] at h1 h2
    rw [ih2 (by rw [T.cons_symm]; exact h1.1) h2.1, ih1 h1.2 h2.2]
  case case11 ih2 ih1 =>
    intro h1 h2
    simp only [T.cons, K.ident, Bool.and_eq_true] at h1 h2
    rw [ih2 h1.1 h2.1, ih1 h1.2 h2.2]
  case case14 =>
    rename_i a b l p1 p2 q1 q2 q3 q4 q5 q6 q7 q8 q9 q10 q11
    intro h1 h2
    cases a <;> cases b <;> first | rfl | exact (q10 _ _ _ _ rfl rfl).elim | exact (q11 _ _ _ _ rfl rfl).elim | simp_all [T.cons]
  all_goals simp_all [K.ident, T.cons]
  all_goals (try (rename_i b _ _; cases b <;> simp_all [T.cons]))
theorem K.labels_len (k : K) : k.labels.length ≤ k.size := by
  induction k <;> simp only [K.labels, K.size, List.length_nil, List.length_cons, List.length_append] <;> omega
end Go.Proofs.Grad
