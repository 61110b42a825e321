/- Texts of the proof, one behind another. -/
import Derived.IntWalk
import Derived.Laws.BitsAllLaws
import Derived.Test.YtbiobfbonpiiiaaK4
import Derived.Test.YtbiobfbonpiiiaaK5
import Derived.Test.YtbiobfbonpiiiaaK7
set_option linter.unusedSimpArgs false
set_option linter.unusedVariables false
/- Composition is associative. No program, no world. -/
namespace Go.Proofs.Grad
theorem K.comp_tag (a b : K) : ∀ k, a.comp b = some k → a.wf = true → a.isPrj = false → a.isAny = false → k.tag = a.tag := by
  fun_induction K.comp a b <;> intro k hk h1 h2 h3 <;> (try simp only [Option.map_eq_some_iff] at hk) <;> grind [K.plain_np, K.wf, K.tag, K.isPrj_id, K.isPrj_fn, K.isPrj_pr, K.isPrj_inj, K.isPrj_prj, K.isPrj_fail, K.isAny_id, K.isAny_fn, K.isAny_pr, K.isAny_inj, K.isAny_prj, K.isAny_fail, K.plain_id, K.plain_fn, K.plain_pr, K.plain_inj, K.plain_prj, K.plain_fail]
theorem K.ceq_prj (l : Int) (c b : K) : (K.prj l c).comp b = (c.comp b).map (.prj l) := by cases b <;> rw [K.comp]
theorem K.ceq_fail (l g : Int) (b : K) : (K.fail l g).comp b = some (.fail l g) := by cases b <;> rw [K.comp]
theorem K.ceq_any (b : K) : (K.id 1).comp b = if b.isPrj || b.isAny then some b else none := by cases b <;> rw [K.comp] <;> simp
theorem K.ceq_ij (l : Int) (c d : K) : (K.inj c).comp (.prj l d) = if c.tag = d.tag then K.comp c d else some (.fail l c.tag) := by rw [K.comp]
theorem K.ceq_in (c b : K) (h : b.isPrj = false) : (K.inj c).comp b = if b.isAny then some (.inj c) else none := by
  cases b <;> first | (rw [K.comp] <;> simp) | simp [K.isPrj] at h
/-- plain ones: what they compose with -/
theorem K.ceq_pf (a : K) (l t : Int) (h : a.plain = true) : a.comp (.fail l t) = if a.tag = t then some (.fail l t) else none := by
  cases a <;> simp_all [K.plain, K.comp, K.tag] <;> grind
theorem K.ceq_pi (a c : K) (h : a.plain = true) : a.comp (.inj c) = (a.comp c).map .inj := by
  cases a <;> simp_all [K.plain, K.comp]
theorem K.ceq_pp (a : K) (l : Int) (c : K) (h : a.plain = true) : a.comp (.prj l c) = none := by
  cases a <;> simp_all [K.plain, K.comp]
theorem K.ceq_pa (a : K) (h : a.plain = true) : a.comp (.id 1) = none := by
  cases a <;> simp_all [K.plain, K.comp]
theorem K.cases4 (a : K) : a.plain = true ∨ a = .id 1 ∨ (∃ c, a = .inj c) ∨ (∃ l c, a = .prj l c) ∨ (∃ l g, a = .fail l g) := by
  cases a <;> simp [K.plain]
  rename_i g; by_cases g = 1 <;> simp_all
theorem K.comp_tag2 (a b k : K) (h : a.comp b = some k) (ha : a.plain = true) (hb : b.plain = true) : k.tag = b.tag ∧ a.tag = b.tag := by
  cases a <;> cases b <;> simp_all [K.comp, K.plain, K.tag] <;> grind [K.tag]
theorem K.comp_pp (a b k : K) (h : a.comp b = some k) (ha : a.plain = true) (hb : b.plain = true) : (∃ g, a = .id g ∧ b = .id g ∧ k = .id g) ∨ (∃ a1 a2 b1 b2 x y, a = .fn a1 a2 ∧ b = .fn b1 b2 ∧ b1.comp a1 = some x ∧ a2.comp b2 = some y ∧ k = .fn x y) ∨ (∃ a1 a2 b1 b2 x y, a = .pr a1 a2 ∧ b = .pr b1 b2 ∧ a1.comp b1 = some x ∧ a2.comp b2 = some y ∧ k = .pr x y) := by
  cases a <;> cases b <;> simp_all [K.comp, K.plain] <;> grind
theorem K.assoc (n : Nat) : ∀ a b c : K, a.size + b.size + c.size < n → a.wf = true → b.wf = true → c.wf = true → ∀ ab bc x y, a.comp b = some ab → b.comp c = some bc → ab.comp c = some x → a.comp bc = some y → x = y := by
  induction n with
  | zero => intro a b c h; omega
  | succ n ih =>
    intro a b c hs wa wb wc ab bc x y h1 h2 h3 h4
    rcases K.cases4 a with pa | rfl | ⟨a', rfl⟩ | ⟨l, a', rfl⟩ | ⟨l, g, rfl⟩
    · rcases K.cases4 b with pb | rfl | ⟨b', rfl⟩ | ⟨m, b', rfl⟩ | ⟨m, g', rfl⟩
      · have pab := K.comp_plain a b ab h1 pa pb
        rcases K.cases4 c with pc | rfl | ⟨c', rfl⟩ | ⟨m, c', rfl⟩ | ⟨m, g', rfl⟩
        · have pbc := K.comp_plain b c bc h2 pb pc
          rcases K.comp_pp a b ab h1 pa pb with ⟨g, rfl, rfl, rfl⟩ | ⟨a1, a2, b1, b2, u, v, rfl, rfl, h5, h6, rfl⟩ | ⟨a1, a2, b1, b2, u, v, rfl, rfl, h5, h6, rfl⟩
          · rcases K.comp_pp _ c bc h2 pb pc with ⟨g, h7, rfl, rfl⟩ | ⟨b1', b2', c1, c2, u', v', h7, rfl, h8, h9, rfl⟩ | ⟨b1', b2', c1, c2, u', v', h7, rfl, h8, h9, rfl⟩ <;> cases h7
            rw [h3] at h4; exact Option.some.inj h4
          · rcases K.comp_pp _ c bc h2 pb pc with ⟨g, h7, rfl, rfl⟩ | ⟨b1', b2', c1, c2, u', v', h7, rfl, h8, h9, rfl⟩ | ⟨b1', b2', c1, c2, u', v', h7, rfl, h8, h9, rfl⟩ <;> cases h7
            rcases K.comp_pp _ _ _ h3 pab pc with ⟨g, h7, h7', rfl⟩ | ⟨b1', b2', c1', c2', p, q, h7, h7', h10, h11, rfl⟩ | ⟨b1', b2', c1', c2', p, q, h7, h7', h10, h11, rfl⟩ <;> cases h7 <;> cases h7'
            rcases K.comp_pp _ _ _ h4 pa pbc with ⟨g, h7, h7', rfl⟩ | ⟨b1', b2', c1', c2', p', q', h7, h7', h12, h13, rfl⟩ | ⟨b1', b2', c1', c2', p', q', h7, h7', h12, h13, rfl⟩ <;> cases h7 <;> cases h7'
            simp only [K.size, K.wf, Bool.and_eq_true] at hs wa wb wc
            rw [ih a2 b2 c2 (by omega) wa.2 wb.2 wc.2 _ _ _ _ h6 h9 h11 h13, ← ih c1 b1 a1 (by omega) wc.1 wb.1 wa.1 _ _ _ _ h8 h5 h12 h10]
          · rcases K.comp_pp _ c bc h2 pb pc with ⟨g, h7, rfl, rfl⟩ | ⟨b1', b2', c1, c2, u', v', h7, rfl, h8, h9, rfl⟩ | ⟨b1', b2', c1, c2, u', v', h7, rfl, h8, h9, rfl⟩ <;> cases h7
            rcases K.comp_pp _ _ _ h3 pab pc with ⟨g, h7, h7', rfl⟩ | ⟨b1', b2', c1', c2', p, q, h7, h7', h10, h11, rfl⟩ | ⟨b1', b2', c1', c2', p, q, h7, h7', h10, h11, rfl⟩ <;> cases h7 <;> cases h7'
            rcases K.comp_pp _ _ _ h4 pa pbc with ⟨g, h7, h7', rfl⟩ | ⟨b1', b2', c1', c2', p', q', h7, h7', h12, h13, rfl⟩ | ⟨b1', b2', c1', c2', p', q', h7, h7', h12, h13, rfl⟩ <;> cases h7 <;> cases h7'
            simp only [K.size, K.wf, Bool.and_eq_true] at hs wa wb wc
            rw [ih a2 b2 c2 (by omega) wa.2 wb.2 wc.2 _ _ _ _ h6 h9 h11 h13, ih a1 b1 c1 (by omega) wa.1 wb.1 wc.1 _ _ _ _ h5 h8 h10 h12]
        · rw [K.ceq_pa b pb] at h2; cases h2
        · rw [K.ceq_pi b c' pb] at h2
          rw [K.ceq_pi ab c' pab] at h3
          simp only [Option.map_eq_some_iff] at h2 h3
          obtain ⟨bc', h5, rfl⟩ := h2
          obtain ⟨x', h6, rfl⟩ := h3
          rw [K.ceq_pi a bc' pa] at h4
          simp only [Option.map_eq_some_iff] at h4
          obtain ⟨y', h7, rfl⟩ := h4
          simp only [K.size, K.wf, Bool.and_eq_true] at hs wc
          rw [ih a b c' (by omega) wa wb wc.2 _ _ _ _ h1 h5 h6 h7]
        · rw [K.ceq_pp b m c' pb] at h2; cases h2
        · rw [K.ceq_pf b _ _ pb] at h2
          rw [K.ceq_pf ab _ _ pab] at h3
          split at h2 <;> simp only [reduceCtorEq, Option.some.injEq] at h2
          split at h3 <;> simp only [reduceCtorEq, Option.some.injEq] at h3
          subst h2 h3
          rw [K.ceq_pf a _ _ pa] at h4
          split at h4 <;> simp only [reduceCtorEq, Option.some.injEq] at h4
          exact h4
      · rw [K.ceq_pa a pa] at h1; cases h1
      · rw [K.ceq_pi a b' pa] at h1
        simp only [Option.map_eq_some_iff] at h1
        obtain ⟨ab', h5, rfl⟩ := h1
        simp only [K.wf, Bool.and_eq_true] at wb
        have pab := K.comp_plain a b' ab' h5 pa wb.1
        have ht := K.comp_tag2 a b' ab' h5 pa wb.1
        rcases K.cases4 c with pc | rfl | ⟨c', rfl⟩ | ⟨m, c', rfl⟩ | ⟨m, g', rfl⟩
        · rw [K.ceq_in _ c (K.plain_np pc).1, (K.plain_np pc).2] at h2; cases h2
        · rw [K.ceq_in _ _ rfl] at h2 h3
          simp only [K.isAny_id, BEq.rfl, if_true, Option.some.injEq] at h2 h3
          subst h2 h3
          rw [K.ceq_pi a b' pa, h5] at h4
          exact Option.some.inj h4
        · rw [K.ceq_in _ _ rfl, K.isAny_inj] at h2; cases h2
        · rw [K.ceq_ij] at h2 h3
          rw [ht.1] at h3
          split at h2
          · rename_i h6
            rw [if_pos h6] at h3
            simp only [K.size, K.wf, Bool.and_eq_true] at hs wc
            exact ih a b' c' (by omega) wa wb.2 wc.2 _ _ _ _ h5 h2 h3 h4
          · rename_i h6
            rw [if_neg h6] at h3
            cases h2; cases h3
            rw [K.ceq_pf a _ _ pa] at h4
            split at h4 <;> simp only [reduceCtorEq, Option.some.injEq] at h4
            exact h4
        · rw [K.ceq_in _ _ rfl, K.isAny_fail] at h2; cases h2
      · rw [K.ceq_pp a m b' pa] at h1; cases h1
      · rw [K.ceq_pf a _ _ pa] at h1
        split at h1 <;> simp only [reduceCtorEq, Option.some.injEq] at h1
        rename_i h5
        subst h1
        rw [K.ceq_fail] at h2 h3
        cases h2; cases h3
        rw [K.ceq_pf a _ _ pa, if_pos h5] at h4
        exact Option.some.inj h4
    · rw [K.ceq_any] at h1 h4
      split at h1 <;> simp only [reduceCtorEq, Option.some.injEq] at h1
      split at h4 <;> simp only [reduceCtorEq, Option.some.injEq] at h4
      subst h1 h4
      rw [h2] at h3; exact (Option.some.inj h3).symm
    · simp only [K.wf, Bool.and_eq_true] at wa
      rcases K.cases4 b with pb | rfl | ⟨b', rfl⟩ | ⟨m, b', rfl⟩ | ⟨m, g', rfl⟩
      · rw [K.ceq_in _ b (K.plain_np pb).1, (K.plain_np pb).2] at h1; cases h1
      · rw [K.ceq_in _ _ rfl] at h1
        simp only [K.isAny_id, BEq.rfl, if_true, Option.some.injEq] at h1
        subst h1
        rw [K.ceq_any] at h2
        split at h2 <;> simp only [reduceCtorEq, Option.some.injEq] at h2
        subst h2
        rw [h3] at h4; exact Option.some.inj h4
      · rw [K.ceq_in _ _ rfl, K.isAny_inj] at h1; cases h1
      · rw [K.ceq_prj] at h2
        simp only [Option.map_eq_some_iff] at h2
        obtain ⟨bc', h5, rfl⟩ := h2
        rw [K.ceq_ij] at h1 h4
        simp only [K.size, K.wf, Bool.and_eq_true, Bool.not_eq_true'] at hs wb
        rw [K.comp_tag b' c bc' h5 wb.2 wb.1.1.2 wb.1.2] at h4
        split at h1
        · rename_i h6
          rw [if_pos h6] at h4
          exact ih a' b' c (by omega) wa.2 wb.2 wc _ _ _ _ h1 h5 h3 h4
        · rename_i h6
          rw [if_neg h6] at h4
          cases h1
          rw [K.ceq_fail] at h3
          rw [h3] at h4
          exact Option.some.inj h4
      · rw [K.ceq_in _ _ rfl, K.isAny_fail] at h1; cases h1
    · rw [K.ceq_prj] at h1 h4
      simp only [Option.map_eq_some_iff] at h1 h4
      obtain ⟨ab', h5, rfl⟩ := h1
      obtain ⟨y', h6, rfl⟩ := h4
      rw [K.ceq_prj] at h3
      simp only [Option.map_eq_some_iff] at h3
      obtain ⟨x', h7, rfl⟩ := h3
      simp only [K.size, K.wf, Bool.and_eq_true] at hs wa
      rw [ih a' b c (by omega) wa.2 wb wc _ _ _ _ h5 h2 h7 h6]
    · rw [K.ceq_fail] at h1 h4
      cases h1
      rw [K.ceq_fail] at h3
      rw [h3] at h4; exact Option.some.inj h4
end Go.Proofs.Grad
/- Composition of coercions as they come, in the program and in the reference. On shadows. -/
namespace Go.Proofs.Grad
open Classical in
/-- the form of a valid coercion -/
noncomputable def Co.k? (c : Co) : Option K := if h : c.valid = true then some (Classical.choose ((Co.valid_iff c).1 h)) else none
theorem Co.k?_some {c : Co} {k : K} (h : c.k? = some k) : c = k.co ∧ k.ok = true := by
  unfold Co.k? at h
  split at h
  · rename_i hv
    have hs := Classical.choose_spec ((Co.valid_iff c).1 hv)
    rw [Option.some.inj h] at hs
    exact ⟨hs.1.symm, by simp [K.ok, hs.2.1, hs.2.2]⟩
  · cases h
theorem Co.k?_none {c : Co} (h : c.k? = none) : c.valid = false := by
  unfold Co.k? at h
  split at h
  · cases h
  · rename_i hv; simpa using hv
theorem K.k?_co {k : K} (h : k.ok = true) : k.co.k? = some k := by
  cases e : k.co.k? with
  | none => have := Co.k?_none e; rw [K.ok_valid, h] at this; cases this
  | some x => rw [K.co_inj _ _ (Co.k?_some e).1]
theorem K.k?_co_none {k : K} (h : k.ok = false) : k.co.k? = none := by
  cases e : k.co.k? with
  | none => rfl
  | some x => have h1 := Co.k?_some e; rw [← K.ok_valid, ← h1.1, K.ok_valid, h] at h1; cases h1.2
theorem Co.k?_valid (c : Co) : c.valid = c.k?.isSome := by
  cases e : c.k? with
  | none => exact Co.k?_none e
  | some x => have h := Co.k?_some e; rw [h.1, K.ok_valid, h.2]; rfl
/-- the composition of two coercions as they come -/
noncomputable def Co.compV (a b : Co) : Option K := a.k?.bind fun x => b.k?.bind fun y => x.compV y
theorem Co.compV_zero (a : Co) : a.compV Co.zero = none ∧ Co.zero.compV a = none := by
  have h : Co.zero.k? = none := by
    have := Co.k?_valid Co.zero
    cases e : Co.zero.k? with
    | none => rfl
    | some x => rw [e] at this; exact absurd this (by simp [Co.valid, Co.shape, Co.okN, Co.zero])
  constructor
  · unfold Co.compV; rw [h]; cases a.k? <;> rfl
  · unfold Co.compV; rw [h]; rfl
theorem K.compV_some {a b k : K} (h : a.compV b = some k) : a.comp b = some k ∧ k.ok = true := by
  unfold K.compV at h
  cases e : a.comp b with
  | none => rw [e] at h; cases h
  | some x => rw [e] at h; simp only [Option.bind_some] at h; split at h <;> simp at h; subst h; exact ⟨rfl, by assumption⟩
theorem Co.compV_some {a b : Co} {k : K} (h : a.compV b = some k) : ∃ x y : K, a = x.co ∧ b = y.co ∧ x.ok = true ∧ y.ok = true ∧ x.comp y = some k ∧ k.ok = true := by
  unfold Co.compV at h
  cases e1 : a.k? with
  | none => rw [e1] at h; cases h
  | some x =>
    cases e2 : b.k? with
    | none => rw [e1, e2] at h; cases h
    | some y =>
      rw [e1, e2] at h
      simp only [Option.bind_some] at h
      have := K.compV_some h
      exact ⟨x, y, (Co.k?_some e1).1, (Co.k?_some e2).1, (Co.k?_some e1).2, (Co.k?_some e2).2, this.1, this.2⟩
theorem Co.compV_size (a b : Co) : (K.coO (a.compV b)).size ≤ a.size + b.size + 1 := by
  cases e : a.compV b with
  | none => simp only [K.coO, Co.zero, Co.size, Co.sizes]; omega
  | some k =>
    obtain ⟨x, y, rfl, rfl, _, _, h, _⟩ := Co.compV_some e
    have := K.comp_size x y k h
    simp only [K.coO, K.co_size]; omega
/-- composition, where defined, is associative -/
theorem Co.assoc {a b c : Co} {ab bc x y : K} (h1 : a.compV b = some ab) (h2 : b.compV c = some bc) (h3 : ab.co.compV c = some x) (h4 : a.compV bc.co = some y) : x = y := by
  obtain ⟨a1, b1, rfl, rfl, oa, ob, h1, _⟩ := Co.compV_some h1
  obtain ⟨b2, c1, e, rfl, _, oc, h2, _⟩ := Co.compV_some h2
  cases K.co_inj _ _ e
  obtain ⟨ab2, c2, e, e', _, _, h3, _⟩ := Co.compV_some h3
  cases K.co_inj _ _ e; cases K.co_inj _ _ e'
  obtain ⟨ab2, c2, e, e', _, _, h4, _⟩ := Co.compV_some h4
  cases K.co_inj _ _ e; cases K.co_inj _ _ e'
  simp only [K.ok, Bool.and_eq_true] at oa ob oc
  exact K.assoc _ a1 b1 c1 (Nat.lt_succ_self _) oa.1 ob.1 oc.1 _ _ _ _ h1 h2 h3 h4
end Go.Proofs.Grad
namespace Go.Proofs.Ytbiobfbonpiiiaa
open Go.RowKit Go.Proofs.Sh Go.Proofs.Grad
set_option maxRecDepth 100000
set_option maxHeartbeats 4000000
theorem iComp (a b : Co) : AFn Try.prog 17 [.agg (coC a), .agg (coC b)] (.tup [.agg (coC (K.coO (a.compV b))), .one (.sc (.bool (a.compV b).isSome))]) := by
  cases e1 : a.k? with
  | none =>
    have h := iComposeN a b (by rw [Co.k?_none e1]; rfl)
    simpa only [Co.compV, e1, Option.bind_none, K.coO, Option.isSome] using h
  | some x =>
    cases e2 : b.k? with
    | none =>
      have h := iComposeN a b (by rw [Co.k?_none e2, Bool.and_false])
      simpa only [Co.compV, e1, e2, Option.bind_none, Option.bind_some, K.coO, Option.isSome] using h
    | some y =>
      have h := iCompose x y (Co.k?_some e1).2 (Co.k?_some e2).2
      rw [← (Co.k?_some e1).1, ← (Co.k?_some e2).1] at h
      simpa only [Co.compV, e1, e2, Option.bind_some] using h
theorem sComp (a b : Co) (ha : a.size < 4611686018427387904) (hb : b.size < 4611686018427387904) : AFn Try.prog 21 [.agg (coC a), .agg (coC b)] (.tup [.agg (coC (K.coO (a.compV b))), .one (.sc (.bool (a.compV b).isSome))]) := by
  cases e1 : a.k? with
  | none =>
    have h := sComposeN a b (by rw [Co.k?_none e1]; rfl) ha hb
    simpa only [Co.compV, e1, Option.bind_none, K.coO, Option.isSome] using h
  | some x =>
    cases e2 : b.k? with
    | none =>
      have h := sComposeN a b (by rw [Co.k?_none e2, Bool.and_false]) ha hb
      simpa only [Co.compV, e1, e2, Option.bind_none, Option.bind_some, K.coO, Option.isSome] using h
    | some y =>
      have h := sCompose x y (Co.k?_some e1).2 (Co.k?_some e2).2
      rw [← (Co.k?_some e1).1, ← (Co.k?_some e2).1] at h
      simpa only [Co.compV, e1, e2, Option.bind_some] using h
theorem iSameR (a : Co) (ha : a.size < 100000) : AFn Try.prog 16 [.agg (coC a), .agg (coC a)] (.one (.sc (.bool true))) := by
  have h := coSame 100000 (by omega) a a ha
  rwa [Co.same_refl] at h
end Go.Proofs.Ytbiobfbonpiiiaa
/- Types: the relations of subtyping, on shadows. -/
namespace Go.Proofs.Sh
open Go.Proofs.Grad
@[go_sem] theorem ty_any_kind : T.any.ty.kind = 1 := rfl
@[go_sem] theorem ty_int_kind : T.int.ty.kind = 2 := rfl
@[go_sem] theorem ty_bool_kind : T.bool.ty.kind = 3 := rfl
@[go_sem] theorem ty_fn_kind (a b : T) : (T.fn a b).ty.kind = 4 := rfl
@[go_sem] theorem ty_pr_kind (a b : T) : (T.pr a b).ty.kind = 5 := rfl
@[go_sem] theorem ty_any_kids : T.any.ty.kids = [] := rfl
@[go_sem] theorem ty_int_kids : T.int.ty.kids = [] := rfl
@[go_sem] theorem ty_bool_kids : T.bool.ty.kids = [] := rfl
@[go_sem] theorem ty_fn_kids (a b : T) : (T.fn a b).ty.kids = [a.ty, b.ty] := rfl
@[go_sem] theorem ty_pr_kids (a b : T) : (T.pr a b).ty.kids = [a.ty, b.ty] := rfl
def subM (a b : T) : Nat := 2 * a.size + 2 * b.size + (match b with | .any => 5 | _ => 0)
attribute [go_sem] T.ground
end Go.Proofs.Sh
namespace Go.Proofs.Ytbiobfbonpiiiaa
open Go.RowKit Go.Proofs.Sh Go.Proofs.Grad
set_option maxRecDepth 100000
set_option maxHeartbeats 4000000
theorem l1Any : AFn Try.prog 84 [] (.agg (tyC T.any.ty)) := by
  refine fn_in ?_; refine acl_in Try.func84 rfl isfn_84 (Nat.le_of_ble_eq_true rfl) (fun R hR => ?_); rw [Try.results84] at hR; refine wg_run ?_; (simp only [Try.f84, go_sem])
  (refine hR _ (ret_at [] (by (simp only [go_sem]); first | done | rfl) (by (simp only [go_sem]); first | done | rfl) ⟨rfl, rfl⟩))
theorem l1Ground (a : T) : AFn Try.prog 91 [.agg (tyC a.ty)] (.agg (tyC a.ground.ty)) := by
  cases a
  all_goals
    refine fn_in ?_; refine acl_in Try.func91 rfl isfn_91 (Nat.le_of_ble_eq_true rfl) (fun R hR => ?_); rw [Try.results91] at hR; refine wg_run ?_; (simp only [Try.f91, go_sem])
    repeat' (first | (first | ((first | refine wd_split _ (fun hb => ?_) (fun hb => ?_) | refine wd_nwant _ (fun hb => ?_) (fun hb => ?_) | refine wm_nwant _ (fun hb => ?_) (fun hb => ?_) | refine wd_want _ (fun hb => ?_) (fun hb => ?_) | refine wm_want _ (fun hb => ?_) (fun hb => ?_) | refine wt_nwant _ (fun hb => ?_) (fun hb => ?_) | refine wt_want _ (fun hb => ?_) (fun hb => ?_)) <;> (simp only [go_sem, hb])) | (refine wm_done ?_; (simp only [go_sem])) | (refine wt_done ?_; (simp only [go_sem])) | (refine wg_run ?_; (simp only [go_sem])) | (refine wt_fork (by (simp only [go_sem]); first | done | rfl) ?_ ?_ <;> (simp only [go_sem]))) | (first | refine wd_fn (by (simp only [go_sem]); first | done | rfl) (l1Any) ?_ | refine wm_fn (by (simp only [go_sem]); first | done | rfl) (l1Any) (by (simp only [go_sem]); first | done | rfl) (by (simp only [go_sem]); first | done | rfl) ?_ | refine wt_fn (by (simp only [go_sem]); first | done | rfl) (l1Any) (by (simp only [go_sem]); first | done | rfl) (by (simp only [go_sem]); first | done | rfl) ?_); (simp only [go_sem]) | (first | (refine wl_next (wg_run ?_); (simp only [go_sem])) | refine wd_rounds 6 ?_) | ((first | refine wd_mix 6 [] follows (by decide +kernel) (by (simp only [go_sem]); first | done | rfl) ?_ | refine wd_mix 5 [] follows (by decide +kernel) (by (simp only [go_sem]); first | done | rfl) ?_ | refine wd_mix 4 [] follows (by decide +kernel) (by (simp only [go_sem]); first | done | rfl) ?_ | refine wd_mix 3 [] follows (by decide +kernel) (by (simp only [go_sem]); first | done | rfl) ?_ | refine wd_mix 2 [] follows (by decide +kernel) (by (simp only [go_sem]); first | done | rfl) ?_ | refine wd_mix 1 [] follows (by decide +kernel) (by (simp only [go_sem]); first | done | rfl) ?_ | refine wd_mix 0 [] follows (by decide +kernel) (by (simp only [go_sem]); first | done | rfl) ?_ | fail); (simp only [go_sem])))
    all_goals (refine hR _ (ret_at [] (by (simp only [go_sem]); first | done | rfl) (by (simp only [go_sem]); first | done | rfl) ⟨?_, rfl⟩))
    all_goals rfl
theorem subM_le (a b : T) : subM a b ≤ 2 * (a.size + b.size) + 5 := by unfold subM; split <;> omega
theorem le_subM (a b : T) : 2 * (a.size + b.size) ≤ subM a b := by unfold subM; split <;> omega
theorem base (k : Int) : AFn Try.prog 111 [.one (.sc (.int .i64 k))] (.agg (tyC (.mk k []))) := by
  refine fn_in ?_; refine acl_in Try.func111 rfl isfn_111 (Nat.le_of_ble_eq_true rfl) (fun R hR => ?_); rw [Try.results111] at hR; refine wg_run ?_; (simp only [Try.f111, go_sem])
  (refine hR _ (ret_at [] (by (simp only [go_sem]); first | done | rfl) (by (simp only [go_sem]); first | done | rfl) ⟨rfl, rfl⟩))
theorem both (k : Int) (a b : Ty) : AFn Try.prog 110 [.one (.sc (.int .i64 k)), .agg (tyC a), .agg (tyC b)] (.agg (tyC (.mk k [a, b]))) := by
  refine fn_in ?_; refine acl_in Try.func110 rfl isfn_110 (Nat.le_of_ble_eq_true rfl) (fun R hR => ?_); rw [Try.results110] at hR; refine wg_run ?_; (simp only [Try.f110, go_sem])
  (refine hR _ (ret_at [] (by (simp only [go_sem]); first | done | rfl) (by (simp only [go_sem]); first | done | rfl) ⟨rfl, rfl⟩))
theorem iGround (a : T) : AFn Try.prog 87 [.one (.sc (.int .i64 a.kind))] (.agg (tyC a.ground.ty)) := by
  rcases a with _ | _ | _ | ⟨a1, a2⟩ | ⟨a1, a2⟩
  all_goals
    simp only [T.kind]
    refine fn_in ?_; refine acl_in Try.func87 rfl isfn_87 (Nat.le_of_ble_eq_true rfl) (fun R hR => ?_); rw [Try.results87] at hR; refine wg_run ?_; (simp only [Try.f87, go_sem])
    repeat' (first | (first | ((first | refine wd_split _ (fun hb => ?_) (fun hb => ?_) | refine wd_nwant _ (fun hb => ?_) (fun hb => ?_) | refine wm_nwant _ (fun hb => ?_) (fun hb => ?_) | refine wd_want _ (fun hb => ?_) (fun hb => ?_) | refine wm_want _ (fun hb => ?_) (fun hb => ?_) | refine wt_nwant _ (fun hb => ?_) (fun hb => ?_) | refine wt_want _ (fun hb => ?_) (fun hb => ?_)) <;> (simp only [go_sem, hb])) | (refine wm_done ?_; (simp only [go_sem])) | (refine wt_done ?_; (simp only [go_sem])) | (refine wg_run ?_; (simp only [go_sem])) | (refine wt_fork (by (simp only [go_sem]); first | done | rfl) ?_ ?_ <;> (simp only [go_sem]))) | (first | refine wd_fn (by (simp only [go_sem]); first | done | rfl) (base _) ?_ | refine wm_fn (by (simp only [go_sem]); first | done | rfl) (base _) (by (simp only [go_sem]); first | done | rfl) (by (simp only [go_sem]); first | done | rfl) ?_ | refine wt_fn (by (simp only [go_sem]); first | done | rfl) (base _) (by (simp only [go_sem]); first | done | rfl) (by (simp only [go_sem]); first | done | rfl) ?_); (simp only [go_sem]) | (first | refine wd_fn (by (simp only [go_sem]); first | done | rfl) (both 4 T.any.ty T.any.ty) ?_ | refine wm_fn (by (simp only [go_sem]); first | done | rfl) (both 4 T.any.ty T.any.ty) (by (simp only [go_sem]); first | done | rfl) (by (simp only [go_sem]); first | done | rfl) ?_ | refine wt_fn (by (simp only [go_sem]); first | done | rfl) (both 4 T.any.ty T.any.ty) (by (simp only [go_sem]); first | done | rfl) (by (simp only [go_sem]); first | done | rfl) ?_); (simp only [go_sem]) | (first | refine wd_fn (by (simp only [go_sem]); first | done | rfl) (both 5 T.any.ty T.any.ty) ?_ | refine wm_fn (by (simp only [go_sem]); first | done | rfl) (both 5 T.any.ty T.any.ty) (by (simp only [go_sem]); first | done | rfl) (by (simp only [go_sem]); first | done | rfl) ?_ | refine wt_fn (by (simp only [go_sem]); first | done | rfl) (both 5 T.any.ty T.any.ty) (by (simp only [go_sem]); first | done | rfl) (by (simp only [go_sem]); first | done | rfl) ?_); (simp only [go_sem]) | ((first | refine wd_mix 6 [] follows (by decide +kernel) (by (simp only [go_sem]); first | done | rfl) ?_ | refine wd_mix 5 [] follows (by decide +kernel) (by (simp only [go_sem]); first | done | rfl) ?_ | refine wd_mix 4 [] follows (by decide +kernel) (by (simp only [go_sem]); first | done | rfl) ?_ | refine wd_mix 3 [] follows (by decide +kernel) (by (simp only [go_sem]); first | done | rfl) ?_ | refine wd_mix 2 [] follows (by decide +kernel) (by (simp only [go_sem]); first | done | rfl) ?_ | refine wd_mix 1 [] follows (by decide +kernel) (by (simp only [go_sem]); first | done | rfl) ?_ | refine wd_mix 0 [] follows (by decide +kernel) (by (simp only [go_sem]); first | done | rfl) ?_ | fail); (simp only [go_sem])))
  all_goals (refine hR _ (ret_at [] (by (simp only [go_sem]); first | done | rfl) (by (simp only [go_sem]); first | done | rfl) ⟨rfl, rfl⟩))
end Go.Proofs.Ytbiobfbonpiiiaa
/- The plain laws of subtyping. -/
namespace Go.Proofs.Grad

theorem T.cons_symm (a : T) : ∀ b : T, a.cons b = b.cons a := by
  induction a with
  | fn a b iha ihb => intro c; cases c <;> simp [T.cons, iha, ihb]
  | pr a b iha ihb => intro c; cases c <;> simp [T.cons, iha, ihb]
  | _ => intro c; cases c <;> simp [T.cons]

theorem T.sub_trans' : ∀ (n : Nat) (a b c : T), a.size + b.size + c.size < n → a.sub b = true → b.sub c = true → a.sub c = true := by
  intro n
  induction n with
  | zero => intro a b c h; omega
  | succ n ih =>
    intro a b c hn h1 h2
    cases a <;> cases b <;> cases c <;> simp [T.sub] at h1 h2 ⊢ <;> simp only [T.size] at hn <;>
      first
      | exact h1
      | exact ⟨ih _ _ _ (by (try simp only [T.size]); omega) h1.1 h2.1, ih _ _ _ (by (try simp only [T.size]); omega) h1.2 h2.2⟩
      | exact ⟨ih _ _ _ (by (try simp only [T.size]); omega) h2.1 h1.1, ih _ _ _ (by (try simp only [T.size]); omega) h1.2 h2.2⟩
theorem T.sub_trans {a b c : T} (h1 : a.sub b = true) (h2 : b.sub c = true) : a.sub c = true := T.sub_trans' _ a b c (Nat.lt_succ_self _) h1 h2

theorem T.sub_cons' : ∀ (n : Nat) (a b : T), a.size + b.size < n → a.sub b = true → a.cons b = true := by
  intro n
  induction n with
  | zero => intro a b h; omega
  | succ n ih =>
    intro a b hn h1
    cases a <;> cases b <;> simp [T.sub, T.cons] at h1 ⊢ <;> simp only [T.size] at hn <;>
      first
      | exact ⟨ih _ _ (by omega) h1.1, ih _ _ (by omega) h1.2⟩
      | exact ⟨by rw [T.cons_symm]; exact ih _ _ (by omega) h1.1, ih _ _ (by omega) h1.2⟩
theorem T.sub_cons {a b : T} (h1 : a.sub b = true) : a.cons b = true := T.sub_cons' _ a b (Nat.lt_succ_self _) h1

theorem T.prec_eq' : ∀ (n : Nat) (a b : T), a.size + b.size < n → a.prec b = (a.pos b && b.neg a) := by
  intro n
  induction n with
  | zero => intro a b h; omega
  | succ n ih =>
    intro a b hn
    cases a <;> cases b <;> simp [T.prec, T.pos, T.neg] <;> simp only [T.size] at hn <;>
      (rw [ih _ _ (by omega), ih _ _ (by omega)]; grind)
theorem T.prec_eq (a b : T) : a.prec b = (a.pos b && b.neg a) := T.prec_eq' _ a b (Nat.lt_succ_self _)

theorem T.sub_pn' : ∀ (n : Nat) (a b : T), a.size + b.size < n → a.sub b = (a.pos b && a.neg b) := by
  intro n
  induction n with
  | zero => intro a b h; omega
  | succ n ih =>
    intro a b hn
    cases a <;> cases b <;> simp [T.sub, T.pos, T.neg] <;> simp only [T.size] at hn <;>
      (rw [ih _ _ (by (try simp only [T.size]); omega), ih _ _ (by (try simp only [T.size]); omega)]; (try simp [T.pos_any, T.any_neg]); try grind)
theorem T.sub_pn (a b : T) : a.sub b = (a.pos b && a.neg b) := T.sub_pn' _ a b (Nat.lt_succ_self _)

theorem T.sub_refl (a : T) : a.sub a = true := by
  induction a <;> simp [T.sub, *]

theorem T.sub_static : ∀ (n : Nat) (a b : T), a.size + b.size < n → a.count = 0 → b.count = 0 → a.sub b = decide (a = b) := by
  intro n
  induction n with
  | zero => intro a b h; omega
  | succ n ih =>
    intro a b hn h1 h2
    cases a <;> cases b <;> simp [T.sub, T.count] at h1 h2 ⊢ <;> simp only [T.size] at hn <;>
      (rw [ih _ _ (by omega) (by omega) (by omega), ih _ _ (by omega) (by omega) (by omega)]; try grind)
end Go.Proofs.Grad
/- Casts as coercions, in the program and in the reference. On shadows. -/
namespace Go.Proofs.Grad
theorem lab_wrap {l : Int} (h : lab l = true) : -99 ≤ l ∧ l ≤ 99 := by simp [lab] at h; omega
end Go.Proofs.Grad
namespace Go.Proofs.Ytbiobfbonpiiiaa
open Go.RowKit Go.Proofs.Sh Go.Proofs.Grad
set_option maxRecDepth 100000
set_option maxHeartbeats 8000000
theorem iCoerce (n : Nat) : ∀ (a b : T) (l : Int), castM a b < n → a.cons b = true → -99 ≤ l ∧ l ≤ 99 → AFn Try.prog 51 [.agg (tyC a.ty), .agg (tyC b.ty), .one (.sc (.int .i64 l))] (.agg (coC (T.cast a b l).co)) := by
  induction n with
  | zero => intro a b l h; omega
  | succ n ih =>
    intro a b l h hc hl
    have hw : IntKind.i64.wrap (0 - l) = -l := by rw [IntWalk.i64_in _ (by omega)]; omega
    rcases a with _ | _ | _ | ⟨a1, a2⟩ | ⟨a1, a2⟩ <;> rcases b with _ | _ | _ | ⟨b1, b2⟩ | ⟨b1, b2⟩
    all_goals simp only [T.cons, Bool.false_eq_true, Bool.and_eq_true] at hc
    all_goals
      ((try have p1 := T.size_pos a1); (try have p2 := T.size_pos a2); (try have p3 := T.size_pos b1); (try have p4 := T.size_pos b2))
      simp only [castM, T.size] at h
      refine fn_in ?_; refine acl_in Try.func51 rfl isfn_51 (Nat.le_of_ble_eq_true rfl) (fun R hR => ?_); rw [Try.results51] at hR; refine wg_run ?_; (simp only [Try.f51, go_sem])
      repeat' (first | (first | (simp only [go_sem, hw]) | ((first | refine wd_split _ (fun hb => ?_) (fun hb => ?_) | refine wd_nwant _ (fun hb => ?_) (fun hb => ?_) | refine wm_nwant _ (fun hb => ?_) (fun hb => ?_) | refine wd_want _ (fun hb => ?_) (fun hb => ?_) | refine wm_want _ (fun hb => ?_) (fun hb => ?_) | refine wt_nwant _ (fun hb => ?_) (fun hb => ?_) | refine wt_want _ (fun hb => ?_) (fun hb => ?_)) <;> (simp only [go_sem, hb, hw])) | (refine wm_done ?_; (simp only [go_sem, hw])) | (refine wt_done ?_; (simp only [go_sem, hw])) | (refine wg_run ?_; (simp only [go_sem, hw])) | (refine wt_fork (by (simp only [go_sem]); first | done | rfl) ?_ ?_ <;> (simp only [go_sem, hw]))) | (first | fail) | ((first | refine wd_mix 6 [] follows (by decide +kernel) (by (simp only [go_sem]); first | done | rfl) ?_ | refine wd_mix 5 [] follows (by decide +kernel) (by (simp only [go_sem]); first | done | rfl) ?_ | refine wd_mix 4 [] follows (by decide +kernel) (by (simp only [go_sem]); first | done | rfl) ?_ | refine wd_mix 3 [] follows (by decide +kernel) (by (simp only [go_sem]); first | done | rfl) ?_ | refine wd_mix 2 [] follows (by decide +kernel) (by (simp only [go_sem]); first | done | rfl) ?_ | refine wd_mix 1 [] follows (by decide +kernel) (by (simp only [go_sem]); first | done | rfl) ?_ | refine wd_mix 0 [] follows (by decide +kernel) (by (simp only [go_sem]); first | done | rfl) ?_ | fail); (simp only [go_sem])) | (first | refine wd_fn (by (simp only [go_sem]); first | done | rfl) (iGround T.int) ?_ | refine wm_fn (by (simp only [go_sem]); first | done | rfl) (iGround T.int) (by (simp only [go_sem]); first | done | rfl) (by (simp only [go_sem]); first | done | rfl) ?_ | refine wt_fn (by (simp only [go_sem]); first | done | rfl) (iGround T.int) (by (simp only [go_sem]); first | done | rfl) (by (simp only [go_sem]); first | done | rfl) ?_); (simp only [go_sem]) | (first | refine wd_fn (by (simp only [go_sem]); first | done | rfl) (iGround T.bool) ?_ | refine wm_fn (by (simp only [go_sem]); first | done | rfl) (iGround T.bool) (by (simp only [go_sem]); first | done | rfl) (by (simp only [go_sem]); first | done | rfl) ?_ | refine wt_fn (by (simp only [go_sem]); first | done | rfl) (iGround T.bool) (by (simp only [go_sem]); first | done | rfl) (by (simp only [go_sem]); first | done | rfl) ?_); (simp only [go_sem]) | (first | refine wd_fn (by (simp only [go_sem]); first | done | rfl) (iGround (T.fn T.any T.any)) ?_ | refine wm_fn (by (simp only [go_sem]); first | done | rfl) (iGround (T.fn T.any T.any)) (by (simp only [go_sem]); first | done | rfl) (by (simp only [go_sem]); first | done | rfl) ?_ | refine wt_fn (by (simp only [go_sem]); first | done | rfl) (iGround (T.fn T.any T.any)) (by (simp only [go_sem]); first | done | rfl) (by (simp only [go_sem]); first | done | rfl) ?_); (simp only [go_sem]) | (first | refine wd_fn (by (simp only [go_sem]); first | done | rfl) (iGround (T.pr T.any T.any)) ?_ | refine wm_fn (by (simp only [go_sem]); first | done | rfl) (iGround (T.pr T.any T.any)) (by (simp only [go_sem]); first | done | rfl) (by (simp only [go_sem]); first | done | rfl) ?_ | refine wt_fn (by (simp only [go_sem]); first | done | rfl) (iGround (T.pr T.any T.any)) (by (simp only [go_sem]); first | done | rfl) (by (simp only [go_sem]); first | done | rfl) ?_); (simp only [go_sem]) | (first | refine wd_fn (by (simp only [go_sem]); first | done | rfl) (ih _ _ _ (by simp only [castM, T.size]; (repeat' split) <;> (try simp only [T.size]) <;> omega) (by first | rfl | exact hc.1 | exact hc.2 | (rw [T.cons_symm]; exact hc.1) | simp [T.cons, T.cons_any]) (by omega)) ?_ | refine wm_fn (by (simp only [go_sem]); first | done | rfl) (ih _ _ _ (by simp only [castM, T.size]; (repeat' split) <;> (try simp only [T.size]) <;> omega) (by first | rfl | exact hc.1 | exact hc.2 | (rw [T.cons_symm]; exact hc.1) | simp [T.cons, T.cons_any]) (by omega)) (by (simp only [go_sem]); first | done | rfl) (by (simp only [go_sem]); first | done | rfl) ?_ | refine wt_fn (by (simp only [go_sem]); first | done | rfl) (ih _ _ _ (by simp only [castM, T.size]; (repeat' split) <;> (try simp only [T.size]) <;> omega) (by first | rfl | exact hc.1 | exact hc.2 | (rw [T.cons_symm]; exact hc.1) | simp [T.cons, T.cons_any]) (by omega)) (by (simp only [go_sem]); first | done | rfl) (by (simp only [go_sem]); first | done | rfl) ?_); (simp only [go_sem]))
    all_goals (refine hR _ (ret_at [] (by (simp only [go_sem]); first | done | rfl) (by (simp only [go_sem]); first | done | rfl) ⟨?_, rfl⟩))
    all_goals simp only [T.cast, K.co]
    all_goals rfl
theorem sCast (n : Nat) : ∀ (a b : T) (l : Int), castM a b < n → a.cons b = true → -99 ≤ l ∧ l ≤ 99 → AFn Try.prog 54 [.agg (tyC a.ty), .agg (tyC b.ty), .one (.sc (.int .i64 l))] (.agg (coC (T.cast a b l).co)) := by
  induction n with
  | zero => intro a b l h; omega
  | succ n ih =>
    intro a b l h hc hl
    have hw : IntKind.i64.wrap (0 - l) = -l := by rw [IntWalk.i64_in _ (by omega)]; omega
    rcases a with _ | _ | _ | ⟨a1, a2⟩ | ⟨a1, a2⟩ <;> rcases b with _ | _ | _ | ⟨b1, b2⟩ | ⟨b1, b2⟩
    all_goals simp only [T.cons, Bool.false_eq_true, Bool.and_eq_true] at hc
    all_goals
      ((try have p1 := T.size_pos a1); (try have p2 := T.size_pos a2); (try have p3 := T.size_pos b1); (try have p4 := T.size_pos b2))
      simp only [castM, T.size] at h
      refine fn_in ?_; refine acl_in Try.func54 rfl isfn_54 (Nat.le_of_ble_eq_true rfl) (fun R hR => ?_); rw [Try.results54] at hR; refine wg_run ?_; (simp only [Try.f54, go_sem])
      repeat' (first | (first | (simp only [go_sem, hw]) | ((first | refine wd_split _ (fun hb => ?_) (fun hb => ?_) | refine wd_nwant _ (fun hb => ?_) (fun hb => ?_) | refine wm_nwant _ (fun hb => ?_) (fun hb => ?_) | refine wd_want _ (fun hb => ?_) (fun hb => ?_) | refine wm_want _ (fun hb => ?_) (fun hb => ?_) | refine wt_nwant _ (fun hb => ?_) (fun hb => ?_) | refine wt_want _ (fun hb => ?_) (fun hb => ?_)) <;> (simp only [go_sem, hb, hw])) | (refine wm_done ?_; (simp only [go_sem, hw])) | (refine wt_done ?_; (simp only [go_sem, hw])) | (refine wg_run ?_; (simp only [go_sem, hw])) | (refine wt_fork (by (simp only [go_sem]); first | done | rfl) ?_ ?_ <;> (simp only [go_sem, hw]))) | (first | fail) | ((first | refine wd_mix 6 [] follows (by decide +kernel) (by (simp only [go_sem]); first | done | rfl) ?_ | refine wd_mix 5 [] follows (by decide +kernel) (by (simp only [go_sem]); first | done | rfl) ?_ | refine wd_mix 4 [] follows (by decide +kernel) (by (simp only [go_sem]); first | done | rfl) ?_ | refine wd_mix 3 [] follows (by decide +kernel) (by (simp only [go_sem]); first | done | rfl) ?_ | refine wd_mix 2 [] follows (by decide +kernel) (by (simp only [go_sem]); first | done | rfl) ?_ | refine wd_mix 1 [] follows (by decide +kernel) (by (simp only [go_sem]); first | done | rfl) ?_ | refine wd_mix 0 [] follows (by decide +kernel) (by (simp only [go_sem]); first | done | rfl) ?_ | fail); (simp only [go_sem])) | (first | refine wd_fn (by (simp only [go_sem]); first | done | rfl) (l1Ground _) ?_ | refine wm_fn (by (simp only [go_sem]); first | done | rfl) (l1Ground _) (by (simp only [go_sem]); first | done | rfl) (by (simp only [go_sem]); first | done | rfl) ?_ | refine wt_fn (by (simp only [go_sem]); first | done | rfl) (l1Ground _) (by (simp only [go_sem]); first | done | rfl) (by (simp only [go_sem]); first | done | rfl) ?_); (simp only [go_sem]) | (first | refine wd_fn (by (simp only [go_sem]); first | done | rfl) (l6Id _) ?_ | refine wm_fn (by (simp only [go_sem]); first | done | rfl) (l6Id _) (by (simp only [go_sem]); first | done | rfl) (by (simp only [go_sem]); first | done | rfl) ?_ | refine wt_fn (by (simp only [go_sem]); first | done | rfl) (l6Id _) (by (simp only [go_sem]); first | done | rfl) (by (simp only [go_sem]); first | done | rfl) ?_); (simp only [go_sem]) | (first | refine wd_fn (by (simp only [go_sem]); first | done | rfl) (ih _ _ _ (by simp only [castM, T.size]; (repeat' split) <;> (try simp only [T.size]) <;> omega) (by first | rfl | exact hc.1 | exact hc.2 | (rw [T.cons_symm]; exact hc.1) | simp [T.cons, T.cons_any]) (by omega)) ?_ | refine wm_fn (by (simp only [go_sem]); first | done | rfl) (ih _ _ _ (by simp only [castM, T.size]; (repeat' split) <;> (try simp only [T.size]) <;> omega) (by first | rfl | exact hc.1 | exact hc.2 | (rw [T.cons_symm]; exact hc.1) | simp [T.cons, T.cons_any]) (by omega)) (by (simp only [go_sem]); first | done | rfl) (by (simp only [go_sem]); first | done | rfl) ?_ | refine wt_fn (by (simp only [go_sem]); first | done | rfl) (ih _ _ _ (by simp only [castM, T.size]; (repeat' split) <;> (try simp only [T.size]) <;> omega) (by first | rfl | exact hc.1 | exact hc.2 | (rw [T.cons_symm]; exact hc.1) | simp [T.cons, T.cons_any]) (by omega)) (by (simp only [go_sem]); first | done | rfl) (by (simp only [go_sem]); first | done | rfl) ?_); (simp only [go_sem]))
    all_goals (refine hR _ (ret_at [] (by (simp only [go_sem]); first | done | rfl) (by (simp only [go_sem]); first | done | rfl) ⟨?_, rfl⟩))
    all_goals simp only [T.cast, K.co]
    all_goals rfl
end Go.Proofs.Ytbiobfbonpiiiaa
/- The reference's reader, on shadows. -/
namespace Go.Proofs.Sh
open Go.RowKit
def byC (x : Int) : List C := [.sc (.int .u8 x)]
def byR (l : List Int) : List (List C) := l.map byC
def byte (l : List Int) (k : Nat) : Int := l.getD k 0
@[go_sem] theorem byC_length (x : Int) : (byC x).length = 1 := rfl
@[go_sem] theorem byC_0 (x : Int) : (byC x)[0]? = some (.sc (.int .u8 x)) := rfl
@[go_sem] theorem byR_length (l : List Int) : (byR l).length = l.length := by simp [byR]
@[go_sem] theorem byR_at (l : List Int) (i : Nat) : (byR l)[i]? = match decide ((i : Int) < (l.length : Int)) with | true => some (byC (byte l i)) | false => none := by
  by_cases h : i < l.length
  · have h' : (i : Int) < (l.length : Int) := by omega
    simp [byR, byte, h, h']
  · have h' : ¬ (i : Int) < (l.length : Int) := by omega
    simp [byR, h, h']
@[go_sem] theorem byR_tree (l : List Int) : treeRows (byR l) = true := by
  simp [byR, treeRows, treeL, byC, C.tree]
@[go_sem] theorem byR_len (l : List Int) : rowsLen 1 (byR l) = true := by
  simp [byR, rowsLen, byC]
theorem byR_take (l : List Int) (n : Nat) : (byR l).take n = byR (l.take n) := by simp [byR, List.map_take]
/-- bytes -/
structure Bs (l : List Int) : Prop where
  len : l.length ≤ 2000
  all : ∀ k, 0 ≤ byte l k ∧ byte l k < 256
theorem i64_xor' (a b : Nat) (ha : a < 9223372036854775808) (hb : b < 9223372036854775808) : IntKind.i64.wrap ((BitVec.ofInt 64 (a : Int) ^^^ BitVec.ofInt 64 (b : Int)).toNat : Int) = ((a ^^^ b : Nat) : Int) := by
  have hx : a ^^^ b < 2 ^ 63 := Nat.xor_lt_two_pow (by omega) (by omega)
  rw [BitVec.toNat_xor, ofInt_u64 a (by omega), ofInt_u64 b (by omega), IntKind.wrap_i64]
  omega
end Go.Proofs.Sh
namespace Go.Proofs.Ytbiobfbonpiiiaa
open Go.RowKit Go.Proofs.Sh
set_option maxRecDepth 100000
set_option maxHeartbeats 4000000
theorem pick (bs : List Int) (hB : Bs bs) (p : Nat) (hp : p < 1099511627776) (n : Int) (hn1 : -1099511627776 ≤ n) (hn2 : n ≤ 1099511627776) :
    ACl Try.prog 46 [.one (.ptr 2 0 0 0), .one (.sc (.int .i64 n))] [(⟨2, 88, .mut, [[.sl (byR bs), .sc (.int .i64 ((p : Nat) : Int))]]⟩ : Blk)] (fun r H' => ∃ z : Int, r = .one (.sc (.int .i64 z)) ∧ 0 ≤ z ∧ (z < n ∨ z = 0) ∧ H' = [(⟨2, 88, .mut, [[.sl (byR bs), .sc (.int .i64 ((p + 1 : Nat) : Int))]]⟩ : Blk)]) := by
  have wq : IntKind.i64.wrap ((p : Int) + 1) = ((p + 1 : Nat) : Int) := by rw [IntWalk.i64_in _ (by omega)]; omega
  have wr : IntKind.i64.wrap (((p + 1 : Nat) : Int) - 1) = (p : Int) := by rw [IntWalk.i64_in _ (by omega)]; omega
  by_cases hz : n < 1
  · have hd : decide (n < 1) = true := by simp [hz]
    refine acl_in Try.func46 rfl isfn_46 (Nat.le_of_ble_eq_true rfl) (fun R hR => ?_); rw [Try.results46] at hR; refine wg_run ?_; (simp only [Try.f46, go_sem, hd, wq])
    exact hR _ (ret_at [] (by (simp only [go_sem]); first | done | rfl) (by (simp only [go_sem]); first | done | rfl) ⟨0, rfl, Int.le_refl _, .inr rfl, rfl⟩)
  · have hd : decide (n < 1) = false := by simp; omega
    have hl := hB.len
    by_cases hm : bs.length = 0
    · have hm1 : (((bs.length : Nat) : Int) == 0) = true := by simp [hm]
      refine acl_in Try.func46 rfl isfn_46 (Nat.le_of_ble_eq_true rfl) (fun R hR => ?_); rw [Try.results46] at hR; refine wg_run ?_; (simp only [Try.f46, go_sem, hd, wq, hm1])
      exact hR _ (ret_at [] (by (simp only [go_sem]); first | done | rfl) (by (simp only [go_sem]); first | done | rfl) ⟨0, rfl, Int.le_refl _, .inr rfl, rfl⟩)
    · have hm1 : (((bs.length : Nat) : Int) == 0) = false := by rw [beq_eq_false_iff_ne]; omega
      have hn0 : decide (n = 0) = false := by simp; omega
      have hn00 : (n == 0) = false := by simp; omega
      by_cases hpl : p < bs.length
      · have hpp : decide ((p : Int) < (bs.length : Int)) = true := by simp; omega
        have hb := hB.all p
        have wx : IntKind.i64.wrap (byte bs p) = byte bs p := IntWalk.i64_in _ (by omega)
        have hrem : 0 ≤ (byte bs p).tmod n ∧ (byte bs p).tmod n < n := ⟨Int.tmod_nonneg _ hb.1, Int.tmod_lt_of_pos _ (by omega)⟩
        refine acl_in Try.func46 rfl isfn_46 (Nat.le_of_ble_eq_true rfl) (fun R hR => ?_); rw [Try.results46] at hR; refine wg_run ?_; (simp only [Try.f46, go_sem, hd, wq, hm1, wr, hpp, wx, hn0])
        exact hR _ (ret_at [] (by (simp only [go_sem]); first | done | rfl) (by (simp only [go_sem]); first | done | rfl) ⟨_, rfl, hrem.1, .inl hrem.2, rfl⟩)
      · have hpp : decide ((p : Int) < (bs.length : Int)) = false := by simp; omega
        have hm0 : decide (((bs.length : Nat) : Int) = 0) = false := by rw [decide_eq_false_iff_not]; omega
        have hx := hB.all (p % bs.length)
        have hy := hB.all ((p * 7 + 3) % bs.length)
        have t1 : (p : Int).tmod (bs.length : Int) = ((p % bs.length : Nat) : Int) := by rw [Int.tmod_eq_emod_of_nonneg (by omega)]; simp
        have t2 : ((p : Int) * 7 + 3).tmod (bs.length : Int) = (((p * 7 + 3) % bs.length : Nat) : Int) := by rw [Int.tmod_eq_emod_of_nonneg (by omega)]; simp
        have t3 : (p : Int).tdiv (bs.length : Int) = ((p / bs.length : Nat) : Int) := by rw [Int.tdiv_eq_ediv_of_nonneg (by omega)]; simp
        have g1 : decide (((p % bs.length : Nat) : Int) < (bs.length : Int)) = true := by have := Nat.mod_lt p (show 0 < bs.length by omega); simp only [decide_eq_true_eq]; omega
        have g2 : decide ((((p * 7 + 3) % bs.length : Nat) : Int) < (bs.length : Int)) = true := by have := Nat.mod_lt (p * 7 + 3) (show 0 < bs.length by omega); simp only [decide_eq_true_eq]; omega
        have hdv : p / bs.length ≤ p := Nat.div_le_self _ _
        generalize hxe : byte bs (p % bs.length) = x at *
        generalize hye : byte bs ((p * 7 + 3) % bs.length) = y at *
        generalize hdd : p / bs.length = dd at *
        have w1 : IntKind.i64.wrap ((p : Int) * 7) = (p : Int) * 7 := IntWalk.i64_in _ (by omega)
        have w2 : IntKind.i64.wrap ((p : Int) * 7 + 3) = (p : Int) * 7 + 3 := IntWalk.i64_in _ (by omega)
        have w3 : IntKind.i64.wrap (x * 131) = x * 131 := IntWalk.i64_in _ (by omega)
        have w4 : IntKind.i64.wrap (y * 1117) = y * 1117 := IntWalk.i64_in _ (by omega)
        have w5 : IntKind.i64.wrap (x * 131 + y * 1117) = x * 131 + y * 1117 := IntWalk.i64_in _ (by omega)
        have w6 : IntKind.i64.wrap ((p : Int) * 29) = (p : Int) * 29 := IntWalk.i64_in _ (by omega)
        have w7 : IntKind.i64.wrap (x * 131 + y * 1117 + (p : Int) * 29) = x * 131 + y * 1117 + (p : Int) * 29 := IntWalk.i64_in _ (by omega)
        have w8 : IntKind.i64.wrap ((dd : Int) * 53) = (dd : Int) * 53 := IntWalk.i64_in _ (by omega)
        have w9 : IntKind.i64.wrap (x * 131 + y * 1117 + (p : Int) * 29 + (dd : Int) * 53) = x * 131 + y * 1117 + (p : Int) * 29 + (dd : Int) * 53 := IntWalk.i64_in _ (by omega)
        have wx : IntKind.i64.wrap x = x := IntWalk.i64_in _ (by omega)
        have wy : IntKind.i64.wrap y = y := IntWalk.i64_in _ (by omega)
        have wd : IntKind.i64.wrap (dd : Int) = (dd : Int) := IntWalk.i64_in _ (by omega)
        obtain ⟨s, hs, hs2⟩ : ∃ s : Nat, x * 131 + y * 1117 + (p : Int) * 29 + (dd : Int) * 53 = (s : Int) ∧ s < 4611686018427387904 := ⟨(x * 131 + y * 1117 + (p : Int) * 29 + (dd : Int) * 53).toNat, by omega, by omega⟩
        have t4 : (s : Int).tdiv 64 = ((s / 64 : Nat) : Int) := by rw [Int.tdiv_eq_ediv_of_nonneg (by omega)]; simp
        have w10 : IntKind.i64.wrap ((s / 64 : Nat) : Int) = ((s / 64 : Nat) : Int) := IntWalk.i64_in _ (by omega)
        have w11 : IntKind.i64.wrap (s : Int) = (s : Int) := IntWalk.i64_in _ (by omega)
        have hxo : IntKind.i64.wrap ((BitVec.ofInt 64 (s : Int) ^^^ BitVec.ofInt 64 ((s / 64 : Nat) : Int)).toNat : Int) = ((s ^^^ (s / 64) : Nat) : Int) := i64_xor' s (s / 64) (by omega) (by omega)
        generalize hze : s ^^^ (s / 64) = z at *
        have hrem : 0 ≤ (z : Int).tmod n ∧ (z : Int).tmod n < n := ⟨Int.tmod_nonneg _ (by omega), Int.tmod_lt_of_pos _ (by omega)⟩
        refine acl_in Try.func46 rfl isfn_46 (Nat.le_of_ble_eq_true rfl) (fun R hR => ?_); rw [Try.results46] at hR; refine wg_run ?_; (simp only [Try.f46, go_sem, hd, wq, hm1, wr, hpp])
        refine wd_mix 0 [] follows (by kernel_rfl) (by (simp only [go_sem]); first | done | rfl) ?_
        (simp only [go_sem, hm0, hxe, hye, t1, t2, t3, g1, g2, w1, w2, w3, w4, w5, w6, w7, w8, w9, wx, wy, wd, hs])
        refine wm_done ?_
        (simp only [go_sem, hn0, t4, w10, w11, hxo])
        refine hR _ (ret_at [] (by (simp only [go_sem]); first | done | rfl) (by (simp only [go_sem]); first | done | rfl) ⟨_, rfl, ?_, .inl ?_, rfl⟩)
        · have h := hrem.1; rw [← hxo] at h; exact h
        · have h := hrem.2; rw [← hxo] at h; exact h
/-- whole numbers as rows of a slice -/
theorem num (bs : List Int) (hB : Bs bs) (p : Nat) (hp : p < 1099511627776) (l : List Int) (h1 : 0 < l.length) (h2 : l.length < 1000) :
    ACl Try.prog 82 [.one (.ptr 2 0 0 0), .one (.sl (l.map fun x => [.sc (.int .i64 x)]))] [(⟨2, 88, .mut, [[.sl (byR bs), .sc (.int .i64 ((p : Nat) : Int))]]⟩ : Blk)] (fun r H' => ∃ z : Int, r = .one (.sc (.int .i64 z)) ∧ z ∈ l ∧ H' = [(⟨2, 88, .mut, [[.sl (byR bs), .sc (.int .i64 ((p + 1 : Nat) : Int))]]⟩ : Blk)]) := by
  have hk := pick bs hB p hp (l.length : Nat) (by omega) (by omega)
  refine acl_in Try.func82 rfl isfn_82 (Nat.le_of_ble_eq_true rfl) (fun R hR => ?_); rw [Try.results82] at hR; refine wg_run ?_; (simp only [Try.f82, go_sem, List.length_map])
  refine wd_cl [0] (by (simp only [go_sem]); first | done | rfl) hk ?_
  rintro _ _ ⟨z, rfl, hz0, hz1, rfl⟩
  obtain ⟨z, rfl⟩ := Int.eq_ofNat_of_zero_le hz0
  have hz : z < l.length := by omega
  have hm : (l.map fun x => [C.sc (.int .i64 x)])[z]? = some [C.sc (.int .i64 l[z])] := by simp [hz]
  have hz2 : decide ((0 : Int) ≤ (z : Int)) = true := by simp
  (simp only [go_sem, hm, hz2])
  exact hR _ (ret_at [] (by (simp only [go_sem]); first | done | rfl) (by (simp only [go_sem]); first | done | rfl) ⟨_, rfl, List.getElem_mem hz, rfl⟩)
theorem byte_take (l : List Int) (n k : Nat) : byte (l.take n) k = byte l k ∨ byte (l.take n) k = 0 := by
  unfold byte
  by_cases h : k < n
  · left; simp [List.getD_eq_getElem?_getD, List.getElem?_take, h]
  · right; simp [List.getD_eq_getElem?_getD, List.getElem?_take, h]
theorem opn (l : List Int) (hl : l.length < 4611686018427387904) (hb : ∀ k, 0 ≤ byte l k ∧ byte l k < 256) :
    ACl Try.prog 44 [.one (.sl (byR l))] [] (fun r H' => ∃ bs : List Int, Bs bs ∧ r = .one (.ptr 2 0 0 0) ∧ H' = [(⟨2, 88, .mut, [[.sl (byR bs), .sc (.int .i64 ((0 : Nat) : Int))]]⟩ : Blk)]) := by
  by_cases h : 2000 < l.length
  · have hd : decide (((l.length : Nat) : Int) > 2000) = true := by simp; omega
    have hd2 : decide (2000 ≤ l.length) = true := by simp; omega
    refine acl_in Try.func44 rfl isfn_44 (Nat.le_of_ble_eq_true rfl) (fun R hR => ?_); rw [Try.results44] at hR; refine wg_run ?_; (simp only [Try.f44, go_sem, hd, hd2, byR_take])
    refine hR _ (ret_at [0] (by (simp only [go_sem]); first | done | rfl) (by (simp only [go_sem]); first | done | rfl) ⟨l.take 2000, ⟨by simp; omega, fun k => ?_⟩, rfl, ?_⟩)
    · rcases byte_take l 2000 k with h | h <;> rw [h]
      · exact hb k
      · omega
    · simp
  · have hd : decide (((l.length : Nat) : Int) > 2000) = false := by simp; omega
    refine acl_in Try.func44 rfl isfn_44 (Nat.le_of_ble_eq_true rfl) (fun R hR => ?_); rw [Try.results44] at hR; refine wg_run ?_; (simp only [Try.f44, go_sem, hd])
    exact hR _ (ret_at [0] (by (simp only [go_sem]); first | done | rfl) (by (simp only [go_sem]); first | done | rfl) ⟨l, ⟨by omega, hb⟩, rfl, rfl⟩)
end Go.Proofs.Ytbiobfbonpiiiaa
/- Types: copies, on shadows. -/
namespace Go.Proofs.Ytbiobfbonpiiiaa
open Go.RowKit Go.Proofs.Sh Go.Proofs.Grad
set_option maxRecDepth 100000
set_option maxHeartbeats 4000000
theorem l1Copy (n : Nat) (hn : n ≤ 4398046511104) : ∀ t : Ty, t.size < n → AFn Try.prog 83 [.agg (tyC t)] (.agg (tyC t)) := by
  induction n with
  | zero => intro t h; omega
  | succ n ih =>
    intro t h
    have hl : t.kids.length < 4398046511104 := by have := Ty.length_le_sizes t.kids; cases t; simp only [Ty.size, Ty.kids] at *; omega
    refine fn_in ?_; refine acl_in Try.func83 rfl isfn_83 (Nat.le_of_ble_eq_true rfl) (fun R hR => ?_); rw [Try.results83] at hR; refine wg_run ?_; (simp only [Try.f83, go_sem])
    refine wd_for [1, 2, 3, 4] (fun k => [.one (.ptr 2 0 0 0), .one (.ptr 2 1 0 0), .one (.ptr 2 2 0 0), .one (.sc (.int .i64 (k : Nat)))])
      (fun k => [⟨2, 25, .mut, [tyC t]⟩, ⟨2, 25, .mut, [[.sc (.int .i64 0), .sc (.slice none 0 0)]]⟩] ++ (match k with | 0 => [⟨2, 25, .mut, [[.sc (.int .i64 t.kind), .sc (.slice none 0 0)]]⟩] | k + 1 => [⟨2, 25, .mut, [[.sc (.int .i64 t.kind), .row 2 3 (k + 1)]]⟩, ⟨2, 25, .mut, tyR (t.kids.take (k + 1))⟩]))
      (fun k => k ≤ t.kids.length) (fun k => t.kids.length - k) 0 (Nat.zero_le _) (head_at [0, 1, 2] (by (simp only [go_sem]); first | done | rfl) (by (simp only [go_sem]); first | done | rfl) ⟨rfl, rfl⟩) ?_
    rintro (_ | k) hk G hG
    · refine wg_run ?_
      (simp only [go_sem])
      (first | refine wd_split _ (fun hb => ?_) (fun hb => ?_) | refine wd_nwant _ (fun hb => ?_) (fun hb => ?_) | refine wm_nwant _ (fun hb => ?_) (fun hb => ?_) | refine wd_want _ (fun hb => ?_) (fun hb => ?_) | refine wm_want _ (fun hb => ?_) (fun hb => ?_) | refine wt_nwant _ (fun hb => ?_) (fun hb => ?_) | refine wt_want _ (fun hb => ?_) (fun hb => ?_)) <;> (simp only [go_sem, hb])
      · have hk1 : 0 < t.kids.length := by have := of_decide_eq_true hb; omega
        ((first | refine wd_mix 6 [] follows (by decide +kernel) (by (simp only [go_sem]); first | done | rfl) ?_ | refine wd_mix 5 [] follows (by decide +kernel) (by (simp only [go_sem]); first | done | rfl) ?_ | refine wd_mix 4 [] follows (by decide +kernel) (by (simp only [go_sem]); first | done | rfl) ?_ | refine wd_mix 3 [] follows (by decide +kernel) (by (simp only [go_sem]); first | done | rfl) ?_ | refine wd_mix 2 [] follows (by decide +kernel) (by (simp only [go_sem]); first | done | rfl) ?_ | refine wd_mix 1 [] follows (by decide +kernel) (by (simp only [go_sem]); first | done | rfl) ?_ | refine wd_mix 0 [] follows (by decide +kernel) (by (simp only [go_sem]); first | done | rfl) ?_ | fail); (simp only [go_sem]))
        (simp only [go_sem, hb])
        (first | refine wd_fn (by (simp only [go_sem]); first | done | rfl) (ih (by omega) _ (by have := kid_lt hk1; omega)) ?_ | refine wm_fn (by (simp only [go_sem]); first | done | rfl) (ih (by omega) _ (by have := kid_lt hk1; omega)) (by (simp only [go_sem]); first | done | rfl) (by (simp only [go_sem]); first | done | rfl) ?_ | refine wt_fn (by (simp only [go_sem]); first | done | rfl) (ih (by omega) _ (by have := kid_lt hk1; omega)) (by (simp only [go_sem]); first | done | rfl) (by (simp only [go_sem]); first | done | rfl) ?_); (simp only [go_sem])
        repeat' (first | ((first | refine wd_split _ (fun hb => ?_) (fun hb => ?_) | refine wd_nwant _ (fun hb => ?_) (fun hb => ?_) | refine wm_nwant _ (fun hb => ?_) (fun hb => ?_) | refine wd_want _ (fun hb => ?_) (fun hb => ?_) | refine wm_want _ (fun hb => ?_) (fun hb => ?_) | refine wt_nwant _ (fun hb => ?_) (fun hb => ?_) | refine wt_want _ (fun hb => ?_) (fun hb => ?_)) <;> (simp only [go_sem, hb])) | (refine wm_done ?_; (simp only [go_sem])) | (refine wt_done ?_; (simp only [go_sem])) | (refine wg_run ?_; (simp only [go_sem])) | (refine wt_fork (by (simp only [go_sem]); first | done | rfl) ?_ ?_ <;> (simp only [go_sem])))
        refine hG 1 _ _ (by omega) (by omega) (head_at [0, 1, 2, 4] (by (simp only [go_sem]); first | done | rfl) (by (simp only [go_sem]); first | done | rfl) ⟨rfl, ?_⟩)
        simp only [tyR_take hk1, List.take_zero, tyR, List.nil_append, List.cons_append]
      · have hk1 : t.kids = [] := by have := of_decide_eq_false hb; exact List.eq_nil_of_length_eq_zero (by omega)
        (refine hR _ (ret_at [] (by (simp only [go_sem]); first | done | rfl) (by (simp only [go_sem]); first | done | rfl) ⟨?_, rfl⟩))
        rw [tyC_eq, hk1]; rfl
    · refine wg_run ?_
      have hw1 : k + 1 < t.kids.length → IntKind.i64.wrap (((k + 1 : Nat) : Int) + 1) = ((k + 1 + 1 : Nat) : Int) := fun h => wrap_succ h (by omega)
      (simp only [go_sem])
      (first | refine wd_split _ (fun hb => ?_) (fun hb => ?_) | refine wd_nwant _ (fun hb => ?_) (fun hb => ?_) | refine wm_nwant _ (fun hb => ?_) (fun hb => ?_) | refine wd_want _ (fun hb => ?_) (fun hb => ?_) | refine wm_want _ (fun hb => ?_) (fun hb => ?_) | refine wt_nwant _ (fun hb => ?_) (fun hb => ?_) | refine wt_want _ (fun hb => ?_) (fun hb => ?_)) <;> (simp only [go_sem, hb])
      · have hk1 : k + 1 < t.kids.length := by have := of_decide_eq_true hb; omega
        have hw1 := hw1 hk1
        ((first | refine wd_mix 6 [] follows (by decide +kernel) (by (simp only [go_sem]); first | done | rfl) ?_ | refine wd_mix 5 [] follows (by decide +kernel) (by (simp only [go_sem]); first | done | rfl) ?_ | refine wd_mix 4 [] follows (by decide +kernel) (by (simp only [go_sem]); first | done | rfl) ?_ | refine wd_mix 3 [] follows (by decide +kernel) (by (simp only [go_sem]); first | done | rfl) ?_ | refine wd_mix 2 [] follows (by decide +kernel) (by (simp only [go_sem]); first | done | rfl) ?_ | refine wd_mix 1 [] follows (by decide +kernel) (by (simp only [go_sem]); first | done | rfl) ?_ | refine wd_mix 0 [] follows (by decide +kernel) (by (simp only [go_sem]); first | done | rfl) ?_ | fail); (simp only [go_sem]))
        (simp only [go_sem, hb])
        have hlen : (t.kids.take (k + 1)).length = k + 1 := by rw [List.length_take]; omega
        have hcap : (k + 1 + 1) * 32 ≤ 140737488355328 := by omega
        (first | refine wd_fn (by (simp only [go_sem]); first | done | rfl) (ih (by omega) _ (by have := kid_lt hk1; omega)) ?_ | refine wm_fn (by (simp only [go_sem]); first | done | rfl) (ih (by omega) _ (by have := kid_lt hk1; omega)) (by (simp only [go_sem]); first | done | rfl) (by (simp only [go_sem]); first | done | rfl) ?_ | refine wt_fn (by (simp only [go_sem]); first | done | rfl) (ih (by omega) _ (by have := kid_lt hk1; omega)) (by (simp only [go_sem]); first | done | rfl) (by (simp only [go_sem]); first | done | rfl) ?_); (simp only [go_sem])
        repeat' (first | (simp only [go_sem, hlen, hcap, hw1]) | ((first | refine wd_split _ (fun hb => ?_) (fun hb => ?_) | refine wd_nwant _ (fun hb => ?_) (fun hb => ?_) | refine wm_nwant _ (fun hb => ?_) (fun hb => ?_) | refine wd_want _ (fun hb => ?_) (fun hb => ?_) | refine wm_want _ (fun hb => ?_) (fun hb => ?_) | refine wt_nwant _ (fun hb => ?_) (fun hb => ?_) | refine wt_want _ (fun hb => ?_) (fun hb => ?_)) <;> (simp only [go_sem, hb, hlen, hcap, hw1])) | (refine wm_done ?_; (simp only [go_sem, hlen, hcap, hw1])) | (refine wt_done ?_; (simp only [go_sem, hlen, hcap, hw1])) | (refine wg_run ?_; (simp only [go_sem, hlen, hcap, hw1])) | (refine wt_fork (by (simp only [go_sem]); first | done | rfl) ?_ ?_ <;> (simp only [go_sem, hlen, hcap, hw1])))
        refine hG (k + 2) _ _ (by omega) (by omega) (head_at [0, 1, 2, 5] (by (simp only [go_sem]); first | done | rfl) (by (simp only [go_sem]); first | done | rfl) ⟨rfl, ?_⟩)
        rw [← tyR_take hk1]
        rfl
      · have hk1 : t.kids.take (k + 1) = t.kids := by have := of_decide_eq_false hb; exact List.take_of_length_le (by omega)
        have hlen : t.kids.length = k + 1 := by have := of_decide_eq_false hb; omega
        rw [hk1]
        (refine hR _ (ret_at [] (by (simp only [go_sem, hlen]); first | done | rfl) (by (simp only [go_sem, hlen]); first | done | rfl) ⟨?_, rfl⟩))
        rw [tyC_eq]
/-- a copy, its uppermost slice its own -/
def OwnTy (t : Ty) (r : AV) (H' : List Blk) : Prop := (t.kids = [] ∧ r = .agg [.sc (.int .i64 t.kind), .sc (.slice none 0 0)] ∧ H' = []) ∨ (0 < t.kids.length ∧ r = .agg [.sc (.int .i64 t.kind), .row 2 0 t.kids.length] ∧ H' = [⟨2, 25, .mut, tyR t.kids⟩])
theorem l1CopyO (n : Nat) (hn : n ≤ 4398046511104) (t : Ty) (h : t.size < n) : ACl Try.prog 83 [.agg (tyC t)] [] (OwnTy t) := by
  have ih := l1Copy n hn
  have hl : t.kids.length < 4398046511104 := by have := Ty.length_le_sizes t.kids; cases t; simp only [Ty.size, Ty.kids] at *; omega
  refine acl_in Try.func83 rfl isfn_83 (Nat.le_of_ble_eq_true rfl) (fun R hR => ?_); rw [Try.results83] at hR; refine wg_run ?_; (simp only [Try.f83, go_sem])
  refine wd_for [1, 2, 3, 4] (fun k => [.one (.ptr 2 0 0 0), .one (.ptr 2 1 0 0), .one (.ptr 2 2 0 0), .one (.sc (.int .i64 (k : Nat)))])
    (fun k => [⟨2, 25, .mut, [tyC t]⟩, ⟨2, 25, .mut, [[.sc (.int .i64 0), .sc (.slice none 0 0)]]⟩] ++ (match k with | 0 => [⟨2, 25, .mut, [[.sc (.int .i64 t.kind), .sc (.slice none 0 0)]]⟩] | k + 1 => [⟨2, 25, .mut, [[.sc (.int .i64 t.kind), .row 2 3 (k + 1)]]⟩, ⟨2, 25, .mut, tyR (t.kids.take (k + 1))⟩]))
    (fun k => k ≤ t.kids.length) (fun k => t.kids.length - k) 0 (Nat.zero_le _) (head_at [0, 1, 2] (by (simp only [go_sem]); first | done | rfl) (by (simp only [go_sem]); first | done | rfl) ⟨rfl, rfl⟩) ?_
  rintro (_ | k) hk G hG
  · refine wg_run ?_
    (simp only [go_sem])
    (first | refine wd_split _ (fun hb => ?_) (fun hb => ?_) | refine wd_nwant _ (fun hb => ?_) (fun hb => ?_) | refine wm_nwant _ (fun hb => ?_) (fun hb => ?_) | refine wd_want _ (fun hb => ?_) (fun hb => ?_) | refine wm_want _ (fun hb => ?_) (fun hb => ?_) | refine wt_nwant _ (fun hb => ?_) (fun hb => ?_) | refine wt_want _ (fun hb => ?_) (fun hb => ?_)) <;> (simp only [go_sem, hb])
    · have hk1 : 0 < t.kids.length := by have := of_decide_eq_true hb; omega
      ((first | refine wd_mix 6 [] follows (by decide +kernel) (by (simp only [go_sem]); first | done | rfl) ?_ | refine wd_mix 5 [] follows (by decide +kernel) (by (simp only [go_sem]); first | done | rfl) ?_ | refine wd_mix 4 [] follows (by decide +kernel) (by (simp only [go_sem]); first | done | rfl) ?_ | refine wd_mix 3 [] follows (by decide +kernel) (by (simp only [go_sem]); first | done | rfl) ?_ | refine wd_mix 2 [] follows (by decide +kernel) (by (simp only [go_sem]); first | done | rfl) ?_ | refine wd_mix 1 [] follows (by decide +kernel) (by (simp only [go_sem]); first | done | rfl) ?_ | refine wd_mix 0 [] follows (by decide +kernel) (by (simp only [go_sem]); first | done | rfl) ?_ | fail); (simp only [go_sem]))
      (simp only [go_sem, hb])
      (first | refine wd_fn (by (simp only [go_sem]); first | done | rfl) (ih _ (by have := kid_lt hk1; omega)) ?_ | refine wm_fn (by (simp only [go_sem]); first | done | rfl) (ih _ (by have := kid_lt hk1; omega)) (by (simp only [go_sem]); first | done | rfl) (by (simp only [go_sem]); first | done | rfl) ?_ | refine wt_fn (by (simp only [go_sem]); first | done | rfl) (ih _ (by have := kid_lt hk1; omega)) (by (simp only [go_sem]); first | done | rfl) (by (simp only [go_sem]); first | done | rfl) ?_); (simp only [go_sem])
      repeat' (first | ((first | refine wd_split _ (fun hb => ?_) (fun hb => ?_) | refine wd_nwant _ (fun hb => ?_) (fun hb => ?_) | refine wm_nwant _ (fun hb => ?_) (fun hb => ?_) | refine wd_want _ (fun hb => ?_) (fun hb => ?_) | refine wm_want _ (fun hb => ?_) (fun hb => ?_) | refine wt_nwant _ (fun hb => ?_) (fun hb => ?_) | refine wt_want _ (fun hb => ?_) (fun hb => ?_)) <;> (simp only [go_sem, hb])) | (refine wm_done ?_; (simp only [go_sem])) | (refine wt_done ?_; (simp only [go_sem])) | (refine wg_run ?_; (simp only [go_sem])) | (refine wt_fork (by (simp only [go_sem]); first | done | rfl) ?_ ?_ <;> (simp only [go_sem])))
      refine hG 1 _ _ (by omega) (by omega) (head_at [0, 1, 2, 4] (by (simp only [go_sem]); first | done | rfl) (by (simp only [go_sem]); first | done | rfl) ⟨rfl, ?_⟩)
      simp only [tyR_take hk1, List.take_zero, tyR, List.nil_append, List.cons_append]
    · have hk1 : t.kids = [] := by have := of_decide_eq_false hb; exact List.eq_nil_of_length_eq_zero (by omega)
      exact hR _ (ret_own [] (by (simp only [go_sem]); first | done | rfl) (by (simp only [go_sem]); first | done | rfl) (.inl ⟨hk1, rfl, rfl⟩))
  · refine wg_run ?_
    have hw1 : k + 1 < t.kids.length → IntKind.i64.wrap (((k + 1 : Nat) : Int) + 1) = ((k + 1 + 1 : Nat) : Int) := fun h => wrap_succ h (by omega)
    (simp only [go_sem])
    (first | refine wd_split _ (fun hb => ?_) (fun hb => ?_) | refine wd_nwant _ (fun hb => ?_) (fun hb => ?_) | refine wm_nwant _ (fun hb => ?_) (fun hb => ?_) | refine wd_want _ (fun hb => ?_) (fun hb => ?_) | refine wm_want _ (fun hb => ?_) (fun hb => ?_) | refine wt_nwant _ (fun hb => ?_) (fun hb => ?_) | refine wt_want _ (fun hb => ?_) (fun hb => ?_)) <;> (simp only [go_sem, hb])
    · have hk1 : k + 1 < t.kids.length := by have := of_decide_eq_true hb; omega
      have hw1 := hw1 hk1
      ((first | refine wd_mix 6 [] follows (by decide +kernel) (by (simp only [go_sem]); first | done | rfl) ?_ | refine wd_mix 5 [] follows (by decide +kernel) (by (simp only [go_sem]); first | done | rfl) ?_ | refine wd_mix 4 [] follows (by decide +kernel) (by (simp only [go_sem]); first | done | rfl) ?_ | refine wd_mix 3 [] follows (by decide +kernel) (by (simp only [go_sem]); first | done | rfl) ?_ | refine wd_mix 2 [] follows (by decide +kernel) (by (simp only [go_sem]); first | done | rfl) ?_ | refine wd_mix 1 [] follows (by decide +kernel) (by (simp only [go_sem]); first | done | rfl) ?_ | refine wd_mix 0 [] follows (by decide +kernel) (by (simp only [go_sem]); first | done | rfl) ?_ | fail); (simp only [go_sem]))
      (simp only [go_sem, hb])
      have hlen : (t.kids.take (k + 1)).length = k + 1 := by rw [List.length_take]; omega
      have hcap : (k + 1 + 1) * 32 ≤ 140737488355328 := by omega
      (first | refine wd_fn (by (simp only [go_sem]); first | done | rfl) (ih _ (by have := kid_lt hk1; omega)) ?_ | refine wm_fn (by (simp only [go_sem]); first | done | rfl) (ih _ (by have := kid_lt hk1; omega)) (by (simp only [go_sem]); first | done | rfl) (by (simp only [go_sem]); first | done | rfl) ?_ | refine wt_fn (by (simp only [go_sem]); first | done | rfl) (ih _ (by have := kid_lt hk1; omega)) (by (simp only [go_sem]); first | done | rfl) (by (simp only [go_sem]); first | done | rfl) ?_); (simp only [go_sem])
      repeat' (first | (simp only [go_sem, hlen, hcap, hw1]) | ((first | refine wd_split _ (fun hb => ?_) (fun hb => ?_) | refine wd_nwant _ (fun hb => ?_) (fun hb => ?_) | refine wm_nwant _ (fun hb => ?_) (fun hb => ?_) | refine wd_want _ (fun hb => ?_) (fun hb => ?_) | refine wm_want _ (fun hb => ?_) (fun hb => ?_) | refine wt_nwant _ (fun hb => ?_) (fun hb => ?_) | refine wt_want _ (fun hb => ?_) (fun hb => ?_)) <;> (simp only [go_sem, hb, hlen, hcap, hw1])) | (refine wm_done ?_; (simp only [go_sem, hlen, hcap, hw1])) | (refine wt_done ?_; (simp only [go_sem, hlen, hcap, hw1])) | (refine wg_run ?_; (simp only [go_sem, hlen, hcap, hw1])) | (refine wt_fork (by (simp only [go_sem]); first | done | rfl) ?_ ?_ <;> (simp only [go_sem, hlen, hcap, hw1])))
      refine hG (k + 2) _ _ (by omega) (by omega) (head_at [0, 1, 2, 5] (by (simp only [go_sem]); first | done | rfl) (by (simp only [go_sem]); first | done | rfl) ⟨rfl, ?_⟩)
      rw [← tyR_take hk1]
      rfl
    · have hk1 : t.kids.take (k + 1) = t.kids := by have := of_decide_eq_false hb; exact List.take_of_length_le (by omega)
      have hlen : t.kids.length = k + 1 := by have := of_decide_eq_false hb; omega
      rw [hk1]
      exact hR _ (ret_own [3] (by (simp only [go_sem, hlen]); first | done | rfl) (by (simp only [go_sem, hlen]); first | done | rfl) (.inr ⟨by omega, by rw [hlen], rfl⟩))
end Go.Proofs.Ytbiobfbonpiiiaa
/- The reference's draws of types, on shadows. -/
namespace Go.Proofs.Ytbiobfbonpiiiaa
open Go.RowKit Go.Proofs.Sh Go.Proofs.Grad
set_option maxRecDepth 100000
set_option maxHeartbeats 4000000
/-- a draw: of a type of depth at most d, at a cost of at most c -/
def DrawsT (bs : List Int) (p c d : Nat) (r : AV) (H' : List Blk) : Prop := ∃ (x : T) (p' : Nat), r = .agg (tyC x.ty) ∧ x.depth ≤ d ∧ p' ≤ p + c ∧ H' = [(⟨2, 88, .mut, [[.sl (byR bs), .sc (.int .i64 ((p' : Nat) : Int))]]⟩ : Blk)]
theorem l1Draw1 (bs : List Int) (hB : Bs bs) (p : Nat) (hp : p < 1099511627776) : ACl Try.prog 81 [.one (.ptr 2 0 0 0), .one (.sc (.int .i64 1))] [(⟨2, 88, .mut, [[.sl (byR bs), .sc (.int .i64 ((p : Nat) : Int))]]⟩ : Blk)] (DrawsT bs p 2 1) := by
  have hk := num bs hB p hp [2, 1, 4, 3, 5, 2, 4] (by decide) (by decide)
  refine acl_in Try.func81 rfl isfn_81 (Nat.le_of_ble_eq_true rfl) (fun R hR => ?_); rw [Try.results81] at hR; refine wg_run ?_; (simp only [Try.f81, go_sem])
  refine wd_cl [0] (by (simp only [go_sem]); first | done | rfl) hk ?_
  clear hk
  rintro _ _ ⟨z, rfl, hz, rfl⟩
  simp only [List.mem_cons, List.not_mem_nil, or_false] at hz
  rcases hz with rfl | rfl | rfl | rfl | rfl | rfl | rfl
  all_goals
    (simp only [go_sem])
    repeat' (first | (first | ((first | refine wd_split _ (fun hb => ?_) (fun hb => ?_) | refine wd_nwant _ (fun hb => ?_) (fun hb => ?_) | refine wm_nwant _ (fun hb => ?_) (fun hb => ?_) | refine wd_want _ (fun hb => ?_) (fun hb => ?_) | refine wm_want _ (fun hb => ?_) (fun hb => ?_) | refine wt_nwant _ (fun hb => ?_) (fun hb => ?_) | refine wt_want _ (fun hb => ?_) (fun hb => ?_)) <;> (simp only [go_sem, hb])) | (refine wm_done ?_; (simp only [go_sem])) | (refine wt_done ?_; (simp only [go_sem])) | (refine wg_run ?_; (simp only [go_sem])) | (refine wt_fork (by (simp only [go_sem]); first | done | rfl) ?_ ?_ <;> (simp only [go_sem]))) | (first | refine wd_fn (by (simp only [go_sem]); first | done | rfl) (l1Kids _) ?_ | refine wm_fn (by (simp only [go_sem]); first | done | rfl) (l1Kids _) (by (simp only [go_sem]); first | done | rfl) (by (simp only [go_sem]); first | done | rfl) ?_ | refine wt_fn (by (simp only [go_sem]); first | done | rfl) (l1Kids _) (by (simp only [go_sem]); first | done | rfl) (by (simp only [go_sem]); first | done | rfl) ?_); (simp only [go_sem]) | (first | (refine wl_next (wg_run ?_); (simp only [go_sem])) | refine wd_rounds 6 ?_) | ((first | refine wd_mix 6 [0] follows (by decide +kernel) (by (simp only [go_sem]); first | done | rfl) ?_ | refine wd_mix 5 [0] follows (by decide +kernel) (by (simp only [go_sem]); first | done | rfl) ?_ | refine wd_mix 4 [0] follows (by decide +kernel) (by (simp only [go_sem]); first | done | rfl) ?_ | refine wd_mix 3 [0] follows (by decide +kernel) (by (simp only [go_sem]); first | done | rfl) ?_ | refine wd_mix 2 [0] follows (by decide +kernel) (by (simp only [go_sem]); first | done | rfl) ?_ | refine wd_mix 1 [0] follows (by decide +kernel) (by (simp only [go_sem]); first | done | rfl) ?_ | refine wd_mix 0 [0] follows (by decide +kernel) (by (simp only [go_sem]); first | done | rfl) ?_ | fail); (simp only [go_sem])))
    first
      | exact hR _ (ret_at [] (by (simp only [go_sem]); first | done | rfl) (by (simp only [go_sem]); first | done | rfl) ⟨.any, p + 1, rfl, by decide, by omega, rfl⟩)
      | exact hR _ (ret_at [] (by (simp only [go_sem]); first | done | rfl) (by (simp only [go_sem]); first | done | rfl) ⟨.int, p + 1, rfl, by decide, by omega, rfl⟩)
      | exact hR _ (ret_at [] (by (simp only [go_sem]); first | done | rfl) (by (simp only [go_sem]); first | done | rfl) ⟨.bool, p + 1, rfl, by decide, by omega, rfl⟩)
theorem l1DrawN (bs : List Int) (hB : Bs bs) (d c : Nat) (hd : 1 ≤ d) (hd4 : d ≤ 4) (M : Nat) (hM : M + c + 2 ≤ 1099511627776) (ih : ∀ p, p < M + c + 2 → ACl Try.prog 81 [.one (.ptr 2 0 0 0), .one (.sc (.int .i64 (d : Nat)))] [(⟨2, 88, .mut, [[.sl (byR bs), .sc (.int .i64 ((p : Nat) : Int))]]⟩ : Blk)] (DrawsT bs p c d)) :
    ∀ p, p < M → ACl Try.prog 81 [.one (.ptr 2 0 0 0), .one (.sc (.int .i64 ((d + 1 : Nat) : Int)))] [(⟨2, 88, .mut, [[.sl (byR bs), .sc (.int .i64 ((p : Nat) : Int))]]⟩ : Blk)] (DrawsT bs p (1 + 2 * c) (d + 1)) := by
  intro p hp
  have hd2 : decide (((d + 1 : Nat) : Int) < 2) = false := by simp; omega
  have hw : IntKind.i64.wrap (((d + 1 : Nat) : Int) - 1) = (d : Int) := by rw [IntWalk.i64_in _ (by omega)]; omega
  have hk := num bs hB p (by omega) [2, 1, 4, 3, 5, 2, 4] (by decide) (by decide)
  refine acl_in Try.func81 rfl isfn_81 (Nat.le_of_ble_eq_true rfl) (fun R hR => ?_); rw [Try.results81] at hR; refine wg_run ?_; (simp only [Try.f81, go_sem])
  refine wd_cl [0] (by (simp only [go_sem]); first | done | rfl) hk ?_
  clear hk
  rintro _ _ ⟨z, rfl, hz, rfl⟩
  simp only [List.mem_cons, List.not_mem_nil, or_false] at hz
  rcases hz with rfl | rfl | rfl | rfl | rfl | rfl | rfl
  all_goals
    (simp only [go_sem, hd2])
    repeat' (first | (first | ((first | refine wd_split _ (fun hb => ?_) (fun hb => ?_) | refine wd_nwant _ (fun hb => ?_) (fun hb => ?_) | refine wm_nwant _ (fun hb => ?_) (fun hb => ?_) | refine wd_want _ (fun hb => ?_) (fun hb => ?_) | refine wm_want _ (fun hb => ?_) (fun hb => ?_) | refine wt_nwant _ (fun hb => ?_) (fun hb => ?_) | refine wt_want _ (fun hb => ?_) (fun hb => ?_)) <;> (simp only [go_sem, hb])) | (refine wm_done ?_; (simp only [go_sem])) | (refine wt_done ?_; (simp only [go_sem])) | (refine wg_run ?_; (simp only [go_sem])) | (refine wt_fork (by (simp only [go_sem]); first | done | rfl) ?_ ?_ <;> (simp only [go_sem]))) | (first | refine wd_fn (by (simp only [go_sem]); first | done | rfl) (l1Kids _) ?_ | refine wm_fn (by (simp only [go_sem]); first | done | rfl) (l1Kids _) (by (simp only [go_sem]); first | done | rfl) (by (simp only [go_sem]); first | done | rfl) ?_ | refine wt_fn (by (simp only [go_sem]); first | done | rfl) (l1Kids _) (by (simp only [go_sem]); first | done | rfl) (by (simp only [go_sem]); first | done | rfl) ?_); (simp only [go_sem]) | (first | (refine wl_next (wg_run ?_); (simp only [go_sem])) | refine wd_rounds 6 ?_) | ((first | refine wd_mix 6 [0] follows (by decide +kernel) (by (simp only [go_sem]); first | done | rfl) ?_ | refine wd_mix 5 [0] follows (by decide +kernel) (by (simp only [go_sem]); first | done | rfl) ?_ | refine wd_mix 4 [0] follows (by decide +kernel) (by (simp only [go_sem]); first | done | rfl) ?_ | refine wd_mix 3 [0] follows (by decide +kernel) (by (simp only [go_sem]); first | done | rfl) ?_ | refine wd_mix 2 [0] follows (by decide +kernel) (by (simp only [go_sem]); first | done | rfl) ?_ | refine wd_mix 1 [0] follows (by decide +kernel) (by (simp only [go_sem]); first | done | rfl) ?_ | refine wd_mix 0 [0] follows (by decide +kernel) (by (simp only [go_sem]); first | done | rfl) ?_ | fail); (simp only [go_sem])))
  all_goals
    first
      | exact hR _ (ret_at [] (by (simp only [go_sem]); first | done | rfl) (by (simp only [go_sem]); first | done | rfl) ⟨.any, p + 1, rfl, by simp [T.depth], by omega, rfl⟩)
      | exact hR _ (ret_at [] (by (simp only [go_sem]); first | done | rfl) (by (simp only [go_sem]); first | done | rfl) ⟨.int, p + 1, rfl, by simp [T.depth], by omega, rfl⟩)
      | exact hR _ (ret_at [] (by (simp only [go_sem]); first | done | rfl) (by (simp only [go_sem]); first | done | rfl) ⟨.bool, p + 1, rfl, by simp [T.depth], by omega, rfl⟩)
      | skip
  all_goals
    (simp only [go_sem, hw])
    ((first | refine wd_cl [0] (by (simp only [go_sem]); first | done | rfl) (ih _ (by omega)) ?_ | refine wm_cl [0] (by (simp only [go_sem]); first | done | rfl) (ih _ (by omega)) (by (simp only [go_sem]); first | done | rfl) (by (simp only [go_sem]); first | done | rfl) ?_ | refine wt_cl [0] (by (simp only [go_sem]); first | done | rfl) (ih _ (by omega)) (by (simp only [go_sem]); first | done | rfl) (by (simp only [go_sem]); first | done | rfl) ?_); rintro _ _ ⟨x1, p1, rfl, hx1, hp1, rfl⟩; (simp only [go_sem]))
    repeat' (first | (first | ((first | refine wd_split _ (fun hb => ?_) (fun hb => ?_) | refine wd_nwant _ (fun hb => ?_) (fun hb => ?_) | refine wm_nwant _ (fun hb => ?_) (fun hb => ?_) | refine wd_want _ (fun hb => ?_) (fun hb => ?_) | refine wm_want _ (fun hb => ?_) (fun hb => ?_) | refine wt_nwant _ (fun hb => ?_) (fun hb => ?_) | refine wt_want _ (fun hb => ?_) (fun hb => ?_)) <;> (simp only [go_sem, hb])) | (refine wm_done ?_; (simp only [go_sem])) | (refine wt_done ?_; (simp only [go_sem])) | (refine wg_run ?_; (simp only [go_sem])) | (refine wt_fork (by (simp only [go_sem]); first | done | rfl) ?_ ?_ <;> (simp only [go_sem]))) | (first | refine wd_fn (by (simp only [go_sem]); first | done | rfl) (l1Kids _) ?_ | refine wm_fn (by (simp only [go_sem]); first | done | rfl) (l1Kids _) (by (simp only [go_sem]); first | done | rfl) (by (simp only [go_sem]); first | done | rfl) ?_ | refine wt_fn (by (simp only [go_sem]); first | done | rfl) (l1Kids _) (by (simp only [go_sem]); first | done | rfl) (by (simp only [go_sem]); first | done | rfl) ?_); (simp only [go_sem]) | (first | (refine wl_next (wg_run ?_); (simp only [go_sem])) | refine wd_rounds 6 ?_) | ((first | refine wd_mix 6 [0] follows (by decide +kernel) (by (simp only [go_sem]); first | done | rfl) ?_ | refine wd_mix 5 [0] follows (by decide +kernel) (by (simp only [go_sem]); first | done | rfl) ?_ | refine wd_mix 4 [0] follows (by decide +kernel) (by (simp only [go_sem]); first | done | rfl) ?_ | refine wd_mix 3 [0] follows (by decide +kernel) (by (simp only [go_sem]); first | done | rfl) ?_ | refine wd_mix 2 [0] follows (by decide +kernel) (by (simp only [go_sem]); first | done | rfl) ?_ | refine wd_mix 1 [0] follows (by decide +kernel) (by (simp only [go_sem]); first | done | rfl) ?_ | refine wd_mix 0 [0] follows (by decide +kernel) (by (simp only [go_sem]); first | done | rfl) ?_ | fail); (simp only [go_sem])))
    (simp only [go_sem, hw])
    ((first | refine wd_cl [0] (by (simp only [go_sem]); first | done | rfl) (ih _ (by omega)) ?_ | refine wm_cl [0] (by (simp only [go_sem]); first | done | rfl) (ih _ (by omega)) (by (simp only [go_sem]); first | done | rfl) (by (simp only [go_sem]); first | done | rfl) ?_ | refine wt_cl [0] (by (simp only [go_sem]); first | done | rfl) (ih _ (by omega)) (by (simp only [go_sem]); first | done | rfl) (by (simp only [go_sem]); first | done | rfl) ?_); rintro _ _ ⟨x2, p2, rfl, hx2, hp2, rfl⟩; (simp only [go_sem]))
    repeat' (first | (first | ((first | refine wd_split _ (fun hb => ?_) (fun hb => ?_) | refine wd_nwant _ (fun hb => ?_) (fun hb => ?_) | refine wm_nwant _ (fun hb => ?_) (fun hb => ?_) | refine wd_want _ (fun hb => ?_) (fun hb => ?_) | refine wm_want _ (fun hb => ?_) (fun hb => ?_) | refine wt_nwant _ (fun hb => ?_) (fun hb => ?_) | refine wt_want _ (fun hb => ?_) (fun hb => ?_)) <;> (simp only [go_sem, hb])) | (refine wm_done ?_; (simp only [go_sem])) | (refine wt_done ?_; (simp only [go_sem])) | (refine wg_run ?_; (simp only [go_sem])) | (refine wt_fork (by (simp only [go_sem]); first | done | rfl) ?_ ?_ <;> (simp only [go_sem]))) | (first | refine wd_fn (by (simp only [go_sem]); first | done | rfl) (l1Kids _) ?_ | refine wm_fn (by (simp only [go_sem]); first | done | rfl) (l1Kids _) (by (simp only [go_sem]); first | done | rfl) (by (simp only [go_sem]); first | done | rfl) ?_ | refine wt_fn (by (simp only [go_sem]); first | done | rfl) (l1Kids _) (by (simp only [go_sem]); first | done | rfl) (by (simp only [go_sem]); first | done | rfl) ?_); (simp only [go_sem]) | (first | (refine wl_next (wg_run ?_); (simp only [go_sem])) | refine wd_rounds 6 ?_) | ((first | refine wd_mix 6 [0] follows (by decide +kernel) (by (simp only [go_sem]); first | done | rfl) ?_ | refine wd_mix 5 [0] follows (by decide +kernel) (by (simp only [go_sem]); first | done | rfl) ?_ | refine wd_mix 4 [0] follows (by decide +kernel) (by (simp only [go_sem]); first | done | rfl) ?_ | refine wd_mix 3 [0] follows (by decide +kernel) (by (simp only [go_sem]); first | done | rfl) ?_ | refine wd_mix 2 [0] follows (by decide +kernel) (by (simp only [go_sem]); first | done | rfl) ?_ | refine wd_mix 1 [0] follows (by decide +kernel) (by (simp only [go_sem]); first | done | rfl) ?_ | refine wd_mix 0 [0] follows (by decide +kernel) (by (simp only [go_sem]); first | done | rfl) ?_ | fail); (simp only [go_sem])))
    first
      | exact hR _ (ret_at [] (by (simp only [go_sem]); first | done | rfl) (by (simp only [go_sem]); first | done | rfl) ⟨.fn x1 x2, p2, rfl, by simp only [T.depth]; omega, by omega, rfl⟩)
      | exact hR _ (ret_at [] (by (simp only [go_sem]); first | done | rfl) (by (simp only [go_sem]); first | done | rfl) ⟨.pr x1 x2, p2, rfl, by simp only [T.depth]; omega, by omega, rfl⟩)
theorem DrawsT.mono {bs : List Int} {p c d c' d' : Nat} {r : AV} {H' : List Blk} (h : DrawsT bs p c d r H') (hc : c ≤ c') (hd : d ≤ d') : DrawsT bs p c' d' r H' := by
  obtain ⟨x, p', h1, h2, h3, h4⟩ := h
  exact ⟨x, p', h1, by omega, by omega, h4⟩
/-- a draw of a type of depth at most d costs at most 23 -/
theorem l1Draw (bs : List Int) (hB : Bs bs) (d : Nat) (hd : 1 ≤ d) (hd4 : d ≤ 4) (p : Nat) (hp : p < 1000000000) : ACl Try.prog 81 [.one (.ptr 2 0 0 0), .one (.sc (.int .i64 (d : Nat)))] [(⟨2, 88, .mut, [[.sl (byR bs), .sc (.int .i64 ((p : Nat) : Int))]]⟩ : Blk)] (DrawsT bs p 23 d) := by
  have h1 : ∀ p, p < 1000001000 → ACl Try.prog 81 [.one (.ptr 2 0 0 0), .one (.sc (.int .i64 ((1 : Nat) : Int)))] [(⟨2, 88, .mut, [[.sl (byR bs), .sc (.int .i64 ((p : Nat) : Int))]]⟩ : Blk)] (DrawsT bs p 2 1) := fun p hp => l1Draw1 bs hB p (by omega)
  have h2 := l1DrawN bs hB 1 2 (by omega) (by omega) 1000000900 (by omega) (fun p hp => h1 p (by omega))
  have h3 := l1DrawN bs hB 2 5 (by omega) (by omega) 1000000800 (by omega) (fun p hp => h2 p (by omega))
  have h4 := l1DrawN bs hB 3 11 (by omega) (by omega) 1000000000 (by omega) (fun p hp => h3 p (by omega))
  obtain rfl | rfl | rfl | rfl : d = 1 ∨ d = 2 ∨ d = 3 ∨ d = 4 := by omega
  · exact (h1 p (by omega)).mono fun r H' h => h.mono (by omega) (by omega)
  · exact (h2 p (by omega)).mono fun r H' h => h.mono (by omega) (by omega)
  · exact (h3 p (by omega)).mono fun r H' h => h.mono (by omega) (by omega)
  · exact (h4 p hp).mono fun r H' h => h.mono (by omega) (by omega)
theorem l1Type (bs : List Int) (hB : Bs bs) (p : Nat) (hp : p < 999999000) : ACl Try.prog 45 [.one (.ptr 2 0 0 0)] [(⟨2, 88, .mut, [[.sl (byR bs), .sc (.int .i64 ((p : Nat) : Int))]]⟩ : Blk)] (DrawsT bs p 24 4) := by
  have hk := num bs hB p (by omega) [3, 2, 4, 1, 3] (by decide) (by decide)
  have hd : ∀ d : Nat, 1 ≤ d → d ≤ 4 → ∀ p, p < 1000000000 → ACl Try.prog 81 [.one (.ptr 2 0 0 0), .one (.sc (.int .i64 (d : Nat)))] [(⟨2, 88, .mut, [[.sl (byR bs), .sc (.int .i64 ((p : Nat) : Int))]]⟩ : Blk)] (DrawsT bs p 23 d) := fun d h1 h2 p hp => l1Draw bs hB d h1 h2 p hp
  refine acl_in Try.func45 rfl isfn_45 (Nat.le_of_ble_eq_true rfl) (fun R hR => ?_); rw [Try.results45] at hR; refine wg_run ?_; (simp only [Try.f45, go_sem])
  ((first | refine wd_cl [0] (by (simp only [go_sem]); first | done | rfl) (hk) ?_ | refine wm_cl [0] (by (simp only [go_sem]); first | done | rfl) (hk) (by (simp only [go_sem]); first | done | rfl) (by (simp only [go_sem]); first | done | rfl) ?_ | refine wt_cl [0] (by (simp only [go_sem]); first | done | rfl) (hk) (by (simp only [go_sem]); first | done | rfl) (by (simp only [go_sem]); first | done | rfl) ?_); rintro _ _ ⟨z, rfl, hz, rfl⟩; (simp only [go_sem]))
  simp only [List.mem_cons, List.not_mem_nil, or_false] at hz
  obtain ⟨d, rfl, hd1, hd4⟩ : ∃ d : Nat, z = (d : Int) ∧ 1 ≤ d ∧ d ≤ 4 := ⟨z.toNat, by omega, by omega, by omega⟩
  ((first | refine wd_cl [0] (by (simp only [go_sem]); first | done | rfl) (hd d hd1 hd4 (p + 1) (by omega)) ?_ | refine wm_cl [0] (by (simp only [go_sem]); first | done | rfl) (hd d hd1 hd4 (p + 1) (by omega)) (by (simp only [go_sem]); first | done | rfl) (by (simp only [go_sem]); first | done | rfl) ?_ | refine wt_cl [0] (by (simp only [go_sem]); first | done | rfl) (hd d hd1 hd4 (p + 1) (by omega)) (by (simp only [go_sem]); first | done | rfl) (by (simp only [go_sem]); first | done | rfl) ?_); rintro _ _ ⟨x1, p1, rfl, hx1, hp1, rfl⟩; (simp only [go_sem]))
  exact hR _ (ret_at [] (by (simp only [go_sem]); first | done | rfl) (by (simp only [go_sem]); first | done | rfl) ⟨x1, p1, rfl, by omega, by omega, rfl⟩)
theorem tys (d : Nat) (x : T) (h : x.depth ≤ d) : x.size < 2 ^ d := by
  induction x generalizing d with
  | any | int | bool => simp only [T.depth, T.size] at *; exact Nat.one_lt_two_pow (by omega)
  | fn a b iha ihb | pr a b iha ihb =>
    simp only [T.depth, T.size] at *
    obtain ⟨d, rfl⟩ : ∃ e, d = e + 1 := ⟨d - 1, by omega⟩
    have := iha d (by omega); have := ihb d (by omega)
    rw [Nat.pow_succ]; omega
theorem sizes_append (l m : List Ty) : Ty.sizes (l ++ m) = Ty.sizes l + Ty.sizes m := by
  induction l with
  | nil => simp [Ty.sizes]
  | cons x l ih => simp only [List.cons_append, Ty.sizes, ih]; omega
/-- a draw of some type, not too large -/
def DrawsY (bs : List Int) (p c n : Nat) (r : AV) (H' : List Blk) : Prop := ∃ (x : Ty) (p' : Nat), r = .agg (tyC x) ∧ x.size ≤ n ∧ p' ≤ p + c ∧ H' = [(⟨2, 88, .mut, [[.sl (byR bs), .sc (.int .i64 ((p' : Nat) : Int))]]⟩ : Blk)]
theorem l1Mutate (bs : List Int) (hB : Bs bs) (p : Nat) (hp : p < 999999000) (t : Ty) (ht : t.size < 1000000) : ACl Try.prog 47 [.one (.ptr 2 0 0 0), .agg (tyC t)] [(⟨2, 88, .mut, [[.sl (byR bs), .sc (.int .i64 ((p : Nat) : Int))]]⟩ : Blk)] (DrawsY bs p 2 (t.size + 8)) := by
  have hc := l1CopyO 1000000 (by omega) t ht
  have hk := pick bs hB p (by omega) 40 (by omega) (by omega)
  have hl : t.kids.length < 1000000 := by have := Ty.length_le_sizes t.kids; cases t; simp only [Ty.size, Ty.kids] at *; omega
  have hn := num bs hB (p + 1) (by omega) [0, 6, 1, 4, -1] (by decide) (by decide)
  have hcap : (t.kids.length + 1) * 32 ≤ 140737488355328 := by omega
  obtain ⟨k, l⟩ := t
  simp only [Ty.kids, Ty.kind] at hl hcap
  refine acl_in Try.func47 rfl isfn_47 (Nat.le_of_ble_eq_true rfl) (fun R hR => ?_); rw [Try.results47] at hR; refine wg_run ?_; (simp only [Try.f47, go_sem])
  ((first | refine wd_cl [] (by (simp only [go_sem]); first | done | rfl) (hc) ?_ | refine wm_cl [] (by (simp only [go_sem]); first | done | rfl) (hc) (by (simp only [go_sem]); first | done | rfl) (by (simp only [go_sem]); first | done | rfl) ?_ | refine wt_cl [] (by (simp only [go_sem]); first | done | rfl) (hc) (by (simp only [go_sem]); first | done | rfl) (by (simp only [go_sem]); first | done | rfl) ?_); rintro _ _ (⟨hk0, rfl, rfl⟩ | ⟨hk0, rfl, rfl⟩) <;> (simp only [go_sem]))
  · simp only [Ty.kids] at hk0
    subst hk0
    ((first | refine wd_cl [0] (by (simp only [go_sem]); first | done | rfl) (hk) ?_ | refine wm_cl [0] (by (simp only [go_sem]); first | done | rfl) (hk) (by (simp only [go_sem]); first | done | rfl) (by (simp only [go_sem]); first | done | rfl) ?_ | refine wt_cl [0] (by (simp only [go_sem]); first | done | rfl) (hk) (by (simp only [go_sem]); first | done | rfl) (by (simp only [go_sem]); first | done | rfl) ?_); rintro _ _ ⟨z, rfl, hz, hz1, rfl⟩; (simp only [go_sem]))
    repeat' (first | ((first | refine wd_split _ (fun hb => ?_) (fun hb => ?_) | refine wd_nwant _ (fun hb => ?_) (fun hb => ?_) | refine wm_nwant _ (fun hb => ?_) (fun hb => ?_) | refine wd_want _ (fun hb => ?_) (fun hb => ?_) | refine wm_want _ (fun hb => ?_) (fun hb => ?_) | refine wt_nwant _ (fun hb => ?_) (fun hb => ?_) | refine wt_want _ (fun hb => ?_) (fun hb => ?_)) <;> (simp only [go_sem, hb])) | (refine wm_done ?_; (simp only [go_sem])) | (refine wt_done ?_; (simp only [go_sem])) | (refine wg_run ?_; (simp only [go_sem])) | (refine wt_fork (by (simp only [go_sem]); first | done | rfl) ?_ ?_ <;> (simp only [go_sem])))
    · ((first | refine wd_cl [0] (by (simp only [go_sem]); first | done | rfl) (hn) ?_ | refine wm_cl [0] (by (simp only [go_sem]); first | done | rfl) (hn) (by (simp only [go_sem]); first | done | rfl) (by (simp only [go_sem]); first | done | rfl) ?_ | refine wt_cl [0] (by (simp only [go_sem]); first | done | rfl) (hn) (by (simp only [go_sem]); first | done | rfl) (by (simp only [go_sem]); first | done | rfl) ?_); rintro _ _ ⟨y, rfl, hy, rfl⟩; (simp only [go_sem]))
      exact hR _ (ret_at [] (by (simp only [go_sem]); first | done | rfl) (by (simp only [go_sem]); first | done | rfl) ⟨.mk y [], p + 2, rfl, by simp [Ty.size, Ty.sizes], by omega, rfl⟩)
    · ((first | refine wd_mix 6 [0] follows (by decide +kernel) (by (simp only [go_sem]); first | done | rfl) ?_ | refine wd_mix 5 [0] follows (by decide +kernel) (by (simp only [go_sem]); first | done | rfl) ?_ | refine wd_mix 4 [0] follows (by decide +kernel) (by (simp only [go_sem]); first | done | rfl) ?_ | refine wd_mix 3 [0] follows (by decide +kernel) (by (simp only [go_sem]); first | done | rfl) ?_ | refine wd_mix 2 [0] follows (by decide +kernel) (by (simp only [go_sem]); first | done | rfl) ?_ | refine wd_mix 1 [0] follows (by decide +kernel) (by (simp only [go_sem]); first | done | rfl) ?_ | refine wd_mix 0 [0] follows (by decide +kernel) (by (simp only [go_sem]); first | done | rfl) ?_ | fail); (simp only [go_sem]))
      repeat' (first | (first | ((first | refine wd_split _ (fun hb => ?_) (fun hb => ?_) | refine wd_nwant _ (fun hb => ?_) (fun hb => ?_) | refine wm_nwant _ (fun hb => ?_) (fun hb => ?_) | refine wd_want _ (fun hb => ?_) (fun hb => ?_) | refine wm_want _ (fun hb => ?_) (fun hb => ?_) | refine wt_nwant _ (fun hb => ?_) (fun hb => ?_) | refine wt_want _ (fun hb => ?_) (fun hb => ?_)) <;> (simp only [go_sem, hb])) | (refine wm_done ?_; (simp only [go_sem])) | (refine wt_done ?_; (simp only [go_sem])) | (refine wg_run ?_; (simp only [go_sem])) | (refine wt_fork (by (simp only [go_sem]); first | done | rfl) ?_ ?_ <;> (simp only [go_sem]))) | (first | refine wd_fn (by (simp only [go_sem]); first | done | rfl) (l1Any) ?_ | refine wm_fn (by (simp only [go_sem]); first | done | rfl) (l1Any) (by (simp only [go_sem]); first | done | rfl) (by (simp only [go_sem]); first | done | rfl) ?_ | refine wt_fn (by (simp only [go_sem]); first | done | rfl) (l1Any) (by (simp only [go_sem]); first | done | rfl) (by (simp only [go_sem]); first | done | rfl) ?_); (simp only [go_sem]))
      exact hR _ (ret_at [] (by (simp only [go_sem]); first | done | rfl) (by (simp only [go_sem]); first | done | rfl) ⟨.mk k [.mk 1 []], p + 1, rfl, by simp [Ty.size, Ty.sizes], by omega, rfl⟩)
    · repeat' (first | (first | ((first | refine wd_split _ (fun hb => ?_) (fun hb => ?_) | refine wd_nwant _ (fun hb => ?_) (fun hb => ?_) | refine wm_nwant _ (fun hb => ?_) (fun hb => ?_) | refine wd_want _ (fun hb => ?_) (fun hb => ?_) | refine wm_want _ (fun hb => ?_) (fun hb => ?_) | refine wt_nwant _ (fun hb => ?_) (fun hb => ?_) | refine wt_want _ (fun hb => ?_) (fun hb => ?_)) <;> (simp only [go_sem, hb])) | (refine wm_done ?_; (simp only [go_sem])) | (refine wt_done ?_; (simp only [go_sem])) | (refine wg_run ?_; (simp only [go_sem])) | (refine wt_fork (by (simp only [go_sem]); first | done | rfl) ?_ ?_ <;> (simp only [go_sem]))) | (first | (refine wl_next (wg_run ?_); (simp only [go_sem])) | refine wd_rounds 6 ?_) | (first | refine wd_fn (by (simp only [go_sem]); first | done | rfl) (l1Any) ?_ | refine wm_fn (by (simp only [go_sem]); first | done | rfl) (l1Any) (by (simp only [go_sem]); first | done | rfl) (by (simp only [go_sem]); first | done | rfl) ?_ | refine wt_fn (by (simp only [go_sem]); first | done | rfl) (l1Any) (by (simp only [go_sem]); first | done | rfl) (by (simp only [go_sem]); first | done | rfl) ?_); (simp only [go_sem]) | ((first | refine wd_mix 6 [0] follows (by decide +kernel) (by (simp only [go_sem]); first | done | rfl) ?_ | refine wd_mix 5 [0] follows (by decide +kernel) (by (simp only [go_sem]); first | done | rfl) ?_ | refine wd_mix 4 [0] follows (by decide +kernel) (by (simp only [go_sem]); first | done | rfl) ?_ | refine wd_mix 3 [0] follows (by decide +kernel) (by (simp only [go_sem]); first | done | rfl) ?_ | refine wd_mix 2 [0] follows (by decide +kernel) (by (simp only [go_sem]); first | done | rfl) ?_ | refine wd_mix 1 [0] follows (by decide +kernel) (by (simp only [go_sem]); first | done | rfl) ?_ | refine wd_mix 0 [0] follows (by decide +kernel) (by (simp only [go_sem]); first | done | rfl) ?_ | fail); (simp only [go_sem])))
      exact hR _ (ret_at [] (by (simp only [go_sem]); first | done | rfl) (by (simp only [go_sem]); first | done | rfl) ⟨.mk 4 [.mk 1 [], .mk 4 [.mk 1 [], .mk 4 [.mk 1 [], .mk 4 [.mk 1 [], .mk k []]]]], p + 1, rfl, by simp [Ty.size, Ty.sizes], by omega, rfl⟩)
    · exact hR _ (ret_at [] (by (simp only [go_sem]); first | done | rfl) (by (simp only [go_sem]); first | done | rfl) ⟨.mk k [], p + 1, rfl, by simp [Ty.size, Ty.sizes], by omega, rfl⟩)
  · simp only [Ty.kids] at hk0
    ((first | refine wd_cl [0] (by (simp only [go_sem]); first | done | rfl) (hk) ?_ | refine wm_cl [0] (by (simp only [go_sem]); first | done | rfl) (hk) (by (simp only [go_sem]); first | done | rfl) (by (simp only [go_sem]); first | done | rfl) ?_ | refine wt_cl [0] (by (simp only [go_sem]); first | done | rfl) (hk) (by (simp only [go_sem]); first | done | rfl) (by (simp only [go_sem]); first | done | rfl) ?_); rintro _ _ ⟨z, rfl, hz, hz1, rfl⟩; (simp only [go_sem]))
    repeat' (first | ((first | refine wd_split _ (fun hb => ?_) (fun hb => ?_) | refine wd_nwant _ (fun hb => ?_) (fun hb => ?_) | refine wm_nwant _ (fun hb => ?_) (fun hb => ?_) | refine wd_want _ (fun hb => ?_) (fun hb => ?_) | refine wm_want _ (fun hb => ?_) (fun hb => ?_) | refine wt_nwant _ (fun hb => ?_) (fun hb => ?_) | refine wt_want _ (fun hb => ?_) (fun hb => ?_)) <;> (simp only [go_sem, hb])) | (refine wm_done ?_; (simp only [go_sem])) | (refine wt_done ?_; (simp only [go_sem])) | (refine wg_run ?_; (simp only [go_sem])) | (refine wt_fork (by (simp only [go_sem]); first | done | rfl) ?_ ?_ <;> (simp only [go_sem])))
    · ((first | refine wd_cl [0] (by (simp only [go_sem]); first | done | rfl) (hn) ?_ | refine wm_cl [0] (by (simp only [go_sem]); first | done | rfl) (hn) (by (simp only [go_sem]); first | done | rfl) (by (simp only [go_sem]); first | done | rfl) ?_ | refine wt_cl [0] (by (simp only [go_sem]); first | done | rfl) (hn) (by (simp only [go_sem]); first | done | rfl) (by (simp only [go_sem]); first | done | rfl) ?_); rintro _ _ ⟨y, rfl, hy, rfl⟩; (simp only [go_sem]))
      exact hR _ (ret_at [] (by (simp only [go_sem]); first | done | rfl) (by (simp only [go_sem]); first | done | rfl) ⟨.mk y l, p + 2, rfl, by simp [Ty.size, Ty.sizes], by omega, rfl⟩)
    · ((first | refine wd_mix 6 [0] follows (by decide +kernel) (by (simp only [go_sem]); first | done | rfl) ?_ | refine wd_mix 5 [0] follows (by decide +kernel) (by (simp only [go_sem]); first | done | rfl) ?_ | refine wd_mix 4 [0] follows (by decide +kernel) (by (simp only [go_sem]); first | done | rfl) ?_ | refine wd_mix 3 [0] follows (by decide +kernel) (by (simp only [go_sem]); first | done | rfl) ?_ | refine wd_mix 2 [0] follows (by decide +kernel) (by (simp only [go_sem]); first | done | rfl) ?_ | refine wd_mix 1 [0] follows (by decide +kernel) (by (simp only [go_sem]); first | done | rfl) ?_ | refine wd_mix 0 [0] follows (by decide +kernel) (by (simp only [go_sem]); first | done | rfl) ?_ | fail); (simp only [go_sem]))
      repeat' (first | (first | (simp only [go_sem, hcap]) | ((first | refine wd_split _ (fun hb => ?_) (fun hb => ?_) | refine wd_nwant _ (fun hb => ?_) (fun hb => ?_) | refine wm_nwant _ (fun hb => ?_) (fun hb => ?_) | refine wd_want _ (fun hb => ?_) (fun hb => ?_) | refine wm_want _ (fun hb => ?_) (fun hb => ?_) | refine wt_nwant _ (fun hb => ?_) (fun hb => ?_) | refine wt_want _ (fun hb => ?_) (fun hb => ?_)) <;> (simp only [go_sem, hb, hcap])) | (refine wm_done ?_; (simp only [go_sem, hcap])) | (refine wt_done ?_; (simp only [go_sem, hcap])) | (refine wg_run ?_; (simp only [go_sem, hcap])) | (refine wt_fork (by (simp only [go_sem]); first | done | rfl) ?_ ?_ <;> (simp only [go_sem, hcap]))) | (first | refine wd_fn (by (simp only [go_sem]); first | done | rfl) (l1Any) ?_ | refine wm_fn (by (simp only [go_sem]); first | done | rfl) (l1Any) (by (simp only [go_sem]); first | done | rfl) (by (simp only [go_sem]); first | done | rfl) ?_ | refine wt_fn (by (simp only [go_sem]); first | done | rfl) (l1Any) (by (simp only [go_sem]); first | done | rfl) (by (simp only [go_sem]); first | done | rfl) ?_); (simp only [go_sem]))
      refine hR _ (ret_at [] (by (simp only [go_sem]); first | done | rfl) (by (simp only [go_sem]); first | done | rfl) ⟨Ty.mk k (l ++ [Ty.mk 1 []]), p + 1, ?_, ?_, by omega, rfl⟩)
      · rw [tyC_eq (Ty.mk k (l ++ [Ty.mk 1 []])), kind_mk, kids_mk, tyR_append]; rfl
      · simp only [Ty.size, sizes_append, Ty.sizes]; omega
    · repeat' (first | (first | ((first | refine wd_split _ (fun hb => ?_) (fun hb => ?_) | refine wd_nwant _ (fun hb => ?_) (fun hb => ?_) | refine wm_nwant _ (fun hb => ?_) (fun hb => ?_) | refine wd_want _ (fun hb => ?_) (fun hb => ?_) | refine wm_want _ (fun hb => ?_) (fun hb => ?_) | refine wt_nwant _ (fun hb => ?_) (fun hb => ?_) | refine wt_want _ (fun hb => ?_) (fun hb => ?_)) <;> (simp only [go_sem, hb])) | (refine wm_done ?_; (simp only [go_sem])) | (refine wt_done ?_; (simp only [go_sem])) | (refine wg_run ?_; (simp only [go_sem])) | (refine wt_fork (by (simp only [go_sem]); first | done | rfl) ?_ ?_ <;> (simp only [go_sem]))) | (first | (refine wl_next (wg_run ?_); (simp only [go_sem])) | refine wd_rounds 6 ?_) | (first | refine wd_fn (by (simp only [go_sem]); first | done | rfl) (l1Any) ?_ | refine wm_fn (by (simp only [go_sem]); first | done | rfl) (l1Any) (by (simp only [go_sem]); first | done | rfl) (by (simp only [go_sem]); first | done | rfl) ?_ | refine wt_fn (by (simp only [go_sem]); first | done | rfl) (l1Any) (by (simp only [go_sem]); first | done | rfl) (by (simp only [go_sem]); first | done | rfl) ?_); (simp only [go_sem]) | ((first | refine wd_mix 6 [0] follows (by decide +kernel) (by (simp only [go_sem]); first | done | rfl) ?_ | refine wd_mix 5 [0] follows (by decide +kernel) (by (simp only [go_sem]); first | done | rfl) ?_ | refine wd_mix 4 [0] follows (by decide +kernel) (by (simp only [go_sem]); first | done | rfl) ?_ | refine wd_mix 3 [0] follows (by decide +kernel) (by (simp only [go_sem]); first | done | rfl) ?_ | refine wd_mix 2 [0] follows (by decide +kernel) (by (simp only [go_sem]); first | done | rfl) ?_ | refine wd_mix 1 [0] follows (by decide +kernel) (by (simp only [go_sem]); first | done | rfl) ?_ | refine wd_mix 0 [0] follows (by decide +kernel) (by (simp only [go_sem]); first | done | rfl) ?_ | fail); (simp only [go_sem])))
      exact hR _ (ret_at [] (by (simp only [go_sem]); first | done | rfl) (by (simp only [go_sem]); first | done | rfl) ⟨.mk 4 [.mk 1 [], .mk 4 [.mk 1 [], .mk 4 [.mk 1 [], .mk 4 [.mk 1 [], .mk k l]]]], p + 1, rfl, by simp [Ty.size, Ty.sizes]; omega, by omega, rfl⟩)
    · exact hR _ (ret_at [] (by (simp only [go_sem]); first | done | rfl) (by (simp only [go_sem]); first | done | rfl) ⟨.mk k l, p + 1, rfl, by simp [Ty.size, Ty.sizes], by omega, rfl⟩)
end Go.Proofs.Ytbiobfbonpiiiaa
