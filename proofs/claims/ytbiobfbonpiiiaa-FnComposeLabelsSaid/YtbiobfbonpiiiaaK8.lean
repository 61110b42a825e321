/- Texts of the proof, one behind another. -/
import Derived.Test.YtbiobfbonpiiiaaK4
import Derived.Test.YtbiobfbonpiiiaaK5
import Derived.Test.YtbiobfbonpiiiaaK7
set_option linter.unusedSimpArgs false
set_option linter.unusedVariables false
/- The plain laws of subtyping. -/
namespace Go.Proofs.Grad

theorem T.cons_symm (a : T) : ∀ b : T, a.cons b = b.cons a := by
  induction a with
  | fn a b iha ihb => intro c; cases c <;> simp [T.cons, iha, ihb]
  | pr a b iha ihb => intro c; cases c <;> simp [T.cons, iha, ihb]
  | _ => intro c; cases c <;> simp [T.cons]

theorem T.sub_trans' : ∀ (n : Nat) (a b c : T), a.size + b.size + c.size < n → a.sub b = true → b.sub c = true → a.sub c = true := by
  intro n
  induction n with
  | zero => intro a b c h; omega
  | succ n ih =>
    intro a b c hn h1 h2
    cases a <;> cases b <;> cases c <;> simp [T.sub] at h1 h2 ⊢ <;> simp only [T.size] at hn <;>
      first
      | exact h1
      | exact ⟨ih _ _ _ (by (try simp only [T.size]); omega) h1.1 h2.1, ih _ _ _ (by (try simp only [T.size]); omega) h1.2 h2.2⟩
      | exact ⟨ih _ _ _ (by (try simp only [T.size]); omega) h2.1 h1.1, ih _ _ _ (by (try simp only [T.size]); omega) h1.2 h2.2⟩
theorem T.sub_trans {a b c : T} (h1 : a.sub b = true) (h2 : b.sub c = true) : a.sub c = true := T.sub_trans' _ a b c (Nat.lt_succ_self _) h1 h2

theorem T.sub_cons' : ∀ (n : Nat) (a b : T), a.size + b.size < n → a.sub b = true → a.cons b = true := by
  intro n
  induction n with
  | zero => intro a b h; omega
  | succ n ih =>
    intro a b hn h1
    cases a <;> cases b <;> simp [T.sub, T.cons] at h1 ⊢ <;> simp only [T.size] at hn <;>
      first
      | exact ⟨ih _ _ (by omega) h1.1, ih _ _ (by omega) h1.2⟩
      | exact ⟨by rw [T.cons_symm]; exact ih _ _ (by omega) h1.1, ih _ _ (by omega) h1.2⟩
theorem T.sub_cons {a b : T} (h1 : a.sub b = true) : a.cons b = true := T.sub_cons' _ a b (Nat.lt_succ_self _) h1

theorem T.prec_eq' : ∀ (n : Nat) (a b : T), a.size + b.size < n → a.prec b = (a.pos b && b.neg a) := by
  intro n
  induction n with
  | zero => intro a b h; omega
  | succ n ih =>
    intro a b hn
    cases a <;> cases b <;> simp [T.prec, T.pos, T.neg] <;> simp only [T.size] at hn <;>
      (rw [ih _ _ (by omega), ih _ _ (by omega)]; grind)
theorem T.prec_eq (a b : T) : a.prec b = (a.pos b && b.neg a) := T.prec_eq' _ a b (Nat.lt_succ_self _)

theorem T.sub_pn' : ∀ (n : Nat) (a b : T), a.size + b.size < n → a.sub b = (a.pos b && a.neg b) := by
  intro n
  induction n with
  | zero => intro a b h; omega
  | succ n ih =>
    intro a b hn
    cases a <;> cases b <;> simp [T.sub, T.pos, T.neg] <;> simp only [T.size] at hn <;>
      (rw [ih _ _ (by (try simp only [T.size]); omega), ih _ _ (by (try simp only [T.size]); omega)]; (try simp [T.pos_any, T.any_neg]); try grind)
theorem T.sub_pn (a b : T) : a.sub b = (a.pos b && a.neg b) := T.sub_pn' _ a b (Nat.lt_succ_self _)

theorem T.sub_refl (a : T) : a.sub a = true := by
  induction a <;> simp [T.sub, *]

theorem T.sub_static : ∀ (n : Nat) (a b : T), a.size + b.size < n → a.count = 0 → b.count = 0 → a.sub b = decide (a = b) := by
  intro n
  induction n with
  | zero => intro a b h; omega
  | succ n ih =>
    intro a b hn h1 h2
    cases a <;> cases b <;> simp [T.sub, T.count] at h1 h2 ⊢ <;> simp only [T.size] at hn <;>
      (rw [ih _ _ (by omega) (by omega) (by omega), ih _ _ (by omega) (by omega) (by omega)]; try grind)
end Go.Proofs.Grad
/- Typing of coercions; identities; heights. No program, no world. -/
namespace Go.Proofs.Grad
/-- the ground type of a kind -/
def gT (k : Int) : T := if k = 2 then .int else if k = 3 then .bool else if k = 4 then .fn .any .any else if k = 5 then .pr .any .any else .any
theorem gT_kind (x : T) : gT x.kind = x.ground := by cases x <;> rfl
def K.typed : K → T → T → Bool
  | .id g, a, b => a.kind == g && b.kind == g
  | .fn c d, .fn a1 a2, .fn b1 b2 => c.typed b1 a1 && d.typed a2 b2
  | .pr c d, .pr a1 a2, .pr b1 b2 => c.typed a1 b1 && d.typed a2 b2
  | .inj c, a, b => b.kind == 1 && (a.kind == c.tag && c.typed a a.ground)
  | .prj _ c, a, b => a.kind == 1 && c.typed (gT c.tag) b
  | .fail _ g, a, _ => a.kind == g
  | _, _, _ => false
theorem T.kind_any {a : T} (h : a.kind = 1) : a = .any := by cases a <;> simp [T.kind] at h; rfl
theorem K.typed_plain {c : K} {a b : T} (h : c.typed a b = true) (hc : c.plain = true) : a.kind = c.tag ∧ b.kind = c.tag := by
  cases c <;> simp only [K.plain, Bool.false_eq_true] at hc <;> cases a <;> cases b <;> simp_all [K.typed, T.kind, K.tag]
theorem K.typed_comp (n : Nat) : ∀ (a b k : K) (x y z : T), a.size + b.size < n → a.comp b = some k → a.wf = true → b.wf = true → a.typed x y = true → b.typed y z = true → k.typed x z = true := by
  induction n with
  | zero => intro a b k x y z h; omega
  | succ n ih =>
    intro a b k x y z hs h1 wa wb t1 t2
    rcases K.cases4 a with pa | rfl | ⟨a', rfl⟩ | ⟨l, a', rfl⟩ | ⟨l, g, rfl⟩
    · rcases K.cases4 b with pb | rfl | ⟨b', rfl⟩ | ⟨m, b', rfl⟩ | ⟨m, g', rfl⟩
      · rcases K.comp_pp a b k h1 pa pb with ⟨g, rfl, rfl, rfl⟩ | ⟨a1, a2, b1, b2, u, v, rfl, rfl, h5, h6, rfl⟩ | ⟨a1, a2, b1, b2, u, v, rfl, rfl, h5, h6, rfl⟩
        · simp_all [K.typed]
        · cases x <;> (try simp only [K.typed, Bool.false_eq_true] at t1)
          cases y <;> (try simp only [K.typed, Bool.false_eq_true] at t1)
          cases z <;> (try simp only [K.typed, Bool.false_eq_true] at t2)
          simp only [K.size, K.wf, Bool.and_eq_true] at hs wa wb t1 t2
          simp only [K.typed, Bool.and_eq_true]
          exact ⟨ih _ _ _ _ _ _ (by omega) h5 wb.1 wa.1 t2.1 t1.1, ih _ _ _ _ _ _ (by omega) h6 wa.2 wb.2 t1.2 t2.2⟩
        · cases x <;> (try simp only [K.typed, Bool.false_eq_true] at t1)
          cases y <;> (try simp only [K.typed, Bool.false_eq_true] at t1)
          cases z <;> (try simp only [K.typed, Bool.false_eq_true] at t2)
          simp only [K.size, K.wf, Bool.and_eq_true] at hs wa wb t1 t2
          simp only [K.typed, Bool.and_eq_true]
          exact ⟨ih _ _ _ _ _ _ (by omega) h5 wa.1 wb.1 t1.1 t2.1, ih _ _ _ _ _ _ (by omega) h6 wa.2 wb.2 t1.2 t2.2⟩
      · rw [K.ceq_pa a pa] at h1; cases h1
      · rw [K.ceq_pi a b' pa] at h1
        simp only [Option.map_eq_some_iff] at h1
        obtain ⟨k', h5, rfl⟩ := h1
        simp only [K.wf, Bool.and_eq_true] at wb
        have ht := K.comp_tag2 a b' k' h5 pa wb.1
        have h7 := K.typed_plain t1 pa
        simp only [K.typed, Bool.and_eq_true, beq_iff_eq, K.size] at t2 hs ⊢
        have hg : x.ground = y.ground := by rw [← gT_kind, ← gT_kind, h7.1, h7.2]
        exact ⟨t2.1, by rw [h7.1, ht.1, ht.2], by rw [hg]; exact ih _ _ _ _ _ _ (by omega) h5 wa wb.2 t1 t2.2.2⟩
      · rw [K.ceq_pp a m b' pa] at h1; cases h1
      · rw [K.ceq_pf a _ _ pa] at h1
        split at h1 <;> simp only [reduceCtorEq, Option.some.injEq] at h1
        rename_i h5
        subst h1
        have h7 := K.typed_plain t1 pa
        simp only [K.typed, beq_iff_eq]; rw [h7.1, h5]
    · rw [K.ceq_any] at h1
      split at h1 <;> simp only [reduceCtorEq, Option.some.injEq] at h1
      subst h1
      simp only [K.typed, Bool.and_eq_true, beq_iff_eq] at t1
      have e1 := T.kind_any t1.1; have e2 := T.kind_any t1.2
      subst e1 e2; exact t2
    · simp only [K.wf, Bool.and_eq_true] at wa
      have t1' := t1
      simp only [K.typed, Bool.and_eq_true, beq_iff_eq] at t1
      rcases K.cases4 b with pb | rfl | ⟨b', rfl⟩ | ⟨m, b', rfl⟩ | ⟨m, g', rfl⟩
      · rw [K.ceq_in _ b (K.plain_np pb).1, (K.plain_np pb).2] at h1; cases h1
      · rw [K.ceq_in _ _ rfl] at h1
        simp only [K.isAny_id, BEq.rfl, if_true, Option.some.injEq] at h1
        subst h1
        simp only [K.typed, Bool.and_eq_true, beq_iff_eq] at t2
        have e1 := T.kind_any t2.1; have e2 := T.kind_any t2.2
        subst e1 e2; exact t1'
      · rw [K.ceq_in _ _ rfl, K.isAny_inj] at h1; cases h1
      · rw [K.ceq_ij] at h1
        simp only [K.typed, Bool.and_eq_true, beq_iff_eq] at t2
        split at h1
        · rename_i h6
          simp only [K.size, K.wf, Bool.and_eq_true] at hs wb
          have e : x.ground = gT b'.tag := by rw [← h6, ← t1.2.1, gT_kind]
          exact ih _ _ _ _ _ _ (by omega) h1 wa.2 wb.2 (by rw [← e]; exact t1.2.2) t2.2
        · cases h1
          simp only [K.typed, beq_iff_eq]; exact t1.2.1
      · rw [K.ceq_in _ _ rfl, K.isAny_fail] at h1; cases h1
    · rw [K.ceq_prj] at h1
      simp only [Option.map_eq_some_iff] at h1
      obtain ⟨k', h5, rfl⟩ := h1
      simp only [K.size, K.wf, Bool.and_eq_true, Bool.not_eq_true'] at hs wa
      simp only [K.typed, Bool.and_eq_true, beq_iff_eq] at t1 ⊢
      have ht := K.comp_tag a' b k' h5 wa.2 wa.1.1.2 wa.1.2
      exact ⟨t1.1, by rw [ht]; exact ih _ _ _ _ _ _ (by omega) h5 wa.2 wb t1.2 t2⟩
    · rw [K.ceq_fail] at h1
      cases h1
      simpa [K.typed] using t1
theorem T.cast_typed (n : Nat) : ∀ (a b : T) (l : Int), a.size + b.size < n → a.cons b = true → (T.cast a b l).typed a b = true := by
  induction n with
  | zero => intro a b l h; omega
  | succ n ih =>
    intro a b l hs h
    have p1 := T.size_pos
    cases a <;> cases b <;> simp only [T.cons, Bool.false_eq_true, Bool.and_eq_true] at h <;> simp only [T.size] at hs <;> simp only [T.cast, K.typed, T.kind, K.tag, gT, T.ground, BEq.rfl, Bool.true_and, Bool.and_self, Int.reduceEq, if_true, if_false, Bool.and_eq_true]
    all_goals (try exact ⟨ih _ _ _ (by first | omega | (simp only [T.size]; omega)) (by first | rfl | exact T.cons_any _ | exact h.1 | (rw [T.cons_symm]; first | exact T.cons_any _ | exact h.1)), ih _ _ _ (by first | omega | (simp only [T.size]; omega)) (by first | rfl | exact T.cons_any _ | exact h.2)⟩)
    all_goals (first | rfl | skip)
/-- the identity of a type -/
def T.idK : T → K
  | .any => .id 1 | .int => .id 2 | .bool => .id 3
  | .fn a b => .fn a.idK b.idK | .pr a b => .pr a.idK b.idK
theorem T.cast_self (a : T) (l : Int) : T.cast a a l = a.idK := by
  induction a generalizing l with
  | any | int | bool => simp [T.cast, T.idK]
  | fn a b iha ihb | pr a b iha ihb => simp [T.cast, T.idK, iha, ihb]
theorem T.idK_plain (a : T) (h : a.kind ≠ 1) : a.idK.plain = true ∧ a.idK.tag = a.kind := by
  cases a <;> simp_all [T.idK, T.kind, K.plain, K.tag]
theorem K.typed_tag {c : K} {x y : T} (h : c.typed x y = true) (wc : c.wf = true) (h1 : c.isPrj = false) (h2 : c.isAny = false) : x.kind = c.tag := by
  rcases K.cases4 c with pc | rfl | ⟨c', rfl⟩ | ⟨l, c', rfl⟩ | ⟨l, g, rfl⟩
  · exact (K.typed_plain h pc).1
  · cases h2
  · simp only [K.typed, Bool.and_eq_true, beq_iff_eq] at h; simp only [K.tag]; exact h.2.1
  · cases h1
  · simp only [K.typed, beq_iff_eq] at h; exact h
theorem K.idK_neutral (n : Nat) : ∀ (c : K), c.size < n → c.wf = true → (∀ k x y, c.typed x y = true → x.idK.comp c = some k → k = c) ∧ (∀ k x y, c.typed x y = true → c.comp y.idK = some k → k = c) := by
  induction n with
  | zero => intro c h; omega
  | succ n ih =>
    intro c hs wc
    rcases c with ⟨g⟩ | ⟨c1, c2⟩ | ⟨c1, c2⟩ | ⟨c1⟩ | ⟨l, c1⟩ | ⟨l, g⟩
    · refine ⟨fun k x y ht h => ?_, fun k x y ht h => ?_⟩ <;> simp only [K.typed, Bool.and_eq_true, beq_iff_eq] at ht
      · cases x <;> simp only [T.kind] at ht <;> (obtain ⟨rfl, _⟩ := ht) <;> simp_all [T.idK, K.comp, K.wf, K.isPrj, K.isAny]
      · cases y <;> simp only [T.kind] at ht <;> (obtain ⟨_, rfl⟩ := ht) <;> simp_all [T.idK, K.comp, K.wf, K.isPrj, K.isAny]
    · simp only [K.size, K.wf, Bool.and_eq_true] at hs wc
      have i1 := ih c1 (by omega) wc.1; have i2 := ih c2 (by omega) wc.2
      refine ⟨fun k x y ht h => ?_, fun k x y ht h => ?_⟩
      all_goals
        cases x <;> (try simp only [K.typed, Bool.false_eq_true] at ht)
        cases y <;> simp only [K.typed, Bool.false_eq_true, Bool.and_eq_true] at ht
        rcases K.comp_pp _ _ k h rfl rfl with ⟨g, h7, h7', rfl⟩ | ⟨b1', b2', d1, d2, u', v', h7, h7', h8, h9, rfl⟩ | ⟨b1', b2', d1, d2, u', v', h7, h7', h8, h9, rfl⟩ <;> cases h7 <;> cases h7'
      · rw [i1.2 _ _ _ ht.1 h8, i2.1 _ _ _ ht.2 h9]
      · rw [i1.1 _ _ _ ht.1 h8, i2.2 _ _ _ ht.2 h9]
    · simp only [K.size, K.wf, Bool.and_eq_true] at hs wc
      have i1 := ih c1 (by omega) wc.1; have i2 := ih c2 (by omega) wc.2
      refine ⟨fun k x y ht h => ?_, fun k x y ht h => ?_⟩
      all_goals
        cases x <;> (try simp only [K.typed, Bool.false_eq_true] at ht)
        cases y <;> simp only [K.typed, Bool.false_eq_true, Bool.and_eq_true] at ht
        rcases K.comp_pp _ _ k h rfl rfl with ⟨g, h7, h7', rfl⟩ | ⟨b1', b2', d1, d2, u', v', h7, h7', h8, h9, rfl⟩ | ⟨b1', b2', d1, d2, u', v', h7, h7', h8, h9, rfl⟩ <;> cases h7 <;> cases h7'
      · rw [i1.1 _ _ _ ht.1 h8, i2.1 _ _ _ ht.2 h9]
      · rw [i1.2 _ _ _ ht.1 h8, i2.2 _ _ _ ht.2 h9]
    · simp only [K.size, K.wf, Bool.and_eq_true] at hs wc
      have i1 := ih c1 (by omega) wc.2
      refine ⟨fun k x y ht h => ?_, fun k x y ht h => ?_⟩ <;> simp only [K.typed, Bool.and_eq_true, beq_iff_eq] at ht
      · have ht2 := K.plain_tag wc.1 wc.2
        have hp := T.idK_plain x (by omega)
        rw [K.ceq_pi _ _ hp.1] at h
        simp only [Option.map_eq_some_iff] at h
        obtain ⟨k', h5, rfl⟩ := h
        rw [i1.1 _ _ _ ht.2.2 h5]
      · have e := T.kind_any ht.1
        subst e
        rw [T.idK, K.ceq_in _ _ rfl] at h
        simpa [K.isAny] using h.symm
    · simp only [K.size, K.wf, Bool.and_eq_true] at hs wc
      have i1 := ih c1 (by omega) wc.2
      refine ⟨fun k x y ht h => ?_, fun k x y ht h => ?_⟩ <;> simp only [K.typed, Bool.and_eq_true, beq_iff_eq] at ht
      · have e := T.kind_any ht.1
        subst e
        rw [T.idK, K.ceq_any] at h
        simpa [K.isPrj] using h.symm
      · rw [K.ceq_prj] at h
        simp only [Option.map_eq_some_iff] at h
        obtain ⟨k', h5, rfl⟩ := h
        rw [i1.2 _ _ _ ht.2 h5]
    · refine ⟨fun k x y ht h => ?_, fun k x y ht h => ?_⟩ <;> simp only [K.typed, beq_iff_eq] at ht
      · simp only [K.wf, Bool.and_eq_true, decide_eq_true_eq] at wc
        have hp := T.idK_plain x (by omega)
        rw [K.ceq_pf _ _ _ hp.1] at h
        split at h <;> simp at h
        exact h.symm
      · rw [K.ceq_fail] at h
        exact (Option.some.inj h).symm
theorem T.idK_ident (a : T) : a.idK.ident = true ∧ a.idK.wf = true ∧ a.idK.depth = a.depth ∧ a.idK.labels = [] := by
  induction a <;> simp_all [T.idK, K.ident, K.wf, K.depth, T.depth, K.labels]
theorem K.ident_comp (c : K) (h : c.ident = true) : c.comp c = some c ∧ c.labels = [] := by
  induction c <;> simp_all [K.ident, K.comp, K.labels, K.isAny, K.isPrj]
theorem K.height_size (k : K) : 1 ≤ k.height ∧ k.height ≤ k.size := by
  induction k <;> simp only [K.height, K.size] <;> omega
theorem K.height_depth (k : K) : k.height ≤ k.depth := by
  induction k <;> simp only [K.height, K.depth] <;> omega
theorem K.comp_height (a b : K) : ∀ k, a.comp b = some k → k.height ≤ max a.height b.height := by
  fun_induction K.comp a b <;> intro k hk <;> simp_all [K.height]
  all_goals (try grind [K.height, K.height_size])
theorem T.cast_height (a b : T) (l : Int) : (T.cast a b l).height ≤ max a.depth b.depth := by
  have h1 := T.depth_pos
  fun_induction T.cast a b l <;> simp only [K.height, T.depth] at * <;> (try omega)
  all_goals grind
end Go.Proofs.Grad
/- Identity coercions, in the program and in the reference. On shadows. -/
namespace Go.Proofs.Grad
mutual
/-- of the nodes of identities only -/
def Co.idn : Co → Bool
  | .mk k _ _ l => (k == 1 || (k == 2 || k == 3)) && Co.idns l
def Co.idns : List Co → Bool
  | [] => true
  | t :: l => t.idn && Co.idns l
end
theorem Co.idns_any (l : List Co) : Co.idns l = !(l.any fun c => !c.idn) := by
  induction l with
  | nil => rfl
  | cons t l ih => simp [Co.idns, ih]
theorem K.co_idn (k : K) : k.co.idn = k.ident := by
  induction k with
  | id g => rfl
  | fail l g => rfl
  | fn a b iha ihb | pr a b iha ihb => simp [K.co, Co.idn, Co.idns, K.ident, iha, ihb]
  | inj c ih => simp [K.co, Co.idn, K.ident]
  | prj l c ih => simp [K.co, Co.idn, K.ident]
noncomputable def Co.ident (c : Co) : Bool := match c.k? with | some k => k.ident | none => false
end Go.Proofs.Grad
namespace Go.Proofs.Ytbiobfbonpiiiaa
open Go.RowKit Go.Proofs.Sh Go.Proofs.Grad
set_option maxRecDepth 100000
set_option maxHeartbeats 8000000
theorem coIdent (n : Nat) (hn : n ≤ 4611686018427387904) : ∀ c : Co, c.size < n → AFn Try.prog 71 [.agg (coC c)] (.one (.sc (.bool c.idn))) := by
  induction n with
  | zero => intro c h; omega
  | succ n ih =>
    intro c h
    have hl := colen_lt c
    have hc := fn_in (coContainsFunc0 106 (fun c => !c.idn) c.kids (by omega) (by
      intro k hk
      have hi := ih (by omega) (coKid c.kids k) (by have := coKid_lt hk; omega)
      refine acl_in Try.func106 rfl isfn_106 (Nat.le_of_ble_eq_true rfl) (fun R hR => ?_); rw [Try.results106] at hR; refine wg_run ?_; (simp only [Try.f106, go_sem])
      repeat' (first | (first | ((first | refine wd_split _ (fun hb => ?_) (fun hb => ?_) | refine wd_nwant _ (fun hb => ?_) (fun hb => ?_) | refine wm_nwant _ (fun hb => ?_) (fun hb => ?_) | refine wd_want _ (fun hb => ?_) (fun hb => ?_) | refine wm_want _ (fun hb => ?_) (fun hb => ?_) | refine wt_nwant _ (fun hb => ?_) (fun hb => ?_) | refine wt_want _ (fun hb => ?_) (fun hb => ?_)) <;> (simp only [go_sem, hb])) | (refine wm_done ?_; (simp only [go_sem])) | (refine wt_done ?_; (simp only [go_sem])) | (refine wg_run ?_; (simp only [go_sem])) | (refine wt_fork (by (simp only [go_sem]); first | done | rfl) ?_ ?_ <;> (simp only [go_sem]))) | (first | refine wd_fn (by (simp only [go_sem]); first | done | rfl) (hi) ?_ | refine wm_fn (by (simp only [go_sem]); first | done | rfl) (hi) (by (simp only [go_sem]); first | done | rfl) (by (simp only [go_sem]); first | done | rfl) ?_ | refine wt_fn (by (simp only [go_sem]); first | done | rfl) (hi) (by (simp only [go_sem]); first | done | rfl) (by (simp only [go_sem]); first | done | rfl) ?_); (simp only [go_sem]))
      (refine hR _ (ret_at [] (by (simp only [go_sem]); first | done | rfl) (by (simp only [go_sem]); first | done | rfl) ⟨?_, rfl⟩))
      rfl))
    clear ih
    have he : c.idn = ((c.kind == 1 || (c.kind == 2 || c.kind == 3)) && !(c.kids.any fun c => !c.idn)) := by cases c; simp only [Co.idn, Co.kind, Co.kids, Co.idns_any]
    rw [he]
    generalize (c.kids.any fun c => !c.idn) = bb at *
    refine fn_in ?_; refine acl_in Try.func71 rfl isfn_71 (Nat.le_of_ble_eq_true rfl) (fun R hR => ?_); rw [Try.results71] at hR; refine wg_run ?_; (simp only [Try.f71, go_sem])
    repeat' (first | (first | ((first | refine wd_split _ (fun hb => ?_) (fun hb => ?_) | refine wd_nwant _ (fun hb => ?_) (fun hb => ?_) | refine wm_nwant _ (fun hb => ?_) (fun hb => ?_) | refine wd_want _ (fun hb => ?_) (fun hb => ?_) | refine wm_want _ (fun hb => ?_) (fun hb => ?_) | refine wt_nwant _ (fun hb => ?_) (fun hb => ?_) | refine wt_want _ (fun hb => ?_) (fun hb => ?_)) <;> (simp only [go_sem, hb])) | (refine wm_done ?_; (simp only [go_sem])) | (refine wt_done ?_; (simp only [go_sem])) | (refine wg_run ?_; (simp only [go_sem])) | (refine wt_fork (by (simp only [go_sem]); first | done | rfl) ?_ ?_ <;> (simp only [go_sem]))) | (first | refine wd_fn (by (simp only [go_sem]); first | done | rfl) (hc) ?_ | refine wm_fn (by (simp only [go_sem]); first | done | rfl) (hc) (by (simp only [go_sem]); first | done | rfl) (by (simp only [go_sem]); first | done | rfl) ?_ | refine wt_fn (by (simp only [go_sem]); first | done | rfl) (hc) (by (simp only [go_sem]); first | done | rfl) (by (simp only [go_sem]); first | done | rfl) ?_); (simp only [go_sem]) | ((first | refine wd_mix 6 [] follows (by decide +kernel) (by (simp only [go_sem]); first | done | rfl) ?_ | refine wd_mix 5 [] follows (by decide +kernel) (by (simp only [go_sem]); first | done | rfl) ?_ | refine wd_mix 4 [] follows (by decide +kernel) (by (simp only [go_sem]); first | done | rfl) ?_ | refine wd_mix 3 [] follows (by decide +kernel) (by (simp only [go_sem]); first | done | rfl) ?_ | refine wd_mix 2 [] follows (by decide +kernel) (by (simp only [go_sem]); first | done | rfl) ?_ | refine wd_mix 1 [] follows (by decide +kernel) (by (simp only [go_sem]); first | done | rfl) ?_ | refine wd_mix 0 [] follows (by decide +kernel) (by (simp only [go_sem]); first | done | rfl) ?_ | fail); (simp only [go_sem])))
    all_goals (refine hR _ (ret_at [] (by (simp only [go_sem]); first | done | rfl) (by (simp only [go_sem]); first | done | rfl) ⟨?_, rfl⟩))
    all_goals simp_all
theorem iIdent (c : Co) (h : c.size < 4611686018427387904) : AFn Try.prog 29 [.agg (coC c)] (.one (.sc (.bool c.ident))) := by
  have hv := coValid c
  have hi := coIdent _ (Nat.le_refl _) c h
  cases e : c.k? with
  | none =>
    rw [Co.k?_none e] at hv
    rw [show c.ident = false by simp [Co.ident, e]]
    refine fn_in ?_; refine acl_in Try.func29 rfl isfn_29 (Nat.le_of_ble_eq_true rfl) (fun R hR => ?_); rw [Try.results29] at hR; refine wg_run ?_; (simp only [Try.f29, go_sem])
    repeat' (first | (first | ((first | refine wd_split _ (fun hb => ?_) (fun hb => ?_) | refine wd_nwant _ (fun hb => ?_) (fun hb => ?_) | refine wm_nwant _ (fun hb => ?_) (fun hb => ?_) | refine wd_want _ (fun hb => ?_) (fun hb => ?_) | refine wm_want _ (fun hb => ?_) (fun hb => ?_) | refine wt_nwant _ (fun hb => ?_) (fun hb => ?_) | refine wt_want _ (fun hb => ?_) (fun hb => ?_)) <;> (simp only [go_sem, hb])) | (refine wm_done ?_; (simp only [go_sem])) | (refine wt_done ?_; (simp only [go_sem])) | (refine wg_run ?_; (simp only [go_sem])) | (refine wt_fork (by (simp only [go_sem]); first | done | rfl) ?_ ?_ <;> (simp only [go_sem]))) | (first | refine wd_fn (by (simp only [go_sem]); first | done | rfl) (hv) ?_ | refine wm_fn (by (simp only [go_sem]); first | done | rfl) (hv) (by (simp only [go_sem]); first | done | rfl) (by (simp only [go_sem]); first | done | rfl) ?_ | refine wt_fn (by (simp only [go_sem]); first | done | rfl) (hv) (by (simp only [go_sem]); first | done | rfl) (by (simp only [go_sem]); first | done | rfl) ?_); (simp only [go_sem]) | ((first | refine wd_mix 6 [] follows (by decide +kernel) (by (simp only [go_sem]); first | done | rfl) ?_ | refine wd_mix 5 [] follows (by decide +kernel) (by (simp only [go_sem]); first | done | rfl) ?_ | refine wd_mix 4 [] follows (by decide +kernel) (by (simp only [go_sem]); first | done | rfl) ?_ | refine wd_mix 3 [] follows (by decide +kernel) (by (simp only [go_sem]); first | done | rfl) ?_ | refine wd_mix 2 [] follows (by decide +kernel) (by (simp only [go_sem]); first | done | rfl) ?_ | refine wd_mix 1 [] follows (by decide +kernel) (by (simp only [go_sem]); first | done | rfl) ?_ | refine wd_mix 0 [] follows (by decide +kernel) (by (simp only [go_sem]); first | done | rfl) ?_ | fail); (simp only [go_sem])))
    all_goals (refine hR _ (ret_at [] (by (simp only [go_sem]); first | done | rfl) (by (simp only [go_sem]); first | done | rfl) ⟨rfl, rfl⟩))
  | some k =>
    obtain ⟨rfl, hk⟩ := Co.k?_some e
    rw [K.ok_valid, hk] at hv
    rw [K.co_idn] at hi
    rw [show k.co.ident = k.ident by simp [Co.ident, e]]
    refine fn_in ?_; refine acl_in Try.func29 rfl isfn_29 (Nat.le_of_ble_eq_true rfl) (fun R hR => ?_); rw [Try.results29] at hR; refine wg_run ?_; (simp only [Try.f29, go_sem])
    repeat' (first | (first | ((first | refine wd_split _ (fun hb => ?_) (fun hb => ?_) | refine wd_nwant _ (fun hb => ?_) (fun hb => ?_) | refine wm_nwant _ (fun hb => ?_) (fun hb => ?_) | refine wd_want _ (fun hb => ?_) (fun hb => ?_) | refine wm_want _ (fun hb => ?_) (fun hb => ?_) | refine wt_nwant _ (fun hb => ?_) (fun hb => ?_) | refine wt_want _ (fun hb => ?_) (fun hb => ?_)) <;> (simp only [go_sem, hb])) | (refine wm_done ?_; (simp only [go_sem])) | (refine wt_done ?_; (simp only [go_sem])) | (refine wg_run ?_; (simp only [go_sem])) | (refine wt_fork (by (simp only [go_sem]); first | done | rfl) ?_ ?_ <;> (simp only [go_sem]))) | (first | refine wd_fn (by (simp only [go_sem]); first | done | rfl) (hv) ?_ | refine wm_fn (by (simp only [go_sem]); first | done | rfl) (hv) (by (simp only [go_sem]); first | done | rfl) (by (simp only [go_sem]); first | done | rfl) ?_ | refine wt_fn (by (simp only [go_sem]); first | done | rfl) (hv) (by (simp only [go_sem]); first | done | rfl) (by (simp only [go_sem]); first | done | rfl) ?_); (simp only [go_sem]) | (first | refine wd_fn (by (simp only [go_sem]); first | done | rfl) (hi) ?_ | refine wm_fn (by (simp only [go_sem]); first | done | rfl) (hi) (by (simp only [go_sem]); first | done | rfl) (by (simp only [go_sem]); first | done | rfl) ?_ | refine wt_fn (by (simp only [go_sem]); first | done | rfl) (hi) (by (simp only [go_sem]); first | done | rfl) (by (simp only [go_sem]); first | done | rfl) ?_); (simp only [go_sem]) | ((first | refine wd_mix 6 [] follows (by decide +kernel) (by (simp only [go_sem]); first | done | rfl) ?_ | refine wd_mix 5 [] follows (by decide +kernel) (by (simp only [go_sem]); first | done | rfl) ?_ | refine wd_mix 4 [] follows (by decide +kernel) (by (simp only [go_sem]); first | done | rfl) ?_ | refine wd_mix 3 [] follows (by decide +kernel) (by (simp only [go_sem]); first | done | rfl) ?_ | refine wd_mix 2 [] follows (by decide +kernel) (by (simp only [go_sem]); first | done | rfl) ?_ | refine wd_mix 1 [] follows (by decide +kernel) (by (simp only [go_sem]); first | done | rfl) ?_ | refine wd_mix 0 [] follows (by decide +kernel) (by (simp only [go_sem]); first | done | rfl) ?_ | fail); (simp only [go_sem])))
    all_goals (refine hR _ (ret_at [] (by (simp only [go_sem]); first | done | rfl) (by (simp only [go_sem]); first | done | rfl) ⟨rfl, rfl⟩))
theorem sCoValidK (k : K) (h : k.ok = true) : AFn Try.prog 24 [.agg (coC k.co)] (.one (.sc (.bool true))) := by
  have h2 := h
  simp only [K.ok, Bool.and_eq_true, decide_eq_true_eq] at h2
  have hv := sCoValid k.co (by rw [K.co_size]; have := K.size_depth _ 9 h2.2; omega)
  rwa [K.ok_valid, h] at hv
theorem sIdentK (k : K) : k.ok = true → AFn Try.prog 42 [.agg (coC k.co)] (.one (.sc (.bool k.ident))) := by
  induction k with
  | id g | fail l g =>
    intro h
    have hv := sCoValidK _ h
    refine fn_in ?_; refine acl_in Try.func42 rfl isfn_42 (Nat.le_of_ble_eq_true rfl) (fun R hR => ?_); rw [Try.results42] at hR; refine wg_run ?_; (simp only [Try.f42, go_sem])
    repeat' (first | (first | ((first | refine wd_split _ (fun hb => ?_) (fun hb => ?_) | refine wd_nwant _ (fun hb => ?_) (fun hb => ?_) | refine wm_nwant _ (fun hb => ?_) (fun hb => ?_) | refine wd_want _ (fun hb => ?_) (fun hb => ?_) | refine wm_want _ (fun hb => ?_) (fun hb => ?_) | refine wt_nwant _ (fun hb => ?_) (fun hb => ?_) | refine wt_want _ (fun hb => ?_) (fun hb => ?_)) <;> (simp only [go_sem, hb])) | (refine wm_done ?_; (simp only [go_sem])) | (refine wt_done ?_; (simp only [go_sem])) | (refine wg_run ?_; (simp only [go_sem])) | (refine wt_fork (by (simp only [go_sem]); first | done | rfl) ?_ ?_ <;> (simp only [go_sem]))) | (first | refine wd_fn (by (simp only [go_sem]); first | done | rfl) (hv) ?_ | refine wm_fn (by (simp only [go_sem]); first | done | rfl) (hv) (by (simp only [go_sem]); first | done | rfl) (by (simp only [go_sem]); first | done | rfl) ?_ | refine wt_fn (by (simp only [go_sem]); first | done | rfl) (hv) (by (simp only [go_sem]); first | done | rfl) (by (simp only [go_sem]); first | done | rfl) ?_); (simp only [go_sem]) | (first | (refine wl_next (wg_run ?_); (simp only [go_sem])) | refine wd_rounds 6 ?_) | ((first | refine wd_mix 6 [] follows (by decide +kernel) (by (simp only [go_sem]); first | done | rfl) ?_ | refine wd_mix 5 [] follows (by decide +kernel) (by (simp only [go_sem]); first | done | rfl) ?_ | refine wd_mix 4 [] follows (by decide +kernel) (by (simp only [go_sem]); first | done | rfl) ?_ | refine wd_mix 3 [] follows (by decide +kernel) (by (simp only [go_sem]); first | done | rfl) ?_ | refine wd_mix 2 [] follows (by decide +kernel) (by (simp only [go_sem]); first | done | rfl) ?_ | refine wd_mix 1 [] follows (by decide +kernel) (by (simp only [go_sem]); first | done | rfl) ?_ | refine wd_mix 0 [] follows (by decide +kernel) (by (simp only [go_sem]); first | done | rfl) ?_ | fail); (simp only [go_sem])))
    all_goals (refine hR _ (ret_at [] (by (simp only [go_sem]); first | done | rfl) (by (simp only [go_sem]); first | done | rfl) ⟨rfl, rfl⟩))
  | inj c ih | prj l c ih =>
    intro h
    have h2 := h
    simp only [K.ok, Bool.and_eq_true, decide_eq_true_eq] at h2
    have hv := sCoValidK _ h
    refine fn_in ?_; refine acl_in Try.func42 rfl isfn_42 (Nat.le_of_ble_eq_true rfl) (fun R hR => ?_); rw [Try.results42] at hR; refine wg_run ?_; (simp only [Try.f42, go_sem])
    repeat' (first | (first | ((first | refine wd_split _ (fun hb => ?_) (fun hb => ?_) | refine wd_nwant _ (fun hb => ?_) (fun hb => ?_) | refine wm_nwant _ (fun hb => ?_) (fun hb => ?_) | refine wd_want _ (fun hb => ?_) (fun hb => ?_) | refine wm_want _ (fun hb => ?_) (fun hb => ?_) | refine wt_nwant _ (fun hb => ?_) (fun hb => ?_) | refine wt_want _ (fun hb => ?_) (fun hb => ?_)) <;> (simp only [go_sem, hb])) | (refine wm_done ?_; (simp only [go_sem])) | (refine wt_done ?_; (simp only [go_sem])) | (refine wg_run ?_; (simp only [go_sem])) | (refine wt_fork (by (simp only [go_sem]); first | done | rfl) ?_ ?_ <;> (simp only [go_sem]))) | (first | refine wd_fn (by (simp only [go_sem]); first | done | rfl) (hv) ?_ | refine wm_fn (by (simp only [go_sem]); first | done | rfl) (hv) (by (simp only [go_sem]); first | done | rfl) (by (simp only [go_sem]); first | done | rfl) ?_ | refine wt_fn (by (simp only [go_sem]); first | done | rfl) (hv) (by (simp only [go_sem]); first | done | rfl) (by (simp only [go_sem]); first | done | rfl) ?_); (simp only [go_sem]) | (first | (refine wl_next (wg_run ?_); (simp only [go_sem])) | refine wd_rounds 6 ?_) | ((first | refine wd_mix 6 [] follows (by decide +kernel) (by (simp only [go_sem]); first | done | rfl) ?_ | refine wd_mix 5 [] follows (by decide +kernel) (by (simp only [go_sem]); first | done | rfl) ?_ | refine wd_mix 4 [] follows (by decide +kernel) (by (simp only [go_sem]); first | done | rfl) ?_ | refine wd_mix 3 [] follows (by decide +kernel) (by (simp only [go_sem]); first | done | rfl) ?_ | refine wd_mix 2 [] follows (by decide +kernel) (by (simp only [go_sem]); first | done | rfl) ?_ | refine wd_mix 1 [] follows (by decide +kernel) (by (simp only [go_sem]); first | done | rfl) ?_ | refine wd_mix 0 [] follows (by decide +kernel) (by (simp only [go_sem]); first | done | rfl) ?_ | fail); (simp only [go_sem])))
    all_goals (refine hR _ (ret_at [] (by (simp only [go_sem]); first | done | rfl) (by (simp only [go_sem]); first | done | rfl) ⟨rfl, rfl⟩))
  | fn a b iha ihb | pr a b iha ihb =>
    intro h
    have h2 := h
    simp only [K.ok, Bool.and_eq_true, decide_eq_true_eq] at h2
    have hv := sCoValidK _ h
    simp only [K.wf, K.depth, Bool.and_eq_true] at h2
    have ia := iha (by simp only [K.ok, Bool.and_eq_true, decide_eq_true_eq]; exact ⟨h2.1.1, by omega⟩)
    have ib := ihb (by simp only [K.ok, Bool.and_eq_true, decide_eq_true_eq]; exact ⟨h2.1.2, by omega⟩)
    simp only [K.ident]
    generalize a.ident = xa at *
    generalize b.ident = xb at *
    cases xa <;> cases xb
    all_goals
      refine fn_in ?_; refine acl_in Try.func42 rfl isfn_42 (Nat.le_of_ble_eq_true rfl) (fun R hR => ?_); rw [Try.results42] at hR; refine wg_run ?_; (simp only [Try.f42, go_sem])
      repeat' (first | (first | ((first | refine wd_split _ (fun hb => ?_) (fun hb => ?_) | refine wd_nwant _ (fun hb => ?_) (fun hb => ?_) | refine wm_nwant _ (fun hb => ?_) (fun hb => ?_) | refine wd_want _ (fun hb => ?_) (fun hb => ?_) | refine wm_want _ (fun hb => ?_) (fun hb => ?_) | refine wt_nwant _ (fun hb => ?_) (fun hb => ?_) | refine wt_want _ (fun hb => ?_) (fun hb => ?_)) <;> (simp only [go_sem, hb])) | (refine wm_done ?_; (simp only [go_sem])) | (refine wt_done ?_; (simp only [go_sem])) | (refine wg_run ?_; (simp only [go_sem])) | (refine wt_fork (by (simp only [go_sem]); first | done | rfl) ?_ ?_ <;> (simp only [go_sem]))) | (first | refine wd_fn (by (simp only [go_sem]); first | done | rfl) (hv) ?_ | refine wm_fn (by (simp only [go_sem]); first | done | rfl) (hv) (by (simp only [go_sem]); first | done | rfl) (by (simp only [go_sem]); first | done | rfl) ?_ | refine wt_fn (by (simp only [go_sem]); first | done | rfl) (hv) (by (simp only [go_sem]); first | done | rfl) (by (simp only [go_sem]); first | done | rfl) ?_); (simp only [go_sem]) | (first | refine wd_fn (by (simp only [go_sem]); first | done | rfl) (ia) ?_ | refine wm_fn (by (simp only [go_sem]); first | done | rfl) (ia) (by (simp only [go_sem]); first | done | rfl) (by (simp only [go_sem]); first | done | rfl) ?_ | refine wt_fn (by (simp only [go_sem]); first | done | rfl) (ia) (by (simp only [go_sem]); first | done | rfl) (by (simp only [go_sem]); first | done | rfl) ?_); (simp only [go_sem]) | (first | refine wd_fn (by (simp only [go_sem]); first | done | rfl) (ib) ?_ | refine wm_fn (by (simp only [go_sem]); first | done | rfl) (ib) (by (simp only [go_sem]); first | done | rfl) (by (simp only [go_sem]); first | done | rfl) ?_ | refine wt_fn (by (simp only [go_sem]); first | done | rfl) (ib) (by (simp only [go_sem]); first | done | rfl) (by (simp only [go_sem]); first | done | rfl) ?_); (simp only [go_sem]) | (first | (refine wl_next (wg_run ?_); (simp only [go_sem])) | refine wd_rounds 6 ?_) | ((first | refine wd_mix 6 [] follows (by decide +kernel) (by (simp only [go_sem]); first | done | rfl) ?_ | refine wd_mix 5 [] follows (by decide +kernel) (by (simp only [go_sem]); first | done | rfl) ?_ | refine wd_mix 4 [] follows (by decide +kernel) (by (simp only [go_sem]); first | done | rfl) ?_ | refine wd_mix 3 [] follows (by decide +kernel) (by (simp only [go_sem]); first | done | rfl) ?_ | refine wd_mix 2 [] follows (by decide +kernel) (by (simp only [go_sem]); first | done | rfl) ?_ | refine wd_mix 1 [] follows (by decide +kernel) (by (simp only [go_sem]); first | done | rfl) ?_ | refine wd_mix 0 [] follows (by decide +kernel) (by (simp only [go_sem]); first | done | rfl) ?_ | fail); (simp only [go_sem])))
      all_goals (refine hR _ (ret_at [] (by (simp only [go_sem]); first | done | rfl) (by (simp only [go_sem]); first | done | rfl) ⟨rfl, rfl⟩))
theorem sIdent (c : Co) (h : c.size < 4611686018427387904) : AFn Try.prog 42 [.agg (coC c)] (.one (.sc (.bool c.ident))) := by
  cases e : c.k? with
  | none =>
    have hv := sCoValid c h
    rw [Co.k?_none e] at hv
    rw [show c.ident = false by simp [Co.ident, e]]
    refine fn_in ?_; refine acl_in Try.func42 rfl isfn_42 (Nat.le_of_ble_eq_true rfl) (fun R hR => ?_); rw [Try.results42] at hR; refine wg_run ?_; (simp only [Try.f42, go_sem])
    repeat' (first | (first | ((first | refine wd_split _ (fun hb => ?_) (fun hb => ?_) | refine wd_nwant _ (fun hb => ?_) (fun hb => ?_) | refine wm_nwant _ (fun hb => ?_) (fun hb => ?_) | refine wd_want _ (fun hb => ?_) (fun hb => ?_) | refine wm_want _ (fun hb => ?_) (fun hb => ?_) | refine wt_nwant _ (fun hb => ?_) (fun hb => ?_) | refine wt_want _ (fun hb => ?_) (fun hb => ?_)) <;> (simp only [go_sem, hb])) | (refine wm_done ?_; (simp only [go_sem])) | (refine wt_done ?_; (simp only [go_sem])) | (refine wg_run ?_; (simp only [go_sem])) | (refine wt_fork (by (simp only [go_sem]); first | done | rfl) ?_ ?_ <;> (simp only [go_sem]))) | (first | refine wd_fn (by (simp only [go_sem]); first | done | rfl) (hv) ?_ | refine wm_fn (by (simp only [go_sem]); first | done | rfl) (hv) (by (simp only [go_sem]); first | done | rfl) (by (simp only [go_sem]); first | done | rfl) ?_ | refine wt_fn (by (simp only [go_sem]); first | done | rfl) (hv) (by (simp only [go_sem]); first | done | rfl) (by (simp only [go_sem]); first | done | rfl) ?_); (simp only [go_sem]) | ((first | refine wd_mix 6 [] follows (by decide +kernel) (by (simp only [go_sem]); first | done | rfl) ?_ | refine wd_mix 5 [] follows (by decide +kernel) (by (simp only [go_sem]); first | done | rfl) ?_ | refine wd_mix 4 [] follows (by decide +kernel) (by (simp only [go_sem]); first | done | rfl) ?_ | refine wd_mix 3 [] follows (by decide +kernel) (by (simp only [go_sem]); first | done | rfl) ?_ | refine wd_mix 2 [] follows (by decide +kernel) (by (simp only [go_sem]); first | done | rfl) ?_ | refine wd_mix 1 [] follows (by decide +kernel) (by (simp only [go_sem]); first | done | rfl) ?_ | refine wd_mix 0 [] follows (by decide +kernel) (by (simp only [go_sem]); first | done | rfl) ?_ | fail); (simp only [go_sem])))
    all_goals (refine hR _ (ret_at [] (by (simp only [go_sem]); first | done | rfl) (by (simp only [go_sem]); first | done | rfl) ⟨rfl, rfl⟩))
  | some k =>
    obtain ⟨rfl, hk⟩ := Co.k?_some e
    rw [show k.co.ident = k.ident by simp [Co.ident, e]]
    exact sIdentK k hk
end Go.Proofs.Ytbiobfbonpiiiaa
/- The labels of coercions. No program, no world. -/
namespace Go.Proofs.Grad
theorem K.comp_labels (a b : K) : ∀ k, a.comp b = some k → ∀ x, x ∈ k.labels → x ∈ a.labels ∨ x ∈ b.labels := by
  fun_induction K.comp a b <;> intro k hk <;> simp_all [K.labels]
  all_goals (try grind [K.labels])
theorem T.cast_labels (a b : T) (l : Int) : ∀ x, x ∈ (T.cast a b l).labels → x = l ∨ x = -l := by
  fun_induction T.cast a b l <;> simp_all [K.labels]
  all_goals (try grind)
theorem T.cast_ident (a b : T) (l : Int) : a.cons b = true → (T.cast a b l).ident = true → a = b := by
  fun_induction T.cast a b l
  case case10 ih2 ih1 =>
    intro h1 h2
    simp only [T.cons, K.ident, Bool.and_eq_true] at h1 h2
    rw [ih2 (by rw [T.cons_symm]; exact h1.1) h2.1, ih1 h1.2 h2.2]
  case case11 ih2 ih1 =>
    intro h1 h2
    simp only [T.cons, K.ident, Bool.and_eq_true] at h1 h2
    rw [ih2 h1.1 h2.1, ih1 h1.2 h2.2]
  case case14 =>
    rename_i a b l p1 p2 q1 q2 q3 q4 q5 q6 q7 q8 q9 q10 q11
    intro h1 h2
    cases a <;> cases b <;> first | rfl | exact (q10 _ _ _ _ rfl rfl).elim | exact (q11 _ _ _ _ rfl rfl).elim | simp_all [T.cons]
  all_goals simp_all [K.ident, T.cons]
  all_goals (try (rename_i b _ _; cases b <;> simp_all [T.cons]))
theorem K.labels_len (k : K) : k.labels.length ≤ k.size := by
  induction k <;> simp only [K.labels, K.size, List.length_nil, List.length_cons, List.length_append] <;> omega
end Go.Proofs.Grad
/- Labels of coercions, in the program and in the reference. On shadows. -/
namespace Go.Proofs.Grad
/-- the labels of a coercion as it comes -/
noncomputable def Co.labsV (c : Co) : List Int := match c.k? with | some k => setL k.labels | none => []
theorem K.lab_ne {k : K} {l : Int} (h : lab l = true) : (l == 0) = false := by simp [lab] at h; simp; omega
end Go.Proofs.Grad
namespace Go.Proofs.Ytbiobfbonpiiiaa
open Go.RowKit Go.Proofs.Sh Go.Proofs.Grad
set_option maxRecDepth 100000
set_option maxHeartbeats 8000000
theorem l6Labels (k : K) : ∀ out : List Int, k.wf = true → out.length + k.size < 900000 → AFn Try.prog 73 [.one (.sl (intR out)), .agg (coC k.co)] (.one (.sl (intR (insL out k.labels)))) := by
  induction k with
  | id g =>
    intro out _ _
    simp only [K.co]
    refine fn_in ?_; refine acl_in Try.func73 rfl isfn_73 (Nat.le_of_ble_eq_true rfl) (fun R hR => ?_); rw [Try.results73] at hR; refine wg_run ?_; (simp only [Try.f73, go_sem])
    repeat' (first | (first | ((first | refine wd_split _ (fun hb => ?_) (fun hb => ?_) | refine wd_nwant _ (fun hb => ?_) (fun hb => ?_) | refine wm_nwant _ (fun hb => ?_) (fun hb => ?_) | refine wd_want _ (fun hb => ?_) (fun hb => ?_) | refine wm_want _ (fun hb => ?_) (fun hb => ?_) | refine wt_nwant _ (fun hb => ?_) (fun hb => ?_) | refine wt_want _ (fun hb => ?_) (fun hb => ?_)) <;> (simp only [go_sem, hb])) | (refine wm_done ?_; (simp only [go_sem])) | (refine wt_done ?_; (simp only [go_sem])) | (refine wg_run ?_; (simp only [go_sem])) | (refine wt_fork (by (simp only [go_sem]); first | done | rfl) ?_ ?_ <;> (simp only [go_sem]))) | (first | (refine wl_next (wg_run ?_); (simp only [go_sem])) | refine wd_rounds 6 ?_) | fail)
    (refine hR _ (ret_at [] (by (simp only [go_sem]); first | done | rfl) (by (simp only [go_sem]); first | done | rfl) ⟨rfl, rfl⟩))
  | fail l g =>
    intro out hw hz
    simp only [K.wf, Bool.and_eq_true] at hw
    have h0 := K.lab_ne (k := .id 1) hw.1.1
    simp only [K.size] at hz
    have hs := l4Sorted out l (by omega)
    simp only [K.co]
    refine fn_in ?_; refine acl_in Try.func73 rfl isfn_73 (Nat.le_of_ble_eq_true rfl) (fun R hR => ?_); rw [Try.results73] at hR; refine wg_run ?_; (simp only [Try.f73, go_sem, h0, int_bne])
    repeat' (first | (first | (simp only [go_sem, h0, int_bne]) | ((first | refine wd_split _ (fun hb => ?_) (fun hb => ?_) | refine wd_nwant _ (fun hb => ?_) (fun hb => ?_) | refine wm_nwant _ (fun hb => ?_) (fun hb => ?_) | refine wd_want _ (fun hb => ?_) (fun hb => ?_) | refine wm_want _ (fun hb => ?_) (fun hb => ?_) | refine wt_nwant _ (fun hb => ?_) (fun hb => ?_) | refine wt_want _ (fun hb => ?_) (fun hb => ?_)) <;> (simp only [go_sem, hb, h0, int_bne])) | (refine wm_done ?_; (simp only [go_sem, h0, int_bne])) | (refine wt_done ?_; (simp only [go_sem, h0, int_bne])) | (refine wg_run ?_; (simp only [go_sem, h0, int_bne])) | (refine wt_fork (by (simp only [go_sem]); first | done | rfl) ?_ ?_ <;> (simp only [go_sem, h0, int_bne]))) | (first | (refine wl_next (wg_run ?_); (simp only [go_sem])) | refine wd_rounds 6 ?_) | (first | refine wd_fn (by (simp only [go_sem]); first | done | rfl) (hs) ?_ | refine wm_fn (by (simp only [go_sem]); first | done | rfl) (hs) (by (simp only [go_sem]); first | done | rfl) (by (simp only [go_sem]); first | done | rfl) ?_ | refine wt_fn (by (simp only [go_sem]); first | done | rfl) (hs) (by (simp only [go_sem]); first | done | rfl) (by (simp only [go_sem]); first | done | rfl) ?_); (simp only [go_sem]) | fail)
    (refine hR _ (ret_at [] (by (simp only [go_sem]); first | done | rfl) (by (simp only [go_sem]); first | done | rfl) ⟨rfl, rfl⟩))
  | fn a b iha ihb | pr a b iha ihb =>
    intro out hw hz
    simp only [K.wf, Bool.and_eq_true] at hw
    simp only [K.size] at hz
    have hla := a.labels_len
    have hln := insL_len a.labels out
    have h1 := iha out hw.1 (by omega)
    have h2 := ihb (insL out a.labels) hw.2 (by omega)
    simp only [K.labels, insL_append]
    simp only [K.co]
    refine fn_in ?_; refine acl_in Try.func73 rfl isfn_73 (Nat.le_of_ble_eq_true rfl) (fun R hR => ?_); rw [Try.results73] at hR; refine wg_run ?_; (simp only [Try.f73, go_sem])
    repeat' (first | (first | ((first | refine wd_split _ (fun hb => ?_) (fun hb => ?_) | refine wd_nwant _ (fun hb => ?_) (fun hb => ?_) | refine wm_nwant _ (fun hb => ?_) (fun hb => ?_) | refine wd_want _ (fun hb => ?_) (fun hb => ?_) | refine wm_want _ (fun hb => ?_) (fun hb => ?_) | refine wt_nwant _ (fun hb => ?_) (fun hb => ?_) | refine wt_want _ (fun hb => ?_) (fun hb => ?_)) <;> (simp only [go_sem, hb])) | (refine wm_done ?_; (simp only [go_sem])) | (refine wt_done ?_; (simp only [go_sem])) | (refine wg_run ?_; (simp only [go_sem])) | (refine wt_fork (by (simp only [go_sem]); first | done | rfl) ?_ ?_ <;> (simp only [go_sem]))) | (first | (refine wl_next (wg_run ?_); (simp only [go_sem])) | refine wd_rounds 6 ?_) | ((first | refine wd_mix 6 [] follows (by decide +kernel) (by (simp only [go_sem]); first | done | rfl) ?_ | refine wd_mix 5 [] follows (by decide +kernel) (by (simp only [go_sem]); first | done | rfl) ?_ | refine wd_mix 4 [] follows (by decide +kernel) (by (simp only [go_sem]); first | done | rfl) ?_ | refine wd_mix 3 [] follows (by decide +kernel) (by (simp only [go_sem]); first | done | rfl) ?_ | refine wd_mix 2 [] follows (by decide +kernel) (by (simp only [go_sem]); first | done | rfl) ?_ | refine wd_mix 1 [] follows (by decide +kernel) (by (simp only [go_sem]); first | done | rfl) ?_ | refine wd_mix 0 [] follows (by decide +kernel) (by (simp only [go_sem]); first | done | rfl) ?_ | fail); (simp only [go_sem])) | (first | refine wd_fn (by (simp only [go_sem]); first | done | rfl) (h1) ?_ | refine wm_fn (by (simp only [go_sem]); first | done | rfl) (h1) (by (simp only [go_sem]); first | done | rfl) (by (simp only [go_sem]); first | done | rfl) ?_ | refine wt_fn (by (simp only [go_sem]); first | done | rfl) (h1) (by (simp only [go_sem]); first | done | rfl) (by (simp only [go_sem]); first | done | rfl) ?_); (simp only [go_sem]) | (first | refine wd_fn (by (simp only [go_sem]); first | done | rfl) (h2) ?_ | refine wm_fn (by (simp only [go_sem]); first | done | rfl) (h2) (by (simp only [go_sem]); first | done | rfl) (by (simp only [go_sem]); first | done | rfl) ?_ | refine wt_fn (by (simp only [go_sem]); first | done | rfl) (h2) (by (simp only [go_sem]); first | done | rfl) (by (simp only [go_sem]); first | done | rfl) ?_); (simp only [go_sem]) | fail)
    (refine hR _ (ret_at [] (by (simp only [go_sem]); first | done | rfl) (by (simp only [go_sem]); first | done | rfl) ⟨rfl, rfl⟩))
  | inj c ih =>
    intro out hw hz
    simp only [K.wf, Bool.and_eq_true] at hw
    simp only [K.size] at hz
    have h1 := ih out hw.2 (by omega)
    simp only [K.labels]
    simp only [K.co]
    refine fn_in ?_; refine acl_in Try.func73 rfl isfn_73 (Nat.le_of_ble_eq_true rfl) (fun R hR => ?_); rw [Try.results73] at hR; refine wg_run ?_; (simp only [Try.f73, go_sem])
    repeat' (first | (first | ((first | refine wd_split _ (fun hb => ?_) (fun hb => ?_) | refine wd_nwant _ (fun hb => ?_) (fun hb => ?_) | refine wm_nwant _ (fun hb => ?_) (fun hb => ?_) | refine wd_want _ (fun hb => ?_) (fun hb => ?_) | refine wm_want _ (fun hb => ?_) (fun hb => ?_) | refine wt_nwant _ (fun hb => ?_) (fun hb => ?_) | refine wt_want _ (fun hb => ?_) (fun hb => ?_)) <;> (simp only [go_sem, hb])) | (refine wm_done ?_; (simp only [go_sem])) | (refine wt_done ?_; (simp only [go_sem])) | (refine wg_run ?_; (simp only [go_sem])) | (refine wt_fork (by (simp only [go_sem]); first | done | rfl) ?_ ?_ <;> (simp only [go_sem]))) | (first | (refine wl_next (wg_run ?_); (simp only [go_sem])) | refine wd_rounds 6 ?_) | ((first | refine wd_mix 6 [] follows (by decide +kernel) (by (simp only [go_sem]); first | done | rfl) ?_ | refine wd_mix 5 [] follows (by decide +kernel) (by (simp only [go_sem]); first | done | rfl) ?_ | refine wd_mix 4 [] follows (by decide +kernel) (by (simp only [go_sem]); first | done | rfl) ?_ | refine wd_mix 3 [] follows (by decide +kernel) (by (simp only [go_sem]); first | done | rfl) ?_ | refine wd_mix 2 [] follows (by decide +kernel) (by (simp only [go_sem]); first | done | rfl) ?_ | refine wd_mix 1 [] follows (by decide +kernel) (by (simp only [go_sem]); first | done | rfl) ?_ | refine wd_mix 0 [] follows (by decide +kernel) (by (simp only [go_sem]); first | done | rfl) ?_ | fail); (simp only [go_sem])) | (first | refine wd_fn (by (simp only [go_sem]); first | done | rfl) (h1) ?_ | refine wm_fn (by (simp only [go_sem]); first | done | rfl) (h1) (by (simp only [go_sem]); first | done | rfl) (by (simp only [go_sem]); first | done | rfl) ?_ | refine wt_fn (by (simp only [go_sem]); first | done | rfl) (h1) (by (simp only [go_sem]); first | done | rfl) (by (simp only [go_sem]); first | done | rfl) ?_); (simp only [go_sem]) | fail)
    (refine hR _ (ret_at [] (by (simp only [go_sem]); first | done | rfl) (by (simp only [go_sem]); first | done | rfl) ⟨rfl, rfl⟩))
  | prj l c ih =>
    intro out hw hz
    simp only [K.wf, Bool.and_eq_true] at hw
    have h0 := K.lab_ne (k := .id 1) hw.1.1.1
    simp only [K.size] at hz
    have hs := l4Sorted out l (by omega)
    have hln := insF_length l out
    have h1 := ih (insF out l) hw.2 (by omega)
    simp only [K.labels, show insL out (l :: c.labels) = insL (insF out l) c.labels from rfl]
    simp only [K.co]
    refine fn_in ?_; refine acl_in Try.func73 rfl isfn_73 (Nat.le_of_ble_eq_true rfl) (fun R hR => ?_); rw [Try.results73] at hR; refine wg_run ?_; (simp only [Try.f73, go_sem, h0, int_bne])
    repeat' (first | (first | (simp only [go_sem, h0, int_bne]) | ((first | refine wd_split _ (fun hb => ?_) (fun hb => ?_) | refine wd_nwant _ (fun hb => ?_) (fun hb => ?_) | refine wm_nwant _ (fun hb => ?_) (fun hb => ?_) | refine wd_want _ (fun hb => ?_) (fun hb => ?_) | refine wm_want _ (fun hb => ?_) (fun hb => ?_) | refine wt_nwant _ (fun hb => ?_) (fun hb => ?_) | refine wt_want _ (fun hb => ?_) (fun hb => ?_)) <;> (simp only [go_sem, hb, h0, int_bne])) | (refine wm_done ?_; (simp only [go_sem, h0, int_bne])) | (refine wt_done ?_; (simp only [go_sem, h0, int_bne])) | (refine wg_run ?_; (simp only [go_sem, h0, int_bne])) | (refine wt_fork (by (simp only [go_sem]); first | done | rfl) ?_ ?_ <;> (simp only [go_sem, h0, int_bne]))) | (first | (refine wl_next (wg_run ?_); (simp only [go_sem])) | refine wd_rounds 6 ?_) | ((first | refine wd_mix 6 [] follows (by decide +kernel) (by (simp only [go_sem]); first | done | rfl) ?_ | refine wd_mix 5 [] follows (by decide +kernel) (by (simp only [go_sem]); first | done | rfl) ?_ | refine wd_mix 4 [] follows (by decide +kernel) (by (simp only [go_sem]); first | done | rfl) ?_ | refine wd_mix 3 [] follows (by decide +kernel) (by (simp only [go_sem]); first | done | rfl) ?_ | refine wd_mix 2 [] follows (by decide +kernel) (by (simp only [go_sem]); first | done | rfl) ?_ | refine wd_mix 1 [] follows (by decide +kernel) (by (simp only [go_sem]); first | done | rfl) ?_ | refine wd_mix 0 [] follows (by decide +kernel) (by (simp only [go_sem]); first | done | rfl) ?_ | fail); (simp only [go_sem, h0, int_bne])) | (first | refine wd_fn (by (simp only [go_sem]); first | done | rfl) (hs) ?_ | refine wm_fn (by (simp only [go_sem]); first | done | rfl) (hs) (by (simp only [go_sem]); first | done | rfl) (by (simp only [go_sem]); first | done | rfl) ?_ | refine wt_fn (by (simp only [go_sem]); first | done | rfl) (hs) (by (simp only [go_sem]); first | done | rfl) (by (simp only [go_sem]); first | done | rfl) ?_); (simp only [go_sem]) | (first | refine wd_fn (by (simp only [go_sem]); first | done | rfl) (h1) ?_ | refine wm_fn (by (simp only [go_sem]); first | done | rfl) (h1) (by (simp only [go_sem]); first | done | rfl) (by (simp only [go_sem]); first | done | rfl) ?_ | refine wt_fn (by (simp only [go_sem]); first | done | rfl) (h1) (by (simp only [go_sem]); first | done | rfl) (by (simp only [go_sem]); first | done | rfl) ?_); (simp only [go_sem]) | fail)
    (refine hR _ (ret_at [] (by (simp only [go_sem]); first | done | rfl) (by (simp only [go_sem]); first | done | rfl) ⟨rfl, rfl⟩))
/-- a list as a slice of its own -/
def OwnL (l : List Int) (r : AV) (H' : List Blk) : Prop := match l with | [] => r = .one (.sc (.slice none 0 0)) ∧ H' = [] | z :: m => r = .one (.row 1 0 (m.length + 1)) ∧ H' = [⟨1, 3, .mut, intR (z :: m)⟩]
theorem iLabs (k : K) : k.wf = true → k.size < 900000 → AFn Try.prog 75 [.agg (coC k.co)] (.one (.sl (intR k.labels))) := by
  induction k with
  | id g =>
    intro _ _
    simp only [K.co]
    refine fn_in ?_; refine acl_in Try.func75 rfl isfn_75 (Nat.le_of_ble_eq_true rfl) (fun R hR => ?_); rw [Try.results75] at hR; refine wg_run ?_; (simp only [Try.f75, go_sem])
    repeat' (first | (first | ((first | refine wd_split _ (fun hb => ?_) (fun hb => ?_) | refine wd_nwant _ (fun hb => ?_) (fun hb => ?_) | refine wm_nwant _ (fun hb => ?_) (fun hb => ?_) | refine wd_want _ (fun hb => ?_) (fun hb => ?_) | refine wm_want _ (fun hb => ?_) (fun hb => ?_) | refine wt_nwant _ (fun hb => ?_) (fun hb => ?_) | refine wt_want _ (fun hb => ?_) (fun hb => ?_)) <;> (simp only [go_sem, hb])) | (refine wm_done ?_; (simp only [go_sem])) | (refine wt_done ?_; (simp only [go_sem])) | (refine wg_run ?_; (simp only [go_sem])) | (refine wt_fork (by (simp only [go_sem]); first | done | rfl) ?_ ?_ <;> (simp only [go_sem]))) | (first | (refine wl_next (wg_run ?_); (simp only [go_sem])) | refine wd_rounds 6 ?_) | fail)
    (refine hR _ (ret_at [] (by (simp only [go_sem]); first | done | rfl) (by (simp only [go_sem]); first | done | rfl) ⟨rfl, rfl⟩))
  | fail l g =>
    intro hw hz
    simp only [K.wf, Bool.and_eq_true] at hw
    have h0 := K.lab_ne (k := .id 1) hw.1.1
    simp only [K.co]
    refine fn_in ?_; refine acl_in Try.func75 rfl isfn_75 (Nat.le_of_ble_eq_true rfl) (fun R hR => ?_); rw [Try.results75] at hR; refine wg_run ?_; (simp only [Try.f75, go_sem, h0, int_bne])
    repeat' (first | (first | (simp only [go_sem, h0, int_bne]) | ((first | refine wd_split _ (fun hb => ?_) (fun hb => ?_) | refine wd_nwant _ (fun hb => ?_) (fun hb => ?_) | refine wm_nwant _ (fun hb => ?_) (fun hb => ?_) | refine wd_want _ (fun hb => ?_) (fun hb => ?_) | refine wm_want _ (fun hb => ?_) (fun hb => ?_) | refine wt_nwant _ (fun hb => ?_) (fun hb => ?_) | refine wt_want _ (fun hb => ?_) (fun hb => ?_)) <;> (simp only [go_sem, hb, h0, int_bne])) | (refine wm_done ?_; (simp only [go_sem, h0, int_bne])) | (refine wt_done ?_; (simp only [go_sem, h0, int_bne])) | (refine wg_run ?_; (simp only [go_sem, h0, int_bne])) | (refine wt_fork (by (simp only [go_sem]); first | done | rfl) ?_ ?_ <;> (simp only [go_sem, h0, int_bne]))) | (first | (refine wl_next (wg_run ?_); (simp only [go_sem])) | refine wd_rounds 6 ?_) | fail)
    (refine hR _ (ret_at [] (by (simp only [go_sem]); first | done | rfl) (by (simp only [go_sem]); first | done | rfl) ⟨rfl, rfl⟩))
  | fn a b iha ihb | pr a b iha ihb =>
    intro hw hz
    simp only [K.wf, Bool.and_eq_true] at hw
    simp only [K.size] at hz
    have hla := a.labels_len
    have hlb := b.labels_len
    have h1 := iha hw.1 (by omega)
    have h2 := ihb hw.2 (by omega)
    simp only [K.labels]
    simp only [K.co]
    cases ea : a.labels with
    | nil =>
      rw [ea] at h1
      cases eb : b.labels with
      | nil =>
        rw [eb] at h2
        refine fn_in ?_; refine acl_in Try.func75 rfl isfn_75 (Nat.le_of_ble_eq_true rfl) (fun R hR => ?_); rw [Try.results75] at hR; refine wg_run ?_; (simp only [Try.f75, go_sem])
        repeat' (first | (first | ((first | refine wd_split _ (fun hb => ?_) (fun hb => ?_) | refine wd_nwant _ (fun hb => ?_) (fun hb => ?_) | refine wm_nwant _ (fun hb => ?_) (fun hb => ?_) | refine wd_want _ (fun hb => ?_) (fun hb => ?_) | refine wm_want _ (fun hb => ?_) (fun hb => ?_) | refine wt_nwant _ (fun hb => ?_) (fun hb => ?_) | refine wt_want _ (fun hb => ?_) (fun hb => ?_)) <;> (simp only [go_sem, hb])) | (refine wm_done ?_; (simp only [go_sem])) | (refine wt_done ?_; (simp only [go_sem])) | (refine wg_run ?_; (simp only [go_sem])) | (refine wt_fork (by (simp only [go_sem]); first | done | rfl) ?_ ?_ <;> (simp only [go_sem]))) | (first | (refine wl_next (wg_run ?_); (simp only [go_sem])) | refine wd_rounds 6 ?_) | (first | refine wd_fn (by (simp only [go_sem]); first | done | rfl) (h1) ?_ | refine wm_fn (by (simp only [go_sem]); first | done | rfl) (h1) (by (simp only [go_sem]); first | done | rfl) (by (simp only [go_sem]); first | done | rfl) ?_ | refine wt_fn (by (simp only [go_sem]); first | done | rfl) (h1) (by (simp only [go_sem]); first | done | rfl) (by (simp only [go_sem]); first | done | rfl) ?_); (simp only [go_sem]) | (first | refine wd_fn (by (simp only [go_sem]); first | done | rfl) (h2) ?_ | refine wm_fn (by (simp only [go_sem]); first | done | rfl) (h2) (by (simp only [go_sem]); first | done | rfl) (by (simp only [go_sem]); first | done | rfl) ?_ | refine wt_fn (by (simp only [go_sem]); first | done | rfl) (h2) (by (simp only [go_sem]); first | done | rfl) (by (simp only [go_sem]); first | done | rfl) ?_); (simp only [go_sem]) | fail)
        (refine hR _ (ret_at [] (by (simp only [go_sem]); first | done | rfl) (by (simp only [go_sem]); first | done | rfl) ⟨rfl, rfl⟩))
      | cons z m =>
        rw [eb] at h2
        rw [eb, List.length_cons] at hlb
        have hc1 : (m.length + 1) * 8 ≤ 140737488355328 := by omega
        refine fn_in ?_; refine acl_in Try.func75 rfl isfn_75 (Nat.le_of_ble_eq_true rfl) (fun R hR => ?_); rw [Try.results75] at hR; refine wg_run ?_; (simp only [Try.f75, go_sem])
        repeat' (first | (first | (simp only [go_sem, hc1]) | ((first | refine wd_split _ (fun hb => ?_) (fun hb => ?_) | refine wd_nwant _ (fun hb => ?_) (fun hb => ?_) | refine wm_nwant _ (fun hb => ?_) (fun hb => ?_) | refine wd_want _ (fun hb => ?_) (fun hb => ?_) | refine wm_want _ (fun hb => ?_) (fun hb => ?_) | refine wt_nwant _ (fun hb => ?_) (fun hb => ?_) | refine wt_want _ (fun hb => ?_) (fun hb => ?_)) <;> (simp only [go_sem, hb, hc1])) | (refine wm_done ?_; (simp only [go_sem, hc1])) | (refine wt_done ?_; (simp only [go_sem, hc1])) | (refine wg_run ?_; (simp only [go_sem, hc1])) | (refine wt_fork (by (simp only [go_sem]); first | done | rfl) ?_ ?_ <;> (simp only [go_sem, hc1]))) | (first | (refine wl_next (wg_run ?_); (simp only [go_sem])) | refine wd_rounds 6 ?_) | (first | refine wd_fn (by (simp only [go_sem]); first | done | rfl) (h1) ?_ | refine wm_fn (by (simp only [go_sem]); first | done | rfl) (h1) (by (simp only [go_sem]); first | done | rfl) (by (simp only [go_sem]); first | done | rfl) ?_ | refine wt_fn (by (simp only [go_sem]); first | done | rfl) (h1) (by (simp only [go_sem]); first | done | rfl) (by (simp only [go_sem]); first | done | rfl) ?_); (simp only [go_sem]) | (first | refine wd_fn (by (simp only [go_sem]); first | done | rfl) (h2) ?_ | refine wm_fn (by (simp only [go_sem]); first | done | rfl) (h2) (by (simp only [go_sem]); first | done | rfl) (by (simp only [go_sem]); first | done | rfl) ?_ | refine wt_fn (by (simp only [go_sem]); first | done | rfl) (h2) (by (simp only [go_sem]); first | done | rfl) (by (simp only [go_sem]); first | done | rfl) ?_); (simp only [go_sem]) | fail)
        (refine hR _ (ret_at [] (by (simp only [go_sem]); first | done | rfl) (by (simp only [go_sem]); first | done | rfl) ⟨rfl, rfl⟩))
    | cons y n =>
      rw [ea] at h1
      rw [ea, List.length_cons] at hla
      have hc0 : (n.length + 1) * 8 ≤ 140737488355328 := by omega
      cases eb : b.labels with
      | nil =>
        rw [eb] at h2
        refine fn_in ?_; refine acl_in Try.func75 rfl isfn_75 (Nat.le_of_ble_eq_true rfl) (fun R hR => ?_); rw [Try.results75] at hR; refine wg_run ?_; (simp only [Try.f75, go_sem])
        repeat' (first | (first | (simp only [go_sem, hc0]) | ((first | refine wd_split _ (fun hb => ?_) (fun hb => ?_) | refine wd_nwant _ (fun hb => ?_) (fun hb => ?_) | refine wm_nwant _ (fun hb => ?_) (fun hb => ?_) | refine wd_want _ (fun hb => ?_) (fun hb => ?_) | refine wm_want _ (fun hb => ?_) (fun hb => ?_) | refine wt_nwant _ (fun hb => ?_) (fun hb => ?_) | refine wt_want _ (fun hb => ?_) (fun hb => ?_)) <;> (simp only [go_sem, hb, hc0])) | (refine wm_done ?_; (simp only [go_sem, hc0])) | (refine wt_done ?_; (simp only [go_sem, hc0])) | (refine wg_run ?_; (simp only [go_sem, hc0])) | (refine wt_fork (by (simp only [go_sem]); first | done | rfl) ?_ ?_ <;> (simp only [go_sem, hc0]))) | (first | (refine wl_next (wg_run ?_); (simp only [go_sem])) | refine wd_rounds 6 ?_) | (first | refine wd_fn (by (simp only [go_sem]); first | done | rfl) (h1) ?_ | refine wm_fn (by (simp only [go_sem]); first | done | rfl) (h1) (by (simp only [go_sem]); first | done | rfl) (by (simp only [go_sem]); first | done | rfl) ?_ | refine wt_fn (by (simp only [go_sem]); first | done | rfl) (h1) (by (simp only [go_sem]); first | done | rfl) (by (simp only [go_sem]); first | done | rfl) ?_); (simp only [go_sem]) | (first | refine wd_fn (by (simp only [go_sem]); first | done | rfl) (h2) ?_ | refine wm_fn (by (simp only [go_sem]); first | done | rfl) (h2) (by (simp only [go_sem]); first | done | rfl) (by (simp only [go_sem]); first | done | rfl) ?_ | refine wt_fn (by (simp only [go_sem]); first | done | rfl) (h2) (by (simp only [go_sem]); first | done | rfl) (by (simp only [go_sem]); first | done | rfl) ?_); (simp only [go_sem]) | fail)
        (refine hR _ (ret_at [] (by (simp only [go_sem]); first | done | rfl) (by (simp only [go_sem]); first | done | rfl) ⟨?_, rfl⟩))
        rw [List.append_nil]; rfl
      | cons z m =>
        rw [eb] at h2
        rw [eb, List.length_cons] at hlb
        have hc1 : (n.length + 1 + (m.length + 1)) * 8 ≤ 140737488355328 := by omega
        have hq : decide (n.length + (m.length + 1) + 1 = n.length + 1 + (m.length + 1)) = true := by simp; omega
        refine fn_in ?_; refine acl_in Try.func75 rfl isfn_75 (Nat.le_of_ble_eq_true rfl) (fun R hR => ?_); rw [Try.results75] at hR; refine wg_run ?_; (simp only [Try.f75, go_sem])
        repeat' (first | (first | (simp only [go_sem, hc0, hc1]) | ((first | refine wd_split _ (fun hb => ?_) (fun hb => ?_) | refine wd_nwant _ (fun hb => ?_) (fun hb => ?_) | refine wm_nwant _ (fun hb => ?_) (fun hb => ?_) | refine wd_want _ (fun hb => ?_) (fun hb => ?_) | refine wm_want _ (fun hb => ?_) (fun hb => ?_) | refine wt_nwant _ (fun hb => ?_) (fun hb => ?_) | refine wt_want _ (fun hb => ?_) (fun hb => ?_)) <;> (simp only [go_sem, hb, hc0, hc1])) | (refine wm_done ?_; (simp only [go_sem, hc0, hc1])) | (refine wt_done ?_; (simp only [go_sem, hc0, hc1])) | (refine wg_run ?_; (simp only [go_sem, hc0, hc1])) | (refine wt_fork (by (simp only [go_sem]); first | done | rfl) ?_ ?_ <;> (simp only [go_sem, hc0, hc1]))) | (first | (refine wl_next (wg_run ?_); (simp only [go_sem])) | refine wd_rounds 6 ?_) | (first | refine wd_fn (by (simp only [go_sem]); first | done | rfl) (h1) ?_ | refine wm_fn (by (simp only [go_sem]); first | done | rfl) (h1) (by (simp only [go_sem]); first | done | rfl) (by (simp only [go_sem]); first | done | rfl) ?_ | refine wt_fn (by (simp only [go_sem]); first | done | rfl) (h1) (by (simp only [go_sem]); first | done | rfl) (by (simp only [go_sem]); first | done | rfl) ?_); (simp only [go_sem]) | (first | refine wd_fn (by (simp only [go_sem]); first | done | rfl) (h2) ?_ | refine wm_fn (by (simp only [go_sem]); first | done | rfl) (h2) (by (simp only [go_sem]); first | done | rfl) (by (simp only [go_sem]); first | done | rfl) ?_ | refine wt_fn (by (simp only [go_sem]); first | done | rfl) (h2) (by (simp only [go_sem]); first | done | rfl) (by (simp only [go_sem]); first | done | rfl) ?_); (simp only [go_sem]) | fail)
        (refine hR _ (ret_at [] (by (simp only [go_sem, hq]); first | done | rfl) (by (simp only [go_sem, hq]); first | done | rfl) ⟨?_, rfl⟩))
        simp only [intR_append, intR, List.cons_append]
  | inj c ih =>
    intro hw hz
    simp only [K.wf, Bool.and_eq_true] at hw
    simp only [K.size] at hz
    have h1 := ih hw.2 (by omega)
    have hla := c.labels_len
    simp only [K.labels]
    simp only [K.co]
    cases ea : c.labels with
    | nil =>
      rw [ea] at h1
      refine fn_in ?_; refine acl_in Try.func75 rfl isfn_75 (Nat.le_of_ble_eq_true rfl) (fun R hR => ?_); rw [Try.results75] at hR; refine wg_run ?_; (simp only [Try.f75, go_sem])
      repeat' (first | (first | ((first | refine wd_split _ (fun hb => ?_) (fun hb => ?_) | refine wd_nwant _ (fun hb => ?_) (fun hb => ?_) | refine wm_nwant _ (fun hb => ?_) (fun hb => ?_) | refine wd_want _ (fun hb => ?_) (fun hb => ?_) | refine wm_want _ (fun hb => ?_) (fun hb => ?_) | refine wt_nwant _ (fun hb => ?_) (fun hb => ?_) | refine wt_want _ (fun hb => ?_) (fun hb => ?_)) <;> (simp only [go_sem, hb])) | (refine wm_done ?_; (simp only [go_sem])) | (refine wt_done ?_; (simp only [go_sem])) | (refine wg_run ?_; (simp only [go_sem])) | (refine wt_fork (by (simp only [go_sem]); first | done | rfl) ?_ ?_ <;> (simp only [go_sem]))) | (first | (refine wl_next (wg_run ?_); (simp only [go_sem])) | refine wd_rounds 6 ?_) | (first | refine wd_fn (by (simp only [go_sem]); first | done | rfl) (h1) ?_ | refine wm_fn (by (simp only [go_sem]); first | done | rfl) (h1) (by (simp only [go_sem]); first | done | rfl) (by (simp only [go_sem]); first | done | rfl) ?_ | refine wt_fn (by (simp only [go_sem]); first | done | rfl) (h1) (by (simp only [go_sem]); first | done | rfl) (by (simp only [go_sem]); first | done | rfl) ?_); (simp only [go_sem]) | fail)
      (refine hR _ (ret_at [] (by (simp only [go_sem]); first | done | rfl) (by (simp only [go_sem]); first | done | rfl) ⟨rfl, rfl⟩))
    | cons y n =>
      rw [ea] at h1
      rw [ea, List.length_cons] at hla
      have hc0 : (n.length + 1) * 8 ≤ 140737488355328 := by omega
      refine fn_in ?_; refine acl_in Try.func75 rfl isfn_75 (Nat.le_of_ble_eq_true rfl) (fun R hR => ?_); rw [Try.results75] at hR; refine wg_run ?_; (simp only [Try.f75, go_sem])
      repeat' (first | (first | (simp only [go_sem, hc0]) | ((first | refine wd_split _ (fun hb => ?_) (fun hb => ?_) | refine wd_nwant _ (fun hb => ?_) (fun hb => ?_) | refine wm_nwant _ (fun hb => ?_) (fun hb => ?_) | refine wd_want _ (fun hb => ?_) (fun hb => ?_) | refine wm_want _ (fun hb => ?_) (fun hb => ?_) | refine wt_nwant _ (fun hb => ?_) (fun hb => ?_) | refine wt_want _ (fun hb => ?_) (fun hb => ?_)) <;> (simp only [go_sem, hb, hc0])) | (refine wm_done ?_; (simp only [go_sem, hc0])) | (refine wt_done ?_; (simp only [go_sem, hc0])) | (refine wg_run ?_; (simp only [go_sem, hc0])) | (refine wt_fork (by (simp only [go_sem]); first | done | rfl) ?_ ?_ <;> (simp only [go_sem, hc0]))) | (first | (refine wl_next (wg_run ?_); (simp only [go_sem])) | refine wd_rounds 6 ?_) | (first | refine wd_fn (by (simp only [go_sem]); first | done | rfl) (h1) ?_ | refine wm_fn (by (simp only [go_sem]); first | done | rfl) (h1) (by (simp only [go_sem]); first | done | rfl) (by (simp only [go_sem]); first | done | rfl) ?_ | refine wt_fn (by (simp only [go_sem]); first | done | rfl) (h1) (by (simp only [go_sem]); first | done | rfl) (by (simp only [go_sem]); first | done | rfl) ?_); (simp only [go_sem]) | fail)
      (refine hR _ (ret_at [] (by (simp only [go_sem]); first | done | rfl) (by (simp only [go_sem]); first | done | rfl) ⟨rfl, rfl⟩))
  | prj l c ih =>
    intro hw hz
    simp only [K.wf, Bool.and_eq_true] at hw
    have h0 := K.lab_ne (k := .id 1) hw.1.1.1
    simp only [K.size] at hz
    have h1 := ih hw.2 (by omega)
    have hla := c.labels_len
    simp only [K.labels]
    simp only [K.co]
    cases ea : c.labels with
    | nil =>
      rw [ea] at h1
      refine fn_in ?_; refine acl_in Try.func75 rfl isfn_75 (Nat.le_of_ble_eq_true rfl) (fun R hR => ?_); rw [Try.results75] at hR; refine wg_run ?_; (simp only [Try.f75, go_sem, h0, int_bne])
      repeat' (first | (first | (simp only [go_sem, h0, int_bne]) | ((first | refine wd_split _ (fun hb => ?_) (fun hb => ?_) | refine wd_nwant _ (fun hb => ?_) (fun hb => ?_) | refine wm_nwant _ (fun hb => ?_) (fun hb => ?_) | refine wd_want _ (fun hb => ?_) (fun hb => ?_) | refine wm_want _ (fun hb => ?_) (fun hb => ?_) | refine wt_nwant _ (fun hb => ?_) (fun hb => ?_) | refine wt_want _ (fun hb => ?_) (fun hb => ?_)) <;> (simp only [go_sem, hb, h0, int_bne])) | (refine wm_done ?_; (simp only [go_sem, h0, int_bne])) | (refine wt_done ?_; (simp only [go_sem, h0, int_bne])) | (refine wg_run ?_; (simp only [go_sem, h0, int_bne])) | (refine wt_fork (by (simp only [go_sem]); first | done | rfl) ?_ ?_ <;> (simp only [go_sem, h0, int_bne]))) | (first | (refine wl_next (wg_run ?_); (simp only [go_sem])) | refine wd_rounds 6 ?_) | (first | refine wd_fn (by (simp only [go_sem]); first | done | rfl) (h1) ?_ | refine wm_fn (by (simp only [go_sem]); first | done | rfl) (h1) (by (simp only [go_sem]); first | done | rfl) (by (simp only [go_sem]); first | done | rfl) ?_ | refine wt_fn (by (simp only [go_sem]); first | done | rfl) (h1) (by (simp only [go_sem]); first | done | rfl) (by (simp only [go_sem]); first | done | rfl) ?_); (simp only [go_sem]) | fail)
      (refine hR _ (ret_at [] (by (simp only [go_sem]); first | done | rfl) (by (simp only [go_sem]); first | done | rfl) ⟨rfl, rfl⟩))
    | cons y n =>
      rw [ea] at h1
      rw [ea, List.length_cons] at hla
      have hc0 : (1 + (n.length + 1)) * 8 ≤ 140737488355328 := by omega
      have hc1 : (n.length + 1) * 8 ≤ 140737488355328 := by omega
      refine fn_in ?_; refine acl_in Try.func75 rfl isfn_75 (Nat.le_of_ble_eq_true rfl) (fun R hR => ?_); rw [Try.results75] at hR; refine wg_run ?_; (simp only [Try.f75, go_sem, h0, int_bne])
      have hq : decide (n.length + 1 + 1 = 1 + (n.length + 1)) = true := by simp; omega
      repeat' (first | (first | (simp only [go_sem, h0, int_bne, hc0, hc1]) | ((first | refine wd_split _ (fun hb => ?_) (fun hb => ?_) | refine wd_nwant _ (fun hb => ?_) (fun hb => ?_) | refine wm_nwant _ (fun hb => ?_) (fun hb => ?_) | refine wd_want _ (fun hb => ?_) (fun hb => ?_) | refine wm_want _ (fun hb => ?_) (fun hb => ?_) | refine wt_nwant _ (fun hb => ?_) (fun hb => ?_) | refine wt_want _ (fun hb => ?_) (fun hb => ?_)) <;> (simp only [go_sem, hb, h0, int_bne, hc0, hc1])) | (refine wm_done ?_; (simp only [go_sem, h0, int_bne, hc0, hc1])) | (refine wt_done ?_; (simp only [go_sem, h0, int_bne, hc0, hc1])) | (refine wg_run ?_; (simp only [go_sem, h0, int_bne, hc0, hc1])) | (refine wt_fork (by (simp only [go_sem]); first | done | rfl) ?_ ?_ <;> (simp only [go_sem, h0, int_bne, hc0, hc1]))) | (first | (refine wl_next (wg_run ?_); (simp only [go_sem])) | refine wd_rounds 6 ?_) | (first | refine wd_fn (by (simp only [go_sem]); first | done | rfl) (h1) ?_ | refine wm_fn (by (simp only [go_sem]); first | done | rfl) (h1) (by (simp only [go_sem]); first | done | rfl) (by (simp only [go_sem]); first | done | rfl) ?_ | refine wt_fn (by (simp only [go_sem]); first | done | rfl) (h1) (by (simp only [go_sem]); first | done | rfl) (by (simp only [go_sem]); first | done | rfl) ?_); (simp only [go_sem]) | fail)
      (refine hR _ (ret_at [] (by (simp only [go_sem, hq]); first | done | rfl) (by (simp only [go_sem, hq]); first | done | rfl) ⟨?_, rfl⟩))
      rfl
theorem iLabsO (k : K) (hw : k.wf = true) (hz : k.size < 900000) : ACl Try.prog 75 [.agg (coC k.co)] [] (OwnL k.labels) := by
  cases k with
  | id g =>
    simp only [K.co, K.labels, OwnL]
    refine acl_in Try.func75 rfl isfn_75 (Nat.le_of_ble_eq_true rfl) (fun R hR => ?_); rw [Try.results75] at hR; refine wg_run ?_; (simp only [Try.f75, go_sem])
    repeat' (first | (first | ((first | refine wd_split _ (fun hb => ?_) (fun hb => ?_) | refine wd_nwant _ (fun hb => ?_) (fun hb => ?_) | refine wm_nwant _ (fun hb => ?_) (fun hb => ?_) | refine wd_want _ (fun hb => ?_) (fun hb => ?_) | refine wm_want _ (fun hb => ?_) (fun hb => ?_) | refine wt_nwant _ (fun hb => ?_) (fun hb => ?_) | refine wt_want _ (fun hb => ?_) (fun hb => ?_)) <;> (simp only [go_sem, hb])) | (refine wm_done ?_; (simp only [go_sem])) | (refine wt_done ?_; (simp only [go_sem])) | (refine wg_run ?_; (simp only [go_sem])) | (refine wt_fork (by (simp only [go_sem]); first | done | rfl) ?_ ?_ <;> (simp only [go_sem]))) | (first | (refine wl_next (wg_run ?_); (simp only [go_sem])) | refine wd_rounds 6 ?_) | fail)
    exact hR _ (ret_own [] (by (simp only [go_sem]); first | done | rfl) (by (simp only [go_sem]); first | done | rfl) ⟨rfl, rfl⟩)
  | fail l g =>
    simp only [K.wf, Bool.and_eq_true] at hw
    have h0 := K.lab_ne (k := .id 1) hw.1.1
    simp only [K.co, K.labels, OwnL]
    refine acl_in Try.func75 rfl isfn_75 (Nat.le_of_ble_eq_true rfl) (fun R hR => ?_); rw [Try.results75] at hR; refine wg_run ?_; (simp only [Try.f75, go_sem, h0, int_bne])
    repeat' (first | (first | (simp only [go_sem, h0, int_bne]) | ((first | refine wd_split _ (fun hb => ?_) (fun hb => ?_) | refine wd_nwant _ (fun hb => ?_) (fun hb => ?_) | refine wm_nwant _ (fun hb => ?_) (fun hb => ?_) | refine wd_want _ (fun hb => ?_) (fun hb => ?_) | refine wm_want _ (fun hb => ?_) (fun hb => ?_) | refine wt_nwant _ (fun hb => ?_) (fun hb => ?_) | refine wt_want _ (fun hb => ?_) (fun hb => ?_)) <;> (simp only [go_sem, hb, h0, int_bne])) | (refine wm_done ?_; (simp only [go_sem, h0, int_bne])) | (refine wt_done ?_; (simp only [go_sem, h0, int_bne])) | (refine wg_run ?_; (simp only [go_sem, h0, int_bne])) | (refine wt_fork (by (simp only [go_sem]); first | done | rfl) ?_ ?_ <;> (simp only [go_sem, h0, int_bne]))) | (first | (refine wl_next (wg_run ?_); (simp only [go_sem])) | refine wd_rounds 6 ?_) | fail)
    exact hR _ (ret_own [2] (by (simp only [go_sem]); first | done | rfl) (by (simp only [go_sem]); first | done | rfl) ⟨rfl, rfl⟩)
  | fn a b | pr a b =>
    simp only [K.wf, Bool.and_eq_true] at hw
    simp only [K.size] at hz
    have hla := a.labels_len
    have hlb := b.labels_len
    have h1 := iLabs a hw.1 (by omega)
    have h2 := iLabs b hw.2 (by omega)
    simp only [K.labels]
    simp only [K.co]
    cases ea : a.labels with
    | nil =>
      rw [ea] at h1
      cases eb : b.labels with
      | nil =>
        rw [eb] at h2
        refine acl_in Try.func75 rfl isfn_75 (Nat.le_of_ble_eq_true rfl) (fun R hR => ?_); rw [Try.results75] at hR; refine wg_run ?_; (simp only [Try.f75, go_sem])
        repeat' (first | (first | ((first | refine wd_split _ (fun hb => ?_) (fun hb => ?_) | refine wd_nwant _ (fun hb => ?_) (fun hb => ?_) | refine wm_nwant _ (fun hb => ?_) (fun hb => ?_) | refine wd_want _ (fun hb => ?_) (fun hb => ?_) | refine wm_want _ (fun hb => ?_) (fun hb => ?_) | refine wt_nwant _ (fun hb => ?_) (fun hb => ?_) | refine wt_want _ (fun hb => ?_) (fun hb => ?_)) <;> (simp only [go_sem, hb])) | (refine wm_done ?_; (simp only [go_sem])) | (refine wt_done ?_; (simp only [go_sem])) | (refine wg_run ?_; (simp only [go_sem])) | (refine wt_fork (by (simp only [go_sem]); first | done | rfl) ?_ ?_ <;> (simp only [go_sem]))) | (first | (refine wl_next (wg_run ?_); (simp only [go_sem])) | refine wd_rounds 6 ?_) | (first | refine wd_fn (by (simp only [go_sem]); first | done | rfl) (h1) ?_ | refine wm_fn (by (simp only [go_sem]); first | done | rfl) (h1) (by (simp only [go_sem]); first | done | rfl) (by (simp only [go_sem]); first | done | rfl) ?_ | refine wt_fn (by (simp only [go_sem]); first | done | rfl) (h1) (by (simp only [go_sem]); first | done | rfl) (by (simp only [go_sem]); first | done | rfl) ?_); (simp only [go_sem]) | (first | refine wd_fn (by (simp only [go_sem]); first | done | rfl) (h2) ?_ | refine wm_fn (by (simp only [go_sem]); first | done | rfl) (h2) (by (simp only [go_sem]); first | done | rfl) (by (simp only [go_sem]); first | done | rfl) ?_ | refine wt_fn (by (simp only [go_sem]); first | done | rfl) (h2) (by (simp only [go_sem]); first | done | rfl) (by (simp only [go_sem]); first | done | rfl) ?_); (simp only [go_sem]) | fail)
        exact hR _ (ret_own [] (by (simp only [go_sem]); first | done | rfl) (by (simp only [go_sem]); first | done | rfl) ⟨rfl, rfl⟩)
      | cons z m =>
        rw [eb] at h2
        rw [eb, List.length_cons] at hlb
        have hc1 : (m.length + 1) * 8 ≤ 140737488355328 := by omega
        refine acl_in Try.func75 rfl isfn_75 (Nat.le_of_ble_eq_true rfl) (fun R hR => ?_); rw [Try.results75] at hR; refine wg_run ?_; (simp only [Try.f75, go_sem])
        repeat' (first | (first | (simp only [go_sem, hc1]) | ((first | refine wd_split _ (fun hb => ?_) (fun hb => ?_) | refine wd_nwant _ (fun hb => ?_) (fun hb => ?_) | refine wm_nwant _ (fun hb => ?_) (fun hb => ?_) | refine wd_want _ (fun hb => ?_) (fun hb => ?_) | refine wm_want _ (fun hb => ?_) (fun hb => ?_) | refine wt_nwant _ (fun hb => ?_) (fun hb => ?_) | refine wt_want _ (fun hb => ?_) (fun hb => ?_)) <;> (simp only [go_sem, hb, hc1])) | (refine wm_done ?_; (simp only [go_sem, hc1])) | (refine wt_done ?_; (simp only [go_sem, hc1])) | (refine wg_run ?_; (simp only [go_sem, hc1])) | (refine wt_fork (by (simp only [go_sem]); first | done | rfl) ?_ ?_ <;> (simp only [go_sem, hc1]))) | (first | (refine wl_next (wg_run ?_); (simp only [go_sem])) | refine wd_rounds 6 ?_) | (first | refine wd_fn (by (simp only [go_sem]); first | done | rfl) (h1) ?_ | refine wm_fn (by (simp only [go_sem]); first | done | rfl) (h1) (by (simp only [go_sem]); first | done | rfl) (by (simp only [go_sem]); first | done | rfl) ?_ | refine wt_fn (by (simp only [go_sem]); first | done | rfl) (h1) (by (simp only [go_sem]); first | done | rfl) (by (simp only [go_sem]); first | done | rfl) ?_); (simp only [go_sem]) | (first | refine wd_fn (by (simp only [go_sem]); first | done | rfl) (h2) ?_ | refine wm_fn (by (simp only [go_sem]); first | done | rfl) (h2) (by (simp only [go_sem]); first | done | rfl) (by (simp only [go_sem]); first | done | rfl) ?_ | refine wt_fn (by (simp only [go_sem]); first | done | rfl) (h2) (by (simp only [go_sem]); first | done | rfl) (by (simp only [go_sem]); first | done | rfl) ?_); (simp only [go_sem]) | fail)
        exact hR _ (ret_own [3] (by (simp only [go_sem]); first | done | rfl) (by (simp only [go_sem]); first | done | rfl) ⟨rfl, rfl⟩)
    | cons y n =>
      rw [ea] at h1
      rw [ea, List.length_cons] at hla
      have hc0 : (n.length + 1) * 8 ≤ 140737488355328 := by omega
      cases eb : b.labels with
      | nil =>
        rw [eb] at h2
        rw [List.append_nil]
        refine acl_in Try.func75 rfl isfn_75 (Nat.le_of_ble_eq_true rfl) (fun R hR => ?_); rw [Try.results75] at hR; refine wg_run ?_; (simp only [Try.f75, go_sem])
        repeat' (first | (first | (simp only [go_sem, hc0]) | ((first | refine wd_split _ (fun hb => ?_) (fun hb => ?_) | refine wd_nwant _ (fun hb => ?_) (fun hb => ?_) | refine wm_nwant _ (fun hb => ?_) (fun hb => ?_) | refine wd_want _ (fun hb => ?_) (fun hb => ?_) | refine wm_want _ (fun hb => ?_) (fun hb => ?_) | refine wt_nwant _ (fun hb => ?_) (fun hb => ?_) | refine wt_want _ (fun hb => ?_) (fun hb => ?_)) <;> (simp only [go_sem, hb, hc0])) | (refine wm_done ?_; (simp only [go_sem, hc0])) | (refine wt_done ?_; (simp only [go_sem, hc0])) | (refine wg_run ?_; (simp only [go_sem, hc0])) | (refine wt_fork (by (simp only [go_sem]); first | done | rfl) ?_ ?_ <;> (simp only [go_sem, hc0]))) | (first | (refine wl_next (wg_run ?_); (simp only [go_sem])) | refine wd_rounds 6 ?_) | (first | refine wd_fn (by (simp only [go_sem]); first | done | rfl) (h1) ?_ | refine wm_fn (by (simp only [go_sem]); first | done | rfl) (h1) (by (simp only [go_sem]); first | done | rfl) (by (simp only [go_sem]); first | done | rfl) ?_ | refine wt_fn (by (simp only [go_sem]); first | done | rfl) (h1) (by (simp only [go_sem]); first | done | rfl) (by (simp only [go_sem]); first | done | rfl) ?_); (simp only [go_sem]) | (first | refine wd_fn (by (simp only [go_sem]); first | done | rfl) (h2) ?_ | refine wm_fn (by (simp only [go_sem]); first | done | rfl) (h2) (by (simp only [go_sem]); first | done | rfl) (by (simp only [go_sem]); first | done | rfl) ?_ | refine wt_fn (by (simp only [go_sem]); first | done | rfl) (h2) (by (simp only [go_sem]); first | done | rfl) (by (simp only [go_sem]); first | done | rfl) ?_); (simp only [go_sem]) | fail)
        exact hR _ (ret_own [2] (by (simp only [go_sem]); first | done | rfl) (by (simp only [go_sem]); first | done | rfl) ⟨rfl, rfl⟩)
      | cons z m =>
        rw [eb] at h2
        rw [eb, List.length_cons] at hlb
        have hc1 : (n.length + 1 + (m.length + 1)) * 8 ≤ 140737488355328 := by omega
        have hq : n.length + (m.length + 1) + 1 = n.length + 1 + (m.length + 1) := by omega
        have hx : ([C.sc (Value.int IntKind.i64 y)] :: (intR n ++ [C.sc (Value.int IntKind.i64 z)] :: intR m)) = intR (y :: (n ++ z :: m)) := by simp only [intR_append, intR]
        rw [List.cons_append]
        refine acl_in Try.func75 rfl isfn_75 (Nat.le_of_ble_eq_true rfl) (fun R hR => ?_); rw [Try.results75] at hR; refine wg_run ?_; (simp only [Try.f75, go_sem])
        repeat' (first | (first | (simp only [go_sem, hc0, hc1]) | ((first | refine wd_split _ (fun hb => ?_) (fun hb => ?_) | refine wd_nwant _ (fun hb => ?_) (fun hb => ?_) | refine wm_nwant _ (fun hb => ?_) (fun hb => ?_) | refine wd_want _ (fun hb => ?_) (fun hb => ?_) | refine wm_want _ (fun hb => ?_) (fun hb => ?_) | refine wt_nwant _ (fun hb => ?_) (fun hb => ?_) | refine wt_want _ (fun hb => ?_) (fun hb => ?_)) <;> (simp only [go_sem, hb, hc0, hc1])) | (refine wm_done ?_; (simp only [go_sem, hc0, hc1])) | (refine wt_done ?_; (simp only [go_sem, hc0, hc1])) | (refine wg_run ?_; (simp only [go_sem, hc0, hc1])) | (refine wt_fork (by (simp only [go_sem]); first | done | rfl) ?_ ?_ <;> (simp only [go_sem, hc0, hc1]))) | (first | (refine wl_next (wg_run ?_); (simp only [go_sem])) | refine wd_rounds 6 ?_) | (first | refine wd_fn (by (simp only [go_sem]); first | done | rfl) (h1) ?_ | refine wm_fn (by (simp only [go_sem]); first | done | rfl) (h1) (by (simp only [go_sem]); first | done | rfl) (by (simp only [go_sem]); first | done | rfl) ?_ | refine wt_fn (by (simp only [go_sem]); first | done | rfl) (h1) (by (simp only [go_sem]); first | done | rfl) (by (simp only [go_sem]); first | done | rfl) ?_); (simp only [go_sem]) | (first | refine wd_fn (by (simp only [go_sem]); first | done | rfl) (h2) ?_ | refine wm_fn (by (simp only [go_sem]); first | done | rfl) (h2) (by (simp only [go_sem]); first | done | rfl) (by (simp only [go_sem]); first | done | rfl) ?_ | refine wt_fn (by (simp only [go_sem]); first | done | rfl) (h2) (by (simp only [go_sem]); first | done | rfl) (by (simp only [go_sem]); first | done | rfl) ?_); (simp only [go_sem]) | fail)
        refine hR _ (ret_own [4] (by (simp only [go_sem]); first | done | rfl) (by (simp only [go_sem]); first | done | rfl) ⟨?_, ?_⟩)
        · simp only [List.length_append, List.length_cons]; rw [← hq, Nat.add_assoc]
        · rw [hx]
  | inj c =>
    simp only [K.wf, Bool.and_eq_true] at hw
    simp only [K.size] at hz
    have h1 := iLabs c hw.2 (by omega)
    have hla := c.labels_len
    simp only [K.labels]
    simp only [K.co]
    cases ea : c.labels with
    | nil =>
      rw [ea] at h1
      refine acl_in Try.func75 rfl isfn_75 (Nat.le_of_ble_eq_true rfl) (fun R hR => ?_); rw [Try.results75] at hR; refine wg_run ?_; (simp only [Try.f75, go_sem])
      repeat' (first | (first | ((first | refine wd_split _ (fun hb => ?_) (fun hb => ?_) | refine wd_nwant _ (fun hb => ?_) (fun hb => ?_) | refine wm_nwant _ (fun hb => ?_) (fun hb => ?_) | refine wd_want _ (fun hb => ?_) (fun hb => ?_) | refine wm_want _ (fun hb => ?_) (fun hb => ?_) | refine wt_nwant _ (fun hb => ?_) (fun hb => ?_) | refine wt_want _ (fun hb => ?_) (fun hb => ?_)) <;> (simp only [go_sem, hb])) | (refine wm_done ?_; (simp only [go_sem])) | (refine wt_done ?_; (simp only [go_sem])) | (refine wg_run ?_; (simp only [go_sem])) | (refine wt_fork (by (simp only [go_sem]); first | done | rfl) ?_ ?_ <;> (simp only [go_sem]))) | (first | (refine wl_next (wg_run ?_); (simp only [go_sem])) | refine wd_rounds 6 ?_) | (first | refine wd_fn (by (simp only [go_sem]); first | done | rfl) (h1) ?_ | refine wm_fn (by (simp only [go_sem]); first | done | rfl) (h1) (by (simp only [go_sem]); first | done | rfl) (by (simp only [go_sem]); first | done | rfl) ?_ | refine wt_fn (by (simp only [go_sem]); first | done | rfl) (h1) (by (simp only [go_sem]); first | done | rfl) (by (simp only [go_sem]); first | done | rfl) ?_); (simp only [go_sem]) | fail)
      exact hR _ (ret_own [] (by (simp only [go_sem]); first | done | rfl) (by (simp only [go_sem]); first | done | rfl) ⟨rfl, rfl⟩)
    | cons y n =>
      rw [ea] at h1
      rw [ea, List.length_cons] at hla
      have hc0 : (n.length + 1) * 8 ≤ 140737488355328 := by omega
      refine acl_in Try.func75 rfl isfn_75 (Nat.le_of_ble_eq_true rfl) (fun R hR => ?_); rw [Try.results75] at hR; refine wg_run ?_; (simp only [Try.f75, go_sem])
      repeat' (first | (first | (simp only [go_sem, hc0]) | ((first | refine wd_split _ (fun hb => ?_) (fun hb => ?_) | refine wd_nwant _ (fun hb => ?_) (fun hb => ?_) | refine wm_nwant _ (fun hb => ?_) (fun hb => ?_) | refine wd_want _ (fun hb => ?_) (fun hb => ?_) | refine wm_want _ (fun hb => ?_) (fun hb => ?_) | refine wt_nwant _ (fun hb => ?_) (fun hb => ?_) | refine wt_want _ (fun hb => ?_) (fun hb => ?_)) <;> (simp only [go_sem, hb, hc0])) | (refine wm_done ?_; (simp only [go_sem, hc0])) | (refine wt_done ?_; (simp only [go_sem, hc0])) | (refine wg_run ?_; (simp only [go_sem, hc0])) | (refine wt_fork (by (simp only [go_sem]); first | done | rfl) ?_ ?_ <;> (simp only [go_sem, hc0]))) | (first | (refine wl_next (wg_run ?_); (simp only [go_sem])) | refine wd_rounds 6 ?_) | (first | refine wd_fn (by (simp only [go_sem]); first | done | rfl) (h1) ?_ | refine wm_fn (by (simp only [go_sem]); first | done | rfl) (h1) (by (simp only [go_sem]); first | done | rfl) (by (simp only [go_sem]); first | done | rfl) ?_ | refine wt_fn (by (simp only [go_sem]); first | done | rfl) (h1) (by (simp only [go_sem]); first | done | rfl) (by (simp only [go_sem]); first | done | rfl) ?_); (simp only [go_sem]) | fail)
      exact hR _ (ret_own [2] (by (simp only [go_sem]); first | done | rfl) (by (simp only [go_sem]); first | done | rfl) ⟨rfl, rfl⟩)
  | prj l c =>
    simp only [K.wf, Bool.and_eq_true] at hw
    have h0 := K.lab_ne (k := .id 1) hw.1.1.1
    simp only [K.size] at hz
    have h1 := iLabs c hw.2 (by omega)
    have hla := c.labels_len
    simp only [K.labels]
    simp only [K.co]
    cases ea : c.labels with
    | nil =>
      rw [ea] at h1
      refine acl_in Try.func75 rfl isfn_75 (Nat.le_of_ble_eq_true rfl) (fun R hR => ?_); rw [Try.results75] at hR; refine wg_run ?_; (simp only [Try.f75, go_sem, h0, int_bne])
      repeat' (first | (first | (simp only [go_sem, h0, int_bne]) | ((first | refine wd_split _ (fun hb => ?_) (fun hb => ?_) | refine wd_nwant _ (fun hb => ?_) (fun hb => ?_) | refine wm_nwant _ (fun hb => ?_) (fun hb => ?_) | refine wd_want _ (fun hb => ?_) (fun hb => ?_) | refine wm_want _ (fun hb => ?_) (fun hb => ?_) | refine wt_nwant _ (fun hb => ?_) (fun hb => ?_) | refine wt_want _ (fun hb => ?_) (fun hb => ?_)) <;> (simp only [go_sem, hb, h0, int_bne])) | (refine wm_done ?_; (simp only [go_sem, h0, int_bne])) | (refine wt_done ?_; (simp only [go_sem, h0, int_bne])) | (refine wg_run ?_; (simp only [go_sem, h0, int_bne])) | (refine wt_fork (by (simp only [go_sem]); first | done | rfl) ?_ ?_ <;> (simp only [go_sem, h0, int_bne]))) | (first | (refine wl_next (wg_run ?_); (simp only [go_sem])) | refine wd_rounds 6 ?_) | (first | refine wd_fn (by (simp only [go_sem]); first | done | rfl) (h1) ?_ | refine wm_fn (by (simp only [go_sem]); first | done | rfl) (h1) (by (simp only [go_sem]); first | done | rfl) (by (simp only [go_sem]); first | done | rfl) ?_ | refine wt_fn (by (simp only [go_sem]); first | done | rfl) (h1) (by (simp only [go_sem]); first | done | rfl) (by (simp only [go_sem]); first | done | rfl) ?_); (simp only [go_sem]) | fail)
      first
        | exact hR _ (ret_own [1] (by (simp only [go_sem]); first | done | rfl) (by (simp only [go_sem]); first | done | rfl) ⟨rfl, rfl⟩)
        | exact hR _ (ret_own [2] (by (simp only [go_sem]); first | done | rfl) (by (simp only [go_sem]); first | done | rfl) ⟨rfl, rfl⟩)
        | exact hR _ (ret_own [3] (by (simp only [go_sem]); first | done | rfl) (by (simp only [go_sem]); first | done | rfl) ⟨rfl, rfl⟩)
    | cons y n =>
      rw [ea] at h1
      rw [ea, List.length_cons] at hla
      have hc0 : (1 + (n.length + 1)) * 8 ≤ 140737488355328 := by omega
      have hc1 : (n.length + 1) * 8 ≤ 140737488355328 := by omega
      have hq : 1 + (n.length + 1) = n.length + 1 + 1 := by omega
      refine acl_in Try.func75 rfl isfn_75 (Nat.le_of_ble_eq_true rfl) (fun R hR => ?_); rw [Try.results75] at hR; refine wg_run ?_; (simp only [Try.f75, go_sem, h0, int_bne])
      repeat' (first | (first | (simp only [go_sem, h0, int_bne, hc0, hc1]) | ((first | refine wd_split _ (fun hb => ?_) (fun hb => ?_) | refine wd_nwant _ (fun hb => ?_) (fun hb => ?_) | refine wm_nwant _ (fun hb => ?_) (fun hb => ?_) | refine wd_want _ (fun hb => ?_) (fun hb => ?_) | refine wm_want _ (fun hb => ?_) (fun hb => ?_) | refine wt_nwant _ (fun hb => ?_) (fun hb => ?_) | refine wt_want _ (fun hb => ?_) (fun hb => ?_)) <;> (simp only [go_sem, hb, h0, int_bne, hc0, hc1])) | (refine wm_done ?_; (simp only [go_sem, h0, int_bne, hc0, hc1])) | (refine wt_done ?_; (simp only [go_sem, h0, int_bne, hc0, hc1])) | (refine wg_run ?_; (simp only [go_sem, h0, int_bne, hc0, hc1])) | (refine wt_fork (by (simp only [go_sem]); first | done | rfl) ?_ ?_ <;> (simp only [go_sem, h0, int_bne, hc0, hc1]))) | (first | (refine wl_next (wg_run ?_); (simp only [go_sem])) | refine wd_rounds 6 ?_) | (first | refine wd_fn (by (simp only [go_sem]); first | done | rfl) (h1) ?_ | refine wm_fn (by (simp only [go_sem]); first | done | rfl) (h1) (by (simp only [go_sem]); first | done | rfl) (by (simp only [go_sem]); first | done | rfl) ?_ | refine wt_fn (by (simp only [go_sem]); first | done | rfl) (h1) (by (simp only [go_sem]); first | done | rfl) (by (simp only [go_sem]); first | done | rfl) ?_); (simp only [go_sem]) | fail)
      refine hR _ (ret_own [4] (by (simp only [go_sem]); first | done | rfl) (by (simp only [go_sem]); first | done | rfl) ⟨?_, ?_⟩)
      · simp only [List.length_cons]; rw [hq]
      · rfl
/-- the labels, in order, each once -/
theorem iCoLabs (c : Co) (h : c.size < 900000) : AFn Try.prog 33 [.agg (coC c)] (.one (.sl (intR c.labsV))) := by
  have hv := coValid c
  unfold Co.labsV
  cases e : c.k? with
  | none =>
    rw [Co.k?_none e] at hv
    refine fn_in ?_; refine acl_in Try.func33 rfl isfn_33 (Nat.le_of_ble_eq_true rfl) (fun R hR => ?_); rw [Try.results33] at hR; refine wg_run ?_; (simp only [Try.f33, go_sem])
    repeat' (first | (first | ((first | refine wd_split _ (fun hb => ?_) (fun hb => ?_) | refine wd_nwant _ (fun hb => ?_) (fun hb => ?_) | refine wm_nwant _ (fun hb => ?_) (fun hb => ?_) | refine wd_want _ (fun hb => ?_) (fun hb => ?_) | refine wm_want _ (fun hb => ?_) (fun hb => ?_) | refine wt_nwant _ (fun hb => ?_) (fun hb => ?_) | refine wt_want _ (fun hb => ?_) (fun hb => ?_)) <;> (simp only [go_sem, hb])) | (refine wm_done ?_; (simp only [go_sem])) | (refine wt_done ?_; (simp only [go_sem])) | (refine wg_run ?_; (simp only [go_sem])) | (refine wt_fork (by (simp only [go_sem]); first | done | rfl) ?_ ?_ <;> (simp only [go_sem]))) | (first | refine wd_fn (by (simp only [go_sem]); first | done | rfl) (hv) ?_ | refine wm_fn (by (simp only [go_sem]); first | done | rfl) (hv) (by (simp only [go_sem]); first | done | rfl) (by (simp only [go_sem]); first | done | rfl) ?_ | refine wt_fn (by (simp only [go_sem]); first | done | rfl) (hv) (by (simp only [go_sem]); first | done | rfl) (by (simp only [go_sem]); first | done | rfl) ?_); (simp only [go_sem]))
    (refine hR _ (ret_at [] (by (simp only [go_sem]); first | done | rfl) (by (simp only [go_sem]); first | done | rfl) ⟨rfl, rfl⟩))
  | some k =>
    obtain ⟨rfl, hk⟩ := Co.k?_some e
    rw [K.ok_valid, hk] at hv
    simp only [K.ok, Bool.and_eq_true] at hk
    rw [K.co_size] at h
    have hl := iLabsO k hk.1 h
    have hll := k.labels_len
    simp only []
    cases el : k.labels with
    | nil =>
      rw [el] at hl
      have e0 : setL [] = [] := (setL_nil_iff []).2 rfl
      have s1 := sortNil
      have s2 := compNil
      rw [e0]
      refine fn_in ?_; refine acl_in Try.func33 rfl isfn_33 (Nat.le_of_ble_eq_true rfl) (fun R hR => ?_); rw [Try.results33] at hR; refine wg_run ?_; (simp only [Try.f33, go_sem])
      repeat' (first | (first | ((first | refine wd_split _ (fun hb => ?_) (fun hb => ?_) | refine wd_nwant _ (fun hb => ?_) (fun hb => ?_) | refine wm_nwant _ (fun hb => ?_) (fun hb => ?_) | refine wd_want _ (fun hb => ?_) (fun hb => ?_) | refine wm_want _ (fun hb => ?_) (fun hb => ?_) | refine wt_nwant _ (fun hb => ?_) (fun hb => ?_) | refine wt_want _ (fun hb => ?_) (fun hb => ?_)) <;> (simp only [go_sem, hb])) | (refine wm_done ?_; (simp only [go_sem])) | (refine wt_done ?_; (simp only [go_sem])) | (refine wg_run ?_; (simp only [go_sem])) | (refine wt_fork (by (simp only [go_sem]); first | done | rfl) ?_ ?_ <;> (simp only [go_sem]))) | (first | refine wd_fn (by (simp only [go_sem]); first | done | rfl) (hv) ?_ | refine wm_fn (by (simp only [go_sem]); first | done | rfl) (hv) (by (simp only [go_sem]); first | done | rfl) (by (simp only [go_sem]); first | done | rfl) ?_ | refine wt_fn (by (simp only [go_sem]); first | done | rfl) (hv) (by (simp only [go_sem]); first | done | rfl) (by (simp only [go_sem]); first | done | rfl) ?_); (simp only [go_sem]) | ((first | refine wd_cl [] (by (simp only [go_sem]); first | done | rfl) (hl) ?_ | refine wm_cl [] (by (simp only [go_sem]); first | done | rfl) (hl) (by (simp only [go_sem]); first | done | rfl) (by (simp only [go_sem]); first | done | rfl) ?_ | refine wt_cl [] (by (simp only [go_sem]); first | done | rfl) (hl) (by (simp only [go_sem]); first | done | rfl) (by (simp only [go_sem]); first | done | rfl) ?_); rintro _ _ ⟨rfl, rfl⟩ <;> (simp only [go_sem])) | (first | refine wd_fn (by (simp only [go_sem]); first | done | rfl) (s1) ?_ | refine wm_fn (by (simp only [go_sem]); first | done | rfl) (s1) (by (simp only [go_sem]); first | done | rfl) (by (simp only [go_sem]); first | done | rfl) ?_ | refine wt_fn (by (simp only [go_sem]); first | done | rfl) (s1) (by (simp only [go_sem]); first | done | rfl) (by (simp only [go_sem]); first | done | rfl) ?_); (simp only [go_sem]) | (first | refine wd_fn (by (simp only [go_sem]); first | done | rfl) (s2) ?_ | refine wm_fn (by (simp only [go_sem]); first | done | rfl) (s2) (by (simp only [go_sem]); first | done | rfl) (by (simp only [go_sem]); first | done | rfl) ?_ | refine wt_fn (by (simp only [go_sem]); first | done | rfl) (s2) (by (simp only [go_sem]); first | done | rfl) (by (simp only [go_sem]); first | done | rfl) ?_); (simp only [go_sem]) | fail)
      (refine hR _ (ret_at [] (by (simp only [go_sem]); first | done | rfl) (by (simp only [go_sem]); first | done | rfl) ⟨rfl, rfl⟩))
    | cons z m =>
      rw [el] at hl hll
      simp only [List.length_cons] at hll
      have s1 := sortCall (z :: m) (by simp only [List.length_cons]; omega)
      have s2 := compCall (srt (z :: m)) (by rw [srt_length]; simp only [List.length_cons]; omega)
      rw [srt_length] at s2
      simp only [List.length_cons] at s1 s2
      simp only [show Lib.compact (srt (z :: m)) = setL (z :: m) from rfl] at s2
      refine fn_in ?_; refine acl_in Try.func33 rfl isfn_33 (Nat.le_of_ble_eq_true rfl) (fun R hR => ?_); rw [Try.results33] at hR; refine wg_run ?_; (simp only [Try.f33, go_sem])
      repeat' (first | (first | ((first | refine wd_split _ (fun hb => ?_) (fun hb => ?_) | refine wd_nwant _ (fun hb => ?_) (fun hb => ?_) | refine wm_nwant _ (fun hb => ?_) (fun hb => ?_) | refine wd_want _ (fun hb => ?_) (fun hb => ?_) | refine wm_want _ (fun hb => ?_) (fun hb => ?_) | refine wt_nwant _ (fun hb => ?_) (fun hb => ?_) | refine wt_want _ (fun hb => ?_) (fun hb => ?_)) <;> (simp only [go_sem, hb])) | (refine wm_done ?_; (simp only [go_sem])) | (refine wt_done ?_; (simp only [go_sem])) | (refine wg_run ?_; (simp only [go_sem])) | (refine wt_fork (by (simp only [go_sem]); first | done | rfl) ?_ ?_ <;> (simp only [go_sem]))) | (first | refine wd_fn (by (simp only [go_sem]); first | done | rfl) (hv) ?_ | refine wm_fn (by (simp only [go_sem]); first | done | rfl) (hv) (by (simp only [go_sem]); first | done | rfl) (by (simp only [go_sem]); first | done | rfl) ?_ | refine wt_fn (by (simp only [go_sem]); first | done | rfl) (hv) (by (simp only [go_sem]); first | done | rfl) (by (simp only [go_sem]); first | done | rfl) ?_); (simp only [go_sem]) | ((first | refine wd_cl [] (by (simp only [go_sem]); first | done | rfl) (hl) ?_ | refine wm_cl [] (by (simp only [go_sem]); first | done | rfl) (hl) (by (simp only [go_sem]); first | done | rfl) (by (simp only [go_sem]); first | done | rfl) ?_ | refine wt_cl [] (by (simp only [go_sem]); first | done | rfl) (hl) (by (simp only [go_sem]); first | done | rfl) (by (simp only [go_sem]); first | done | rfl) ?_); rintro _ _ ⟨rfl, rfl⟩ <;> (simp only [go_sem])) | ((first | refine wd_cl [0] (by (simp only [go_sem]); first | done | rfl) (s1) ?_ | refine wm_cl [0] (by (simp only [go_sem]); first | done | rfl) (s1) (by (simp only [go_sem]); first | done | rfl) (by (simp only [go_sem]); first | done | rfl) ?_ | refine wt_cl [0] (by (simp only [go_sem]); first | done | rfl) (s1) (by (simp only [go_sem]); first | done | rfl) (by (simp only [go_sem]); first | done | rfl) ?_); rintro _ _ ⟨rfl, rfl⟩ <;> (simp only [go_sem])) | ((first | refine wd_cl [1] (by (simp only [go_sem]); first | done | rfl) (s1) ?_ | refine wm_cl [1] (by (simp only [go_sem]); first | done | rfl) (s1) (by (simp only [go_sem]); first | done | rfl) (by (simp only [go_sem]); first | done | rfl) ?_ | refine wt_cl [1] (by (simp only [go_sem]); first | done | rfl) (s1) (by (simp only [go_sem]); first | done | rfl) (by (simp only [go_sem]); first | done | rfl) ?_); rintro _ _ ⟨rfl, rfl⟩ <;> (simp only [go_sem])) | ((first | refine wd_cl [0] (by (simp only [go_sem]); first | done | rfl) (s2) ?_ | refine wm_cl [0] (by (simp only [go_sem]); first | done | rfl) (s2) (by (simp only [go_sem]); first | done | rfl) (by (simp only [go_sem]); first | done | rfl) ?_ | refine wt_cl [0] (by (simp only [go_sem]); first | done | rfl) (s2) (by (simp only [go_sem]); first | done | rfl) (by (simp only [go_sem]); first | done | rfl) ?_); rintro _ _ ⟨rfl, rfl⟩ <;> (simp only [go_sem])) | ((first | refine wd_cl [1] (by (simp only [go_sem]); first | done | rfl) (s2) ?_ | refine wm_cl [1] (by (simp only [go_sem]); first | done | rfl) (s2) (by (simp only [go_sem]); first | done | rfl) (by (simp only [go_sem]); first | done | rfl) ?_ | refine wt_cl [1] (by (simp only [go_sem]); first | done | rfl) (s2) (by (simp only [go_sem]); first | done | rfl) (by (simp only [go_sem]); first | done | rfl) ?_); rintro _ _ ⟨rfl, rfl⟩ <;> (simp only [go_sem])) | fail)
      (refine hR _ (ret_at [] (by (simp only [go_sem]); first | done | rfl) (by (simp only [go_sem]); first | done | rfl) ⟨rfl, rfl⟩))
theorem sCoLabs (c : Co) (h : c.size < 900000) : AFn Try.prog 31 [.agg (coC c)] (.one (.sl (intR c.labsV))) := by
  have hv := sCoValid c (by omega)
  unfold Co.labsV
  cases e : c.k? with
  | none =>
    rw [Co.k?_none e] at hv
    refine fn_in ?_; refine acl_in Try.func31 rfl isfn_31 (Nat.le_of_ble_eq_true rfl) (fun R hR => ?_); rw [Try.results31] at hR; refine wg_run ?_; (simp only [Try.f31, go_sem])
    repeat' (first | (first | ((first | refine wd_split _ (fun hb => ?_) (fun hb => ?_) | refine wd_nwant _ (fun hb => ?_) (fun hb => ?_) | refine wm_nwant _ (fun hb => ?_) (fun hb => ?_) | refine wd_want _ (fun hb => ?_) (fun hb => ?_) | refine wm_want _ (fun hb => ?_) (fun hb => ?_) | refine wt_nwant _ (fun hb => ?_) (fun hb => ?_) | refine wt_want _ (fun hb => ?_) (fun hb => ?_)) <;> (simp only [go_sem, hb])) | (refine wm_done ?_; (simp only [go_sem])) | (refine wt_done ?_; (simp only [go_sem])) | (refine wg_run ?_; (simp only [go_sem])) | (refine wt_fork (by (simp only [go_sem]); first | done | rfl) ?_ ?_ <;> (simp only [go_sem]))) | (first | refine wd_fn (by (simp only [go_sem]); first | done | rfl) (hv) ?_ | refine wm_fn (by (simp only [go_sem]); first | done | rfl) (hv) (by (simp only [go_sem]); first | done | rfl) (by (simp only [go_sem]); first | done | rfl) ?_ | refine wt_fn (by (simp only [go_sem]); first | done | rfl) (hv) (by (simp only [go_sem]); first | done | rfl) (by (simp only [go_sem]); first | done | rfl) ?_); (simp only [go_sem]))
    (refine hR _ (ret_at [] (by (simp only [go_sem]); first | done | rfl) (by (simp only [go_sem]); first | done | rfl) ⟨rfl, rfl⟩))
  | some k =>
    obtain ⟨rfl, hk⟩ := Co.k?_some e
    rw [K.ok_valid, hk] at hv
    simp only [K.ok, Bool.and_eq_true] at hk
    rw [K.co_size] at h
    have hl := l6Labels k [] hk.1 (by simp only [List.length_nil]; omega)
    rw [insL_setL] at hl
    refine fn_in ?_; refine acl_in Try.func31 rfl isfn_31 (Nat.le_of_ble_eq_true rfl) (fun R hR => ?_); rw [Try.results31] at hR; refine wg_run ?_; (simp only [Try.f31, go_sem])
    repeat' (first | (first | ((first | refine wd_split _ (fun hb => ?_) (fun hb => ?_) | refine wd_nwant _ (fun hb => ?_) (fun hb => ?_) | refine wm_nwant _ (fun hb => ?_) (fun hb => ?_) | refine wd_want _ (fun hb => ?_) (fun hb => ?_) | refine wm_want _ (fun hb => ?_) (fun hb => ?_) | refine wt_nwant _ (fun hb => ?_) (fun hb => ?_) | refine wt_want _ (fun hb => ?_) (fun hb => ?_)) <;> (simp only [go_sem, hb])) | (refine wm_done ?_; (simp only [go_sem])) | (refine wt_done ?_; (simp only [go_sem])) | (refine wg_run ?_; (simp only [go_sem])) | (refine wt_fork (by (simp only [go_sem]); first | done | rfl) ?_ ?_ <;> (simp only [go_sem]))) | (first | refine wd_fn (by (simp only [go_sem]); first | done | rfl) (hv) ?_ | refine wm_fn (by (simp only [go_sem]); first | done | rfl) (hv) (by (simp only [go_sem]); first | done | rfl) (by (simp only [go_sem]); first | done | rfl) ?_ | refine wt_fn (by (simp only [go_sem]); first | done | rfl) (hv) (by (simp only [go_sem]); first | done | rfl) (by (simp only [go_sem]); first | done | rfl) ?_); (simp only [go_sem]) | (first | refine wd_fn (by (simp only [go_sem]); first | done | rfl) (hl) ?_ | refine wm_fn (by (simp only [go_sem]); first | done | rfl) (hl) (by (simp only [go_sem]); first | done | rfl) (by (simp only [go_sem]); first | done | rfl) ?_ | refine wt_fn (by (simp only [go_sem]); first | done | rfl) (hl) (by (simp only [go_sem]); first | done | rfl) (by (simp only [go_sem]); first | done | rfl) ?_); (simp only [go_sem]) | ((first | refine wd_mix 6 [] follows (by decide +kernel) (by (simp only [go_sem]); first | done | rfl) ?_ | refine wd_mix 5 [] follows (by decide +kernel) (by (simp only [go_sem]); first | done | rfl) ?_ | refine wd_mix 4 [] follows (by decide +kernel) (by (simp only [go_sem]); first | done | rfl) ?_ | refine wd_mix 3 [] follows (by decide +kernel) (by (simp only [go_sem]); first | done | rfl) ?_ | refine wd_mix 2 [] follows (by decide +kernel) (by (simp only [go_sem]); first | done | rfl) ?_ | refine wd_mix 1 [] follows (by decide +kernel) (by (simp only [go_sem]); first | done | rfl) ?_ | refine wd_mix 0 [] follows (by decide +kernel) (by (simp only [go_sem]); first | done | rfl) ?_ | fail); (simp only [go_sem])) | fail)
    (refine hR _ (ret_at [] (by (simp only [go_sem]); first | done | rfl) (by (simp only [go_sem]); first | done | rfl) ⟨rfl, rfl⟩))
end Go.Proofs.Ytbiobfbonpiiiaa
