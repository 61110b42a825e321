/- Texts of the proof, one behind another. -/
import Derived.Laws.MakeOwn
import Derived.Great.BuildSlice
import Derived.Test.YtnaebafafhamjaaK1
set_option linter.unusedSimpArgs false
set_option linter.unusedVariables false
/- What an operation does, by its shadow. -/
namespace Go.Proofs.Sh
open Go.RowKit

structure SimF (X μ : List Nat) (s : ASt) (a : Act) (w : World) : Prop where
  size : a.tmps.size = s.n
  ds : a.defers = []
  sim : Sim X μ s.h w
  reg : ∀ (t : Nat) (v : AV), look t s.t = some v → AV.rep (X ++ alive μ s.h) μ w v (a.tmps.getD t undef)

theorem SimF.eval {X μ : List Nat} {s : ASt} {a : Act} {w : World} (h : SimF X μ s a w) : ∀ {o : Operand} {v : AV}, s.eval o = some v → AV.rep (X ++ alive μ s.h) μ w v (a.eval o)
  | .tmp t, v, hv => h.reg t v hv
  | .const c, v, hv => by
    simp only [ASt.eval] at hv
    split at hv
    · rename_i hc
      cases hv
      simp only [AV.rep, C.rep]
      refine ⟨rfl, ?_⟩
      show c.oneCell' = true
      unfold C.isConst at hc
      cases c <;> first | rfl | (simp at hc; done)
    · cases hv
  | .func f, v, hv => by
    simp only [ASt.eval] at hv
    cases hv
    simp only [AV.rep, C.rep]
    exact ⟨#[], rfl, by simp [C.repl]⟩
  | .global g, v, hv => by simp [ASt.eval] at hv

theorem AV.rep_undef (L μ : List Nat) (w : World) : AV.rep L μ w aundef undef := by
  simp only [aundef, AV.rep]; exact ⟨#[], rfl, by simp [AV.repl]⟩

theorem look_cons (t t' : Nat) (v : AV) (l : List (Nat × AV)) : look t ((t', v) :: l) = if t' = t then some v else look t l := rfl

theorem SimF.put {X μ : List Nat} {s : ASt} {a : Act} {w : World} (h : SimF X μ s a w) {d : Option Tmp} {v : AV} {u : Value} (hv : AV.rep (X ++ alive μ s.h) μ w v u) : SimF X μ (s.put d v) (a.put d u) w := by
  cases d with
  | none => exact h
  | some d =>
    simp only [ASt.put, Act.put]
    by_cases hd : d < s.n
    · rw [if_pos hd]
      refine ⟨by simp [h.size], h.ds, h.sim, fun t v' hl => ?_⟩
      rw [look_cons] at hl
      split at hl
      · rename_i he
        subst he
        cases hl
        rw [Array.getD_eq_getD_getElem?, Array.getElem?_setIfInBounds_self_of_lt (by rw [h.size]; exact hd)]
        exact hv
      · rename_i he
        rw [Array.getD_eq_getD_getElem?, Array.getElem?_setIfInBounds_ne he, ← Array.getD_eq_getD_getElem?]
        exact h.reg t v' hl
    · rw [if_neg hd]
      have : a.tmps.setIfInBounds d u = a.tmps := by
        apply Array.ext_getElem?
        intro i
        by_cases hi : d = i
        · subst hi
          have h1 : a.tmps.size ≤ d := by rw [h.size]; exact Nat.le_of_not_lt hd
          rw [Array.getElem?_eq_none (by simpa using h1), Array.getElem?_eq_none h1]
        · rw [Array.getElem?_setIfInBounds_ne hi]
      rw [this]
      exact h

/-- the frame, after the own blocks and the world have changed -/
theorem SimF.step {X μ μ' : List Nat} {s : ASt} {a : Act} {w w' : World} {h' : List Blk} (h : SimF X μ s a w) (hs : Stp μ s.h w μ' h' w') (hm : Sim X μ' h' w') : SimF X μ' ⟨s.n, s.t, h'⟩ a w' :=
  ⟨h.size, h.ds, hm, fun t v hl => AV.rep.carry hs.carry (h.reg t v hl)⟩

/-! ### types -/
theorem tinfo_spec {P : Program} {t : TypeId} {ti : TI} (h : tinfo P t = some ti) : ∃ i d z, P.info? t = some i ∧ P.underlying t = some d ∧ i.zero = some z ∧ (∀ u ∈ z.cells.toList, u.oneCell' = true) ∧ z.cells.size = i.size ∧
    ti = ⟨i.size, tagg d, i.bytes, z.cells.toList, tfields P d, telem d, tkindP P d⟩ := by
  unfold tinfo at h
  split at h
  · rename_i i d hi hd
    split at h
    · rename_i z hz
      split at h
      · rename_i hc
        injection h with h
        exact ⟨i, d, z, hi, hd, hz, List.all_eq_true.1 hc.1, hc.2, h.symm⟩
      · cases h
    · cases h
  · cases h
section
variable {P : Program} {w : World}
theorem run_underlying' {t : TypeId} {d : TypeDesc} (h : P.underlying t = some d) : (underlying t).run P w = .ok d w := by
  simp [underlying, h]
theorem run_typeInfo' {t : TypeId} {i : TypeInfo} (h : P.info? t = some i) : (typeInfo t).run P w = .ok i w := by
  simp [typeInfo, h]
theorem run_sizeOf' {t : TypeId} {i : TypeInfo} (h : P.info? t = some i) : (sizeOf t).run P w = .ok i.size w := by
  simp [sizeOf, run_typeInfo' h]
theorem run_zeroValue' {t : TypeId} {i : TypeInfo} {z : Value} (h : P.info? t = some i) (hz : i.zero = some z) : (zeroValue t).run P w = .ok z w := by
  simp [zeroValue, run_typeInfo' h, hz]
theorem run_isAgg' {t : TypeId} {d : TypeDesc} (h : P.underlying t = some d) : (isAgg t).run P w = .ok (tagg d) w := by
  simp only [isAgg, Sem.run_bind, run_underlying' h, Result.andThen_ok]
  cases d <;> rfl
theorem tkind_struct {d : TypeDesc} (h : tkind d = 1) : ∃ fs, d = .struct fs := by cases d <;> simp [tkind] at h ⊢
theorem tkind_slice {d : TypeDesc} (h : tkind d = 3) : ∃ e, d = .slice e := by cases d <;> simp [tkind] at h ⊢
theorem tkind_string {d : TypeDesc} (h : tkind d = 4) : d = .string := by cases d <;> simp [tkind] at h ⊢
theorem tkind_bool {d : TypeDesc} (h : tkind d = 6) : d = .bool := by cases d <;> simp [tkind] at h ⊢
theorem tkindP_eq {d : TypeDesc} {n : Nat} (h : tkindP P d = n) (hn : n ≠ 9) : tkind d = n := by
  unfold tkindP at h
  split at h
  · exact h
  · exact absurd h.symm hn
theorem tk_some {t : TypeId} {n : Nat} (h : tk P t = n) (hn : n ≠ 0) : ∃ d, P.underlying t = some d ∧ tkind d = n := by
  unfold tk at h
  split at h
  · rename_i d hd; exact ⟨d, hd, h⟩
  · exact absurd h.symm hn
theorem tint_some {t : TypeId} {k : IntKind} (h : tint P t = some k) : P.underlying t = some (.int k) := by
  unfold tint at h
  split at h
  · rename_i k' hd; cases h; exact hd
  · cases h
end

theorem C.repl_length {L μ : List Nat} {w : World} : ∀ {cs : List C} {us : List Value}, C.repl L μ w cs us → us.length = cs.length
  | [], us, h => by simp only [C.repl] at h; simp [h]
  | c :: cs, us, h => by
    simp only [C.repl] at h
    obtain ⟨u, us', rfl, _, h3⟩ := h
    simp [C.repl_length h3]
theorem C.repl_get {L μ : List Nat} {w : World} : ∀ {cs : List C} {us : List Value}, C.repl L μ w cs us → ∀ (j : Nat) (c : C), cs[j]? = some c → ∃ u, us[j]? = some u ∧ C.rep L μ w c u
  | [], us, h, j, c, hj => by simp at hj
  | c :: cs, us, h, j, c', hj => by
    simp only [C.repl] at h
    obtain ⟨u, us', rfl, h2, h3⟩ := h
    cases j with
    | zero => simp at hj; subst hj; exact ⟨u, rfl, h2⟩
    | succ j => simpa using C.repl_get h3 j c' (by simpa using hj)
theorem C.repl_of {L μ : List Nat} {w : World} : ∀ {cs : List C} {us : List Value}, us.length = cs.length → (∀ (j : Nat) (c : C) (u : Value), cs[j]? = some c → us[j]? = some u → C.rep L μ w c u) → C.repl L μ w cs us
  | [], us, hl, _ => by simp only [C.repl]; exact List.eq_nil_of_length_eq_zero (by simpa using hl)
  | c :: cs, [], hl, _ => by simp at hl
  | c :: cs, u :: us, hl, h => by
    simp only [C.repl]
    exact ⟨u, us, rfl, h 0 c u rfl rfl, C.repl_of (by simpa using hl) (fun j c' u' h1 h2 => h (j + 1) c' u' (by simpa using h1) (by simpa using h2))⟩
theorem C.repl_append {L μ : List Nat} {w : World} {cs ds : List C} {us vs : List Value} (h : C.repl L μ w cs us) (k : C.repl L μ w ds vs) : C.repl L μ w (cs ++ ds) (us ++ vs) := by
  induction cs generalizing us with
  | nil => simp only [C.repl] at h; subst h; simpa using k
  | cons c cs ih =>
    simp only [C.repl] at h
    obtain ⟨u, us', rfl, h2, h3⟩ := h
    simp only [List.cons_append, C.repl]
    exact ⟨u, us' ++ vs, rfl, h2, ih h3⟩
theorem C.repl_take {L μ : List Nat} {w : World} {cs : List C} {us : List Value} (h : C.repl L μ w cs us) (n : Nat) : C.repl L μ w (cs.take n) (us.take n) := by
  have hl := C.repl_length h
  refine C.repl_of (by simp [hl]) (fun j c u h1 h2 => ?_)
  rw [List.getElem?_take] at h1 h2
  split at h1
  · rename_i hj
    rw [if_pos hj] at h2
    obtain ⟨u', e, hr⟩ := C.repl_get h j c h1
    rw [h2] at e; cases e; exact hr
  · cases h1
theorem C.repl_drop {L μ : List Nat} {w : World} {cs : List C} {us : List Value} (h : C.repl L μ w cs us) (n : Nat) : C.repl L μ w (cs.drop n) (us.drop n) := by
  have hl := C.repl_length h
  refine C.repl_of (by simp [hl]) (fun j c u h1 h2 => ?_)
  rw [List.getElem?_drop] at h1 h2
  obtain ⟨u', e, hr⟩ := C.repl_get h _ c h1
  rw [h2] at e; cases e; exact hr
theorem C.repl_one {L μ : List Nat} {w : World} {cs : List C} {us : List Value} (h : C.repl L μ w cs us) : ∀ u ∈ us, u.oneCell' = true := by
  intro u hu
  obtain ⟨j, hj⟩ := List.getElem?_of_mem hu
  have hl := C.repl_length h
  have hlt : j < cs.length := by rw [← hl]; exact (List.getElem?_eq_some_iff.1 hj).1
  obtain ⟨u', e, hr⟩ := C.repl_get h j _ (List.getElem?_eq_getElem hlt)
  rw [hj] at e; cases e; exact C.rep_one hr
theorem C.repl_sc {L μ : List Nat} {w : World} {us : List Value} (h : ∀ u ∈ us, u.oneCell' = true) : C.repl L μ w (us.map .sc) us := by
  refine C.repl_of (by simp) (fun j c u h1 h2 => ?_)
  rw [List.getElem?_map, h2] at h1
  cases h1
  simp only [C.rep, true_and]
  exact h u (List.mem_of_getElem? h2)
theorem C.reps_get {L μ : List Nat} {w : World} : ∀ {cs : List C} {b off : Nat}, C.reps L μ w cs b off → ∀ (j : Nat) (c : C), cs[j]? = some c → ∃ u, w.cell? ⟨b, off + j, none⟩ = some u ∧ C.rep L μ w c u
  | [], b, off, h, j, c, hj => by simp at hj
  | c :: cs, b, off, h, j, c', hj => by
    simp only [C.reps] at h
    obtain ⟨⟨u, h1, h2⟩, h3⟩ := h
    cases j with
    | zero => simp at hj; subst hj; exact ⟨u, h1, h2⟩
    | succ j =>
      have := C.reps_get h3 j c' (by simpa using hj)
      rwa [show off + 1 + j = off + (j + 1) from by omega] at this
theorem C.reps_of {L μ : List Nat} {w : World} : ∀ {cs : List C} {b off : Nat}, (∀ (j : Nat) (c : C), cs[j]? = some c → ∃ u, w.cell? ⟨b, off + j, none⟩ = some u ∧ C.rep L μ w c u) → C.reps L μ w cs b off
  | [], b, off, h => by simp [C.reps]
  | c :: cs, b, off, h => by
    simp only [C.reps]
    refine ⟨by simpa using h 0 c rfl, C.reps_of (fun j c' hj => ?_)⟩
    have := h (j + 1) c' (by simpa using hj)
    rwa [show off + (j + 1) = off + 1 + j from by omega] at this
theorem C.repss_get {L μ : List Nat} {w : World} {s : Nat} : ∀ {rows : List (List C)} {b off : Nat}, C.repss L μ w s rows b off → ∀ (i : Nat) (r : List C), rows[i]? = some r → r.length = s ∧ C.reps L μ w r b (off + i * s)
  | [], b, off, h, i, r, hi => by simp at hi
  | r :: rows, b, off, h, i, r', hi => by
    simp only [C.repss] at h
    cases i with
    | zero => simp at hi; subst hi; exact ⟨h.1, by simpa using h.2.1⟩
    | succ i =>
      have := C.repss_get h.2.2 i r' (by simpa using hi)
      rwa [show off + s + i * s = off + (i + 1) * s from by rw [Nat.succ_mul]; omega] at this
theorem C.repss_of {L μ : List Nat} {w : World} {s : Nat} : ∀ {rows : List (List C)} {b off : Nat}, (∀ (i : Nat) (r : List C), rows[i]? = some r → r.length = s ∧ C.reps L μ w r b (off + i * s)) → C.repss L μ w s rows b off
  | [], b, off, h => by simp [C.repss]
  | r :: rows, b, off, h => by
    simp only [C.repss]
    have h0 := h 0 r rfl
    refine ⟨h0.1, by simpa using h0.2, C.repss_of (fun i r' hi => ?_)⟩
    have := h (i + 1) r' (by simpa using hi)
    rwa [show off + (i + 1) * s = off + s + i * s from by rw [Nat.succ_mul]; omega] at this

/-! ### operations that only reckon -/
/-- the operation yields u, wherever it comes up -/
def PureV (P : Program) (o : Oper) (a : Act) (u : Value) : Prop := ∀ w, (execOp a.eval o).run P w = .ok (.value u) w

theorem AV.rep_cells {L μ : List Nat} {w : World} {v : AV} {u : Value} {cs : List C} (hc : v.cells = some cs) (h : AV.rep L μ w v u) : C.repl L μ w cs u.cells.toList := by
  cases v with
  | one c =>
    simp only [AV.cells, Option.some.injEq] at hc
    subst hc
    simp only [AV.rep] at h
    have h1 := C.rep_one h
    have : u.cells = #[u] := by cases u <;> first | rfl | (simp [Value.oneCell'] at h1; done)
    rw [this]
    simp only [C.repl]
    exact ⟨u, [], rfl, h, rfl⟩
  | agg cs' =>
    simp only [AV.cells, Option.some.injEq] at hc
    subst hc
    simp only [AV.rep] at h
    obtain ⟨arr, rfl, h⟩ := h
    exact h
  | tup vs => simp [AV.cells] at hc

theorem addr_add (b o n : Nat) : (⟨b, o, none⟩ : Addr).add n = ⟨b, o + n, none⟩ := by unfold Addr.add; split <;> simp_all

section
variable {P : Program} {X μ : List Nat} {s : ASt} {a : Act} {w : World} {o : Oper}

theorem pure_move {x : Operand} {v : AV} (ho : o.op = .move x) (hF : SimF X μ s a w) (hv : s.eval x = some v) : ∃ u, PureV P o a u ∧ AV.rep (X ++ alive μ s.h) μ w v u :=
  ⟨_, fun w => by simp [execOp, ho], hF.eval hv⟩
theorem pure_assign {x : Operand} {v : AV} (ho : o.op = .assign x) (hF : SimF X μ s a w) (hv : s.eval x = some v) : ∃ u, PureV P o a u ∧ AV.rep (X ++ alive μ s.h) μ w v u :=
  ⟨_, fun w => by simp [execOp, ho], hF.eval hv⟩
theorem AV.sc_eq {L : List Nat} {u v : Value} (h : AV.rep L μ w (.one (.sc v)) u) : u = v := by
  simp only [AV.rep, C.rep] at h; exact h.1
theorem pure_pick {c x y : Operand} {b : Bool} {v v' : AV} (ho : o.op = .pick c x y) (hF : SimF X μ s a w) (hc : s.eval c = some (.one (.sc (.bool b)))) (hx : s.eval x = some v) (hy : s.eval y = some v') : ∃ u, PureV P o a u ∧ AV.rep (X ++ alive μ s.h) μ w (bif b then v else v') u := by
  have h1 := AV.sc_eq (hF.eval hc)
  refine ⟨if b then a.eval x else a.eval y, fun w => by simp [execOp, ho, h1, asBool], ?_⟩
  cases b
  · exact hF.eval hy
  · exact hF.eval hx
theorem run_eqGuard_int {op : BinOp} {t : TypeId} {x y : Operand} {k : IntKind} {n : Int} {v : Value} : (eqGuard op t x y (.int k n) v).run P w = .ok () w := by cases op <;> rfl
theorem run_eqGuard_str {op : BinOp} {t : TypeId} {x y : Operand} {n : ByteArray} {v : Value} : (eqGuard op t x y (.string n) v).run P w = .ok () w := by cases op <;> rfl
theorem run_eqGuard_bool {op : BinOp} {t : TypeId} {x y : Operand} {n : Bool} {v : Value} : (eqGuard op t x y (.bool n) v).run P w = .ok () w := by cases op <;> rfl

theorem run_aint {op : BinOp} {t : TypeId} {k : IntKind} {x y : Int} {v : Value} (h : aint op k x y = some v) (hs : op ≠ .shl) (hs' : op ≠ .shr) : (binOp op t (.int k x) (.int k y)).run P w = .ok v w := by
  cases op <;> simp [aint] at h <;> first | (exact absurd rfl hs) | (exact absurd rfl hs') | (simp [binOp, Op.intArith, Op.intDiv, Op.intBits, Op.intCmp, ← h]; done) | (simp [binOp, Op.intArith, Op.intDiv, Op.intBits, Op.intCmp, ← h.2, h.1]; done)
theorem run_astr {op : BinOp} {t : TypeId} {x y : ByteArray} {v : Value} (h : astr op x y = some v) : (binOp op t (.string x) (.string y)).run P w = .ok v w := by
  cases op <;> simp only [astr] at h <;> first | (cases h; done) | (cases h; simp [binOp, Op.stringOp]; done) | skip
  split at h
  · rename_i hl
    cases h
    have h2 : ¬ (IntKind.i64.max < ((x.size : Nat) : Int) + ((y.size : Nat) : Int)) := by
      have : IntKind.i64.max = 9223372036854775807 := rfl
      rw [this]; omega
    have h3 : ((x.size : Nat) : Int) + ((y.size : Nat) : Int) ≤ 9223372036854775807 := by omega
    simp [binOp, Op.stringOp, h2, h3]
  · cases h

theorem AV.rep_sc {L μ : List Nat} {w : World} {v : Value} (h : v.oneCell' = true) : AV.rep L μ w (.one (.sc v)) v := by
  simp only [AV.rep, C.rep, true_and]; exact h
theorem run_equal_bool {t : TypeId} {x y : Bool} (hd : P.underlying t = some .bool) : (Op.equal t (.bool x) (.bool y)).run P w = .ok (x == y) w := by
  unfold Op.equal Op.maxDepth
  rw [show (10000 : Nat) = 9999 + 1 from rfl, Op.equalIn]
  simp only [Sem.run_bind, run_underlying' hd, Result.andThen_ok, Sem.run_pure]

theorem pure_bin {op : BinOp} {t t' : TypeId} {x y : Operand} {vx vy v : AV} (ho : o.op = .binOp op t x y t') (hF : SimF X μ s a w) (hx : s.eval x = some vx) (hy : s.eval y = some vy) (hv : abin P op t vx vy = some v) : ∃ u, PureV P o a u ∧ AV.rep (X ++ alive μ s.h) μ w v u := by
  have h1 := hF.eval hx
  have h2 := hF.eval hy
  have key : ∀ (u : Value), (∀ w, (do eqGuard op t x y (a.eval x) (a.eval y); binOp op t (a.eval x) (a.eval y) : Sem Value).run P w = .ok u w) → PureV P o a u := fun u hu w => by
    have := hu w
    simp only [Sem.run_bind] at this
    simp only [execOp, ho, Sem.run_bind, this, Result.andThen_ok, Sem.run_pure]
  have ksh : ∀ (op' : BinOp) (k : IntKind) (n m : Int) (k' : IntKind), (op' = .shl ∨ op' = .shr) → op = op' → vx = .one (.sc (.int k n)) → vy = .one (.sc (.int k' m)) → (ashift op' k n m).map (fun v => AV.one (.sc v)) = some v → ∃ u, PureV P o a u ∧ AV.rep (X ++ alive μ s.h) μ w v u := by
    intro op' k n m k' hop e0 ex ey hq
    subst e0 ex ey
    rw [Option.map_eq_some_iff] at hq
    obtain ⟨r, hr, rfl⟩ := hq
    have e1 := AV.sc_eq h1
    have e2 := AV.sc_eq h2
    unfold ashift at hr
    split at hr
    · rename_i hn
      have hn' : ¬ m < 0 := by omega
      rcases hop with rfl | rfl
      · cases hr
        exact ⟨_, key _ fun w => by rw [e1, e2, Sem.run_bind, run_eqGuard_int, Result.andThen_ok]; simp [binOp, Op.shift, hn'], AV.rep_sc rfl⟩
      · cases hr
        exact ⟨_, key _ fun w => by rw [e1, e2, Sem.run_bind, run_eqGuard_int, Result.andThen_ok]; simp [binOp, Op.shift, hn'], AV.rep_sc rfl⟩
    · cases hr
  unfold abin at hv
  split at hv
  · exact ksh .shl _ _ _ _ (.inl rfl) rfl rfl rfl hv
  · exact ksh .shr _ _ _ _ (.inr rfl) rfl rfl rfl hv
  · cases hv
  · cases hv
  · rename_i k n k' m hs1 hs2 hs3 hs4
    split at hv
    · rename_i hk
      subst hk
      simp only [Option.map_eq_some_iff] at hv
      obtain ⟨r, hr, rfl⟩ := hv
      have e1 := AV.sc_eq h1
      have e2 := AV.sc_eq h2
      refine ⟨r, key r fun w => ?_, ?_⟩
      · rw [e1, e2, Sem.run_bind, run_eqGuard_int, Result.andThen_ok]
        exact run_aint hr (by first | exact fun e => hs3 e | exact fun e => hs1 _ _ _ _ e rfl rfl) (by first | exact fun e => hs4 e | exact fun e => hs2 _ _ _ _ e rfl rfl)
      · simp only [AV.rep, C.rep, true_and]
        unfold aint at hr
        split at hr <;> first | (cases hr; rfl) | (split at hr <;> first | (cases hr; rfl) | cases hr) | cases hr
    · cases hv
  · rename_i n m hs1 hs2
    simp only [Option.map_eq_some_iff] at hv
    obtain ⟨r, hr, rfl⟩ := hv
    have e1 := AV.sc_eq h1
    have e2 := AV.sc_eq h2
    refine ⟨r, key r fun w => ?_, ?_⟩
    · rw [e1, e2, Sem.run_bind, run_eqGuard_str, Result.andThen_ok]
      exact run_astr hr
    · simp only [AV.rep, C.rep, true_and]
      unfold astr at hr
      split at hr <;> first | (cases hr; rfl) | (split at hr <;> first | (cases hr; rfl) | cases hr) | cases hr
  · rename_i b b'
    split at hv
    · rename_i ht
      cases hv
      obtain ⟨d, hd, hk⟩ := tk_some ht (by decide)
      have := tkind_bool hk
      subst this
      have e1 := AV.sc_eq h1
      have e2 := AV.sc_eq h2
      refine ⟨_, key (.bool (b == b')) fun w => ?_, AV.rep_sc rfl⟩
      rw [e1, e2, Sem.run_bind, run_eqGuard_bool, Result.andThen_ok]
      simp only [binOp, Sem.run_bind, run_equal_bool hd, Result.andThen_ok, Sem.run_pure]
    · cases hv
  · rename_i b b'
    split at hv
    · rename_i ht
      cases hv
      obtain ⟨d, hd, hk⟩ := tk_some ht (by decide)
      have := tkind_bool hk
      subst this
      have e1 := AV.sc_eq h1
      have e2 := AV.sc_eq h2
      refine ⟨_, key (.bool !(b == b')) fun w => ?_, AV.rep_sc rfl⟩
      rw [e1, e2, Sem.run_bind, run_eqGuard_bool, Result.andThen_ok]
      simp only [binOp, Sem.run_bind, run_equal_bool hd, Result.andThen_ok, Sem.run_pure]
    · cases hv
  · split at hv
    · rename_i r rs ht
      cases hv
      obtain ⟨d, hd, hk⟩ := tk_some ht (by decide)
      obtain ⟨el, rfl⟩ := tkind_slice hk
      have e2 := AV.sc_eq h2
      simp only [AV.rep, C.rep] at h1
      obtain ⟨p, cap, e1, -, -, hp⟩ := h1
      have hp' : ∃ q, p = some q := by
        rcases hp with hp | ⟨b, off, s, hp, -⟩
        · cases hp
        · exact ⟨_, hp⟩
      obtain ⟨q, rfl⟩ := hp'
      refine ⟨_, key (.bool false) fun w => ?_, AV.rep_sc rfl⟩
      rw [e1, e2]
      have hg : ∀ w : World, (eqGuard .eql t x y (.slice (some q) (r :: rs).length cap) (.slice none 0 0)).run P w = .ok () w := fun w => rfl
      have hq : ∀ w : World, (Op.equal t (.slice (some q) (r :: rs).length cap) (.slice none 0 0)).run P w = .ok false w := by
        intro w
        unfold Op.equal Op.maxDepth
        rw [show (10000 : Nat) = 9999 + 1 from rfl, Op.equalIn]
        simp only [Sem.run_bind, run_underlying' hd, Result.andThen_ok, Sem.run_pure]
      rw [Sem.run_bind, hg, Result.andThen_ok]
      simp only [binOp, Sem.run_bind, hq, Result.andThen_ok, Sem.run_pure]
    · cases hv
  · rename_i p n c
    split at hv
    · rename_i ht
      cases hv
      obtain ⟨d, hd, hk⟩ := tk_some ht (by decide)
      obtain ⟨el, rfl⟩ := tkind_slice hk
      have e1 := AV.sc_eq h1
      have e2 := AV.sc_eq h2
      refine ⟨_, key (.bool p.isNone) fun w => ?_, AV.rep_sc rfl⟩
      rw [e1, e2]
      have hg : ∀ w : World, (eqGuard .eql t x y (.slice p n c) (.slice none 0 0)).run P w = .ok () w := fun w => rfl
      have hq : ∀ w : World, (Op.equal t (.slice p n c) (.slice none 0 0)).run P w = .ok p.isNone w := by
        intro w
        unfold Op.equal Op.maxDepth
        rw [show (10000 : Nat) = 9999 + 1 from rfl, Op.equalIn]
        cases p <;> simp only [Sem.run_bind, run_underlying' hd, Result.andThen_ok, Sem.run_pure, Option.isNone]
      rw [Sem.run_bind, hg, Result.andThen_ok]
      simp only [binOp, Sem.run_bind, hq, Result.andThen_ok, Sem.run_pure]
    · cases hv
  · cases hv

theorem pure_un {op : UnOp} {t : TypeId} {x : Operand} {vx v : AV} (ho : o.op = .unOp op t x) (hF : SimF X μ s a w) (hx : s.eval x = some vx) (hv : aun op vx = some v) : ∃ u, PureV P o a u ∧ AV.rep (X ++ alive μ s.h) μ w v u := by
  have h1 := hF.eval hx
  unfold aun at hv
  split at hv
  · cases hv
    have e1 := AV.sc_eq h1
    exact ⟨.int _ (IntKind.wrap _ (0 - _)), fun w => by simp only [execOp, ho, e1, Op.unary, Op.intArith, Sem.run_bind, Sem.run_pure, Result.andThen_ok], AV.rep_sc rfl⟩
  · cases hv
    have e1 := AV.sc_eq h1
    exact ⟨.bool !_, fun w => by simp only [execOp, ho, e1, Op.unary, Sem.run_bind, Sem.run_pure, Result.andThen_ok], AV.rep_sc rfl⟩
  · cases hv

theorem pure_max {ts : Array TypeId} {x y : Operand} {vx vy v : AV} (ho : o.op = .call ⟨.builtin .max, #[x, y], ts⟩) (hF : SimF X μ s a w) (hx : s.eval x = some vx) (hy : s.eval y = some vy) (hv : amax vx vy = some v) : ∃ u, PureV P o a u ∧ AV.rep (X ++ alive μ s.h) μ w v u := by
  have h1 := hF.eval hx
  have h2 := hF.eval hy
  unfold amax at hv
  split at hv
  · rename_i k n _ m
    cases hv
    have e1 := AV.sc_eq h1
    have e2 := AV.sc_eq h2
    have e3 : (if m > n then m else n) = max n m := by split <;> omega
    exact ⟨.int k (max n m), fun w => by simp [execOp, ho, resolve, invoke, builtin, Builtin.max_, Builtin.max2, e1, e2, e3], AV.rep_sc rfl⟩
  · cases hv

theorem pure_conv {t t' : TypeId} {x : Operand} {k k' : IntKind} {n : Int} (ho : o.op = .convert t t' x) (hF : SimF X μ s a w) (hx : s.eval x = some (.one (.sc (.int k' n)))) (ht : tk P t = 5) (ht' : tint P t' = some k) : ∃ u, PureV P o a u ∧ AV.rep (X ++ alive μ s.h) μ w (.one (.sc (.int k (k.wrap n)))) u := by
  have e1 := AV.sc_eq (hF.eval hx)
  obtain ⟨d, hd, _⟩ := tk_some ht (by decide)
  have hd' := tint_some ht'
  exact ⟨.int k (k.wrap n), fun w => by simp [execOp, ho, e1, convert, run_underlying' hd, run_underlying' hd', Conv.intToInt], AV.rep_sc rfl⟩

theorem pure_nilCheck {x : Operand} {c : C} (ho : o.op = .nilCheck x) (hF : SimF X μ s a w) (hx : s.eval x = some (.one c)) (hc : (match c with | .ptr .. => true | .cur .. => true | .fn .. => true | _ => false) = true) : ∃ u, PureV P o a u ∧ AV.rep (X ++ alive μ s.h) μ w (.one c) u := by
  have h1 := hF.eval hx
  refine ⟨a.eval x, fun w => ?_, h1⟩
  simp only [AV.rep] at h1
  cases c with
  | ptr s' b i j => simp only [C.rep] at h1; obtain ⟨g, _, e⟩ := h1; simp [execOp, ho, e]
  | cur cs j => simp only [C.rep] at h1; obtain ⟨b, off, e, _⟩ := h1; simp [execOp, ho, e]
  | fn f cs => simp only [C.rep] at h1; obtain ⟨arr, e, _⟩ := h1; simp [execOp, ho, e]
  | _ => simp at hc

theorem caps_rep {L : List Nat} : ∀ {os : List Operand} {cs : List C}, (∀ o v, s.eval o = some v → AV.rep L μ w v (a.eval o)) → caps (os.map s.eval) = some cs → C.repl L μ w cs (os.map a.eval)
  | [], cs, _, h => by simp only [List.map_nil, caps, Option.some.injEq] at h; subst h; simp [C.repl]
  | o :: os, cs, he, h => by
    have hx := he o
    generalize s.eval o = e at *
    cases hq : s.eval o with
    | none => simp [caps, hq] at h
    | some v =>
      cases v with
      | one c =>
        simp only [List.map_cons, hq, caps, Option.map_eq_some_iff] at h
        obtain ⟨cs', h2, rfl⟩ := h
        simp only [List.map_cons, C.repl]
        have := he o _ hq
        simp only [AV.rep] at this
        exact ⟨_, _, rfl, this, caps_rep he h2⟩
      | agg cs => simp [caps, hq] at h
      | tup vs => simp [caps, hq] at h
theorem pure_makeFunc {f : FuncId} {first cs : Array Operand} {cc : List C} (ho : o.op = .makeFunc (.func f) first cs) (hF : SimF X μ s a w) (hf : first.isEmpty = true) (hc : caps (cs.toList.map s.eval) = some cc) : ∃ u, PureV P o a u ∧ AV.rep (X ++ alive μ s.h) μ w (.one (.fn f cc)) u := by
  have h := caps_rep (a := a) (fun o v hv => hF.eval hv) hc
  have : first = #[] := by simpa using hf
  subst this
  exact ⟨_, fun w => by simp [execOp, ho, Instr.makeFunc]; rfl, by simp only [AV.rep, C.rep]; exact ⟨_, rfl, by simpa using h⟩⟩

theorem pure_extract {x : Operand} {k : Nat} {vs : List AV} {v : AV} (ho : o.op = .extract x k) (hF : SimF X μ s a w) (hx : s.eval x = some (.tup vs)) (hv : vs[k]? = some v) : ∃ u, PureV P o a u ∧ AV.rep (X ++ alive μ s.h) μ w v u := by
  have h1 := hF.eval hx
  simp only [AV.rep] at h1
  obtain ⟨arr, e, h2⟩ := h1
  have key : ∀ (vs : List AV) (us : List Value) (k : Nat) (v : AV), AV.repl (X ++ alive μ s.h) μ w vs us → vs[k]? = some v → ∃ u, us[k]? = some u ∧ AV.rep (X ++ alive μ s.h) μ w v u := by
    intro vs
    induction vs with
    | nil => intro us k v h hk; simp at hk
    | cons v0 vs ih =>
      intro us k v h hk
      simp only [AV.repl] at h
      obtain ⟨u, us', rfl, h1, h2⟩ := h
      cases k with
      | zero => simp at hk; subst hk; exact ⟨u, rfl, h1⟩
      | succ k => simpa using ih us' k v h2 (by simpa using hk)
  obtain ⟨u, hu, hr⟩ := key vs _ k v h2 hv
  have hu' : arr[k]? = some u := by simpa using hu
  exact ⟨u, fun w => by simp [execOp, ho, e, Instr.extract, hu'], hr⟩

theorem tfields_get {d : TypeDesc} {f off size : Nat} {g : Bool} (h : (tfields P d)[f]? = some (off, size, g)) (hs : size ≠ 0) : ∃ fs fl i d', d = .struct fs ∧ fs[f]? = some fl ∧ fl.offset = off ∧ P.info? fl.type = some i ∧ i.size = size ∧ P.underlying fl.type = some d' ∧ tagg d' = g := by
  unfold tfields at h
  split at h
  · rename_i fs
    rw [List.getElem?_map, Array.getElem?_toList] at h
    simp only [Option.map_eq_some_iff] at h
    obtain ⟨fl, h1, h2⟩ := h
    unfold tfield at h2
    split at h2
    · rename_i d' hd'
      simp only [Prod.mk.injEq] at h2
      obtain ⟨e1, e2, e3⟩ := h2
      unfold Program.cellsOf at e2
      cases hi : P.info? fl.type with
      | none => rw [hi] at e2; simp at e2; exact absurd e2.symm hs
      | some i => rw [hi] at e2; exact ⟨fs, fl, i, d', rfl, h1, e1, hi, by simpa using e2, hd', e3⟩
    · simp only [Prod.mk.injEq] at h2
      exact absurd h2.2.1.symm hs
  · simp at h

theorem pure_field {t : TypeId} {x : Operand} {f : Nat} {vx v : AV} (ho : o.op = .field t x f) (hF : SimF X μ s a w) (hx : s.eval x = some vx) (hv : afield P t f vx = some v) : ∃ u, PureV P o a u ∧ AV.rep (X ++ alive μ s.h) μ w v u := by
  have h1 := hF.eval hx
  unfold afield at hv
  split at hv
  · rename_i ti cs hti
    obtain ⟨i, d, z, hi, hd, hz, hzc, hzs, rfl⟩ := tinfo_spec hti
    simp only [AV.rep] at h1
    obtain ⟨arr, e, hr⟩ := h1
    simp only at hv
    split at hv
    · rename_i off size hf
      split at hv
      · cases hv
      · rename_i hs
        cases hv
        obtain ⟨fs, fl, i', d', rfl, hfl, rfl, hi', rfl, hd', hg⟩ := tfields_get hf hs
        refine ⟨.agg (arr.extract fl.offset (fl.offset + i'.size)), fun w => by simp [execOp, ho, e, Instr.field, run_underlying' hd, hfl, asAgg, part, run_isAgg' hd', hg, run_sizeOf' hi'], ?_⟩
        simp only [AV.rep]
        refine ⟨_, rfl, ?_⟩
        rw [show (arr.extract fl.offset (fl.offset + i'.size)).toList = (arr.toList.drop fl.offset).take i'.size from by simp [List.extract_eq_take_drop]]
        exact C.repl_take (C.repl_drop hr _) _
    · rename_i off size hf
      split at hv
      · cases hv
      · rename_i hs
        split at hv
        · rename_i c hc
          cases hv
          obtain ⟨fs, fl, i', d', rfl, hfl, rfl, hi', rfl, hd', hg⟩ := tfields_get hf hs
          obtain ⟨u, hu, hcr⟩ := C.repl_get hr _ _ hc
          have hu' : arr[fl.offset]? = some u := by simpa using hu
          exact ⟨u, fun w => by simp [execOp, ho, e, Instr.field, run_underlying' hd, hfl, asAgg, part, run_isAgg' hd', hg, hu'], by simp only [AV.rep]; exact hcr⟩
        · cases hv
    · cases hv
  · cases hv

theorem pure_fieldAddr {t : TypeId} {x : Operand} {f : Nat} {vx v : AV} (ho : o.op = .fieldAddr t x f) (hF : SimF X μ s a w) (hx : s.eval x = some vx) (hv : afieldAddr P t f vx = some v) : ∃ u, PureV P o a u ∧ AV.rep (X ++ alive μ s.h) μ w v u := by
  have h1 := hF.eval hx
  unfold afieldAddr at hv
  split at hv
  · rename_i ti hti
    obtain ⟨i, d, z, hi, hd, hz, hzc, hzs, rfl⟩ := tinfo_spec hti
    simp only at hv
    split at hv
    · rename_i off size g s' b i0 j hf
      split at hv
      · cases hv
      · rename_i hs
        cases hv
        obtain ⟨fs, fl, i', d', rfl, hfl, rfl, hi', rfl, hd', hg⟩ := tfields_get hf hs
        simp only [AV.rep, C.rep] at h1
        obtain ⟨gg, h2, e⟩ := h1
        refine ⟨_, fun w => by simp [execOp, ho, e, Instr.fieldAt, run_underlying' hd, hfl, Instr.sureAddr, fieldPlace, run_sizeOf' hi', hs, addr_add]; rfl, ?_⟩
        simp only [AV.rep, C.rep]
        exact ⟨gg, h2, by rw [Nat.add_assoc]⟩
    · rename_i off size g cs j hf
      split at hv
      · cases hv
      · rename_i hs
        cases hv
        obtain ⟨fs, fl, i', d', rfl, hfl, rfl, hi', rfl, hd', hg⟩ := tfields_get hf hs
        simp only [AV.rep, C.rep] at h1
        obtain ⟨b, off, e, hlt, hb, hr⟩ := h1
        refine ⟨_, fun w => by simp [execOp, ho, e, Instr.fieldAt, run_underlying' hd, hfl, Instr.sureAddr, fieldPlace, run_sizeOf' hi', hs, addr_add]; rfl, ?_⟩
        simp only [AV.rep, C.rep]
        exact ⟨b, off, by rw [Nat.add_assoc], hlt, hb, hr⟩
    · cases hv
  · cases hv

theorem aarr_spec {t : TypeId} {len : Nat} (h : aarr P t = some len) : ∃ e i' d', P.underlying t = some (.array len e) ∧ P.info? e = some i' ∧ P.underlying e = some d' ∧ i'.size = 1 ∧ tagg d' = false := by
  unfold aarr at h
  split at h
  · rename_i len' e hu
    split at h
    · rename_i te hte
      obtain ⟨i', d', z', hi', hd', _, _, _, rfl⟩ := tinfo_spec hte
      split at h
      · rename_i hc
        simp only [Option.some.injEq] at h
        subst h
        exact ⟨e, i', d', hu, hi', hd', hc.1, hc.2⟩
      · cases h
    · cases h
  · cases h
theorem pure_index {t : TypeId} {x y : Operand} {vx vy v : AV} (ho : o.op = .index t x y) (hF : SimF X μ s a w) (hx : s.eval x = some vx) (hy : s.eval y = some vy) (hv : aindex P t vx vy = some v) : ∃ u, PureV P o a u ∧ AV.rep (X ++ alive μ s.h) μ w v u := by
  have h1 := hF.eval hx
  have h2 := hF.eval hy
  unfold aindex at hv
  split at hv
  · rename_i sb k n
    split at hv
    · rename_i hc
      split at hv
      · rename_i b hb
        cases hv
        obtain ⟨d, hd, hk⟩ := tk_some hc.1 (by decide)
        have := tkind_string hk
        subst this
        have e1 := AV.sc_eq h1
        have e2 := AV.sc_eq h2
        exact ⟨.int .u8 b.toNat, fun w => by simp [execOp, ho, e1, e2, Instr.index, asIntOf, run_underlying' hd, hc.2, hb], AV.rep_sc rfl⟩
      · cases hv
    · cases hv
  · rename_i cs k n
    split at hv
    · rename_i len hlen
      split at hv
      · rename_i hc
        split at hv
        · rename_i c hcc
          cases hv
          obtain ⟨e, i', d', hu, hi', hd', hs, hg⟩ := aarr_spec hlen
          have e2 := AV.sc_eq h2
          simp only [AV.rep] at h1
          obtain ⟨arr, e1, hr⟩ := h1
          obtain ⟨u, hu', hcr⟩ := C.repl_get hr _ _ hcc
          rw [Array.getElem?_toList] at hu'
          exact ⟨u, fun w => by simp [execOp, ho, e1, e2, Instr.index, asIntOf, run_underlying' hu, hc.1, hc.2, run_sizeOf' hi', hs, part, run_isAgg' hd', hg, hu'], by simp only [AV.rep]; exact hcr⟩
        · cases hv
      · cases hv
    · cases hv
  · cases hv
theorem pure_indexAddr {t : TypeId} {x y : Operand} {vx vy v : AV} (ho : o.op = .indexAddr t x y) (hF : SimF X μ s a w) (hx : s.eval x = some vx) (hy : s.eval y = some vy) (hv : aindexAddr P t vx vy = some v) : ∃ u, PureV P o a u ∧ AV.rep (X ++ alive μ s.h) μ w v u := by
  have h1 := hF.eval hx
  have h2 := hF.eval hy
  unfold aindexAddr at hv
  split at hv
  · rename_i ti rows k n hti
    obtain ⟨i, d, z, hi, hd, hz, hzc, hzs, rfl⟩ := tinfo_spec hti
    simp only at hv
    split at hv
    · rename_i hn
      obtain ⟨hn, hk⟩ := hn
      obtain ⟨e, rfl⟩ := tkind_slice (tkindP_eq hk (by decide))
      split at hv
      · rename_i r te hr hte
        split at hv
        · rename_i hl
          cases hv
          obtain ⟨i', d', z', hi', hd', _, _, _, rfl⟩ := tinfo_spec hte
          have e2 := AV.sc_eq h2
          simp only [AV.rep, C.rep] at h1
          obtain ⟨p, cap, e1, hl1, hl2, h3⟩ := h1
          rcases h3 with rfl | ⟨b, off, s', rfl, hlt, hb, h3⟩
          · simp at hr
          · have hlen := (List.getElem?_eq_some_iff.1 hr).1
            obtain ⟨hs', hrr⟩ := C.repss_get h3 _ _ hr
            simp only [telem] at hi'
            refine ⟨.pointer (some ⟨b, off + n.toNat * i'.size, none⟩), fun w => ?_, ?_⟩
            · have hlt2 : n < (rows.length : Int) := by omega
              simp [execOp, ho, e1, e2, Instr.indexAt, asIntOf, run_underlying' hd, hn, hlt2, run_sizeOf' hi', addr_add]
            · simp only [AV.rep, C.rep]
              simp only at hl
              exact ⟨b, off + n.toNat * i'.size, rfl, hlt, hb, by rw [← hl, hs']; exact hrr⟩
        · cases hv
      · cases hv
    · cases hv
  · rename_i ti s' b m k n hti
    obtain ⟨i, d, z, hi, hd, hz, hzc, hzs, rfl⟩ := tinfo_spec hti
    simp only at hv
    split at hv
    · rename_i hn
      obtain ⟨hn, hm, hk⟩ := hn
      obtain ⟨e, rfl⟩ := tkind_slice (tkindP_eq hk (by decide))
      split at hv
      · rename_i te hte
        split at hv
        · rename_i hl
          cases hv
          obtain ⟨i', d', z', hi', hd', _, _, _, rfl⟩ := tinfo_spec hte
          have e2 := AV.sc_eq h2
          simp only [AV.rep, C.rep] at h1
          obtain ⟨g, cap, hg, e1, hl1, hl2, h3⟩ := h1
          simp only [telem] at hi'
          refine ⟨.pointer (some ⟨g, n.toNat * i'.size, none⟩), fun w => ?_, ?_⟩
          · have hlt2 : n < (m : Int) := by omega
            simp [execOp, ho, e1, e2, Instr.indexAt, asIntOf, run_underlying' hd, hn, hlt2, run_sizeOf' hi', addr_add]
          · simp only [AV.rep, C.rep]
            simp only at hl
            exact ⟨g, hg, by rw [hl]; rfl⟩
        · cases hv
      · cases hv
    · cases hv
  · rename_i ti s' b i j k n hti
    split at hv
    · rename_i len hlen
      split at hv
      · rename_i hc
        cases hv
        obtain ⟨e, i', d', hu, hi', hd', hs, hg⟩ := aarr_spec hlen
        have e2 := AV.sc_eq h2
        simp only [AV.rep, C.rep] at h1
        obtain ⟨g, hgm, e1⟩ := h1
        refine ⟨.pointer (some ⟨g, i * s' + j + n.toNat, none⟩), fun w => ?_, ?_⟩
        · simp [execOp, ho, e1, e2, Instr.indexAt, Instr.sureAddr, asIntOf, run_underlying' hu, hc.1, hc.2, run_sizeOf' hi', hs, addr_add]
        · simp only [AV.rep, C.rep]
          exact ⟨g, hgm, by rw [Nat.add_assoc]⟩
      · cases hv
    · cases hv
  · cases hv

theorem pure_len {t : TypeId} {x : Operand} {vx v : AV} (ho : o.op = .call ⟨.builtin .len, #[x], #[t]⟩) (hF : SimF X μ s a w) (hx : s.eval x = some vx) (hv : alen (tk P t) vx = some v) : ∃ u, PureV P o a u ∧ AV.rep (X ++ alive μ s.h) μ w v u := by
  have h1 := hF.eval hx
  have key : ∀ (d : TypeDesc) (n : Nat), P.underlying t = some d → ((∃ e p c, d = .slice e ∧ a.eval x = .slice p n c) ∨ ∃ b : ByteArray, d = .string ∧ a.eval x = .string b ∧ b.size = n) → PureV P o a (.int .i64 n) := by
    intro d n hd h w
    rcases h with ⟨e, p, c, rfl, he⟩ | ⟨b, rfl, he, rfl⟩
    · simp [execOp, ho, resolve, invoke, builtin, Builtin.len_, he, run_underlying' hd, goInt]
    · simp [execOp, ho, resolve, invoke, builtin, Builtin.len_, he, run_underlying' hd, goInt]
  unfold alen at hv
  split at hv <;> (try (cases hv; done))
  all_goals
    split at hv
    case isFalse => cases hv
    rename_i ht
    cases hv
    obtain ⟨d, hd, hk⟩ := tk_some ht (by decide)
  · obtain ⟨e, rfl⟩ := tkind_slice hk
    simp only [AV.rep, C.rep] at h1
    obtain ⟨p, cap, e1, _⟩ := h1
    exact ⟨_, key _ _ hd (.inl ⟨_, _, _, rfl, e1⟩), AV.rep_sc rfl⟩
  · obtain ⟨e, rfl⟩ := tkind_slice hk
    simp only [AV.rep, C.rep] at h1
    obtain ⟨g, cap, _, e1, _⟩ := h1
    exact ⟨_, key _ _ hd (.inl ⟨_, _, _, rfl, e1⟩), AV.rep_sc rfl⟩
  · have := tkind_string hk
    subst this
    exact ⟨_, key _ _ hd (.inr ⟨_, rfl, AV.sc_eq h1, rfl⟩), AV.rep_sc rfl⟩
  · obtain ⟨e, rfl⟩ := tkind_slice hk
    exact ⟨_, key _ 0 hd (.inl ⟨_, _, _, rfl, AV.sc_eq h1⟩), AV.rep_sc rfl⟩

theorem run_bound {n : Nat} {k : IntKind} {i : Int} (h0 : 0 ≤ i) (h : i.toNat ≤ n) (code : BoundsCode) (w : World) : (Instr.sliceBound (.int k i) n code).run P w = .ok i.toNat w := by
  have : i ≤ (n : Int) := by omega
  simp [Instr.sliceBound, asIntOf, h0, this]
theorem abound_spec {n m r : Nat} {x : Option Operand} (hF : SimF X μ s a w) (h : abound n m (x.map fun o => (s.eval o).getD aundef) = some r) : (x = none ∧ r = n) ∨ ∃ o k i, x = some o ∧ a.eval o = .int k i ∧ 0 ≤ i ∧ i.toNat ≤ m ∧ r = i.toNat := by
  cases x with
  | none => simp only [Option.map_none, abound, Option.some.injEq] at h; exact .inl ⟨rfl, h.symm⟩
  | some o =>
    right
    simp only [Option.map_some] at h
    cases he : s.eval o with
    | none => rw [he] at h; simp [aundef, abound] at h
    | some v =>
      rw [he] at h
      simp only [Option.getD_some] at h
      have h1 := hF.eval he
      unfold abound at h
      split at h
      · rename_i hq; cases hq
      · rename_i k i hq
        cases hq
        split at h
        · rename_i hb
          cases h
          exact ⟨o, k, i, rfl, AV.sc_eq h1, hb.1, hb.2, rfl⟩
        · cases h
      · cases h

theorem run_bounds {isS : Bool} {len cap l h : Nat} {lo hi : Option Operand} (hF : SimF X μ s a w) (hh : abound len len (hi.map fun o => (s.eval o).getD aundef) = some h) (hl : abound 0 h (lo.map fun o => (s.eval o).getD aundef) = some l) (hc : len ≤ cap) :
    (∀ w, (Instr.sliceBounds isS len cap (lo.map a.eval) (hi.map a.eval) none).run P w = .ok (l, h, cap) w) ∧ l ≤ h ∧ h ≤ len := by
  rcases abound_spec hF hh with ⟨rfl, rfl⟩ | ⟨o1, k1, i1, rfl, ev1, c1, c2, rfl⟩ <;>
  rcases abound_spec hF hl with ⟨rfl, rfl⟩ | ⟨o2, k2, i2, rfl, ev2, c3, c4, rfl⟩
  · exact ⟨fun w => by simp [Instr.sliceBounds], by omega, by omega⟩
  · have b2 := fun code w => run_bound (P := P) (k := k2) c3 c4 code w
    exact ⟨fun w => by simp [Instr.sliceBounds, ev2, b2], c4, by omega⟩
  · have b1 := fun code w => run_bound (P := P) (k := k1) (n := cap) c1 (by omega) code w
    exact ⟨fun w => by simp [Instr.sliceBounds, ev1, b1], by omega, c2⟩
  · have b2 := fun code w => run_bound (P := P) (k := k2) c3 c4 code w
    have b1 := fun code w => run_bound (P := P) (k := k1) (n := cap) c1 (by omega) code w
    exact ⟨fun w => by simp [Instr.sliceBounds, ev1, ev2, b1, b2], c4, c2⟩

theorem pure_slice {t : TypeId} {x : Operand} {lo hi : Option Operand} {vx v : AV} (ho : o.op = .slice t x lo hi none) (hF : SimF X μ s a w) (hx : s.eval x = some vx) (hv : aslice (tk P t) (aesz P t) vx (lo.map fun o => (s.eval o).getD aundef) (hi.map fun o => (s.eval o).getD aundef) = some v) : ∃ u, PureV P o a u ∧ AV.rep (X ++ alive μ s.h) μ w v u := by
  have h1 := hF.eval hx
  unfold aslice at hv
  split at hv
  · rename_i rows
    split at hv
    case isFalse => cases hv
    rename_i ht3
    obtain ⟨ht3, hes, hrl⟩ := ht3
    obtain ⟨d, hd, hk⟩ := tk_some ht3 (by decide)
    obtain ⟨e, rfl⟩ := tkind_slice hk
    have hie : ∃ ie, P.info? e = some ie ∧ ie.size = aesz P t := by
      unfold aesz at hes ⊢
      split at hes
      · rename_i ti hti
        split at hes
        · rename_i te hte
          obtain ⟨i, d, z, hi, hd', hz, hzc, hzs, rfl⟩ := tinfo_spec hti
          obtain ⟨i', d', z', hi', _, _, _, _, rfl⟩ := tinfo_spec hte
          rw [hd] at hd'; cases hd'
          simp only [telem] at hi'
          exact ⟨i', hi', by simp only [hte]⟩
        · exact absurd rfl hes
      · exact absurd rfl hes
    obtain ⟨ie, hei, hsz⟩ := hie
    rw [← hsz] at hrl
    split at hv
    · cases hv
    · rename_i h hh
      split at hv
      · cases hv
      · rename_i l hl
        cases hv
        simp only [AV.rep, C.rep] at h1
        obtain ⟨p, cap, e1, hc1, hc2, h3⟩ := h1
        obtain ⟨hb, hlh, hhl⟩ := run_bounds (P := P) (isS := true) hF hh hl hc1
        refine ⟨.slice (if cap = l then p else p.map (·.add (l * ie.size))) (h - l) (cap - l), fun w => ?_, ?_⟩
        · simp [execOp, ho, Instr.sliceAt, run_underlying' hd, Instr.slice, e1, hb, run_sizeOf' hei]
        · simp only [AV.rep, C.rep]
          have hlen : ((rows.take h).drop l).length = h - l := by simp; omega
          refine ⟨_, _, by rw [hlen], by rw [hlen]; omega, by omega, ?_⟩
          rcases h3 with rfl | ⟨b, off, s', rfl, hlt, hb', h3⟩
          · left; simp
          · by_cases hcl : cap = l
            · left
              apply List.eq_nil_of_length_eq_zero; omega
            · rw [if_neg hcl]
              refine .inr ⟨b, off + l * ie.size, ie.size, by simp [addr_add], hlt, hb', C.repss_of (fun i r hr => ?_)⟩
              rw [List.getElem?_drop, List.getElem?_take] at hr
              split at hr
              · obtain ⟨q1, q2⟩ := C.repss_get h3 _ _ hr
                have q3 := List.all_eq_true.1 hrl r (List.mem_of_getElem? hr)
                simp only [beq_iff_eq] at q3
                refine ⟨q3, ?_⟩
                rw [Nat.add_assoc, ← Nat.add_mul]
                rw [← q1, q3] at q2
                exact q2
              · cases hr
  · rename_i b
    split at hv
    case isFalse => cases hv
    rename_i ht
    obtain ⟨d, hd, hk⟩ := tk_some ht (by decide)
    have := tkind_string hk
    subst this
    have e1 := AV.sc_eq h1
    split at hv
    · cases hv
    · rename_i h hh
      split at hv
      · cases hv
      · rename_i l hl
        cases hv
        obtain ⟨hb, _, _⟩ := run_bounds (P := P) (isS := false) hF hh hl (Nat.le_refl _)
        refine ⟨.string (b.extract l h), fun w => ?_, AV.rep_sc rfl⟩
        simp [execOp, ho, Instr.sliceAt, run_underlying' hd, Instr.slice, e1, hb]
  · cases hv
end
end Go.Proofs.Sh
/- Operations that write memory, and their shadows. -/
namespace Go.Proofs.Sh
open Go.RowKit

theorem Keep.alloc (L : List Nat) (w : World) (o : Obj) : Keep L w (w.alloc o) :=
  ⟨rfl, rfl, rfl, by simp, fun b _ hb => Below.heap_alloc _ _ _ hb, fun b cur ty h => ⟨cur, by rw [Below.heap_alloc _ _ _ (Array.getElem?_eq_some_iff.1 h).1]; exact h, rfl⟩⟩
theorem Keep.drew (L : List Nat) (w : World) : Keep L w w.drew := ⟨rfl, rfl, rfl, Nat.le_refl _, fun _ _ _ => rfl, fun _ cur _ h => ⟨cur, h, rfl⟩⟩
theorem Keep.setRow {L : List Nat} {w : World} {g : Nat} {cur cur' : Array Value} {ty : TypeId} (hg : g ∈ L) (h : w.heap[g]? = some (.cells cur ty (0, 0))) (hs : cur'.size = cur.size) : Keep L w (w.setRow g cur') := by
  refine ⟨rfl, rfl, rfl, by simp [World.setRow], fun b hb _ => setRow_other w g b _ (fun e => hb (e ▸ hg)), fun b c t hb => ?_⟩
  by_cases hbg : b = g
  · subst hbg
    rw [h] at hb
    cases hb
    exact ⟨cur', setRow_heap w b cur cur' ty _ h, hs⟩
  · exact ⟨c, by rw [setRow_other w g b _ hbg]; exact hb, rfl⟩

theorem getElem?_snoc {α : Type} {l : List α} {x y : α} {i : Nat} : (l ++ [x])[i]? = some y ↔ (l[i]? = some y) ∨ (i = l.length ∧ y = x) := by
  rcases Nat.lt_trichotomy i l.length with h | h | h
  · rw [List.getElem?_append_left h]
    exact ⟨.inl, fun k => k.resolve_right (fun e => by omega)⟩
  · subst h
    simp [eq_comm]
  · rw [List.getElem?_eq_none (by simp; omega), List.getElem?_eq_none (by omega)]
    constructor
    · intro h; cases h
    · rintro (h | ⟨h, _⟩)
      · cases h
      · omega

theorem mem_alive_snoc {μ : List Nat} {H : List Blk} {g x : Nat} {b : Blk} (hl : μ.length = H.length) : x ∈ alive (μ ++ [g]) (H ++ [b]) ↔ x ∈ alive μ H ∨ (x = g ∧ b.st.isMut = true) := by
  rw [mem_alive, mem_alive]
  constructor
  · rintro ⟨i, k, h1, h2, h3⟩
    rw [getElem?_snoc] at h1 h2
    rcases h1 with h1 | ⟨h1, rfl⟩
    · rcases h2 with h2 | ⟨h2, rfl⟩
      · exact .inl ⟨i, k, h1, h2, h3⟩
      · have := (List.getElem?_eq_some_iff.1 h1).1; omega
    · rcases h2 with h2 | ⟨h2, rfl⟩
      · have := (List.getElem?_eq_some_iff.1 h2).1; omega
      · exact .inr ⟨rfl, h3⟩
  · rintro (⟨i, k, h1, h2, h3⟩ | ⟨rfl, h⟩)
    · exact ⟨i, k, getElem?_snoc.2 (.inl h1), getElem?_snoc.2 (.inl h2), h3⟩
    · exact ⟨μ.length, b, getElem?_snoc.2 (.inr ⟨rfl, rfl⟩), getElem?_snoc.2 (.inr ⟨hl, rfl⟩), h⟩

/-- a new block -/
theorem Sim.new {X μ : List Nat} {H : List Blk} {w w' : World} {cur : Array Value} {ty : TypeId} {s : Nat} {rows : List (List C)} (h : Sim X μ H w) (hK : Keep [] w w') (hn : w'.heap[w.heap.size]? = some (.cells cur ty (0, 0)))
    (hl : Laid (X ++ alive μ H) μ w cur s rows) : Sim X (μ ++ [w.heap.size]) (H ++ [⟨s, ty, .mut, rows⟩]) w' ∧ Stp μ H w (μ ++ [w.heap.size]) (H ++ [⟨s, ty, .mut, rows⟩]) w' := by
  have hsz : w.heap.size < w'.heap.size := (Array.getElem?_eq_some_iff.1 hn).1
  have hS : Stp μ H w (μ ++ [w.heap.size]) (H ++ [⟨s, ty, .mut, rows⟩]) w' := by
    refine ⟨hK.mono (by simp), fun b g hb => getElem?_snoc.2 (.inl hb), fun g hg hlt => ?_⟩
    rcases (mem_alive_snoc h.len).1 hg with hg | ⟨rfl, _⟩
    · exact hg
    · omega
  refine ⟨⟨by simp [h.len], ?_, fun g hg => Nat.lt_of_lt_of_le (h.xlt g hg) hK.size, ?_, ?_, ?_⟩, hS⟩
  · intro g hg
    rcases List.mem_append.1 hg with hg | hg
    · exact Nat.lt_of_lt_of_le (h.lt g hg) hK.size
    · simp at hg; omega
  · intro i b g hi hb hg hx
    rw [getElem?_snoc] at hi hg
    rcases hg with hg | ⟨hg, rfl⟩
    · rcases hi with hi | ⟨hi, rfl⟩
      · exact h.out i b g hi hb hg hx
      · have := (List.getElem?_eq_some_iff.1 hg).1; have := h.len; omega
    · have := h.xlt _ hx; omega
  · intro i j b b' g hij hi hj hb hb' hgi hgj
    rw [getElem?_snoc] at hi hj hgi hgj
    rcases hgi with hgi | ⟨hgi, rfl⟩ <;> rcases hgj with hgj | ⟨hgj, hgg⟩
    · rcases hi with hi | ⟨hi, _⟩
      · rcases hj with hj | ⟨hj, _⟩
        · exact h.inj i j b b' g hij hi hj hb hb' hgi hgj
        · have := (List.getElem?_eq_some_iff.1 hgj).1; have := h.len; omega
      · have := (List.getElem?_eq_some_iff.1 hgi).1; have := h.len; omega
    · have := h.lt g (List.mem_of_getElem? hgi); omega
    · have := h.lt _ (List.mem_of_getElem? hgj); omega
    · omega
  · intro i b g hi hb hg
    rw [getElem?_snoc] at hi hg
    rcases hi with hi | ⟨hi, rfl⟩
    · rcases hg with hg | ⟨hg, rfl⟩
      · obtain ⟨c, hc, hla⟩ := h.blk i b g hi hb hg
        exact ⟨c, by rw [hK.block g (by simp) (h.lt g (List.mem_of_getElem? hg))]; exact hc, hla.carry hS.carry⟩
      · have := (List.getElem?_eq_some_iff.1 hi).1; have := h.len; omega
    · rcases hg with hg | ⟨hg, rfl⟩
      · have := (List.getElem?_eq_some_iff.1 hg).1; have := h.len; omega
      · exact ⟨cur, hn, hl.carry hS.carry⟩

theorem Laid.one {L μ : List Nat} {w : World} {arr : Array Value} {cs : List C} (h : C.repl L μ w cs arr.toList) : Laid L μ w arr cs.length [cs] := by
  intro i r hr
  cases i with
  | zero =>
    simp at hr
    subst hr
    refine ⟨rfl, fun j c hj => ?_⟩
    obtain ⟨u, hu, hr⟩ := C.repl_get h j c hj
    exact ⟨u, by simpa using hu, hr⟩
  | succ i => simp at hr

/-- rows by the list of all their cells -/
theorem Laid.of_flat {L μ : List Nat} {w : World} {cur : Array Value} {s : Nat} : ∀ {rows : List (List C)} {us : List Value}, (∀ r ∈ rows, r.length = s) → C.repl L μ w rows.flatten us → ∀ (o : Nat), (∀ (j : Nat) (u : Value), us[j]? = some u → cur[o + j]? = some u) →
    ∀ (i : Nat) (r : List C), rows[i]? = some r → r.length = s ∧ ∀ (j : Nat) (c : C), r[j]? = some c → ∃ u, cur[o + (i * s + j)]? = some u ∧ C.rep L μ w c u
  | [], us, hl, h, o, hc, i, r, hr => by simp at hr
  | r0 :: rows, us, hl, h, o, hc, i, r, hr => by
    rw [List.flatten_cons] at h
    have h0 := hl r0 (by simp)
    cases i with
    | zero =>
      simp at hr
      subst hr
      refine ⟨h0, fun j c hj => ?_⟩
      have hjl := (List.getElem?_eq_some_iff.1 hj).1
      obtain ⟨u, hu, hv⟩ := C.repl_get h j c (by rw [List.getElem?_append_left hjl]; exact hj)
      exact ⟨u, by simpa using hc j u hu, hv⟩
    | succ i =>
      have hd := C.repl_drop h s
      rw [← h0, List.drop_left] at hd
      obtain ⟨h1, h2⟩ := Laid.of_flat (rows := rows) (fun r hr => hl r (by simp [hr])) hd (o + s) (fun j u hu => by
        rw [List.getElem?_drop] at hu
        have := hc _ u hu
        rwa [show o + (r0.length + j) = o + s + j from by omega] at this) i r (by simpa using hr)
      refine ⟨h1, fun j c hj => ?_⟩
      obtain ⟨u, hu, hv⟩ := h2 j c hj
      exact ⟨u, by rw [← hu, Nat.succ_mul]; congr 1; omega, hv⟩
theorem Laid.flat {L μ : List Nat} {w : World} {cur : Array Value} {s : Nat} {rows : List (List C)} {us : List Value} (hl : ∀ r ∈ rows, r.length = s) (h : C.repl L μ w rows.flatten us) (hc : ∀ (j : Nat) (u : Value), us[j]? = some u → cur[j]? = some u) : Laid L μ w cur s rows := by
  intro i r hr
  obtain ⟨h1, h2⟩ := Laid.of_flat hl h 0 (fun j u hu => by rw [Nat.zero_add]; exact hc j u hu) i r hr
  exact ⟨h1, fun j c hj => by simpa using h2 j c hj⟩

theorem C.reps_vals {L μ : List Nat} {w : World} : ∀ {cs : List C} {b off : Nat}, C.reps L μ w cs b off → ∃ us, C.repl L μ w cs us ∧ ∀ (j : Nat) (u : Value), us[j]? = some u → w.cell? ⟨b, off + j, none⟩ = some u
  | [], b, off, h => ⟨[], by simp [C.repl], by simp⟩
  | c :: cs, b, off, h => by
    simp only [C.reps] at h
    obtain ⟨⟨u, h1, h2⟩, h3⟩ := h
    obtain ⟨us, q1, q2⟩ := C.reps_vals h3
    refine ⟨u :: us, by simp only [C.repl]; exact ⟨u, us, rfl, h2, q1⟩, fun j v hv => ?_⟩
    cases j with
    | zero => simp at hv; subst hv; exact h1
    | succ j => rw [show off + (j + 1) = off + 1 + j from by omega]; exact q2 j v (by simpa using hv)
theorem C.repss_vals {L μ : List Nat} {w : World} {s : Nat} : ∀ {rows : List (List C)} {b off : Nat}, C.repss L μ w s rows b off → ∃ us, C.repl L μ w rows.flatten us ∧ us.length = rows.length * s ∧ ∀ (j : Nat) (u : Value), us[j]? = some u → w.cell? ⟨b, off + j, none⟩ = some u
  | [], b, off, h => ⟨[], by simp [C.repl], by simp, by simp⟩
  | r :: rows, b, off, h => by
    simp only [C.repss] at h
    obtain ⟨h0, h1, h2⟩ := h
    obtain ⟨us, q1, q2⟩ := C.reps_vals h1
    obtain ⟨vs, q3, q4, q5⟩ := C.repss_vals h2
    have hl := C.repl_length q1
    refine ⟨us ++ vs, by rw [List.flatten_cons]; exact C.repl_append q1 q3, by simp [hl, h0, q4, Nat.succ_mul]; omega, fun j u hu => ?_⟩
    by_cases hj : j < us.length
    · rw [List.getElem?_append_left hj] at hu; exact q2 j u hu
    · rw [List.getElem?_append_right (by omega)] at hu
      have := q5 _ u hu
      rwa [show off + s + (j - us.length) = off + j from by omega] at this
theorem Laid.repss {L μ : List Nat} {w : World} {cur : Array Value} {s g : Nat} {ty : TypeId} {rows : List (List C)} (h : Laid L μ w cur s rows) (hg : w.heap[g]? = some (.cells cur ty (0, 0))) : C.repss L μ w s rows g 0 := by
  refine C.repss_of (fun i r hr => ?_)
  obtain ⟨h1, h2⟩ := h i r hr
  refine ⟨h1, C.reps_of (fun j c hj => ?_)⟩
  obtain ⟨u, hu, hv⟩ := h2 j c hj
  exact ⟨u, by simp only [World.cell?, hg, Nat.zero_add]; simpa using hu, hv⟩
theorem C.repss_len {L μ : List Nat} {w : World} {s : Nat} {rows : List (List C)} {b off : Nat} (h : C.repss L μ w s rows b off) : ∀ r ∈ rows, r.length = s := by
  intro r hr
  obtain ⟨i, hi⟩ := List.getElem?_of_mem hr
  exact (C.repss_get h i r hi).1

/-! ### fill -/
theorem fold_cells (off : Nat) (l : List Value) (cells : Array Value) (h : off + l.length ≤ cells.size) :
    (l.zipIdx.foldl (fun cs (x : Value × Nat) => cs.setIfInBounds (off + x.2) x.1) cells).toList = cells.toList.take off ++ (l ++ cells.toList.drop (off + l.length)) := by
  obtain ⟨h1, h2⟩ := Great.foldl_set off l 0 cells
  apply List.ext_getElem?
  intro k
  rw [Array.getElem?_toList, h2 k]
  by_cases hk : k < off
  · rw [if_neg (by omega), List.getElem?_append_left (by simp; omega), List.getElem?_take, if_pos hk, Array.getElem?_toList]
  · by_cases hk2 : k < off + l.length
    · rw [if_pos (by omega), List.getElem?_append_right (by simp; omega)]
      rw [List.getElem?_append_left (by simp; omega)]
      congr 1
      simp; omega
    · rw [if_neg (by omega), List.getElem?_append_right (by simp; omega), List.getElem?_append_right (by simp; omega), List.getElem?_drop, Array.getElem?_toList]
      congr 1
      simp; omega

theorem C.repl_splice {L μ : List Nat} {w : World} {cs xs : List C} {us vs : List Value} (h : C.repl L μ w cs us) (k : C.repl L μ w xs vs) (off : Nat) : C.repl L μ w (splice cs off xs) (us.take off ++ (vs ++ us.drop (off + vs.length))) := by
  unfold splice
  rw [C.repl_length k]
  exact C.repl_append (C.repl_take h _) (C.repl_append k (C.repl_drop h _))

section
variable {P : Program} {X μ : List Nat} {s : ASt} {a : Act} {w : World} {o : Oper} {L : List Nat}

theorem bind_cells {L : List Nat} (he : ∀ o v, s.eval o = some v → AV.rep L μ w v (a.eval o)) {x : Operand} {xs : List C} (h : (s.eval x).bind AV.cells = some xs) : C.repl L μ w xs (a.eval x).cells.toList := by
  cases hq : s.eval x with
  | none => rw [hq] at h; cases h
  | some v => rw [hq] at h; exact AV.rep_cells h (he x v hq)

theorem fill_sound {L : List Nat} {fs : List (Nat × Nat × Bool)} {place : Nat → Option (Nat × Nat)} (hp : ∀ (f off size : Nat) (g : Bool), fs[f]? = some (off, size, g) → place f = some (off, size)) (he : ∀ o v, s.eval o = some v → AV.rep L μ w v (a.eval o)) :
    ∀ (parts : List (Nat × Operand)) (cs cs' : List C) (cells : Array Value), afill fs (parts.map fun p => (p.1, s.eval p.2)) cs = some cs' → C.repl L μ w cs cells.toList →
      ∃ cells', Instr.fill place cells (parts.map fun p => (p.1, a.eval p.2)) = some cells' ∧ C.repl L μ w cs' cells'.toList
  | [], cs, cs', cells, h, hr => by
    simp only [List.map_nil, afill, Option.some.injEq] at h
    subst h
    exact ⟨cells, rfl, hr⟩
  | (f, x) :: parts, cs, cs', cells, h, hr => by
    simp only [List.map_cons, afill] at h
    split at h
    · rename_i off size g xs hf hx
      split at h
      · rename_i hc
        have hxr := bind_cells (a := a) he hx
        have hxl := C.repl_length hxr
        have hcl := C.repl_length hr
        have hfold := fold_cells off (a.eval x).cells.toList cells (by simp only [Array.length_toList] at hcl; omega)
        obtain ⟨cells', h1, h2⟩ := fill_sound hp he parts _ cs' ((a.eval x).cells.zipIdx.foldl (fun cs (x : Value × Nat) => cs.setIfInBounds (off + x.2) x.1) cells) h (by
          rw [show (a.eval x).cells.zipIdx.foldl (fun cs (x : Value × Nat) => cs.setIfInBounds (off + x.2) x.1) cells = (a.eval x).cells.toList.zipIdx.foldl (fun cs (x : Value × Nat) => cs.setIfInBounds (off + x.2) x.1) cells from by rw [← Array.toList_zipIdx, Array.foldl_toList], hfold]
          exact C.repl_splice hr hxr off)
        refine ⟨cells', ?_, h2⟩
        have hxs : (a.eval x).cells.size = size := by simp only [Array.length_toList] at hxl; omega
        simp only [List.map_cons, Instr.fill, hp f off size g hf]
        rw [if_neg (by simp only [Array.length_toList] at hcl; simp; omega)]
        exact h1
      · cases h
    · cases h
end
end Go.Proofs.Sh
/- Operations that make or write memory. -/
namespace Go.Proofs.Sh
open Go.RowKit

/-- the operation yields a value with this shadow, and the own blocks are then as h' says -/
def OpOK (P : Program) (X μ : List Nat) (s : ASt) (a : Act) (w : World) (o : Oper) (v : AV) (h' : List Blk) : Prop :=
  ∃ u w' μ', (execOp a.eval o).run P w = .ok (.value u) w' ∧ Sim X μ' h' w' ∧ Stp μ s.h w μ' h' w' ∧ AV.rep (X ++ alive μ' h') μ' w' v u

/-- .. and only new memory is written -/
def OpNew (P : Program) (X μ : List Nat) (s : ASt) (a : Act) (w : World) (o : Oper) (v : AV) (h' : List Blk) : Prop :=
  ∃ u w' μ', (execOp a.eval o).run P w = .ok (.value u) w' ∧ Sim X μ' h' w' ∧ Stp μ s.h w μ' h' w' ∧ AV.rep (X ++ alive μ' h') μ' w' v u ∧ Keep [] w w'

section
variable {P : Program} {X μ : List Nat} {s : ASt} {a : Act} {w : World} {o : Oper} {L : List Nat}

theorem OpNew.ok {v : AV} {h' : List Blk} (h : OpNew P X μ s a w o v h') : OpOK P X μ s a w o v h' :=
  let ⟨u, w', μ', h1, h2, h3, h4, _⟩ := h; ⟨u, w', μ', h1, h2, h3, h4⟩
theorem OpOK.of_pure {v : AV} (hF : SimF X μ s a w) (h : ∃ u, PureV P o a u ∧ AV.rep (X ++ alive μ s.h) μ w v u) : OpOK P X μ s a w o v s.h :=
  let ⟨u, h1, h2⟩ := h; ⟨u, w, μ, h1 w, hF.sim, Stp.refl _ _ _, h2⟩

theorem sim_ptr {μ : List Nat} {H : List Blk} {w w' : World} {n : Nat} (hl : μ.length = H.length) : AV.rep L (μ ++ [w.heap.size]) w' (.one (.ptr n H.length 0 0)) (.pointer (some ⟨w.heap.size, 0, none⟩)) := by
  simp only [AV.rep, C.rep]
  exact ⟨w.heap.size, getElem?_snoc.2 (.inr ⟨hl.symm, rfl⟩), by simp⟩

theorem op_alloc {t : TypeId} {ti : TI} (ho : o.op = .alloc t) (hF : SimF X μ s a w) (hti : tinfo P t = some ti) : OpNew P X μ s a w o (.one (.ptr ti.size s.h.length 0 0)) (s.h ++ [⟨ti.size, t, .mut, [ti.zero.map .sc]⟩]) := by
  obtain ⟨i, d, z, hi, hd, hz, hzc, hzs, rfl⟩ := tinfo_spec hti
  have hrun : (execOp a.eval o).run P w = .ok (.value (.pointer (some ⟨w.heap.size, 0, none⟩))) (w.alloc (.cells z.cells t)) := by
    simp [execOp, ho, Instr.alloc, run_zeroValue' hi hz, newVar, newRow]
  have hl : Laid (X ++ alive μ s.h) μ w z.cells i.size [z.cells.toList.map .sc] := by
    have := Laid.one (L := X ++ alive μ s.h) (μ := μ) (w := w) (C.repl_sc hzc)
    simpa [hzs] using this
  obtain ⟨h1, h2⟩ := hF.sim.new (Keep.alloc _ w _) (heap_alloc_new w _) (ty := t) hl
  exact ⟨_, _, _, hrun, h1, h2, sim_ptr hF.sim.len, Keep.alloc _ _ _⟩

theorem op_box {t : TypeId} {x : Operand} {cs : List C} (ho : o.op = .box t x) (hF : SimF X μ s a w) (hx : (s.eval x).bind AV.cells = some cs) : OpNew P X μ s a w o (.one (.ptr cs.length s.h.length 0 0)) (s.h ++ [⟨cs.length, t, .mut, [cs]⟩]) := by
  have hr := bind_cells (a := a) (fun o v hv => hF.eval hv) hx
  have hrun : (execOp a.eval o).run P w = .ok (.value (.pointer (some ⟨w.heap.size, 0, none⟩))) (w.alloc (.cells (a.eval x).cells t)) := by
    simp [execOp, ho, Instr.box, newVar, newRow]
  obtain ⟨h1, h2⟩ := hF.sim.new (Keep.alloc _ w _) (heap_alloc_new w _) (ty := t) (Laid.one hr)
  exact ⟨_, _, _, hrun, h1, h2, sim_ptr hF.sim.len, Keep.alloc _ _ _⟩

theorem op_build {t : TypeId} {parts : Array (Nat × Operand)} {v : AV} (ho : o.op = .build t parts) (hF : SimF X μ s a w) (hv : abuild P t (parts.toList.map fun p => (p.1, s.eval p.2)) = some v) : ∃ u, PureV P o a u ∧ AV.rep (X ++ alive μ s.h) μ w v u := by
  unfold abuild at hv
  split at hv
  · rename_i ti hti
    obtain ⟨i, d, z, hi, hd, hz, hzc, hzs, rfl⟩ := tinfo_spec hti
    split at hv
    · rename_i hk
      simp only at hk
      obtain ⟨hk, _⟩ := hk
      obtain ⟨fs, rfl⟩ := tkind_struct (tkindP_eq hk (by decide))
      split at hv
      · rename_i cs hcs
        cases hv
        have hall : ∀ f ∈ fs.toList, ∃ i, P.info? f.type = some i ∧ (tfield P f).1 = f.offset ∧ (tfield P f).2.1 = i.size := by
          intro f hf
          have h9 : ((tfields P (.struct fs)).all (fun f => f.2.1 != 0)) = true := by
            unfold tkindP at hk
            split at hk
            · assumption
            · cases hk
          have h1 := List.all_eq_true.1 h9 (tfield P f) (by simp only [tfields]; exact List.mem_map_of_mem hf)
          unfold tfield at h1 ⊢
          split at h1
          · rename_i d' hd'
            simp only [bne_iff_ne, ne_eq] at h1
            unfold Program.cellsOf at h1
            cases hi' : P.info? f.type with
            | none => rw [hi'] at h1; simp at h1
            | some i' => exact ⟨i', rfl, rfl, by simp [Program.cellsOf, hi']⟩
          · simp at h1
        have hpl : ∀ (l : List Field), (∀ f ∈ l, ∃ i, P.info? f.type = some i ∧ (tfield P f).1 = f.offset ∧ (tfield P f).2.1 = i.size) →
            l.mapM (fun f => (P.info? f.type).map fun i => (f.offset, i.size)) = some (l.map fun f => ((tfield P f).1, (tfield P f).2.1)) := by
          intro l
          induction l with
          | nil => intro _; rfl
          | cons f l ih =>
            intro h
            obtain ⟨i, h1, h2, h3⟩ := h f (by simp)
            simp [List.mapM_cons, h1, ih (fun f hf => h f (by simp [hf])), h2, h3]
        have hplaces := hpl fs.toList hall
        obtain ⟨cells', h1, h2⟩ := fill_sound (a := a) (place := ((fs.toList.map fun f => ((tfield P f).1, (tfield P f).2.1)).toArray[·]?)) (fun f off size g hf => by
          simp only [tfields, List.getElem?_map, Option.map_eq_some_iff] at hf
          obtain ⟨fl, h1, h2⟩ := hf
          simp [h1, h2]) (fun o v hv => hF.eval hv) parts.toList _ cs z.cells hcs (C.repl_sc hzc)
        have hb : P.built t (parts.map fun (i, x) => (i, a.eval x)).toList = some cells' := by
          unfold Program.built
          simp only [hi, hd, hz, hplaces]
          simpa using h1
        exact ⟨.agg cells', fun w => by simp only [execOp, ho, Sem.run_bind, run_build w t _ cells' hb, Result.andThen_ok, Sem.run_pure], by simp only [AV.rep]; exact ⟨_, rfl, h2⟩⟩
      · cases hv
    · cases hv
  · cases hv

/-! ### reading -/
theorem acells_spec {p : C} {cs : List C} {u : Value} (hS : Sim X μ s.h w) (h : acells s.h p = some cs) (hp : C.rep (X ++ alive μ s.h) μ w p u) :
    ∃ g off, u = .pointer (some ⟨g, off, none⟩) ∧ g < w.heap.size ∧ (g ∉ X ++ alive μ s.h ∨ ∃ n b i j k, p = .ptr n b i j ∧ μ[b]? = some g ∧ s.h[b]? = some k ∧ k.st.known = true) ∧
      ∀ (j : Nat) (c : C), cs[j]? = some c → ∃ v, w.cell? ⟨g, off + j, none⟩ = some v ∧ C.rep (X ++ alive μ s.h) μ w c v := by
  unfold acells at h
  split at h
  · cases h
    simp only [C.rep] at hp
    obtain ⟨b, off, rfl, hlt, hb, hr⟩ := hp
    refine ⟨b, _, rfl, hlt, .inl hb, fun j c hj => ?_⟩
    rw [List.getElem?_drop] at hj
    obtain ⟨v, h1, h2⟩ := C.reps_get hr _ c hj
    exact ⟨v, by rw [Nat.add_assoc]; exact h1, C.rep.carry Carry.any h2⟩
  · rename_i n b i j
    split at h
    · rename_i k hb
      split at h
      · rename_i hk
        obtain ⟨hk, rfl⟩ := hk
        split at h
        · rename_i r hr
          cases h
          simp only [C.rep] at hp
          obtain ⟨g, hg, rfl⟩ := hp
          obtain ⟨cur, hc, hl⟩ := hS.blk b _ g hb hk hg
          obtain ⟨hrl, hrr⟩ := hl i r hr
          refine ⟨g, _, rfl, hS.lt g (List.mem_of_getElem? hg), .inr ⟨_, b, i, j, k, rfl, hg, hb, hk⟩, fun j' c hj => ?_⟩
          rw [List.getElem?_drop] at hj
          obtain ⟨v, h1, h2⟩ := hrr _ c hj
          exact ⟨v, by simp only [World.cell?, hc, Nat.add_assoc]; simpa using h1, h2⟩
        · cases h
      · cases h
    · cases h
  · cases h

/-- a read: of which block, and what it yields in every world that has this block as it is -/
theorem op_load {t : TypeId} {x : Operand} {p : C} {v : AV} (ho : o.op = .load t x) (hF : SimF X μ s a w) (hx : s.eval x = some (.one p)) (hv : aload P s.h t p = some v) :
    ∃ g u, g < w.heap.size ∧ (g ∉ X ++ alive μ s.h ∨ ∃ n b i j k, p = .ptr n b i j ∧ μ[b]? = some g ∧ s.h[b]? = some k ∧ k.st.known = true) ∧
      (∀ w2 : World, w2.heap[g]? = w.heap[g]? → (execOp a.eval o).run P w2 = .ok (.value u) w2) ∧ AV.rep (X ++ alive μ s.h) μ w v u := by
  have hp := hF.eval hx
  simp only [AV.rep] at hp
  unfold aload at hv
  split at hv
  · rename_i ti cs hti hcs
    obtain ⟨i, d, z, hi, hd, hz, hzc, hzs, rfl⟩ := tinfo_spec hti
    obtain ⟨g, off, he, hlt, hor, hc⟩ := acells_spec hF.sim hcs hp
    simp only at hv
    split at hv
    · rename_i hag
      split at hv
      · rename_i hsz
        cases hv
        have hex : ∃ us : List Value, C.repl (X ++ alive μ s.h) μ w (cs.take i.size) us ∧ ∀ (j : Nat) (u : Value), us[j]? = some u → w.cell? ⟨g, off + j, none⟩ = some u := by
          have : C.reps (X ++ alive μ s.h) μ w (cs.take i.size) g off := C.reps_of (fun j c hj => by
            rw [List.getElem?_take] at hj
            split at hj
            · exact hc j c hj
            · cases hj)
          exact C.reps_vals this
        obtain ⟨us, hus, hcell⟩ := hex
        have hul : us.length = i.size := by rw [C.repl_length hus]; simp; omega
        refine ⟨g, .agg us.toArray, hlt, hor, fun w2 hw2 => ?_, by simp only [AV.rep]; exact ⟨_, rfl, by simpa using hus⟩⟩
        have hcell2 : ∀ (j : Nat) (u : Value), us[j]? = some u → w2.cell? ((⟨g, off, none⟩ : Addr).add j) = some u := fun j u hj => by
          rw [addr_add, World.cell?_of_block (w := w) (w' := w2) (a := ⟨g, off + j, none⟩) hw2]
          exact hcell j u hj
        have hl := run_loadCells_list (P := P) (w := w2) ⟨g, off, none⟩ us hcell2
        simp only [execOp, ho, he, Instr.loadAt, Instr.sureAddr, loadVar, Sem.run_bind, Sem.run_pure, Result.andThen_ok, run_isAgg' hd, hag, if_true, run_sizeOf' hi, ← hul, hl]
      · cases hv
    · rename_i hag
      split at hv
      · rename_i c hc0
        cases hv
        obtain ⟨u, hu, hr⟩ := hc 0 c hc0
        refine ⟨g, u, hlt, hor, fun w2 hw2 => ?_, by simp only [AV.rep]; exact hr⟩
        have hcell2 : w2.cell? ⟨g, off, none⟩ = some u := by
          rw [World.cell?_of_block (w := w) (w' := w2) (a := ⟨g, off, none⟩) hw2]
          simpa using hu
        have hag' : tagg d = false := by simpa using hag
        simp [execOp, ho, he, Instr.loadAt, Instr.sureAddr, loadVar, run_isAgg' hd, hag', hcell2]
      · cases hv
  · cases hv
end

theorem set_get {H : List Blk} {b i : Nat} {k k' x : Blk} (hb : H[b]? = some k) : (H.set b k')[i]? = some x ↔ (i = b ∧ x = k') ∨ (i ≠ b ∧ H[i]? = some x) := by
  have hlt := (List.getElem?_eq_some_iff.1 hb).1
  rw [List.getElem?_set]
  by_cases h : b = i
  · subst h; simp [hlt, eq_comm]
  · rw [if_neg h]; simp [Ne.symm h]
theorem mem_alive_set {μ : List Nat} {H : List Blk} {b x : Nat} {k k' : Blk} (hb : H[b]? = some k) (hst : k'.st.isMut = k.st.isMut) : x ∈ alive μ (H.set b k') ↔ x ∈ alive μ H := by
  rw [mem_alive, mem_alive]
  constructor
  · rintro ⟨i, q, h1, h2, h3⟩
    rcases (set_get hb).1 h2 with ⟨rfl, rfl⟩ | ⟨_, h2⟩
    · exact ⟨i, k, h1, hb, by rw [← hst]; exact h3⟩
    · exact ⟨i, q, h1, h2, h3⟩
  · rintro ⟨i, q, h1, h2, h3⟩
    by_cases hi : i = b
    · subst hi
      rw [hb] at h2
      cases h2
      exact ⟨i, k', h1, (set_get hb).2 (.inl ⟨rfl, rfl⟩), by rw [hst]; exact h3⟩
    · exact ⟨i, q, h1, (set_get hb).2 (.inr ⟨hi, h2⟩), h3⟩

/-- a store into an own block -/
theorem Sim.set {X μ : List Nat} {H : List Blk} {w : World} {b g : Nat} {k : Blk} {cur cur' : Array Value} {rows : List (List C)} (h : Sim X μ H w) (hb : H[b]? = some k) (hm : k.st.isMut = true) (hg : μ[b]? = some g)
    (hc : w.heap[g]? = some (.cells cur k.ty (0, 0))) (hsz : cur'.size = cur.size) (hl : Laid (X ++ alive μ H) μ w cur' k.s rows) :
    Sim X μ (H.set b ⟨k.s, k.ty, k.st, rows⟩) (w.setRow g cur') ∧ Stp μ H w μ (H.set b ⟨k.s, k.ty, k.st, rows⟩) (w.setRow g cur') := by
  have hga : g ∈ alive μ H := mem_alive.2 ⟨b, k, hg, hb, hm⟩
  have hK := Keep.setRow (w := w) hga hc hsz
  have hmem : ∀ x, x ∈ alive μ (H.set b ⟨k.s, k.ty, k.st, rows⟩) ↔ x ∈ alive μ H := fun x => mem_alive_set hb rfl
  have hS : Stp μ H w μ (H.set b ⟨k.s, k.ty, k.st, rows⟩) (w.setRow g cur') := ⟨hK, fun _ _ e => e, fun x hx _ => (hmem x).1 hx⟩
  have hsize : (w.setRow g cur').heap.size = w.heap.size := by simp [World.setRow]
  refine ⟨⟨by simp [h.len], fun x hx => by rw [hsize]; exact h.lt x hx, fun x hx => by rw [hsize]; exact h.xlt x hx, ?_, ?_, ?_⟩, hS⟩
  · intro i q gg hi hq hgi
    rcases (set_get hb).1 hi with ⟨rfl, rfl⟩ | ⟨_, hi⟩
    · exact h.out i k gg hb hq hgi
    · exact h.out i q gg hi hq hgi
  · intro i j q q' gg hij hi hj hq hq' hgi hgj
    have get : ∀ (i : Nat) (q : Blk), (H.set b ⟨k.s, k.ty, k.st, rows⟩)[i]? = some q → ∃ q0, H[i]? = some q0 ∧ q0.st = q.st := fun i q hi => by
      rcases (set_get hb).1 hi with ⟨rfl, rfl⟩ | ⟨_, hi⟩
      · exact ⟨k, hb, rfl⟩
      · exact ⟨q, hi, rfl⟩
    obtain ⟨a1, e1, e2⟩ := get i q hi
    obtain ⟨a2, e3, e4⟩ := get j q' hj
    exact h.inj i j a1 a2 gg hij e1 e3 (by rw [e2]; exact hq) (by rw [e4]; exact hq') hgi hgj
  · intro i q gg hi hq hgi
    rcases (set_get hb).1 hi with ⟨rfl, rfl⟩ | ⟨hne, hi⟩
    · rw [hg] at hgi; cases hgi
      exact ⟨cur', setRow_heap w g cur cur' _ _ hc, hl.carry hS.carry⟩
    · obtain ⟨c, hc', hl'⟩ := h.blk i q gg hi hq hgi
      have hne2 : gg ≠ g := fun e => by subst e; exact h.inj b i k q gg (Ne.symm hne) hb hi hm hq hg hgi
      exact ⟨c, by rw [setRow_other w g gg _ hne2]; exact hc', hl'.carry hS.carry⟩

theorem repl_at (cur : Array Value) (o : Nat) (vs : List Value) (m : Nat) (hfit : o + vs.length ≤ cur.size) : ((cur.toList.take o ++ vs ++ cur.toList.drop (o + vs.length)).toArray)[m]? = if o ≤ m ∧ m < o + vs.length then vs[m - o]? else cur[m]? := by
  rw [List.getElem?_toArray]
  by_cases h1 : m < o
  · rw [List.getElem?_append_left (by simp; omega), List.getElem?_append_left (by simp; omega), List.getElem?_take, if_pos h1, if_neg (by omega), Array.getElem?_toList]
  · by_cases h2 : m < o + vs.length
    · rw [List.getElem?_append_left (by simp; omega), List.getElem?_append_right (by simp; omega), if_pos (by omega)]; congr 1; simp; omega
    · rw [List.getElem?_append_right (by simp; omega), List.getElem?_drop, if_neg (by omega), Array.getElem?_toList]; congr 1; simp; omega
theorem splice_get {r cs : List C} {j n : Nat} (hl : j + cs.length ≤ r.length) : (splice r j cs)[n]? = if j ≤ n ∧ n < j + cs.length then cs[n - j]? else r[n]? := by
  unfold splice
  by_cases h1 : n < j
  · rw [List.getElem?_append_left (by simp; omega), List.getElem?_take, if_pos h1, if_neg (by omega)]
  · rw [List.getElem?_append_right (by simp; omega)]
    by_cases h2 : n < j + cs.length
    · rw [List.getElem?_append_left (by simp; omega), if_pos (by omega)]; congr 1; simp; omega
    · rw [List.getElem?_append_right (by simp; omega), List.getElem?_drop, if_neg (by omega)]; congr 1; simp; omega
theorem splice_length {r cs : List C} {j : Nat} (hl : j + cs.length ≤ r.length) : (splice r j cs).length = r.length := by
  unfold splice; simp; omega

section
variable {P : Program} {X μ : List Nat} {s : ASt} {a : Act} {w : World} {o : Oper} {L : List Nat}

theorem op_store {t : TypeId} {x y : Operand} {p : C} {v : AV} {h' : List Blk} (ho : o.op = .store t x y) (hF : SimF X μ s a w) (hx : s.eval x = some (.one p)) (hy : s.eval y = some v) (hv : astore P s.h t p v = some h') :
    ∃ w', (execOp a.eval o).run P w = .ok .skip w' ∧ (Sim X μ h' w' ∧ Stp μ s.h w μ h' w') ∧ ∀ n b i j g, p = .ptr n b i j → μ[b]? = some g → Keep [g] w w' := by
  have hp := hF.eval hx
  have hval := hF.eval hy
  unfold astore at hv
  split at hv
  · rename_i ti n b i j cs hti hcs
    obtain ⟨it, d, z, hi, hd, hz, hzc, hzs, rfl⟩ := tinfo_spec hti
    split at hv
    · rename_i k hb
      split at hv
      · rename_i hk
        obtain ⟨hsz, hm, rfl⟩ := hk
        split at hv
        · rename_i r hr
          split at hv
          · rename_i hjl
            cases hv
            simp only [AV.rep, C.rep] at hp
            obtain ⟨g, hg, he⟩ := hp
            have hkn : k.st.known = true := by
              cases hst : k.st <;> simp [St.isMut, St.known, hst] at hm ⊢
            obtain ⟨cur, hc, hl⟩ := hF.sim.blk b k g hb hkn hg
            obtain ⟨hrl, hrr⟩ := hl i r hr
            have hvr := AV.rep_cells hcs hval
            have hvl := C.repl_length hvr
            have hvo := C.repl_one hvr
            simp only at hsz
            have hfit : i * k.s + j + (a.eval y).cells.toList.length ≤ cur.size := by
              rw [hvl]
              have hrs : 0 < r.length ∨ r.length = 0 := by omega
              rcases hrs with hrs | hrs
              · have : r.length - 1 < r.length := by omega
                obtain ⟨u, hu, _⟩ := hrr (r.length - 1) _ (List.getElem?_eq_getElem this)
                have := (Array.getElem?_eq_some_iff.1 hu).1
                omega
              · have h0 : k.s = 0 := by omega
                rw [h0]; simp; omega
            have hst := run_storeCells_at P g (i * k.s + j) k.ty (a.eval y).cells.toList 0 cur w hc (by simpa using hfit) hvo
            simp only [Nat.add_zero] at hst
            have hrun : (execOp a.eval o).run P w = .ok .skip (w.setRow g (cur.toList.take (i * k.s + j) ++ (a.eval y).cells.toList ++ cur.toList.drop (i * k.s + j + (a.eval y).cells.toList.length)).toArray) := by
              have : (a.eval y).cells.size = it.size := by simp only [Array.length_toList] at hvl; omega
              simp [execOp, ho, he, Instr.storeAt, Instr.sureAddr, storeVar, run_sizeOf' hi, this, hst]
            refine ⟨_, hrun, hF.sim.set hb hm hg hc (by simp at hfit ⊢; omega) ?_, fun n' b' i' j' g' e1 e2 => by cases e1; rw [hg] at e2; cases e2; exact Keep.setRow (by simp) hc (by simp at hfit ⊢; omega)⟩
            intro i' r' hr'
            have hlt := (List.getElem?_eq_some_iff.1 hr).1
            rw [List.getElem?_set] at hr'
            split at hr'
            · rename_i hii
              subst hii
              cases hr'
              refine ⟨by rw [splice_length hjl, hrl], fun m c hc' => ?_⟩
              rw [splice_get hjl] at hc'
              split at hc'
              · rename_i hm'
                obtain ⟨u, hu, hur⟩ := C.repl_get hvr _ c hc'
                refine ⟨u, ?_, hur⟩
                rw [repl_at _ _ _ _ hfit, if_pos (by omega), ← hu]
                congr 1; omega
              · rename_i hm'
                obtain ⟨u, hu, hur⟩ := hrr m c hc'
                refine ⟨u, ?_, hur⟩
                rw [repl_at _ _ _ _ hfit, if_neg (by omega)]
                exact hu
            · rename_i hii
              obtain ⟨q1, q2⟩ := hl i' r' hr'
              refine ⟨q1, fun m c hc' => ?_⟩
              obtain ⟨u, hu, hur⟩ := q2 m c hc'
              refine ⟨u, ?_, hur⟩
              have hml := (List.getElem?_eq_some_iff.1 hc').1
              rw [repl_at _ _ _ _ hfit, if_neg]
              · exact hu
              · intro ⟨b1, b2⟩
                rcases Nat.lt_or_gt_of_ne hii with hlt' | hgt
                · have := Nat.mul_le_mul_right k.s (show i + 1 ≤ i' by omega)
                  rw [Nat.succ_mul] at this
                  omega
                · have := Nat.mul_le_mul_right k.s (show i' + 1 ≤ i by omega)
                  rw [Nat.succ_mul] at this
                  omega
          · cases hv
        · cases hv
      · cases hv
    · cases hv
  · cases hv
end
end Go.Proofs.Sh
/- Slices: made, built, and grown. -/
namespace Go.Proofs.Sh
open Go.RowKit

theorem flatten_length {s : Nat} : ∀ {rows : List (List C)}, (∀ r ∈ rows, r.length = s) → rows.flatten.length = rows.length * s
  | [], _ => by simp
  | r :: rows, h => by
    rw [List.flatten_cons, List.length_append, h r (by simp), flatten_length (fun r hr => h r (by simp [hr])), List.length_cons, Nat.succ_mul]; omega
theorem flatten_set {s : Nat} {xs : List C} (hx : xs.length = s) : ∀ {rows : List (List C)} {i : Nat}, (∀ r ∈ rows, r.length = s) → i < rows.length → (rows.set i xs).flatten = splice rows.flatten (i * s) xs
  | [], i, _, hi => by simp at hi
  | r :: rows, 0, h, _ => by
    have := h r (by simp)
    simp only [List.set_cons_zero, List.flatten_cons, splice, Nat.zero_mul, List.take_zero, List.nil_append, Nat.zero_add, hx]
    rw [← this, List.drop_left]
  | r :: rows, i + 1, h, hi => by
    have h0 := h r (by simp)
    have ih := flatten_set hx (rows := rows) (i := i) (fun r hr => h r (by simp [hr])) (by simpa using hi)
    simp only [List.set_cons_succ, List.flatten_cons, ih]
    unfold splice
    rw [Nat.succ_mul, Nat.add_comm (i * s) s, ← h0, List.take_length_add_append, List.append_assoc, Nat.add_assoc, List.drop_length_add_append]
theorem flatten_replicate {l : List C} : ∀ (n j : Nat), (List.replicate n l).flatten[j]? = if j < n * l.length then l[j % l.length]? else none
  | 0, j => by simp
  | n + 1, j => by
    rw [List.replicate_succ, List.flatten_cons]
    by_cases hj : j < l.length
    · rw [List.getElem?_append_left hj, if_pos (by rw [Nat.succ_mul]; omega), Nat.mod_eq_of_lt hj]
    · rw [List.getElem?_append_right (by omega), flatten_replicate n]
      have e : (j - l.length) % l.length = j % l.length := (Nat.mod_eq_sub_mod (by omega)).symm
      rw [e]
      by_cases hk : j < (n + 1) * l.length
      · rw [if_pos hk, if_pos (by rw [Nat.succ_mul] at hk; omega)]
      · rw [if_neg hk, if_neg (by rw [Nat.succ_mul] at hk; omega)]

section
variable {P : Program} {X μ : List Nat} {s : ASt} {a : Act} {w : World} {o : Oper} {L : List Nat}

theorem zero_rows {z : Array Value} {n : Nat} (hz : ∀ u ∈ z.toList, u.oneCell' = true) (hs : 0 < z.size) : C.repl L μ w (List.replicate n (z.toList.map .sc)).flatten ((Array.range (n * z.size)).map (z[· % z.size]!)).toList := by
  have hl : (z.toList.map C.sc).length = z.size := by simp
  refine C.repl_of ?_ (fun j c u h1 h2 => ?_)
  · rw [flatten_length (s := z.size) (fun r hr => by rw [List.eq_of_mem_replicate hr, hl])]; simp
  · rw [flatten_replicate, hl] at h1
    split at h1
    · rename_i hj
      simp only [Array.toList_map, List.getElem?_map, Array.toList_range, List.getElem?_range hj, Option.map_some, Option.some.injEq] at h2
      have hm : j % z.size < z.size := Nat.mod_lt _ hs
      rw [List.getElem?_map, Array.getElem?_toList, Array.getElem?_eq_getElem hm] at h1
      simp only [Option.map_some, Option.some.injEq] at h1
      have e : z[j % z.size]! = z[j % z.size] := getElem!_pos z _ hm
      rw [e] at h2
      subst h1 h2
      simp only [C.rep, true_and]
      exact hz _ (by simp)
    · cases h1

theorem arow_sound {size : Nat} {L : List Nat} (he : ∀ o v, s.eval o = some v → AV.rep L μ w v (a.eval o)) :
    ∀ (parts : List (Nat × Operand)) (rows rows' : List (List C)) (cells : Array Value), arow size (parts.map fun p => (p.1, s.eval p.2)) rows = some rows' → (∀ r ∈ rows, r.length = size) → C.repl L μ w rows.flatten cells.toList →
      ∃ cells', Instr.fill (fun i => some (i * size, size)) cells (parts.map fun p => (p.1, a.eval p.2)) = some cells' ∧ C.repl L μ w rows'.flatten cells'.toList ∧ (∀ r ∈ rows', r.length = size) ∧ rows'.length = rows.length
  | [], rows, rows', cells, h, hl, hr => by
    simp only [List.map_nil, arow, Option.some.injEq] at h
    subst h
    exact ⟨cells, rfl, hr, hl, rfl⟩
  | (i, x) :: parts, rows, rows', cells, h, hl, hr => by
    simp only [List.map_cons, arow] at h
    split at h
    · rename_i xs hx
      split at h
      · rename_i hc
        obtain ⟨hxs, hi⟩ := hc
        have hxr := bind_cells (a := a) he hx
        have hxl := C.repl_length hxr
        have hcl := C.repl_length hr
        rw [flatten_length hl] at hcl
        have hfit : i * size + size ≤ rows.length * size := by
          have := Nat.mul_le_mul_right size (show i + 1 ≤ rows.length by omega)
          rwa [Nat.succ_mul] at this
        have hfold := fold_cells (i * size) (a.eval x).cells.toList cells (by simp only [Array.length_toList] at hcl hxl ⊢; omega)
        obtain ⟨cells', h1, h2, h3, h4⟩ := arow_sound he parts _ rows' ((a.eval x).cells.zipIdx.foldl (fun cs (x : Value × Nat) => cs.setIfInBounds (i * size + x.2) x.1) cells) h (by
            intro r hr
            rcases List.mem_or_eq_of_mem_set hr with hr | rfl
            · exact hl r hr
            · exact hxs) (by
          rw [show (a.eval x).cells.zipIdx.foldl (fun cs (x : Value × Nat) => cs.setIfInBounds (i * size + x.2) x.1) cells = (a.eval x).cells.toList.zipIdx.foldl (fun cs (x : Value × Nat) => cs.setIfInBounds (i * size + x.2) x.1) cells from by rw [← Array.toList_zipIdx, Array.foldl_toList], hfold, flatten_set hxs hl hi]
          exact C.repl_splice hr hxr (i * size))
        refine ⟨cells', ?_, h2, h3, by rw [h4]; simp⟩
        have hxs2 : (a.eval x).cells.size = size := by simp only [Array.length_toList] at hxl; omega
        simp only [List.map_cons, Instr.fill]
        rw [if_neg (by simp only [Array.length_toList] at hcl; simp; omega)]
        exact h1
      · cases h
    · cases h

theorem rep_row_new {μ : List Nat} {H : List Blk} {w w' : World} {n c sz : Nat} (hl : μ.length = H.length) (hc : n ≤ c) (hm : c ≤ maxLen) (hr : RowAt w' w.heap.size (c * sz)) : AV.rep L (μ ++ [w.heap.size]) w' (.one (.row sz H.length n)) (.slice (some ⟨w.heap.size, 0, none⟩) n c) := by
  simp only [AV.rep, C.rep]
  exact ⟨w.heap.size, c, getElem?_snoc.2 (.inr ⟨hl.symm, rfl⟩), rfl, hc, hm, hr⟩

theorem op_buildSlice {t : TypeId} {len : Nat} {parts : Array (Nat × Operand)} {v : AV} {h' : List Blk} (ho : o.op = .buildSlice t len parts) (hF : SimF X μ s a w) (hv : abuildSlice P s.h t len (parts.toList.map fun p => (p.1, s.eval p.2)) = .val v h') : OpNew P X μ s a w o v h' := by
  unfold abuildSlice at hv
  split at hv
  · rename_i ti hti
    obtain ⟨i, d, z, hi, hd, hz, hzc, hzs, rfl⟩ := tinfo_spec hti
    split at hv
    · rename_i te hte
      obtain ⟨i', d', z', hi', hd', hz', hzc', hzs', rfl⟩ := tinfo_spec hte
      split at hv
      · rename_i hk
        simp only at hk hv
        obtain ⟨hk, _, hsm, hpos⟩ := hk
        obtain ⟨e, rfl⟩ := tkind_slice (tkindP_eq hk (by decide))
        simp only [telem] at hi' hv
        split at hv
        · rename_i rows hrows
          injection hv with hv1 hv2
          subst hv1 hv2
          have hzl : ∀ r ∈ List.replicate len (z'.cells.toList.map C.sc), r.length = i'.size := fun r hr => by rw [List.eq_of_mem_replicate hr]; simp [hzs']
          have hzr : C.repl (X ++ alive μ s.h) μ w (List.replicate len (z'.cells.toList.map C.sc)).flatten ((Array.range (len * i'.size)).map (z'.cells[· % z'.cells.size]!)).toList := by
            have := zero_rows (L := X ++ alive μ s.h) (μ := μ) (w := w) (z := z'.cells) (n := len) hzc' (by omega)
            rwa [hzs'] at this ⊢
          obtain ⟨cells', h1, h2, h3, h4⟩ := arow_sound (a := a) (fun o v hv => hF.eval hv) parts.toList _ rows _ hrows hzl hzr
          have h5 : rows.length = len := by rw [h4]; simp
          have hcs : cells'.size = len * i'.size := by
            have := C.repl_length h2
            rw [flatten_length h3, h5] at this
            simpa using this
          have hrun : (execOp a.eval o).run P w = .ok (.value (.slice (some ⟨w.heap.size, 0, none⟩) len len)) (w.alloc (.cells cells' e)) := by
            by_cases hl0 : len = 0
            · subst hl0
              have : cells' = #[] := Array.eq_empty_of_size_eq_zero (by simpa using hcs)
              subst this
              have hp0 : parts = #[] := by
                cases hpl : parts.toList with
                | nil => simpa using hpl
                | cons p l =>
                  rw [hpl] at hrows
                  simp only [List.map_cons, List.replicate_zero, arow] at hrows
                  split at hrows <;> simp at hrows
              subst hp0
              have hr0 : Array.range 0 = #[] := rfl
              simp [execOp, ho, Instr.buildSlice, run_underlying' hd, run_sizeOf' hi', newRow, Instr.fill, hr0]
            · have hb := run_buildSlice (P := P) w t e len (parts.map fun (i, x) => (i, a.eval x)) cells' i' z' hd hi' hz' (by omega) (by
                intro h0
                rcases Nat.mul_eq_zero.1 h0 with h0 | h0
                · exact hl0 h0
                · omega) (by simpa using h1)
              simp only [execOp, ho, Sem.run_bind, hb, Result.andThen_ok, Sem.run_pure]
          obtain ⟨q1, q2⟩ := hF.sim.new (Keep.alloc _ w _) (heap_alloc_new w _) (ty := e) (Laid.flat h3 h2 (fun j u hu => by simpa using hu))
          exact ⟨_, _, _, hrun, q1, q2, rep_row_new hF.sim.len (Nat.le_refl _) (by simp only [maxLen]; have := Nat.le_mul_of_pos_right len hpos; omega) ⟨cells', e, heap_alloc_new w _, hcs⟩, Keep.alloc _ _ _⟩
        · cases hv
      · cases hv
    · cases hv
  · cases hv

theorem op_makeSlice {t : TypeId} {x y : Operand} {vx vy v : AV} {h' : List Blk} (ho : o.op = .makeSlice t x y) (hF : SimF X μ s a w) (hx : s.eval x = some vx) (hy : s.eval y = some vy) (hv : amakeSlice P s.h t vx vy = .val v h') : OpNew P X μ s a w o v h' := by
  have h1 := hF.eval hx
  have h2 := hF.eval hy
  unfold amakeSlice at hv
  split at hv
  · rename_i ti k n k' c hti
    obtain ⟨i, d, z, hi, hd, hz, hzc, hzs, rfl⟩ := tinfo_spec hti
    split at hv
    · rename_i te hte
      obtain ⟨i', d', z', hi', hd', hz', hzc', hzs', rfl⟩ := tinfo_spec hte
      split at hv
      · rename_i hk
        simp only at hk hv
        obtain ⟨hk, _, hpos, hnc, hn0, hby, hmx⟩ := hk
        subst hnc
        obtain ⟨e, rfl⟩ := tkind_slice (tkindP_eq hk (by decide))
        simp only [telem] at hi' hv
        injection hv with hv1 hv2
        subst hv1 hv2
        have e1 := AV.sc_eq h1
        have e2 := AV.sc_eq h2
        have hmk := run_make (P := P) w t e i' z' hd hi' hz' k k' n n hn0 (Int.le_refl _) (by omega) (by omega)
        have hrun : (execOp a.eval o).run P w = .ok (.value (.slice (some ⟨w.heap.size, 0, none⟩) n.toNat n.toNat)) (w.alloc (.cells (madeCells z'.cells (n.toNat * i'.size)) e)) := by
          simp only [execOp, ho, e1, e2, Sem.run_bind, hmk, Result.andThen_ok, Sem.run_pure]
        have hzr : C.repl (X ++ alive μ s.h) μ w (List.replicate n.toNat (z'.cells.toList.map C.sc)).flatten (madeCells z'.cells (n.toNat * i'.size)).toList := by
          have := zero_rows (L := X ++ alive μ s.h) (μ := μ) (w := w) (z := z'.cells) (n := n.toNat) hzc' (by omega)
          rw [hzs'] at this
          rw [madeCells, hzs']
          exact this
        obtain ⟨q1, q2⟩ := hF.sim.new (Keep.alloc _ w _) (heap_alloc_new w _) (ty := e) (s := i'.size) (Laid.flat (fun r hr => by rw [List.eq_of_mem_replicate hr]; simp [hzs']) hzr (fun j u hu => by simpa using hu))
        exact ⟨_, _, _, hrun, q1, q2, rep_row_new hF.sim.len (Nat.le_refl _) (by simp only [maxLen]; omega) ⟨_, e, heap_alloc_new w _, size_madeCells _ _⟩, Keep.alloc _ _ _⟩
      · cases hv
    · cases hv
  · cases hv
end
end Go.Proofs.Sh
/- Append. -/
namespace Go.Proofs.Sh
open Go.RowKit

def Blk.dead (k : Blk) : Blk := ⟨k.s, k.ty, .dead, []⟩

/-- a block is forgotten -/
theorem Sim.kill {X μ : List Nat} {H : List Blk} {w : World} {b : Nat} {k : Blk} (h : Sim X μ H w) (hb : H[b]? = some k) : Sim X μ (H.set b k.dead) w ∧ Stp μ H w μ (H.set b k.dead) w := by
  have hmem : ∀ x, x ∈ alive μ (H.set b k.dead) → x ∈ alive μ H := fun x hx => by
    obtain ⟨i, q, h1, h2, h3⟩ := mem_alive.1 hx
    rcases (set_get hb).1 h2 with ⟨rfl, rfl⟩ | ⟨_, h2⟩
    · cases h3
    · exact mem_alive.2 ⟨i, q, h1, h2, h3⟩
  have hS : Stp μ H w μ (H.set b k.dead) w := ⟨Keep.refl _ _, fun _ _ e => e, fun x hx _ => hmem x hx⟩
  refine ⟨⟨by simp [h.len], h.lt, h.xlt, ?_, ?_, ?_⟩, hS⟩
  · intro i q g hi hq hg
    rcases (set_get hb).1 hi with ⟨rfl, rfl⟩ | ⟨_, hi⟩
    · cases hq
    · exact h.out i q g hi hq hg
  · intro i j q q' g hij hi hj hq hq' hgi hgj
    rcases (set_get hb).1 hi with ⟨rfl, rfl⟩ | ⟨_, hi⟩
    · cases hq
    · rcases (set_get hb).1 hj with ⟨rfl, rfl⟩ | ⟨_, hj⟩
      · cases hq'
      · exact h.inj i j q q' g hij hi hj hq hq' hgi hgj
  · intro i q g hi hq hg
    rcases (set_get hb).1 hi with ⟨rfl, rfl⟩ | ⟨_, hi⟩
    · cases hq
    · obtain ⟨c, h1, h2⟩ := h.blk i q g hi hq hg
      exact ⟨c, h1, h2.carry hS.carry⟩

/-- an own block is written, and goes by a new number -/
theorem Sim.regrow {X μ : List Nat} {H : List Blk} {w : World} {b g s : Nat} {k : Blk} {cur cur' : Array Value} {rows : List (List C)} (h : Sim X μ H w) (hb : H[b]? = some k) (hm : k.st.isMut = true) (hg : μ[b]? = some g)
    (hc : w.heap[g]? = some (.cells cur k.ty (0, 0))) (hsz : cur'.size = cur.size) (hl : Laid (X ++ alive μ H) μ w cur' s rows) :
    Sim X (μ ++ [g]) (H.set b k.dead ++ [⟨s, k.ty, .mut, rows⟩]) (w.setRow g cur') ∧ Stp μ H w (μ ++ [g]) (H.set b k.dead ++ [⟨s, k.ty, .mut, rows⟩]) (w.setRow g cur') := by
  have hga : g ∈ alive μ H := mem_alive.2 ⟨b, k, hg, hb, hm⟩
  have hK := Keep.setRow (w := w) hga hc hsz
  obtain ⟨hD, _⟩ := h.kill hb
  have hmem : ∀ x, x ∈ alive (μ ++ [g]) (H.set b k.dead ++ [⟨s, k.ty, .mut, rows⟩]) → x ∈ alive μ H := fun x hx => by
    rcases (mem_alive_snoc (b := ⟨s, k.ty, .mut, rows⟩) hD.len).1 hx with hx | ⟨rfl, _⟩
    · obtain ⟨i, q, h1, h2, h3⟩ := mem_alive.1 hx
      rcases (set_get hb).1 h2 with ⟨rfl, rfl⟩ | ⟨_, h2⟩
      · cases h3
      · exact mem_alive.2 ⟨i, q, h1, h2, h3⟩
    · exact hga
  have hS : Stp μ H w (μ ++ [g]) (H.set b k.dead ++ [⟨s, k.ty, .mut, rows⟩]) (w.setRow g cur') := ⟨hK, fun b g hb => getElem?_snoc.2 (.inl hb), fun x hx _ => hmem x hx⟩
  have hsize : (w.setRow g cur').heap.size = w.heap.size := by simp [World.setRow]
  have hlen := h.len
  refine ⟨⟨by simp [h.len], ?_, fun x hx => by rw [hsize]; exact h.xlt x hx, ?_, ?_, ?_⟩, hS⟩
  · intro x hx
    rw [hsize]
    rcases List.mem_append.1 hx with hx | hx
    · exact h.lt x hx
    · simp at hx; subst hx; exact h.lt _ (List.mem_of_getElem? hg)
  · intro i q gg hi hq hgi
    rw [getElem?_snoc] at hi hgi
    simp only [List.length_set] at hi
    rcases hgi with hgi | ⟨hgi, rfl⟩
    · rcases hi with hi | ⟨hi, rfl⟩
      · rcases (set_get hb).1 hi with ⟨rfl, rfl⟩ | ⟨_, hi⟩
        · cases hq
        · exact h.out i q gg hi hq hgi
      · have := (List.getElem?_eq_some_iff.1 hgi).1; omega
    · exact h.out b k gg hb (known_of_mut hm) hg
  · intro i j q q' gg hij hi hj hq hq' hgi hgj
    rw [getElem?_snoc] at hi hj hgi hgj
    simp only [List.length_set] at hi hj
    have old : ∀ (i : Nat) (q : Blk), (H.set b k.dead)[i]? = some q → q.st.known = true → i ≠ b ∧ H[i]? = some q := fun i q hi hq => by
      rcases (set_get hb).1 hi with ⟨rfl, rfl⟩ | hi
      · cases hq
      · exact hi
    have mk : ∀ q : Blk, q.st.isMut = true → q.st.known = true := fun q hq => by cases hst : q.st <;> simp [St.isMut, St.known, hst] at hq ⊢
    rcases hi with hi | ⟨hi, rfl⟩
    · obtain ⟨hib, hi⟩ := old i q hi (mk q hq)
      rcases hgi with hgi | ⟨hgi, rfl⟩
      · rcases hj with hj | ⟨hj, rfl⟩
        · obtain ⟨hjb, hj⟩ := old j q' hj hq'
          rcases hgj with hgj | ⟨hgj, rfl⟩
          · exact h.inj i j q q' gg hij hi hj hq hq' hgi hgj
          · have := (List.getElem?_eq_some_iff.1 hj).1; omega
        · rcases hgj with hgj | ⟨hgj, rfl⟩
          · have := (List.getElem?_eq_some_iff.1 hgj).1; omega
          · exact h.inj b i k q gg (Ne.symm hib) hb hi hm (mk q hq) hg hgi
      · have := (List.getElem?_eq_some_iff.1 hi).1; omega
    · rcases hgi with hgi | ⟨hgi, rfl⟩
      · have := (List.getElem?_eq_some_iff.1 hgi).1; omega
      · rcases hj with hj | ⟨hj, rfl⟩
        · obtain ⟨hjb, hj⟩ := old j q' hj hq'
          rcases hgj with hgj | ⟨hgj, _⟩
          · exact h.inj b j k q' gg (Ne.symm hjb) hb hj hm hq' hg hgj
          · have := (List.getElem?_eq_some_iff.1 hj).1; omega
        · omega
  · intro i q gg hi hq hgi
    rw [getElem?_snoc] at hi hgi
    simp only [List.length_set] at hi
    rcases hi with hi | ⟨hi, rfl⟩
    · rcases (set_get hb).1 hi with ⟨rfl, rfl⟩ | ⟨hne, hi⟩
      · cases hq
      · rcases hgi with hgi | ⟨hgi, rfl⟩
        · obtain ⟨c, hc', hl'⟩ := h.blk i q gg hi hq hgi
          have hne2 : gg ≠ g := fun e => by subst e; exact h.inj b i k q gg (Ne.symm hne) hb hi hm hq hg hgi
          exact ⟨c, by rw [setRow_other w g gg _ hne2]; exact hc', hl'.carry hS.carry⟩
        · have := (List.getElem?_eq_some_iff.1 hi).1; omega
    · rcases hgi with hgi | ⟨hgi, rfl⟩
      · have := (List.getElem?_eq_some_iff.1 hgi).1; omega
      · exact ⟨cur', setRow_heap w gg cur cur' _ _ hc, hl.carry hS.carry⟩

section
variable {P : Program} {X μ : List Nat} {s : ASt} {a : Act} {w : World} {o : Oper} {L : List Nat}


/-- the rows of a slice, as they lie in memory -/
theorem arows_spec {H : List Blk} {v : AV} {u : Value} {r : List C} {rs : List (List C)} (hS : Sim X μ H w) (h : arows H v = some (r :: rs)) (hr : AV.rep (X ++ alive μ H) μ w v u) :
    ∃ ad c news, u = .slice (some ad) (rs.length + 1) c ∧ C.repl (X ++ alive μ H) μ w (r :: rs).flatten news ∧ (∀ (j : Nat) (u : Value), news[j]? = some u → w.cell? (ad.add j) = some u) := by
  unfold arows at h
  split at h
  · injection h with h
    subst h
    simp only [AV.rep, C.rep] at hr
    obtain ⟨p, cap, rfl, _, _, h3⟩ := hr
    rcases h3 with h3 | ⟨b, off, s', rfl, _, _, h3⟩
    · cases h3
    · obtain ⟨us, q1, _, q3⟩ := C.repss_vals h3
      exact ⟨⟨b, off, none⟩, cap, us, by simp, C.repl.carry Carry.any q1, fun j u hu => by rw [addr_add]; exact q3 j u hu⟩
  · rename_i s' b n
    split at h
    · rename_i k hb
      split at h
      · rename_i hk
        injection h with h
        simp only [AV.rep, C.rep] at hr
        obtain ⟨g, cap, hg, rfl, _, _, _⟩ := hr
        obtain ⟨cur, hc, hl⟩ := hS.blk b k g hb hk.1 hg
        obtain ⟨us, q1, _, q3⟩ := C.repss_vals (hl.repss hc)
        rw [h] at q1
        have hn : n = rs.length + 1 := by rw [← hk.2, h]; simp
        exact ⟨_, cap, us, by rw [hn], q1, fun j u hu => by rw [addr_add]; exact q3 j u hu⟩
      · cases h
    · cases h
  · cases h

theorem rowsLen_spec {n : Nat} {rows : List (List C)} (h : rowsLen n rows = true) : ∀ r ∈ rows, r.length = n := fun r hr => by
  have := List.all_eq_true.1 h r hr
  simpa using this

theorem Laid.take_append {cur : Array Value} {sz : Nat} {rows rows' : List (List C)} {olds news : List Value} (h1 : ∀ r ∈ rows, r.length = sz) (h2 : ∀ r ∈ rows', r.length = sz) (ho : C.repl L μ w rows.flatten olds) (hn : C.repl L μ w rows'.flatten news)
    (hc : ∀ (j : Nat) (u : Value), (olds ++ news)[j]? = some u → cur[j]? = some u) : Laid L μ w cur sz (rows ++ rows') :=
  Laid.flat (us := olds ++ news) (fun r hr => by rcases List.mem_append.1 hr with hr | hr; exact h1 r hr; exact h2 r hr) (by rw [List.flatten_append]; exact C.repl_append ho hn) hc

/-- .. an append; which blocks it may write: from B on, if the appended one lies there -/
def OpApp (P : Program) (X μ : List Nat) (s : ASt) (a : Act) (w : World) (o : Oper) (vx v : AV) (h' : List Blk) : Prop := ∃ u w' μ', (execOp a.eval o).run P w = .ok (.value u) w' ∧ Sim X μ' h' w' ∧ Stp μ s.h w μ' h' w' ∧ AV.rep (X ++ alive μ' h') μ' w' v u ∧
  ∀ B, (∀ s' b n g, vx = .one (.row s' b n) → μ[b]? = some g → B ≤ g) → B ≤ w.heap.size → (∃ L, Keep L w w' ∧ ∀ z ∈ L, B ≤ z) ∧ ∀ g, s.h.length < h'.length → μ'[s.h.length]? = some g → B ≤ g
theorem OpApp.ok {vx v : AV} {h' : List Blk} (h : OpApp P X μ s a w o vx v h') : OpOK P X μ s a w o v h' := by
  obtain ⟨u, w', μ', h1, h2, h3, h4, _⟩ := h
  exact ⟨u, w', μ', h1, h2, h3, h4⟩
theorem snoc_last {μ : List Nat} {H : List Blk} {B n g : Nat} (hl : μ.length = H.length) (hB : B ≤ n) (hg : (μ ++ [n])[H.length]? = some g) : B ≤ g := by
  rw [getElem?_snoc] at hg
  rcases hg with hg | ⟨_, rfl⟩
  · have := (List.getElem?_eq_some_iff.1 hg).1; omega
  · exact hB

theorem op_append1 {t : TypeId} {x y : Operand} {vx vy v : AV} {h' : List Blk} (ho : o.op = .call ⟨.builtin .append, #[x, y], #[t, t]⟩) (hF : SimF X μ s a w) (hx : s.eval x = some vx) (hy : s.eval y = some vy) (hv : aappend1 P s.h t vx vy = .val v h') : OpApp P X μ s a w o vx v h' := by
  have h1 := hF.eval hx
  have h2 := hF.eval hy
  have exec : ∀ (u : Value) (w' : World), (Builtin.append_ #[t, t] o.type #[a.eval x, a.eval y]).run P w = .ok u w' → (execOp a.eval o).run P w = .ok (.value u) w' := fun u w' hr => by
    simp only [execOp, ho, resolve, invoke, builtin, Sem.run_bind, Sem.run_pure, Result.andThen_ok, List.map_toArray, List.map_cons, List.map_nil, hr]
  unfold aappend1 at hv
  split at hv
  · rename_i ti r rs hti hrows
    obtain ⟨i, d, z, hi, hd, hz, hzc, hzs, rfl⟩ := tinfo_spec hti
    obtain ⟨ad, c, news, he2, hnr, hnc⟩ := arows_spec hF.sim hrows h2
    split at hv
    · rename_i te hte
      obtain ⟨i', d', z', hi', hd', hz', hzc', hzs', rfl⟩ := tinfo_spec hte
      split at hv
      · rename_i hk
        obtain ⟨hk, _, hpos, hbp⟩ := hk
        obtain ⟨e, rfl⟩ := tkind_slice (tkindP_eq hk (by decide))
        simp only [telem] at hi'
        have hpos : 0 < i'.size := hpos
        have hbp : 0 < i'.bytes := hbp
        split at hv
        · split at hv
          · rename_i hcnd
            obtain ⟨hby, hrl⟩ := hcnd
            have hby : (rs.length + 1) * i'.bytes ≤ 140737488355328 := hby
            have hrl : rowsLen i'.size (r :: rs) = true := hrl
            injection hv with hv1 hv2
            subst hv1 hv2
            have hrl' := rowsLen_spec hrl
            have hnl : news.length = (rs.length + 1) * i'.size := by rw [C.repl_length hnr, flatten_length hrl']; simp
            have e1 := AV.sc_eq h1
            have hm63 : rs.length + 1 ≤ 140737488355328 := Nat.le_trans (Nat.le_mul_of_pos_right _ hbp) hby
            have hrun := run_append_nil (P := P) w t o.type e i' z' hd hi' hz' ad (rs.length + 1) c news hnl hnc (by omega) (by omega) (by omega)
            rw [← e1, ← he2] at hrun
            obtain ⟨q1, q2⟩ := hF.sim.new ((Keep.drew [] w).trans (Keep.alloc [] w.drew _) (by simp)) (heap_alloc_new w.drew _) (ty := e) (s := i'.size) (rows := r :: rs) (cur := news.toArray ++ Builtin.zeroCells z'.cells (grownCap w (rs.length + 1) 0 e - (rs.length + 1)))
              (Laid.flat hrl' hnr (fun j u hu => by rw [Array.getElem?_append_left (by have := (List.getElem?_eq_some_iff.1 hu).1; simpa using this)]; simpa using hu))
            have hge := grownCap_ge w (rs.length + 1) 0 e
            exact ⟨_, _, _, exec _ _ hrun, q1, q2, rep_row_new hF.sim.len hge (grownCap_le_maxLen w _ 0 e (by simp only [maxLen]; omega)) ⟨_, e, heap_alloc_new w.drew _, by
              rw [Array.size_append, List.size_toArray, size_zeroCells, hnl, hzs', ← Nat.add_mul]; congr 1; omega⟩,
              fun B _ hB => ⟨⟨[], (Keep.drew [] w).trans (Keep.alloc [] w.drew _) (by simp), by simp⟩, fun g _ hg => snoc_last hF.sim.len hB hg⟩⟩
          · cases hv
        · rename_i sx b n
          split at hv
          · rename_i k hb
            split at hv
            · rename_i hcnd
              obtain ⟨hby, hsx, hks, hkt, hm, hkn, hrl⟩ := hcnd
              have hsx : sx = i'.size := hsx
              subst hsx
              have hks : k.s = i'.size := hks
              have hkt : k.ty = e := hkt
              have hby : (n + (rs.length + 1)) * i'.bytes ≤ 140737488355328 := hby
              have hrl : rowsLen i'.size (r :: rs) = true := hrl
              injection hv with hv1 hv2
              subst hv1 hv2
              have hrl' := rowsLen_spec hrl
              have hnl : news.length = (rs.length + 1) * i'.size := by rw [C.repl_length hnr, flatten_length hrl']; simp
              have hno := C.repl_one hnr
              simp only [AV.rep, C.rep] at h1
              obtain ⟨g, cap, hg, e1, hncap, hcm, hrow⟩ := h1
              obtain ⟨cur, hc, hl⟩ := hF.sim.blk b k g hb (known_of_mut hm) hg
              have hcs : cur.size = cap * i'.size := by
                obtain ⟨cur2, ty2, hc2, hs2⟩ := hrow
                rw [hc] at hc2; cases hc2; exact hs2
              have hrows1 : ∀ r ∈ k.rows, r.length = i'.size := fun r hr => by
                obtain ⟨i0, hi0⟩ := List.getElem?_of_mem hr
                rw [← hks]; exact (hl i0 r hi0).1
              obtain ⟨us, hus, hul, huc⟩ := C.repss_vals (hl.repss hc)
              rw [hks] at hul
              have hucur : ∀ (j : Nat) (u : Value), us[j]? = some u → cur[j]? = some u := fun j u hu => by
                have := huc j u hu
                simp only [World.cell?, hc, Nat.zero_add] at this
                simpa using this
              have hm63 : n + (rs.length + 1) ≤ 140737488355328 := Nat.le_trans (Nat.le_mul_of_pos_right _ hbp) hby
              rw [hkt] at hc
              by_cases hroom : n + (rs.length + 1) ≤ cap
              · have hfit : n * i'.size + news.length ≤ cur.size := by rw [hnl, hcs, ← Nat.add_mul]; exact Nat.mul_le_mul_right _ hroom
                have hrun := run_append_room (P := P) w t o.type e i' hd hi' g n cap cur hc ad (rs.length + 1) c news hnl hnc hno hroom hfit
                rw [← e1, ← he2] at hrun
                have hn' : us.length = n * i'.size := by rw [hul, hkn]
                rw [← hkt] at hc
                obtain ⟨q1, q2⟩ := hF.sim.regrow (s := i'.size) (rows := k.rows ++ (r :: rs)) (cur' := (cur.toList.take (n * i'.size) ++ news ++ cur.toList.drop (n * i'.size + news.length)).toArray) hb hm hg hc (by simp; omega) (Laid.take_append hrows1 hrl' hus hnr (fun j u hu => by
                  rw [repl_at _ _ _ _ hfit]
                  by_cases hj : j < us.length
                  · rw [List.getElem?_append_left hj] at hu
                    rw [if_neg (by omega)]
                    exact hucur j u hu
                  · rw [List.getElem?_append_right (by omega)] at hu
                    have := (List.getElem?_eq_some_iff.1 hu).1
                    rw [if_pos (by omega), ← hu]
                    congr 1; omega))
                rw [hkt] at q1 q2
                refine ⟨_, _, _, exec _ _ hrun, q1, q2, ?_, fun B hb2 _ => ⟨⟨[g], Keep.setRow (by simp) hc (by simp; omega), fun z hz => by simp only [List.mem_singleton] at hz; subst hz; exact hb2 _ _ _ _ rfl hg⟩, fun g' _ hg' => snoc_last hF.sim.len (hb2 _ _ _ _ rfl hg) hg'⟩⟩
                simp only [AV.rep, C.rep]
                exact ⟨g, cap, getElem?_snoc.2 (.inr ⟨hF.sim.len.symm, rfl⟩), rfl, hroom, hcm, ⟨_, _, setRow_heap w g cur _ _ _ hc, by simp; omega⟩⟩
              · have holds : ∀ (j : Nat) (u : Value), us[j]? = some u → w.cell? ((⟨g, 0, none⟩ : Addr).add j) = some u := fun j u hu => by rw [addr_add]; exact huc j u hu
                have hrun := run_append_grow (P := P) w t o.type e i' z' hd hi' hz' ⟨g, 0, none⟩ n cap us (by rw [hul, hkn]) holds ad (rs.length + 1) c news hnl hnc (by omega) (by omega) (growslice_fits (by omega) hby)
                rw [← e1, ← he2] at hrun
                obtain ⟨d1, d2⟩ := hF.sim.kill hb
                obtain ⟨q1, q2⟩ := d1.new ((Keep.drew [] w).trans (Keep.alloc [] w.drew _) (by simp)) (heap_alloc_new w.drew _) (ty := e) (s := i'.size) (rows := k.rows ++ (r :: rs)) (cur := us.toArray ++ news.toArray ++ Builtin.zeroCells z'.cells (grownCap w (n + (rs.length + 1)) cap e - (n + (rs.length + 1))))
                  ((Laid.take_append hrows1 hrl' hus hnr (fun j u hu => by
                    have := (List.getElem?_eq_some_iff.1 hu).1
                    rw [Array.getElem?_append_left (by simpa using this)]
                    simpa using hu)).carry d2.carry)
                have hge := grownCap_ge w (n + (rs.length + 1)) cap e
                refine ⟨_, _, _, exec _ _ hrun, q1, d2.trans q2, ?_, fun B _ hB => ⟨⟨[], (Keep.drew [] w).trans (Keep.alloc [] w.drew _) (by simp), by simp⟩, fun g' _ hg' => snoc_last hF.sim.len hB hg'⟩⟩
                have := rep_row_new (L := X ++ alive (μ ++ [w.heap.size]) (s.h.set b k.dead ++ [⟨i'.size, e, .mut, k.rows ++ (r :: rs)⟩])) (w' := w.drew.alloc (.cells (us.toArray ++ news.toArray ++ Builtin.zeroCells z'.cells (grownCap w (n + (rs.length + 1)) cap e - (n + (rs.length + 1)))) e)) (sz := i'.size) d1.len hge (grownCap_le_maxLen w _ cap e (by simp only [maxLen]; omega)) ⟨_, e, heap_alloc_new w.drew _, by
                  rw [Array.size_append, Array.size_append, List.size_toArray, List.size_toArray, size_zeroCells, hnl, hul, hkn, hzs', ← Nat.add_mul, ← Nat.add_mul]; congr 1; omega⟩
                rw [show (s.h.set b k.dead).length = s.h.length from by simp] at this
                exact this
            · cases hv
          · cases hv
        · cases hv
      · cases hv
    · cases hv
  · cases hv
theorem aempty_spec {v : AV} {u : Value} {L : List Nat} (h : aempty v = true) (hr : AV.rep L μ w v u) : ∃ p c, u = .slice p 0 c := by
  unfold aempty at h
  split at h
  · simp only [AV.rep, C.rep] at hr
    obtain ⟨p, cap, e, _⟩ := hr
    exact ⟨p, cap, e⟩
  · simp only [AV.rep, C.rep] at hr
    obtain ⟨g, cap, _, e, _⟩ := hr
    exact ⟨_, cap, e⟩
  · exact ⟨_, _, AV.sc_eq hr⟩
  · cases h
theorem aisSlice_spec {v : AV} {u : Value} {L : List Nat} (h : aisSlice v = true) (hr : AV.rep L μ w v u) : ∃ p n c, u = .slice p n c ∧ n ≤ c := by
  unfold aisSlice at h
  split at h
  · simp only [AV.rep, C.rep] at hr
    obtain ⟨p, cap, e, h1, _⟩ := hr
    exact ⟨p, _, cap, e, h1⟩
  · simp only [AV.rep, C.rep] at hr
    obtain ⟨g, cap, _, e, h1, _⟩ := hr
    exact ⟨_, _, cap, e, h1⟩
  · exact ⟨none, 0, 0, AV.sc_eq hr, Nat.le_refl _⟩
  · cases h
theorem op_append {t : TypeId} {x y : Operand} {vx vy v : AV} {h' : List Blk} (ho : o.op = .call ⟨.builtin .append, #[x, y], #[t, t]⟩) (hF : SimF X μ s a w) (hx : s.eval x = some vx) (hy : s.eval y = some vy) (hv : aappend P s.h t vx vy = .val v h') : OpApp P X μ s a w o vx v h' := by
  unfold aappend at hv
  split at hv
  · rename_i hem
    have h1 := hF.eval hx
    have h2 := hF.eval hy
    have exec : ∀ (u : Value) (w' : World), (Builtin.append_ #[t, t] o.type #[a.eval x, a.eval y]).run P w = .ok u w' → (execOp a.eval o).run P w = .ok (.value u) w' := fun u w' hr => by
      simp only [execOp, ho, resolve, invoke, builtin, Sem.run_bind, Sem.run_pure, Result.andThen_ok, List.map_toArray, List.map_cons, List.map_nil, hr]
    unfold asame at hv
    split at hv
    · rename_i ti hti
      obtain ⟨i, d, z, hi, hd, hz, hzc, hzs, rfl⟩ := tinfo_spec hti
      split at hv
      · rename_i te hte
        obtain ⟨i', d', z', hi', hd', hz', hzc', hzs', rfl⟩ := tinfo_spec hte
        split at hv
        · rename_i hk
          obtain ⟨hk, hsl⟩ := hk
          obtain ⟨e, rfl⟩ := tkind_slice (tkindP_eq hk (by decide))
          simp only [telem] at hi'
          injection hv with hv1 hv2
          subst hv1 hv2
          obtain ⟨py, cy, ey⟩ := aempty_spec hem h2
          obtain ⟨px, n, cx, ex, hle⟩ := aisSlice_spec hsl h1
          refine ⟨a.eval x, w, μ, exec _ _ ?_, hF.sim, Stp.refl _ _ _, h1, fun B _ _ => ⟨⟨[], Keep.refl _ _, by simp⟩, fun g hlt _ => absurd hlt (Nat.lt_irrefl _)⟩⟩
          rw [ex, ey]
          cases px <;> cases py <;> simp [Builtin.append_, run_underlying' hd, run_sizeOf' hi', Builtin.lenOf, hle, Builtin.firstCells, loadCells, loadCellsFrom, storeCells]
        · cases hv
      · cases hv
    · cases hv
  · exact op_append1 ho hF hx hy hv
end
end Go.Proofs.Sh
