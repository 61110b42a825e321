/- Texts of the proof, one behind another. -/
import Derived.Laws.MakeOwn
import Derived.Great.BuildSlice
import Derived.Test.YtkkijdlgmlffoaaKW1
set_option linter.unusedSimpArgs false
set_option linter.unusedVariables false
/- What an operation does, by its shadow. -/
namespace Go.Proofs.Sh
open Go.RowKit

structure SimF (X μ : List Nat) (s : ASt) (a : Act) (w : World) : Prop where
  size : a.tmps.size = s.n
  ds : a.defers = []
  sim : Sim X μ s.h w
  reg : ∀ (t : Nat) (v : AV), look t s.t = some v → AV.rep (X ++ alive μ s.h) μ w v (a.tmps.getD t undef)

theorem SimF.eval {X μ : List Nat} {s : ASt} {a : Act} {w : World} (h : SimF X μ s a w) : ∀ {o : Operand} {v : AV}, s.eval o = some v → AV.rep (X ++ alive μ s.h) μ w v (a.eval o)
  | .tmp t, v, hv => h.reg t v hv
  | .const c, v, hv => by
    simp only [ASt.eval] at hv
    split at hv
    · rename_i hc
      cases hv
      simp only [AV.rep, C.rep]
      refine ⟨rfl, ?_⟩
      show c.oneCell' = true
      unfold C.isConst at hc
      cases c <;> first | rfl | (simp at hc; done)
    · cases hv
  | .func f, v, hv => by
    simp only [ASt.eval] at hv
    cases hv
    simp only [AV.rep, C.rep]
    exact ⟨#[], rfl, by simp [C.repl]⟩
  | .global g, v, hv => by simp [ASt.eval] at hv

theorem AV.rep_undef (L μ : List Nat) (w : World) : AV.rep L μ w aundef undef := by
  simp only [aundef, AV.rep]; exact ⟨#[], rfl, by simp [AV.repl]⟩

theorem look_cons (t t' : Nat) (v : AV) (l : List (Nat × AV)) : look t ((t', v) :: l) = if t' = t then some v else look t l := rfl

theorem SimF.put {X μ : List Nat} {s : ASt} {a : Act} {w : World} (h : SimF X μ s a w) {d : Option Tmp} {v : AV} {u : Value} (hv : AV.rep (X ++ alive μ s.h) μ w v u) : SimF X μ (s.put d v) (a.put d u) w := by
  cases d with
  | none => exact h
  | some d =>
    simp only [ASt.put, Act.put]
    by_cases hd : d < s.n
    · rw [if_pos hd]
      refine ⟨by simp [h.size], h.ds, h.sim, fun t v' hl => ?_⟩
      rw [look_cons] at hl
      split at hl
      · rename_i he
        subst he
        cases hl
        rw [Array.getD_eq_getD_getElem?, Array.getElem?_setIfInBounds_self_of_lt (by rw [h.size]; exact hd)]
        exact hv
      · rename_i he
        rw [Array.getD_eq_getD_getElem?, Array.getElem?_setIfInBounds_ne he, ← Array.getD_eq_getD_getElem?]
        exact h.reg t v' hl
    · rw [if_neg hd]
      have : a.tmps.setIfInBounds d u = a.tmps := by
        apply Array.ext_getElem?
        intro i
        by_cases hi : d = i
        · subst hi
          have h1 : a.tmps.size ≤ d := by rw [h.size]; exact Nat.le_of_not_lt hd
          rw [Array.getElem?_eq_none (by simpa using h1), Array.getElem?_eq_none h1]
        · rw [Array.getElem?_setIfInBounds_ne hi]
      rw [this]
      exact h

/-- the frame, after the own blocks and the world have changed -/
theorem SimF.step {X μ μ' : List Nat} {s : ASt} {a : Act} {w w' : World} {h' : List Blk} (h : SimF X μ s a w) (hs : Stp μ s.h w μ' h' w') (hm : Sim X μ' h' w') : SimF X μ' ⟨s.n, s.t, h'⟩ a w' :=
  ⟨h.size, h.ds, hm, fun t v hl => AV.rep.carry hs.carry (h.reg t v hl)⟩

/-! ### types -/
theorem tinfo_spec {P : Program} {t : TypeId} {ti : TI} (h : tinfo P t = some ti) : ∃ i d z, P.info? t = some i ∧ P.underlying t = some d ∧ i.zero = some z ∧ (∀ u ∈ z.cells.toList, u.oneCell' = true) ∧ z.cells.size = i.size ∧
    ti = ⟨i.size, tagg d, i.bytes, z.cells.toList, tfields P d, telem d, tkindP P d⟩ := by
  unfold tinfo at h
  split at h
  · rename_i i d hi hd
    split at h
    · rename_i z hz
      split at h
      · rename_i hc
        injection h with h
        exact ⟨i, d, z, hi, hd, hz, List.all_eq_true.1 hc.1, hc.2, h.symm⟩
      · cases h
    · cases h
  · cases h
section
variable {P : Program} {w : World}
theorem run_underlying' {t : TypeId} {d : TypeDesc} (h : P.underlying t = some d) : (underlying t).run P w = .ok d w := by
  simp [underlying, h]
theorem run_typeInfo' {t : TypeId} {i : TypeInfo} (h : P.info? t = some i) : (typeInfo t).run P w = .ok i w := by
  simp [typeInfo, h]
theorem run_sizeOf' {t : TypeId} {i : TypeInfo} (h : P.info? t = some i) : (sizeOf t).run P w = .ok i.size w := by
  simp [sizeOf, run_typeInfo' h]
theorem run_zeroValue' {t : TypeId} {i : TypeInfo} {z : Value} (h : P.info? t = some i) (hz : i.zero = some z) : (zeroValue t).run P w = .ok z w := by
  simp [zeroValue, run_typeInfo' h, hz]
theorem run_isAgg' {t : TypeId} {d : TypeDesc} (h : P.underlying t = some d) : (isAgg t).run P w = .ok (tagg d) w := by
  simp only [isAgg, Sem.run_bind, run_underlying' h, Result.andThen_ok]
  cases d <;> rfl
theorem tkind_struct {d : TypeDesc} (h : tkind d = 1) : ∃ fs, d = .struct fs := by cases d <;> simp [tkind] at h ⊢
theorem tkind_slice {d : TypeDesc} (h : tkind d = 3) : ∃ e, d = .slice e := by cases d <;> simp [tkind] at h ⊢
theorem tkind_string {d : TypeDesc} (h : tkind d = 4) : d = .string := by cases d <;> simp [tkind] at h ⊢
theorem tkind_bool {d : TypeDesc} (h : tkind d = 6) : d = .bool := by cases d <;> simp [tkind] at h ⊢
theorem tkindP_eq {d : TypeDesc} {n : Nat} (h : tkindP P d = n) (hn : n ≠ 9) : tkind d = n := by
  unfold tkindP at h
  split at h
  · exact h
  · exact absurd h.symm hn
theorem tk_some {t : TypeId} {n : Nat} (h : tk P t = n) (hn : n ≠ 0) : ∃ d, P.underlying t = some d ∧ tkind d = n := by
  unfold tk at h
  split at h
  · rename_i d hd; exact ⟨d, hd, h⟩
  · exact absurd h.symm hn
theorem tint_some {t : TypeId} {k : IntKind} (h : tint P t = some k) : P.underlying t = some (.int k) := by
  unfold tint at h
  split at h
  · rename_i k' hd; cases h; exact hd
  · cases h
end

theorem C.repl_length {L μ : List Nat} {w : World} : ∀ {cs : List C} {us : List Value}, C.repl L μ w cs us → us.length = cs.length
  | [], us, h => by simp only [C.repl] at h; simp [h]
  | c :: cs, us, h => by
    simp only [C.repl] at h
    obtain ⟨u, us', rfl, _, h3⟩ := h
    simp [C.repl_length h3]
theorem C.repl_get {L μ : List Nat} {w : World} : ∀ {cs : List C} {us : List Value}, C.repl L μ w cs us → ∀ (j : Nat) (c : C), cs[j]? = some c → ∃ u, us[j]? = some u ∧ C.rep L μ w c u
  | [], us, h, j, c, hj => by simp at hj
  | c :: cs, us, h, j, c', hj => by
    simp only [C.repl] at h
    obtain ⟨u, us', rfl, h2, h3⟩ := h
    cases j with
    | zero => simp at hj; subst hj; exact ⟨u, rfl, h2⟩
    | succ j => simpa using C.repl_get h3 j c' (by simpa using hj)
theorem C.repl_of {L μ : List Nat} {w : World} : ∀ {cs : List C} {us : List Value}, us.length = cs.length → (∀ (j : Nat) (c : C) (u : Value), cs[j]? = some c → us[j]? = some u → C.rep L μ w c u) → C.repl L μ w cs us
  | [], us, hl, _ => by simp only [C.repl]; exact List.eq_nil_of_length_eq_zero (by simpa using hl)
  | c :: cs, [], hl, _ => by simp at hl
  | c :: cs, u :: us, hl, h => by
    simp only [C.repl]
    exact ⟨u, us, rfl, h 0 c u rfl rfl, C.repl_of (by simpa using hl) (fun j c' u' h1 h2 => h (j + 1) c' u' (by simpa using h1) (by simpa using h2))⟩
theorem C.repl_append {L μ : List Nat} {w : World} {cs ds : List C} {us vs : List Value} (h : C.repl L μ w cs us) (k : C.repl L μ w ds vs) : C.repl L μ w (cs ++ ds) (us ++ vs) := by
  induction cs generalizing us with
  | nil => simp only [C.repl] at h; subst h; simpa using k
  | cons c cs ih =>
    simp only [C.repl] at h
    obtain ⟨u, us', rfl, h2, h3⟩ := h
    simp only [List.cons_append, C.repl]
    exact ⟨u, us' ++ vs, rfl, h2, ih h3⟩
theorem C.repl_take {L μ : List Nat} {w : World} {cs : List C} {us : List Value} (h : C.repl L μ w cs us) (n : Nat) : C.repl L μ w (cs.take n) (us.take n) := by
  have hl := C.repl_length h
  refine C.repl_of (by simp [hl]) (fun j c u h1 h2 => ?_)
  rw [List.getElem?_take] at h1 h2
  split at h1
  · rename_i hj
    rw [if_pos hj] at h2
    obtain ⟨u', e, hr⟩ := C.repl_get h j c h1
    rw [h2] at e; cases e; exact hr
  · cases h1
theorem C.repl_drop {L μ : List Nat} {w : World} {cs : List C} {us : List Value} (h : C.repl L μ w cs us) (n : Nat) : C.repl L μ w (cs.drop n) (us.drop n) := by
  have hl := C.repl_length h
  refine C.repl_of (by simp [hl]) (fun j c u h1 h2 => ?_)
  rw [List.getElem?_drop] at h1 h2
  obtain ⟨u', e, hr⟩ := C.repl_get h _ c h1
  rw [h2] at e; cases e; exact hr
theorem C.repl_one {L μ : List Nat} {w : World} {cs : List C} {us : List Value} (h : C.repl L μ w cs us) : ∀ u ∈ us, u.oneCell' = true := by
  intro u hu
  obtain ⟨j, hj⟩ := List.getElem?_of_mem hu
  have hl := C.repl_length h
  have hlt : j < cs.length := by rw [← hl]; exact (List.getElem?_eq_some_iff.1 hj).1
  obtain ⟨u', e, hr⟩ := C.repl_get h j _ (List.getElem?_eq_getElem hlt)
  rw [hj] at e; cases e; exact C.rep_one hr
theorem C.repl_sc {L μ : List Nat} {w : World} {us : List Value} (h : ∀ u ∈ us, u.oneCell' = true) : C.repl L μ w (us.map .sc) us := by
  refine C.repl_of (by simp) (fun j c u h1 h2 => ?_)
  rw [List.getElem?_map, h2] at h1
  cases h1
  simp only [C.rep, true_and]
  exact h u (List.mem_of_getElem? h2)
theorem C.reps_get {L μ : List Nat} {w : World} : ∀ {cs : List C} {b off : Nat}, C.reps L μ w cs b off → ∀ (j : Nat) (c : C), cs[j]? = some c → ∃ u, w.cell? ⟨b, off + j, none⟩ = some u ∧ C.rep L μ w c u
  | [], b, off, h, j, c, hj => by simp at hj
  | c :: cs, b, off, h, j, c', hj => by
    simp only [C.reps] at h
    obtain ⟨⟨u, h1, h2⟩, h3⟩ := h
    cases j with
    | zero => simp at hj; subst hj; exact ⟨u, h1, h2⟩
    | succ j =>
      have := C.reps_get h3 j c' (by simpa using hj)
      rwa [show off + 1 + j = off + (j + 1) from by omega] at this
theorem C.reps_of {L μ : List Nat} {w : World} : ∀ {cs : List C} {b off : Nat}, (∀ (j : Nat) (c : C), cs[j]? = some c → ∃ u, w.cell? ⟨b, off + j, none⟩ = some u ∧ C.rep L μ w c u) → C.reps L μ w cs b off
  | [], b, off, h => by simp [C.reps]
  | c :: cs, b, off, h => by
    simp only [C.reps]
    refine ⟨by simpa using h 0 c rfl, C.reps_of (fun j c' hj => ?_)⟩
    have := h (j + 1) c' (by simpa using hj)
    rwa [show off + (j + 1) = off + 1 + j from by omega] at this
theorem C.repss_get {L μ : List Nat} {w : World} {s : Nat} : ∀ {rows : List (List C)} {b off : Nat}, C.repss L μ w s rows b off → ∀ (i : Nat) (r : List C), rows[i]? = some r → r.length = s ∧ C.reps L μ w r b (off + i * s)
  | [], b, off, h, i, r, hi => by simp at hi
  | r :: rows, b, off, h, i, r', hi => by
    simp only [C.repss] at h
    cases i with
    | zero => simp at hi; subst hi; exact ⟨h.1, by simpa using h.2.1⟩
    | succ i =>
      have := C.repss_get h.2.2 i r' (by simpa using hi)
      rwa [show off + s + i * s = off + (i + 1) * s from by rw [Nat.succ_mul]; omega] at this
theorem C.repss_of {L μ : List Nat} {w : World} {s : Nat} : ∀ {rows : List (List C)} {b off : Nat}, (∀ (i : Nat) (r : List C), rows[i]? = some r → r.length = s ∧ C.reps L μ w r b (off + i * s)) → C.repss L μ w s rows b off
  | [], b, off, h => by simp [C.repss]
  | r :: rows, b, off, h => by
    simp only [C.repss]
    have h0 := h 0 r rfl
    refine ⟨h0.1, by simpa using h0.2, C.repss_of (fun i r' hi => ?_)⟩
    have := h (i + 1) r' (by simpa using hi)
    rwa [show off + (i + 1) * s = off + s + i * s from by rw [Nat.succ_mul]; omega] at this

/-! ### operations that only reckon -/
/-- the operation yields u, wherever it comes up -/
def PureV (P : Program) (o : Oper) (a : Act) (u : Value) : Prop := ∀ w, (execOp a.eval o).run P w = .ok (.value u) w

theorem AV.rep_cells {L μ : List Nat} {w : World} {v : AV} {u : Value} {cs : List C} (hc : v.cells = some cs) (h : AV.rep L μ w v u) : C.repl L μ w cs u.cells.toList := by
  cases v with
  | one c =>
    simp only [AV.cells, Option.some.injEq] at hc
    subst hc
    simp only [AV.rep] at h
    have h1 := C.rep_one h
    have : u.cells = #[u] := by cases u <;> first | rfl | (simp [Value.oneCell'] at h1; done)
    rw [this]
    simp only [C.repl]
    exact ⟨u, [], rfl, h, rfl⟩
  | agg cs' =>
    simp only [AV.cells, Option.some.injEq] at hc
    subst hc
    simp only [AV.rep] at h
    obtain ⟨arr, rfl, h⟩ := h
    exact h
  | tup vs => simp [AV.cells] at hc

theorem addr_add (b o n : Nat) : (⟨b, o, none⟩ : Addr).add n = ⟨b, o + n, none⟩ := by unfold Addr.add; split <;> simp_all

section
variable {P : Program} {X μ : List Nat} {s : ASt} {a : Act} {w : World} {o : Oper}

theorem pure_move {x : Operand} {v : AV} (ho : o.op = .move x) (hF : SimF X μ s a w) (hv : s.eval x = some v) : ∃ u, PureV P o a u ∧ AV.rep (X ++ alive μ s.h) μ w v u :=
  ⟨_, fun w => by simp [execOp, ho], hF.eval hv⟩
theorem pure_assign {x : Operand} {v : AV} (ho : o.op = .assign x) (hF : SimF X μ s a w) (hv : s.eval x = some v) : ∃ u, PureV P o a u ∧ AV.rep (X ++ alive μ s.h) μ w v u :=
  ⟨_, fun w => by simp [execOp, ho], hF.eval hv⟩
theorem AV.sc_eq {L : List Nat} {u v : Value} (h : AV.rep L μ w (.one (.sc v)) u) : u = v := by
  simp only [AV.rep, C.rep] at h; exact h.1
theorem pure_pick {c x y : Operand} {b : Bool} {v v' : AV} (ho : o.op = .pick c x y) (hF : SimF X μ s a w) (hc : s.eval c = some (.one (.sc (.bool b)))) (hx : s.eval x = some v) (hy : s.eval y = some v') : ∃ u, PureV P o a u ∧ AV.rep (X ++ alive μ s.h) μ w (bif b then v else v') u := by
  have h1 := AV.sc_eq (hF.eval hc)
  refine ⟨if b then a.eval x else a.eval y, fun w => by simp [execOp, ho, h1, asBool], ?_⟩
  cases b
  · exact hF.eval hy
  · exact hF.eval hx
theorem run_eqGuard_int {op : BinOp} {t : TypeId} {x y : Operand} {k : IntKind} {n : Int} {v : Value} : (eqGuard op t x y (.int k n) v).run P w = .ok () w := by cases op <;> rfl
theorem run_eqGuard_str {op : BinOp} {t : TypeId} {x y : Operand} {n : ByteArray} {v : Value} : (eqGuard op t x y (.string n) v).run P w = .ok () w := by cases op <;> rfl
theorem run_eqGuard_bool {op : BinOp} {t : TypeId} {x y : Operand} {n : Bool} {v : Value} : (eqGuard op t x y (.bool n) v).run P w = .ok () w := by cases op <;> rfl

theorem run_aint {op : BinOp} {t : TypeId} {k : IntKind} {x y : Int} {v : Value} (h : aint op k x y = some v) (hs : op ≠ .shl) (hs' : op ≠ .shr) : (binOp op t (.int k x) (.int k y)).run P w = .ok v w := by
  cases op <;> simp [aint] at h <;> first | (exact absurd rfl hs) | (exact absurd rfl hs') | (simp [binOp, Op.intArith, Op.intDiv, Op.intBits, Op.intCmp, ← h]; done) | (simp [binOp, Op.intArith, Op.intDiv, Op.intBits, Op.intCmp, ← h.2, h.1]; done)
theorem run_astr {op : BinOp} {t : TypeId} {x y : ByteArray} {v : Value} (h : astr op x y = some v) : (binOp op t (.string x) (.string y)).run P w = .ok v w := by
  cases op <;> simp only [astr] at h <;> first | (cases h; done) | (cases h; simp [binOp, Op.stringOp]; done) | skip
  split at h
  · rename_i hl
    cases h
    have hl := Nat.le_of_ble_eq_true hl
    have h2 : ¬ (IntKind.i64.max < ((x.size : Nat) : Int) + ((y.size : Nat) : Int)) := by
      have : IntKind.i64.max = 9223372036854775807 := rfl
      rw [this]; omega
    have h3 : ((x.size : Nat) : Int) + ((y.size : Nat) : Int) ≤ 9223372036854775807 := by omega
    simp [binOp, Op.stringOp, h2, h3]
  · cases h

theorem AV.rep_sc {L μ : List Nat} {w : World} {v : Value} (h : v.oneCell' = true) : AV.rep L μ w (.one (.sc v)) v := by
  simp only [AV.rep, C.rep, true_and]; exact h
theorem run_equal_bool {t : TypeId} {x y : Bool} (hd : P.underlying t = some .bool) : (Op.equal t (.bool x) (.bool y)).run P w = .ok (x == y) w := by
  unfold Op.equal Op.maxDepth
  rw [show (10000 : Nat) = 9999 + 1 from rfl, Op.equalIn]
  simp only [Sem.run_bind, run_underlying' hd, Result.andThen_ok, Sem.run_pure]

theorem pure_bin {op : BinOp} {t t' : TypeId} {x y : Operand} {vx vy v : AV} (ho : o.op = .binOp op t x y t') (hF : SimF X μ s a w) (hx : s.eval x = some vx) (hy : s.eval y = some vy) (hv : abin P op t vx vy = some v) : ∃ u, PureV P o a u ∧ AV.rep (X ++ alive μ s.h) μ w v u := by
  have h1 := hF.eval hx
  have h2 := hF.eval hy
  have key : ∀ (u : Value), (∀ w, (do eqGuard op t x y (a.eval x) (a.eval y); binOp op t (a.eval x) (a.eval y) : Sem Value).run P w = .ok u w) → PureV P o a u := fun u hu w => by
    have := hu w
    simp only [Sem.run_bind] at this
    simp only [execOp, ho, Sem.run_bind, this, Result.andThen_ok, Sem.run_pure]
  have ksh : ∀ (op' : BinOp) (k : IntKind) (n m : Int) (k' : IntKind), (op' = .shl ∨ op' = .shr) → op = op' → vx = .one (.sc (.int k n)) → vy = .one (.sc (.int k' m)) → (ashift op' k n m).map (fun v => AV.one (.sc v)) = some v → ∃ u, PureV P o a u ∧ AV.rep (X ++ alive μ s.h) μ w v u := by
    intro op' k n m k' hop e0 ex ey hq
    subst e0 ex ey
    rw [Option.map_eq_some_iff] at hq
    obtain ⟨r, hr, rfl⟩ := hq
    have e1 := AV.sc_eq h1
    have e2 := AV.sc_eq h2
    unfold ashift at hr
    split at hr
    · rename_i hn
      have hn' : ¬ m < 0 := by omega
      rcases hop with rfl | rfl
      · cases hr
        exact ⟨_, key _ fun w => by rw [e1, e2, Sem.run_bind, run_eqGuard_int, Result.andThen_ok]; simp [binOp, Op.shift, hn'], AV.rep_sc rfl⟩
      · cases hr
        exact ⟨_, key _ fun w => by rw [e1, e2, Sem.run_bind, run_eqGuard_int, Result.andThen_ok]; simp [binOp, Op.shift, hn'], AV.rep_sc rfl⟩
    · cases hr
  unfold abin at hv
  split at hv
  · exact ksh .shl _ _ _ _ (.inl rfl) rfl rfl rfl hv
  · exact ksh .shr _ _ _ _ (.inr rfl) rfl rfl rfl hv
  · cases hv
  · cases hv
  · rename_i k n k' m hs1 hs2 hs3 hs4
    split at hv
    · rename_i hk
      subst hk
      simp only [Option.map_eq_some_iff] at hv
      obtain ⟨r, hr, rfl⟩ := hv
      have e1 := AV.sc_eq h1
      have e2 := AV.sc_eq h2
      refine ⟨r, key r fun w => ?_, ?_⟩
      · rw [e1, e2, Sem.run_bind, run_eqGuard_int, Result.andThen_ok]
        exact run_aint hr (by first | exact fun e => hs3 e | exact fun e => hs1 _ _ _ _ e rfl rfl) (by first | exact fun e => hs4 e | exact fun e => hs2 _ _ _ _ e rfl rfl)
      · simp only [AV.rep, C.rep, true_and]
        unfold aint at hr
        split at hr <;> first | (cases hr; rfl) | (split at hr <;> first | (cases hr; rfl) | cases hr) | cases hr
    · cases hv
  · rename_i n m hs1 hs2
    simp only [Option.map_eq_some_iff] at hv
    obtain ⟨r, hr, rfl⟩ := hv
    have e1 := AV.sc_eq h1
    have e2 := AV.sc_eq h2
    refine ⟨r, key r fun w => ?_, ?_⟩
    · rw [e1, e2, Sem.run_bind, run_eqGuard_str, Result.andThen_ok]
      exact run_astr hr
    · simp only [AV.rep, C.rep, true_and]
      unfold astr at hr
      split at hr <;> first | (cases hr; rfl) | (split at hr <;> first | (cases hr; rfl) | cases hr) | cases hr
  · rename_i b b'
    split at hv
    · rename_i ht
      cases hv
      obtain ⟨d, hd, hk⟩ := tk_some ht (by decide)
      have := tkind_bool hk
      subst this
      have e1 := AV.sc_eq h1
      have e2 := AV.sc_eq h2
      refine ⟨_, key (.bool (b == b')) fun w => ?_, AV.rep_sc rfl⟩
      rw [e1, e2, Sem.run_bind, run_eqGuard_bool, Result.andThen_ok]
      simp only [binOp, Sem.run_bind, run_equal_bool hd, Result.andThen_ok, Sem.run_pure]
    · cases hv
  · rename_i b b'
    split at hv
    · rename_i ht
      cases hv
      obtain ⟨d, hd, hk⟩ := tk_some ht (by decide)
      have := tkind_bool hk
      subst this
      have e1 := AV.sc_eq h1
      have e2 := AV.sc_eq h2
      refine ⟨_, key (.bool !(b == b')) fun w => ?_, AV.rep_sc rfl⟩
      rw [e1, e2, Sem.run_bind, run_eqGuard_bool, Result.andThen_ok]
      simp only [binOp, Sem.run_bind, run_equal_bool hd, Result.andThen_ok, Sem.run_pure]
    · cases hv
  · split at hv
    · rename_i r rs ht
      cases hv
      obtain ⟨d, hd, hk⟩ := tk_some ht (by decide)
      obtain ⟨el, rfl⟩ := tkind_slice hk
      have e2 := AV.sc_eq h2
      simp only [AV.rep, C.rep] at h1
      obtain ⟨p, cap, e1, -, -, hp⟩ := h1
      have hp' : ∃ q, p = some q := by
        rcases hp with hp | ⟨b, off, s, hp, -⟩
        · cases hp
        · exact ⟨_, hp⟩
      obtain ⟨q, rfl⟩ := hp'
      refine ⟨_, key (.bool false) fun w => ?_, AV.rep_sc rfl⟩
      rw [e1, e2]
      have hg : ∀ w : World, (eqGuard .eql t x y (.slice (some q) (r :: rs).length cap) (.slice none 0 0)).run P w = .ok () w := fun w => rfl
      have hq : ∀ w : World, (Op.equal t (.slice (some q) (r :: rs).length cap) (.slice none 0 0)).run P w = .ok false w := by
        intro w
        unfold Op.equal Op.maxDepth
        rw [show (10000 : Nat) = 9999 + 1 from rfl, Op.equalIn]
        simp only [Sem.run_bind, run_underlying' hd, Result.andThen_ok, Sem.run_pure]
      rw [Sem.run_bind, hg, Result.andThen_ok]
      simp only [binOp, Sem.run_bind, hq, Result.andThen_ok, Sem.run_pure]
    · cases hv
  · rename_i p n c
    split at hv
    · rename_i ht
      cases hv
      obtain ⟨d, hd, hk⟩ := tk_some ht (by decide)
      obtain ⟨el, rfl⟩ := tkind_slice hk
      have e1 := AV.sc_eq h1
      have e2 := AV.sc_eq h2
      refine ⟨_, key (.bool p.isNone) fun w => ?_, AV.rep_sc rfl⟩
      rw [e1, e2]
      have hg : ∀ w : World, (eqGuard .eql t x y (.slice p n c) (.slice none 0 0)).run P w = .ok () w := fun w => rfl
      have hq : ∀ w : World, (Op.equal t (.slice p n c) (.slice none 0 0)).run P w = .ok p.isNone w := by
        intro w
        unfold Op.equal Op.maxDepth
        rw [show (10000 : Nat) = 9999 + 1 from rfl, Op.equalIn]
        cases p <;> simp only [Sem.run_bind, run_underlying' hd, Result.andThen_ok, Sem.run_pure, Option.isNone]
      rw [Sem.run_bind, hg, Result.andThen_ok]
      simp only [binOp, Sem.run_bind, hq, Result.andThen_ok, Sem.run_pure]
    · cases hv
  · cases hv

theorem pure_un {op : UnOp} {t : TypeId} {x : Operand} {vx v : AV} (ho : o.op = .unOp op t x) (hF : SimF X μ s a w) (hx : s.eval x = some vx) (hv : aun op vx = some v) : ∃ u, PureV P o a u ∧ AV.rep (X ++ alive μ s.h) μ w v u := by
  have h1 := hF.eval hx
  unfold aun at hv
  split at hv
  · cases hv
    have e1 := AV.sc_eq h1
    exact ⟨.int _ (IntKind.wrap _ (0 - _)), fun w => by simp only [execOp, ho, e1, Op.unary, Op.intArith, Sem.run_bind, Sem.run_pure, Result.andThen_ok], AV.rep_sc rfl⟩
  · cases hv
    have e1 := AV.sc_eq h1
    exact ⟨.bool !_, fun w => by simp only [execOp, ho, e1, Op.unary, Sem.run_bind, Sem.run_pure, Result.andThen_ok], AV.rep_sc rfl⟩
  · cases hv

theorem pure_max {ts : Array TypeId} {x y : Operand} {vx vy v : AV} (ho : o.op = .call ⟨.builtin .max, #[x, y], ts⟩) (hF : SimF X μ s a w) (hx : s.eval x = some vx) (hy : s.eval y = some vy) (hv : amax vx vy = some v) : ∃ u, PureV P o a u ∧ AV.rep (X ++ alive μ s.h) μ w v u := by
  have h1 := hF.eval hx
  have h2 := hF.eval hy
  unfold amax at hv
  split at hv
  · rename_i k n _ m
    cases hv
    have e1 := AV.sc_eq h1
    have e2 := AV.sc_eq h2
    have e3 : (if m > n then m else n) = max n m := by split <;> omega
    exact ⟨.int k (max n m), fun w => by simp [execOp, ho, resolve, invoke, builtin, Builtin.max_, Builtin.max2, e1, e2, e3], AV.rep_sc rfl⟩
  · cases hv

theorem pure_conv {t t' : TypeId} {x : Operand} {k k' : IntKind} {n : Int} (ho : o.op = .convert t t' x) (hF : SimF X μ s a w) (hx : s.eval x = some (.one (.sc (.int k' n)))) (ht : tk P t = 5) (ht' : tint P t' = some k) : ∃ u, PureV P o a u ∧ AV.rep (X ++ alive μ s.h) μ w (.one (.sc (.int k (k.wrap n)))) u := by
  have e1 := AV.sc_eq (hF.eval hx)
  obtain ⟨d, hd, _⟩ := tk_some ht (by decide)
  have hd' := tint_some ht'
  exact ⟨.int k (k.wrap n), fun w => by simp [execOp, ho, e1, convert, run_underlying' hd, run_underlying' hd', Conv.intToInt], AV.rep_sc rfl⟩

theorem pure_nilCheck {x : Operand} {c : C} (ho : o.op = .nilCheck x) (hF : SimF X μ s a w) (hx : s.eval x = some (.one c)) (hc : (match c with | .ptr .. => true | .cur .. => true | .fn .. => true | _ => false) = true) : ∃ u, PureV P o a u ∧ AV.rep (X ++ alive μ s.h) μ w (.one c) u := by
  have h1 := hF.eval hx
  refine ⟨a.eval x, fun w => ?_, h1⟩
  simp only [AV.rep] at h1
  cases c with
  | ptr s' b i j => simp only [C.rep] at h1; obtain ⟨g, _, e⟩ := h1; simp [execOp, ho, e]
  | cur cs j => simp only [C.rep] at h1; obtain ⟨b, off, e, _⟩ := h1; simp [execOp, ho, e]
  | fn f cs => simp only [C.rep] at h1; obtain ⟨arr, e, _⟩ := h1; simp [execOp, ho, e]
  | _ => simp at hc

theorem caps_rep {L : List Nat} : ∀ {os : List Operand} {cs : List C}, (∀ o v, s.eval o = some v → AV.rep L μ w v (a.eval o)) → caps (os.map s.eval) = some cs → C.repl L μ w cs (os.map a.eval)
  | [], cs, _, h => by simp only [List.map_nil, caps, Option.some.injEq] at h; subst h; simp [C.repl]
  | o :: os, cs, he, h => by
    have hx := he o
    generalize s.eval o = e at *
    cases hq : s.eval o with
    | none => simp [caps, hq] at h
    | some v =>
      cases v with
      | one c =>
        simp only [List.map_cons, hq, caps, Option.map_eq_some_iff] at h
        obtain ⟨cs', h2, rfl⟩ := h
        simp only [List.map_cons, C.repl]
        have := he o _ hq
        simp only [AV.rep] at this
        exact ⟨_, _, rfl, this, caps_rep he h2⟩
      | agg cs => simp [caps, hq] at h
      | tup vs => simp [caps, hq] at h
theorem pure_makeFunc {f : FuncId} {first cs : Array Operand} {cc : List C} (ho : o.op = .makeFunc (.func f) first cs) (hF : SimF X μ s a w) (hf : first.isEmpty = true) (hc : caps (cs.toList.map s.eval) = some cc) : ∃ u, PureV P o a u ∧ AV.rep (X ++ alive μ s.h) μ w (.one (.fn f cc)) u := by
  have h := caps_rep (a := a) (fun o v hv => hF.eval hv) hc
  have : first = #[] := by simpa using hf
  subst this
  exact ⟨_, fun w => by simp [execOp, ho, Instr.makeFunc]; rfl, by simp only [AV.rep, C.rep]; exact ⟨_, rfl, by simpa using h⟩⟩

theorem pure_extract {x : Operand} {k : Nat} {vs : List AV} {v : AV} (ho : o.op = .extract x k) (hF : SimF X μ s a w) (hx : s.eval x = some (.tup vs)) (hv : vs[k]? = some v) : ∃ u, PureV P o a u ∧ AV.rep (X ++ alive μ s.h) μ w v u := by
  have h1 := hF.eval hx
  simp only [AV.rep] at h1
  obtain ⟨arr, e, h2⟩ := h1
  have key : ∀ (vs : List AV) (us : List Value) (k : Nat) (v : AV), AV.repl (X ++ alive μ s.h) μ w vs us → vs[k]? = some v → ∃ u, us[k]? = some u ∧ AV.rep (X ++ alive μ s.h) μ w v u := by
    intro vs
    induction vs with
    | nil => intro us k v h hk; simp at hk
    | cons v0 vs ih =>
      intro us k v h hk
      simp only [AV.repl] at h
      obtain ⟨u, us', rfl, h1, h2⟩ := h
      cases k with
      | zero => simp at hk; subst hk; exact ⟨u, rfl, h1⟩
      | succ k => simpa using ih us' k v h2 (by simpa using hk)
  obtain ⟨u, hu, hr⟩ := key vs _ k v h2 hv
  have hu' : arr[k]? = some u := by simpa using hu
  exact ⟨u, fun w => by simp [execOp, ho, e, Instr.extract, hu'], hr⟩

theorem tfields_get {d : TypeDesc} {f off size : Nat} {g : Bool} (h : (tfields P d)[f]? = some (off, size, g)) (hs : size ≠ 0) : ∃ fs fl i d', d = .struct fs ∧ fs[f]? = some fl ∧ fl.offset = off ∧ P.info? fl.type = some i ∧ i.size = size ∧ P.underlying fl.type = some d' ∧ tagg d' = g := by
  unfold tfields at h
  split at h
  · rename_i fs
    rw [List.getElem?_map, Array.getElem?_toList] at h
    simp only [Option.map_eq_some_iff] at h
    obtain ⟨fl, h1, h2⟩ := h
    unfold tfield at h2
    split at h2
    · rename_i d' hd'
      simp only [Prod.mk.injEq] at h2
      obtain ⟨e1, e2, e3⟩ := h2
      unfold Program.cellsOf at e2
      cases hi : P.info? fl.type with
      | none => rw [hi] at e2; simp at e2; exact absurd e2.symm hs
      | some i => rw [hi] at e2; exact ⟨fs, fl, i, d', rfl, h1, e1, hi, by simpa using e2, hd', e3⟩
    · simp only [Prod.mk.injEq] at h2
      exact absurd h2.2.1.symm hs
  · simp at h

theorem pure_field {t : TypeId} {x : Operand} {f : Nat} {vx v : AV} (ho : o.op = .field t x f) (hF : SimF X μ s a w) (hx : s.eval x = some vx) (hv : afield P t f vx = some v) : ∃ u, PureV P o a u ∧ AV.rep (X ++ alive μ s.h) μ w v u := by
  have h1 := hF.eval hx
  unfold afield at hv
  split at hv
  · rename_i ti cs hti
    obtain ⟨i, d, z, hi, hd, hz, hzc, hzs, rfl⟩ := tinfo_spec hti
    simp only [AV.rep] at h1
    obtain ⟨arr, e, hr⟩ := h1
    simp only at hv
    split at hv
    · rename_i off size hf
      split at hv
      · cases hv
      · rename_i hs
        cases hv
        obtain ⟨fs, fl, i', d', rfl, hfl, rfl, hi', rfl, hd', hg⟩ := tfields_get hf hs
        refine ⟨.agg (arr.extract fl.offset (fl.offset + i'.size)), fun w => by simp [execOp, ho, e, Instr.field, run_underlying' hd, hfl, asAgg, part, run_isAgg' hd', hg, run_sizeOf' hi'], ?_⟩
        simp only [AV.rep]
        refine ⟨_, rfl, ?_⟩
        rw [show (arr.extract fl.offset (fl.offset + i'.size)).toList = (arr.toList.drop fl.offset).take i'.size from by simp [List.extract_eq_take_drop]]
        exact C.repl_take (C.repl_drop hr _) _
    · rename_i off size hf
      split at hv
      · cases hv
      · rename_i hs
        split at hv
        · rename_i c hc
          cases hv
          obtain ⟨fs, fl, i', d', rfl, hfl, rfl, hi', rfl, hd', hg⟩ := tfields_get hf hs
          obtain ⟨u, hu, hcr⟩ := C.repl_get hr _ _ hc
          have hu' : arr[fl.offset]? = some u := by simpa using hu
          exact ⟨u, fun w => by simp [execOp, ho, e, Instr.field, run_underlying' hd, hfl, asAgg, part, run_isAgg' hd', hg, hu'], by simp only [AV.rep]; exact hcr⟩
        · cases hv
    · cases hv
  · cases hv

theorem pure_fieldAddr {t : TypeId} {x : Operand} {f : Nat} {vx v : AV} (ho : o.op = .fieldAddr t x f) (hF : SimF X μ s a w) (hx : s.eval x = some vx) (hv : afieldAddr P t f vx = some v) : ∃ u, PureV P o a u ∧ AV.rep (X ++ alive μ s.h) μ w v u := by
  have h1 := hF.eval hx
  unfold afieldAddr at hv
  split at hv
  · rename_i ti hti
    obtain ⟨i, d, z, hi, hd, hz, hzc, hzs, rfl⟩ := tinfo_spec hti
    simp only at hv
    split at hv
    · rename_i off size g s' b i0 j hf
      split at hv
      · cases hv
      · rename_i hs
        cases hv
        obtain ⟨fs, fl, i', d', rfl, hfl, rfl, hi', rfl, hd', hg⟩ := tfields_get hf hs
        simp only [AV.rep, C.rep] at h1
        obtain ⟨gg, h2, e⟩ := h1
        refine ⟨_, fun w => by simp [execOp, ho, e, Instr.fieldAt, run_underlying' hd, hfl, Instr.sureAddr, fieldPlace, run_sizeOf' hi', hs, addr_add]; rfl, ?_⟩
        simp only [AV.rep, C.rep]
        exact ⟨gg, h2, by rw [Nat.add_assoc]⟩
    · rename_i off size g cs j hf
      split at hv
      · cases hv
      · rename_i hs
        cases hv
        obtain ⟨fs, fl, i', d', rfl, hfl, rfl, hi', rfl, hd', hg⟩ := tfields_get hf hs
        simp only [AV.rep, C.rep] at h1
        obtain ⟨b, off, e, hlt, hb, hr⟩ := h1
        refine ⟨_, fun w => by simp [execOp, ho, e, Instr.fieldAt, run_underlying' hd, hfl, Instr.sureAddr, fieldPlace, run_sizeOf' hi', hs, addr_add]; rfl, ?_⟩
        simp only [AV.rep, C.rep]
        exact ⟨b, off, by rw [Nat.add_assoc], hlt, hb, hr⟩
    · cases hv
  · cases hv

theorem aarr_spec {t : TypeId} {len : Nat} (h : aarr P t = some len) : ∃ e i' d', P.underlying t = some (.array len e) ∧ P.info? e = some i' ∧ P.underlying e = some d' ∧ i'.size = 1 ∧ tagg d' = false := by
  unfold aarr at h
  split at h
  · rename_i len' e hu
    split at h
    · rename_i te hte
      obtain ⟨i', d', z', hi', hd', _, _, _, rfl⟩ := tinfo_spec hte
      split at h
      · rename_i hc
        simp only [Option.some.injEq] at h
        subst h
        exact ⟨e, i', d', hu, hi', hd', hc.1, hc.2⟩
      · cases h
    · cases h
  · cases h
theorem pure_index {t : TypeId} {x y : Operand} {vx vy v : AV} (ho : o.op = .index t x y) (hF : SimF X μ s a w) (hx : s.eval x = some vx) (hy : s.eval y = some vy) (hv : aindex P t vx vy = some v) : ∃ u, PureV P o a u ∧ AV.rep (X ++ alive μ s.h) μ w v u := by
  have h1 := hF.eval hx
  have h2 := hF.eval hy
  unfold aindex at hv
  split at hv
  · rename_i sb k n
    split at hv
    · rename_i hc
      split at hv
      · rename_i b hb
        cases hv
        obtain ⟨d, hd, hk⟩ := tk_some hc.1 (by decide)
        have := tkind_string hk
        subst this
        have e1 := AV.sc_eq h1
        have e2 := AV.sc_eq h2
        exact ⟨.int .u8 b.toNat, fun w => by simp [execOp, ho, e1, e2, Instr.index, asIntOf, run_underlying' hd, hc.2, hb], AV.rep_sc rfl⟩
      · cases hv
    · cases hv
  · rename_i cs k n
    split at hv
    · rename_i len hlen
      split at hv
      · rename_i hc
        split at hv
        · rename_i c hcc
          cases hv
          obtain ⟨e, i', d', hu, hi', hd', hs, hg⟩ := aarr_spec hlen
          have e2 := AV.sc_eq h2
          simp only [AV.rep] at h1
          obtain ⟨arr, e1, hr⟩ := h1
          obtain ⟨u, hu', hcr⟩ := C.repl_get hr _ _ hcc
          rw [Array.getElem?_toList] at hu'
          exact ⟨u, fun w => by simp [execOp, ho, e1, e2, Instr.index, asIntOf, run_underlying' hu, hc.1, hc.2, run_sizeOf' hi', hs, part, run_isAgg' hd', hg, hu'], by simp only [AV.rep]; exact hcr⟩
        · cases hv
      · cases hv
    · cases hv
  · cases hv
theorem pure_indexAddr {t : TypeId} {x y : Operand} {vx vy v : AV} (ho : o.op = .indexAddr t x y) (hF : SimF X μ s a w) (hx : s.eval x = some vx) (hy : s.eval y = some vy) (hv : aindexAddr P t vx vy = some v) : ∃ u, PureV P o a u ∧ AV.rep (X ++ alive μ s.h) μ w v u := by
  have h1 := hF.eval hx
  have h2 := hF.eval hy
  unfold aindexAddr at hv
  split at hv
  · rename_i ti rows k n hti
    obtain ⟨i, d, z, hi, hd, hz, hzc, hzs, rfl⟩ := tinfo_spec hti
    simp only at hv
    split at hv
    · rename_i hn
      obtain ⟨hn, hk⟩ := hn
      obtain ⟨e, rfl⟩ := tkind_slice (tkindP_eq hk (by decide))
      split at hv
      · rename_i r te hr hte
        split at hv
        · rename_i hl
          cases hv
          obtain ⟨i', d', z', hi', hd', _, _, _, rfl⟩ := tinfo_spec hte
          have e2 := AV.sc_eq h2
          simp only [AV.rep, C.rep] at h1
          obtain ⟨p, cap, e1, hl1, hl2, h3⟩ := h1
          rcases h3 with rfl | ⟨b, off, s', rfl, hlt, hb, h3⟩
          · simp at hr
          · have hlen := (List.getElem?_eq_some_iff.1 hr).1
            obtain ⟨hs', hrr⟩ := C.repss_get h3 _ _ hr
            simp only [telem] at hi'
            refine ⟨.pointer (some ⟨b, off + n.toNat * i'.size, none⟩), fun w => ?_, ?_⟩
            · have hlt2 : n < (rows.length : Int) := by omega
              simp [execOp, ho, e1, e2, Instr.indexAt, asIntOf, run_underlying' hd, hn, hlt2, run_sizeOf' hi', addr_add]
            · simp only [AV.rep, C.rep]
              simp only at hl
              exact ⟨b, off + n.toNat * i'.size, rfl, hlt, hb, by rw [← hl, hs']; exact hrr⟩
        · cases hv
      · cases hv
    · cases hv
  · rename_i ti s' b m k n hti
    obtain ⟨i, d, z, hi, hd, hz, hzc, hzs, rfl⟩ := tinfo_spec hti
    simp only at hv
    split at hv
    · rename_i hn
      obtain ⟨hn, hm, hk⟩ := hn
      obtain ⟨e, rfl⟩ := tkind_slice (tkindP_eq hk (by decide))
      split at hv
      · rename_i te hte
        split at hv
        · rename_i hl
          cases hv
          obtain ⟨i', d', z', hi', hd', _, _, _, rfl⟩ := tinfo_spec hte
          have e2 := AV.sc_eq h2
          simp only [AV.rep, C.rep] at h1
          obtain ⟨g, cap, hg, e1, hl1, hl2, h3⟩ := h1
          simp only [telem] at hi'
          refine ⟨.pointer (some ⟨g, n.toNat * i'.size, none⟩), fun w => ?_, ?_⟩
          · have hlt2 : n < (m : Int) := by omega
            simp [execOp, ho, e1, e2, Instr.indexAt, asIntOf, run_underlying' hd, hn, hlt2, run_sizeOf' hi', addr_add]
          · simp only [AV.rep, C.rep]
            simp only at hl
            exact ⟨g, hg, by rw [hl]; rfl⟩
        · cases hv
      · cases hv
    · cases hv
  · rename_i ti s' b i j k n hti
    split at hv
    · rename_i len hlen
      split at hv
      · rename_i hc
        cases hv
        obtain ⟨e, i', d', hu, hi', hd', hs, hg⟩ := aarr_spec hlen
        have e2 := AV.sc_eq h2
        simp only [AV.rep, C.rep] at h1
        obtain ⟨g, hgm, e1⟩ := h1
        refine ⟨.pointer (some ⟨g, i * s' + j + n.toNat, none⟩), fun w => ?_, ?_⟩
        · simp [execOp, ho, e1, e2, Instr.indexAt, Instr.sureAddr, asIntOf, run_underlying' hu, hc.1, hc.2, run_sizeOf' hi', hs, addr_add]
        · simp only [AV.rep, C.rep]
          exact ⟨g, hgm, by rw [Nat.add_assoc]⟩
      · cases hv
    · cases hv
  · cases hv

theorem pure_len {t : TypeId} {x : Operand} {vx v : AV} (ho : o.op = .call ⟨.builtin .len, #[x], #[t]⟩) (hF : SimF X μ s a w) (hx : s.eval x = some vx) (hv : alen (tk P t) vx = some v) : ∃ u, PureV P o a u ∧ AV.rep (X ++ alive μ s.h) μ w v u := by
  have h1 := hF.eval hx
  have key : ∀ (d : TypeDesc) (n : Nat), P.underlying t = some d → ((∃ e p c, d = .slice e ∧ a.eval x = .slice p n c) ∨ ∃ b : ByteArray, d = .string ∧ a.eval x = .string b ∧ b.size = n) → PureV P o a (.int .i64 n) := by
    intro d n hd h w
    rcases h with ⟨e, p, c, rfl, he⟩ | ⟨b, rfl, he, rfl⟩
    · simp [execOp, ho, resolve, invoke, builtin, Builtin.len_, he, run_underlying' hd, goInt]
    · simp [execOp, ho, resolve, invoke, builtin, Builtin.len_, he, run_underlying' hd, goInt]
  unfold alen at hv
  split at hv <;> (try (cases hv; done))
  all_goals
    split at hv
    case isFalse => cases hv
    rename_i ht
    cases hv
    obtain ⟨d, hd, hk⟩ := tk_some ht (by decide)
  · obtain ⟨e, rfl⟩ := tkind_slice hk
    simp only [AV.rep, C.rep] at h1
    obtain ⟨p, cap, e1, _⟩ := h1
    exact ⟨_, key _ _ hd (.inl ⟨_, _, _, rfl, e1⟩), AV.rep_sc rfl⟩
  · obtain ⟨e, rfl⟩ := tkind_slice hk
    simp only [AV.rep, C.rep] at h1
    obtain ⟨g, cap, _, e1, _⟩ := h1
    exact ⟨_, key _ _ hd (.inl ⟨_, _, _, rfl, e1⟩), AV.rep_sc rfl⟩
  · have := tkind_string hk
    subst this
    exact ⟨_, key _ _ hd (.inr ⟨_, rfl, AV.sc_eq h1, rfl⟩), AV.rep_sc rfl⟩
  · obtain ⟨e, rfl⟩ := tkind_slice hk
    exact ⟨_, key _ 0 hd (.inl ⟨_, _, _, rfl, AV.sc_eq h1⟩), AV.rep_sc rfl⟩

theorem run_bound {n : Nat} {k : IntKind} {i : Int} (h0 : 0 ≤ i) (h : i.toNat ≤ n) (code : BoundsCode) (w : World) : (Instr.sliceBound (.int k i) n code).run P w = .ok i.toNat w := by
  have : i ≤ (n : Int) := by omega
  simp [Instr.sliceBound, asIntOf, h0, this]
theorem abound_spec {n m r : Nat} {x : Option Operand} (hF : SimF X μ s a w) (h : abound n m (x.map fun o => (s.eval o).getD aundef) = some r) : (x = none ∧ r = n) ∨ ∃ o k i, x = some o ∧ a.eval o = .int k i ∧ 0 ≤ i ∧ i.toNat ≤ m ∧ r = i.toNat := by
  cases x with
  | none => simp only [Option.map_none, abound, Option.some.injEq] at h; exact .inl ⟨rfl, h.symm⟩
  | some o =>
    right
    simp only [Option.map_some] at h
    cases he : s.eval o with
    | none => rw [he] at h; simp [aundef, abound] at h
    | some v =>
      rw [he] at h
      simp only [Option.getD_some] at h
      have h1 := hF.eval he
      unfold abound at h
      split at h
      · rename_i hq; cases hq
      · rename_i k i hq
        cases hq
        split at h
        · rename_i hb
          cases h
          exact ⟨o, k, i, rfl, AV.sc_eq h1, hb.1, hb.2, rfl⟩
        · cases h
      · cases h

theorem run_bounds {isS : Bool} {len cap l h : Nat} {lo hi : Option Operand} (hF : SimF X μ s a w) (hh : abound len len (hi.map fun o => (s.eval o).getD aundef) = some h) (hl : abound 0 h (lo.map fun o => (s.eval o).getD aundef) = some l) (hc : len ≤ cap) :
    (∀ w, (Instr.sliceBounds isS len cap (lo.map a.eval) (hi.map a.eval) none).run P w = .ok (l, h, cap) w) ∧ l ≤ h ∧ h ≤ len := by
  rcases abound_spec hF hh with ⟨rfl, rfl⟩ | ⟨o1, k1, i1, rfl, ev1, c1, c2, rfl⟩ <;>
  rcases abound_spec hF hl with ⟨rfl, rfl⟩ | ⟨o2, k2, i2, rfl, ev2, c3, c4, rfl⟩
  · exact ⟨fun w => by simp [Instr.sliceBounds], by omega, by omega⟩
  · have b2 := fun code w => run_bound (P := P) (k := k2) c3 c4 code w
    exact ⟨fun w => by simp [Instr.sliceBounds, ev2, b2], c4, by omega⟩
  · have b1 := fun code w => run_bound (P := P) (k := k1) (n := cap) c1 (by omega) code w
    exact ⟨fun w => by simp [Instr.sliceBounds, ev1, b1], by omega, c2⟩
  · have b2 := fun code w => run_bound (P := P) (k := k2) c3 c4 code w
    have b1 := fun code w => run_bound (P := P) (k := k1) (n := cap) c1 (by omega) code w
    exact ⟨fun w => by simp [Instr.sliceBounds, ev1, ev2, b1, b2], c4, c2⟩

theorem pure_slice {t : TypeId} {x : Operand} {lo hi : Option Operand} {vx v : AV} (ho : o.op = .slice t x lo hi none) (hF : SimF X μ s a w) (hx : s.eval x = some vx) (hv : aslice (tk P t) (aesz P t) vx (lo.map fun o => (s.eval o).getD aundef) (hi.map fun o => (s.eval o).getD aundef) = some v) : ∃ u, PureV P o a u ∧ AV.rep (X ++ alive μ s.h) μ w v u := by
  have h1 := hF.eval hx
  unfold aslice at hv
  split at hv
  · rename_i rows
    split at hv
    case isFalse => cases hv
    rename_i ht3
    obtain ⟨ht3, hes, hrl⟩ := ht3
    obtain ⟨d, hd, hk⟩ := tk_some ht3 (by decide)
    obtain ⟨e, rfl⟩ := tkind_slice hk
    have hie : ∃ ie, P.info? e = some ie ∧ ie.size = aesz P t := by
      unfold aesz at hes ⊢
      split at hes
      · rename_i ti hti
        split at hes
        · rename_i te hte
          obtain ⟨i, d, z, hi, hd', hz, hzc, hzs, rfl⟩ := tinfo_spec hti
          obtain ⟨i', d', z', hi', _, _, _, _, rfl⟩ := tinfo_spec hte
          rw [hd] at hd'; cases hd'
          simp only [telem] at hi'
          exact ⟨i', hi', by simp only [hte]⟩
        · exact absurd rfl hes
      · exact absurd rfl hes
    obtain ⟨ie, hei, hsz⟩ := hie
    rw [← hsz] at hrl
    split at hv
    · cases hv
    · rename_i h hh
      split at hv
      · cases hv
      · rename_i l hl
        cases hv
        simp only [AV.rep, C.rep] at h1
        obtain ⟨p, cap, e1, hc1, hc2, h3⟩ := h1
        obtain ⟨hb, hlh, hhl⟩ := run_bounds (P := P) (isS := true) hF hh hl hc1
        refine ⟨.slice (if cap = l then p else p.map (·.add (l * ie.size))) (h - l) (cap - l), fun w => ?_, ?_⟩
        · simp [execOp, ho, Instr.sliceAt, run_underlying' hd, Instr.slice, e1, hb, run_sizeOf' hei]
        · simp only [AV.rep, C.rep]
          have hlen : ((rows.take h).drop l).length = h - l := by simp; omega
          refine ⟨_, _, by rw [hlen], by rw [hlen]; omega, by omega, ?_⟩
          rcases h3 with rfl | ⟨b, off, s', rfl, hlt, hb', h3⟩
          · left; simp
          · by_cases hcl : cap = l
            · left
              apply List.eq_nil_of_length_eq_zero; omega
            · rw [if_neg hcl]
              refine .inr ⟨b, off + l * ie.size, ie.size, by simp [addr_add], hlt, hb', C.repss_of (fun i r hr => ?_)⟩
              rw [List.getElem?_drop, List.getElem?_take] at hr
              split at hr
              · obtain ⟨q1, q2⟩ := C.repss_get h3 _ _ hr
                have q3 := List.all_eq_true.1 hrl r (List.mem_of_getElem? hr)
                simp only [beq_iff_eq] at q3
                refine ⟨q3, ?_⟩
                rw [Nat.add_assoc, ← Nat.add_mul]
                rw [← q1, q3] at q2
                exact q2
              · cases hr
  · rename_i b
    split at hv
    case isFalse => cases hv
    rename_i ht
    obtain ⟨d, hd, hk⟩ := tk_some ht (by decide)
    have := tkind_string hk
    subst this
    have e1 := AV.sc_eq h1
    split at hv
    · cases hv
    · rename_i h hh
      split at hv
      · cases hv
      · rename_i l hl
        cases hv
        obtain ⟨hb, _, _⟩ := run_bounds (P := P) (isS := false) hF hh hl (Nat.le_refl _)
        refine ⟨.string (b.extract l h), fun w => ?_, AV.rep_sc rfl⟩
        simp [execOp, ho, Instr.sliceAt, run_underlying' hd, Instr.slice, e1, hb]
  · cases hv
end
end Go.Proofs.Sh
/- Operations that write memory, and their shadows. -/
namespace Go.Proofs.Sh
open Go.RowKit

theorem Keep.alloc (L : List Nat) (w : World) (o : Obj) : Keep L w (w.alloc o) :=
  ⟨rfl, rfl, rfl, by simp, fun b _ hb => Below.heap_alloc _ _ _ hb, fun b cur ty h => ⟨cur, by rw [Below.heap_alloc _ _ _ (Array.getElem?_eq_some_iff.1 h).1]; exact h, rfl⟩⟩
theorem Keep.drew (L : List Nat) (w : World) : Keep L w w.drew := ⟨rfl, rfl, rfl, Nat.le_refl _, fun _ _ _ => rfl, fun _ cur _ h => ⟨cur, h, rfl⟩⟩
theorem Keep.setRow {L : List Nat} {w : World} {g : Nat} {cur cur' : Array Value} {ty : TypeId} (hg : g ∈ L) (h : w.heap[g]? = some (.cells cur ty (0, 0))) (hs : cur'.size = cur.size) : Keep L w (w.setRow g cur') := by
  refine ⟨rfl, rfl, rfl, by simp [World.setRow], fun b hb _ => setRow_other w g b _ (fun e => hb (e ▸ hg)), fun b c t hb => ?_⟩
  by_cases hbg : b = g
  · subst hbg
    rw [h] at hb
    cases hb
    exact ⟨cur', setRow_heap w b cur cur' ty _ h, hs⟩
  · exact ⟨c, by rw [setRow_other w g b _ hbg]; exact hb, rfl⟩

theorem getElem?_snoc {α : Type} {l : List α} {x y : α} {i : Nat} : (l ++ [x])[i]? = some y ↔ (l[i]? = some y) ∨ (i = l.length ∧ y = x) := by
  rcases Nat.lt_trichotomy i l.length with h | h | h
  · rw [List.getElem?_append_left h]
    exact ⟨.inl, fun k => k.resolve_right (fun e => by omega)⟩
  · subst h
    simp [eq_comm]
  · rw [List.getElem?_eq_none (by simp; omega), List.getElem?_eq_none (by omega)]
    constructor
    · intro h; cases h
    · rintro (h | ⟨h, _⟩)
      · cases h
      · omega

theorem mem_alive_snoc {μ : List Nat} {H : List Blk} {g x : Nat} {b : Blk} (hl : μ.length = H.length) : x ∈ alive (μ ++ [g]) (H ++ [b]) ↔ x ∈ alive μ H ∨ (x = g ∧ b.st.isMut = true) := by
  rw [mem_alive, mem_alive]
  constructor
  · rintro ⟨i, k, h1, h2, h3⟩
    rw [getElem?_snoc] at h1 h2
    rcases h1 with h1 | ⟨h1, rfl⟩
    · rcases h2 with h2 | ⟨h2, rfl⟩
      · exact .inl ⟨i, k, h1, h2, h3⟩
      · have := (List.getElem?_eq_some_iff.1 h1).1; omega
    · rcases h2 with h2 | ⟨h2, rfl⟩
      · have := (List.getElem?_eq_some_iff.1 h2).1; omega
      · exact .inr ⟨rfl, h3⟩
  · rintro (⟨i, k, h1, h2, h3⟩ | ⟨rfl, h⟩)
    · exact ⟨i, k, getElem?_snoc.2 (.inl h1), getElem?_snoc.2 (.inl h2), h3⟩
    · exact ⟨μ.length, b, getElem?_snoc.2 (.inr ⟨rfl, rfl⟩), getElem?_snoc.2 (.inr ⟨hl, rfl⟩), h⟩

/-- a new block -/
theorem Sim.new {X μ : List Nat} {H : List Blk} {w w' : World} {cur : Array Value} {ty : TypeId} {s : Nat} {rows : List (List C)} (h : Sim X μ H w) (hK : Keep [] w w') (hn : w'.heap[w.heap.size]? = some (.cells cur ty (0, 0)))
    (hl : Laid (X ++ alive μ H) μ w cur s rows) : Sim X (μ ++ [w.heap.size]) (H ++ [⟨s, ty, .mut, rows⟩]) w' ∧ Stp μ H w (μ ++ [w.heap.size]) (H ++ [⟨s, ty, .mut, rows⟩]) w' := by
  have hsz : w.heap.size < w'.heap.size := (Array.getElem?_eq_some_iff.1 hn).1
  have hS : Stp μ H w (μ ++ [w.heap.size]) (H ++ [⟨s, ty, .mut, rows⟩]) w' := by
    refine ⟨hK.mono (by simp), fun b g hb => getElem?_snoc.2 (.inl hb), fun g hg hlt => ?_⟩
    rcases (mem_alive_snoc h.len).1 hg with hg | ⟨rfl, _⟩
    · exact hg
    · omega
  refine ⟨⟨by simp [h.len], ?_, fun g hg => Nat.lt_of_lt_of_le (h.xlt g hg) hK.size, ?_, ?_, ?_⟩, hS⟩
  · intro g hg
    rcases List.mem_append.1 hg with hg | hg
    · exact Nat.lt_of_lt_of_le (h.lt g hg) hK.size
    · simp at hg; omega
  · intro i b g hi hb hg hx
    rw [getElem?_snoc] at hi hg
    rcases hg with hg | ⟨hg, rfl⟩
    · rcases hi with hi | ⟨hi, rfl⟩
      · exact h.out i b g hi hb hg hx
      · have := (List.getElem?_eq_some_iff.1 hg).1; have := h.len; omega
    · have := h.xlt _ hx; omega
  · intro i j b b' g hij hi hj hb hb' hgi hgj
    rw [getElem?_snoc] at hi hj hgi hgj
    rcases hgi with hgi | ⟨hgi, rfl⟩ <;> rcases hgj with hgj | ⟨hgj, hgg⟩
    · rcases hi with hi | ⟨hi, _⟩
      · rcases hj with hj | ⟨hj, _⟩
        · exact h.inj i j b b' g hij hi hj hb hb' hgi hgj
        · have := (List.getElem?_eq_some_iff.1 hgj).1; have := h.len; omega
      · have := (List.getElem?_eq_some_iff.1 hgi).1; have := h.len; omega
    · have := h.lt g (List.mem_of_getElem? hgi); omega
    · have := h.lt _ (List.mem_of_getElem? hgj); omega
    · omega
  · intro i b g hi hb hg
    rw [getElem?_snoc] at hi hg
    rcases hi with hi | ⟨hi, rfl⟩
    · rcases hg with hg | ⟨hg, rfl⟩
      · obtain ⟨c, hc, hla⟩ := h.blk i b g hi hb hg
        exact ⟨c, by rw [hK.block g (by simp) (h.lt g (List.mem_of_getElem? hg))]; exact hc, hla.carry hS.carry⟩
      · have := (List.getElem?_eq_some_iff.1 hi).1; have := h.len; omega
    · rcases hg with hg | ⟨hg, rfl⟩
      · have := (List.getElem?_eq_some_iff.1 hg).1; have := h.len; omega
      · exact ⟨cur, hn, hl.carry hS.carry⟩

theorem Laid.one {L μ : List Nat} {w : World} {arr : Array Value} {cs : List C} (h : C.repl L μ w cs arr.toList) : Laid L μ w arr cs.length [cs] := by
  intro i r hr
  cases i with
  | zero =>
    simp at hr
    subst hr
    refine ⟨rfl, fun j c hj => ?_⟩
    obtain ⟨u, hu, hr⟩ := C.repl_get h j c hj
    exact ⟨u, by simpa using hu, hr⟩
  | succ i => simp at hr

/-- rows by the list of all their cells -/
theorem Laid.of_flat {L μ : List Nat} {w : World} {cur : Array Value} {s : Nat} : ∀ {rows : List (List C)} {us : List Value}, (∀ r ∈ rows, r.length = s) → C.repl L μ w rows.flatten us → ∀ (o : Nat), (∀ (j : Nat) (u : Value), us[j]? = some u → cur[o + j]? = some u) →
    ∀ (i : Nat) (r : List C), rows[i]? = some r → r.length = s ∧ ∀ (j : Nat) (c : C), r[j]? = some c → ∃ u, cur[o + (i * s + j)]? = some u ∧ C.rep L μ w c u
  | [], us, hl, h, o, hc, i, r, hr => by simp at hr
  | r0 :: rows, us, hl, h, o, hc, i, r, hr => by
    rw [List.flatten_cons] at h
    have h0 := hl r0 (by simp)
    cases i with
    | zero =>
      simp at hr
      subst hr
      refine ⟨h0, fun j c hj => ?_⟩
      have hjl := (List.getElem?_eq_some_iff.1 hj).1
      obtain ⟨u, hu, hv⟩ := C.repl_get h j c (by rw [List.getElem?_append_left hjl]; exact hj)
      exact ⟨u, by simpa using hc j u hu, hv⟩
    | succ i =>
      have hd := C.repl_drop h s
      rw [← h0, List.drop_left] at hd
      obtain ⟨h1, h2⟩ := Laid.of_flat (rows := rows) (fun r hr => hl r (by simp [hr])) hd (o + s) (fun j u hu => by
        rw [List.getElem?_drop] at hu
        have := hc _ u hu
        rwa [show o + (r0.length + j) = o + s + j from by omega] at this) i r (by simpa using hr)
      refine ⟨h1, fun j c hj => ?_⟩
      obtain ⟨u, hu, hv⟩ := h2 j c hj
      exact ⟨u, by rw [← hu, Nat.succ_mul]; congr 1; omega, hv⟩
theorem Laid.flat {L μ : List Nat} {w : World} {cur : Array Value} {s : Nat} {rows : List (List C)} {us : List Value} (hl : ∀ r ∈ rows, r.length = s) (h : C.repl L μ w rows.flatten us) (hc : ∀ (j : Nat) (u : Value), us[j]? = some u → cur[j]? = some u) : Laid L μ w cur s rows := by
  intro i r hr
  obtain ⟨h1, h2⟩ := Laid.of_flat hl h 0 (fun j u hu => by rw [Nat.zero_add]; exact hc j u hu) i r hr
  exact ⟨h1, fun j c hj => by simpa using h2 j c hj⟩

theorem C.reps_vals {L μ : List Nat} {w : World} : ∀ {cs : List C} {b off : Nat}, C.reps L μ w cs b off → ∃ us, C.repl L μ w cs us ∧ ∀ (j : Nat) (u : Value), us[j]? = some u → w.cell? ⟨b, off + j, none⟩ = some u
  | [], b, off, h => ⟨[], by simp [C.repl], by simp⟩
  | c :: cs, b, off, h => by
    simp only [C.reps] at h
    obtain ⟨⟨u, h1, h2⟩, h3⟩ := h
    obtain ⟨us, q1, q2⟩ := C.reps_vals h3
    refine ⟨u :: us, by simp only [C.repl]; exact ⟨u, us, rfl, h2, q1⟩, fun j v hv => ?_⟩
    cases j with
    | zero => simp at hv; subst hv; exact h1
    | succ j => rw [show off + (j + 1) = off + 1 + j from by omega]; exact q2 j v (by simpa using hv)
theorem C.repss_vals {L μ : List Nat} {w : World} {s : Nat} : ∀ {rows : List (List C)} {b off : Nat}, C.repss L μ w s rows b off → ∃ us, C.repl L μ w rows.flatten us ∧ us.length = rows.length * s ∧ ∀ (j : Nat) (u : Value), us[j]? = some u → w.cell? ⟨b, off + j, none⟩ = some u
  | [], b, off, h => ⟨[], by simp [C.repl], by simp, by simp⟩
  | r :: rows, b, off, h => by
    simp only [C.repss] at h
    obtain ⟨h0, h1, h2⟩ := h
    obtain ⟨us, q1, q2⟩ := C.reps_vals h1
    obtain ⟨vs, q3, q4, q5⟩ := C.repss_vals h2
    have hl := C.repl_length q1
    refine ⟨us ++ vs, by rw [List.flatten_cons]; exact C.repl_append q1 q3, by simp [hl, h0, q4, Nat.succ_mul]; omega, fun j u hu => ?_⟩
    by_cases hj : j < us.length
    · rw [List.getElem?_append_left hj] at hu; exact q2 j u hu
    · rw [List.getElem?_append_right (by omega)] at hu
      have := q5 _ u hu
      rwa [show off + s + (j - us.length) = off + j from by omega] at this
theorem Laid.repss {L μ : List Nat} {w : World} {cur : Array Value} {s g : Nat} {ty : TypeId} {rows : List (List C)} (h : Laid L μ w cur s rows) (hg : w.heap[g]? = some (.cells cur ty (0, 0))) : C.repss L μ w s rows g 0 := by
  refine C.repss_of (fun i r hr => ?_)
  obtain ⟨h1, h2⟩ := h i r hr
  refine ⟨h1, C.reps_of (fun j c hj => ?_)⟩
  obtain ⟨u, hu, hv⟩ := h2 j c hj
  exact ⟨u, by simp only [World.cell?, hg, Nat.zero_add]; simpa using hu, hv⟩
theorem fold_cells (off : Nat) (l : List Value) (cells : Array Value) (h : off + l.length ≤ cells.size) :
    (l.zipIdx.foldl (fun cs (x : Value × Nat) => cs.setIfInBounds (off + x.2) x.1) cells).toList = cells.toList.take off ++ (l ++ cells.toList.drop (off + l.length)) := by
  obtain ⟨h1, h2⟩ := Great.foldl_set off l 0 cells
  apply List.ext_getElem?
  intro k
  rw [Array.getElem?_toList, h2 k]
  by_cases hk : k < off
  · rw [if_neg (by omega), List.getElem?_append_left (by simp; omega), List.getElem?_take, if_pos hk, Array.getElem?_toList]
  · by_cases hk2 : k < off + l.length
    · rw [if_pos (by omega), List.getElem?_append_right (by simp; omega)]
      rw [List.getElem?_append_left (by simp; omega)]
      congr 1
      simp; omega
    · rw [if_neg (by omega), List.getElem?_append_right (by simp; omega), List.getElem?_append_right (by simp; omega), List.getElem?_drop, Array.getElem?_toList]
      congr 1
      simp; omega

theorem C.repl_splice {L μ : List Nat} {w : World} {cs xs : List C} {us vs : List Value} (h : C.repl L μ w cs us) (k : C.repl L μ w xs vs) (off : Nat) : C.repl L μ w (splice cs off xs) (us.take off ++ (vs ++ us.drop (off + vs.length))) := by
  unfold splice
  rw [C.repl_length k]
  exact C.repl_append (C.repl_take h _) (C.repl_append k (C.repl_drop h _))

section
variable {P : Program} {X μ : List Nat} {s : ASt} {a : Act} {w : World} {o : Oper} {L : List Nat}

theorem bind_cells {L : List Nat} (he : ∀ o v, s.eval o = some v → AV.rep L μ w v (a.eval o)) {x : Operand} {xs : List C} (h : (s.eval x).bind AV.cells = some xs) : C.repl L μ w xs (a.eval x).cells.toList := by
  cases hq : s.eval x with
  | none => rw [hq] at h; cases h
  | some v => rw [hq] at h; exact AV.rep_cells h (he x v hq)

theorem fill_sound {L : List Nat} {fs : List (Nat × Nat × Bool)} {place : Nat → Option (Nat × Nat)} (hp : ∀ (f off size : Nat) (g : Bool), fs[f]? = some (off, size, g) → place f = some (off, size)) (he : ∀ o v, s.eval o = some v → AV.rep L μ w v (a.eval o)) :
    ∀ (parts : List (Nat × Operand)) (cs cs' : List C) (cells : Array Value), afill fs (parts.map fun p => (p.1, s.eval p.2)) cs = some cs' → C.repl L μ w cs cells.toList →
      ∃ cells', Instr.fill place cells (parts.map fun p => (p.1, a.eval p.2)) = some cells' ∧ C.repl L μ w cs' cells'.toList
  | [], cs, cs', cells, h, hr => by
    simp only [List.map_nil, afill, Option.some.injEq] at h
    subst h
    exact ⟨cells, rfl, hr⟩
  | (f, x) :: parts, cs, cs', cells, h, hr => by
    simp only [List.map_cons, afill] at h
    split at h
    · rename_i off size g xs hf hx
      split at h
      · rename_i hc
        have hxr := bind_cells (a := a) he hx
        have hxl := C.repl_length hxr
        have hcl := C.repl_length hr
        have hfold := fold_cells off (a.eval x).cells.toList cells (by simp only [Array.length_toList] at hcl; omega)
        obtain ⟨cells', h1, h2⟩ := fill_sound hp he parts _ cs' ((a.eval x).cells.zipIdx.foldl (fun cs (x : Value × Nat) => cs.setIfInBounds (off + x.2) x.1) cells) h (by
          rw [show (a.eval x).cells.zipIdx.foldl (fun cs (x : Value × Nat) => cs.setIfInBounds (off + x.2) x.1) cells = (a.eval x).cells.toList.zipIdx.foldl (fun cs (x : Value × Nat) => cs.setIfInBounds (off + x.2) x.1) cells from by rw [← Array.toList_zipIdx, Array.foldl_toList], hfold]
          exact C.repl_splice hr hxr off)
        refine ⟨cells', ?_, h2⟩
        have hxs : (a.eval x).cells.size = size := by simp only [Array.length_toList] at hxl; omega
        simp only [List.map_cons, Instr.fill, hp f off size g hf]
        rw [if_neg (by simp only [Array.length_toList] at hcl; simp; omega)]
        exact h1
      · cases h
    · cases h
end
end Go.Proofs.Sh
