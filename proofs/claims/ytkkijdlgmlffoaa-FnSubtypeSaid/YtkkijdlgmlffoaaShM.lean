/- A region that draws its order: one walk in the order of the text. -/
import Derived.Test.YtkkijdlgmlffoaaShZ
namespace Go.Proofs.Sh
open Go.RowKit

def stabX (U : List Nat) : Operand → Bool
  | .tmp t => !U.contains t
  | _ => true
def stab (U : List Nat) (o : Oper) : Bool := o.op.operands.toList.all (stabX U)
def addU (d : Option Tmp) (U : List Nat) : List Nat := match d with | some d => d :: U | none => U
def offMs (ms : List Nat) : C → Bool
  | .ptr _ b _ _ => !ms.contains b
  | _ => true
def isNew (o : Oper) : Bool := match o.op with | .alloc _ | .box .. | .buildSlice .. | .makeSlice .. => true | _ => false

inductive MOut where
  | done (s : ASt)
  | call (f : FuncId) (args : List AV) (o : Oper) (l : List Oper) (U : List Nat) (ok : Bool) (s : ASt)
  | bad (l : List Oper)

/-- the walk: h0 the own blocks at the region's start, of which those of ms may be changed; U the slots whose values came up in the region by calls; ok: nothing else has been changed yet -/
structure MC where
  f : Nat
  h0 : List Blk
  ms : List Nat
  all : List Oper

mutual
def mrun (P : Program) (c : MC) : List Oper → List Nat → Bool → ASt → MOut
  | [], _, _, s => .done s
  | o :: l, U, ok, s => mwant P c (wantedA c.all s.t o.guard) o l U ok s
termination_by l => (l.length, 0)
def mwant (P : Program) (c : MC) (w : Option Bool) (o : Oper) (l : List Oper) (U : List Nat) (ok : Bool) (s : ASt) : MOut :=
  match w with
  | none => .bad (o :: l)
  | some false => mrun P c l U ok (s.put o.dst aundef)
  | some true => mkind P c (readOp o) (loudOp o) o l U ok s
termination_by (l.length, 3)
def mkind (P : Program) (c : MC) (rd ld : Bool) (o : Oper) (l : List Oper) (U : List Nat) (ok : Bool) (s : ASt) : MOut :=
  match rd, ld with
  | true, _ => match o.op with
    | .load t x => if stabX U x then (match s.eval x with | some (.one p) => if offMs c.ms p then mload P c (aload P c.h0 t p) o l U ok s else .bad (o :: l) | _ => .bad (o :: l)) else .bad (o :: l)
    | _ => .bad (o :: l)
  | false, true => mloud P c (aop P s o) o l U ok s
  | false, false => mfree P c (aop P s o) o l U ok s
termination_by (l.length, 2)
def mload (P : Program) (c : MC) (v : Option AV) (o : Oper) (l : List Oper) (U : List Nat) (ok : Bool) (s : ASt) : MOut :=
  match v with
  | some v => mrun P c l U ok (s.put o.dst v)
  | none => .bad (o :: l)
termination_by (l.length, 1)
def mloud (P : Program) (c : MC) (r : Res) (o : Oper) (l : List Oper) (U : List Nat) (ok : Bool) (s : ASt) : MOut :=
  match r with
  | .val v h => if (ok && isNew o) || decide (l.length < c.f) then mrun P c l (addU o.dst U) (ok && isNew o) (ASt.put ⟨s.n, s.t, h⟩ o.dst v) else .bad (o :: l)
  | .skip h => if decide (l.length < c.f) then mrun P c l U false (ASt.put ⟨s.n, s.t, h⟩ o.dst aundef) else .bad (o :: l)
  | .call f args => .call f args o l U ok s
  | .bad => .bad (o :: l)
termination_by (l.length, 1)
def mfree (P : Program) (c : MC) (r : Res) (o : Oper) (l : List Oper) (U : List Nat) (ok : Bool) (s : ASt) : MOut :=
  match r with
  | .val v _ => mrun P c l (if stab U o then U else addU o.dst U) ok (s.put o.dst v)
  | _ => .bad (o :: l)
termination_by (l.length, 1)
end

/-- what is so within the region -/
structure MixF (X μ0 : List Nat) (h0 : List Blk) (w0 : World) (ms U : List Nat) (ok : Bool) (μ : List Nat) (s : ASt) (a : Act) (w : World) : Prop where
  cur : SimF X μ s a w
  stp : Stp μ0 h0 w0 μ s.h w
  base : Sim X μ0 h0 w0
  old : ∀ (t : Nat) (v : AV), U.contains t = false → look t s.t = some v → AV.rep (X ++ alive μ0 h0) μ0 w0 v (a.tmps.getD t undef)
  keep : ok = true → Keep (mapK μ0 ms) w0 w

def AMix (P : Program) (N : Nat) (c : MC) (l : List Oper) (U : List Nat) (ok : Bool) (s : ASt) (K : Exit → ASt → Prop) : Prop :=
  ∀ X μ0 w0 μ a w μs hs ws, MixF X μ0 c.h0 w0 c.ms U ok μ s a w → StpN N μs hs ws μ0 c.h0 w0 → wpMix P c.all.toArray (Keep (mapK μ0 c.ms) w0) loudOp readOp c.f (lift N X μs hs ws K) l a w

def MDis (P : Program) (N : Nat) (c : MC) (K : Exit → ASt → Prop) : MOut → Prop
  | .done s => K .normal s
  | .call f args o l U ok s => ∃ ks, ((ok && ks.all c.ms.contains) || decide (l.length < c.f)) = true ∧ ACalls P f args s.h ks (fun r h' => AMix P N c l (addU o.dst U) (ok && ks.all c.ms.contains) (ASt.put ⟨s.n, s.t, h'⟩ o.dst r) K)
  | .bad _ => False

section
variable {P : Program} {N : Nat} {c : MC} {K : Exit → ASt → Prop} {X μ0 μ : List Nat} {h0 : List Blk} {w0 w : World} {ms U : List Nat} {ok : Bool} {s : ASt} {a : Act}

theorem look_put {d : Option Tmp} {s : ASt} {v u : AV} {t : Nat} (h : look t (s.put d v).t = some u) : (d = some t ∧ u = v) ∨ (d ≠ some t ∧ look t s.t = some u) ∨ look t s.t = some u := by
  cases d with
  | none => exact .inr (.inr h)
  | some d =>
    simp only [ASt.put] at h
    split at h
    · simp only [look] at h
      split at h
      · rename_i e; subst e; cases h; exact .inl ⟨rfl, rfl⟩
      · rename_i e; exact .inr (.inl ⟨by simpa using e, h⟩)
    · exact .inr (.inr h)

theorem getD_put {d : Option Tmp} {u : Value} {t : Nat} (h : d ≠ some t) : (a.put d u).tmps.getD t undef = a.tmps.getD t undef := by
  cases d with
  | none => rfl
  | some d =>
    simp only [Act.put]
    rw [Array.getD_eq_getD_getElem?, Array.getElem?_setIfInBounds_ne (by simpa using h), ← Array.getD_eq_getD_getElem?]

/-- a stable value goes into a slot -/
theorem MixF.put (h : MixF X μ0 h0 w0 ms U ok μ s a w) {d : Option Tmp} {v : AV} {u : Value} (hv : AV.rep (X ++ alive μ0 h0) μ0 w0 v u) : MixF X μ0 h0 w0 ms U ok μ (s.put d v) (a.put d u) w := by
  have hv' := AV.rep.carry h.stp.carry hv
  have hc := h.cur.put (d := d) hv'
  refine ⟨hc, by rw [put_h]; exact h.stp, h.base, fun t v' hU hl => ?_, h.keep⟩
  by_cases hd : d = some t
  · subst hd
    have hlt : t < s.n ∨ ¬ t < s.n := Nat.lt_or_ge t s.n |>.imp id (fun h => Nat.not_lt.2 h)
    rcases hlt with hlt | hlt
    · simp only [ASt.put, if_pos hlt, look, if_true] at hl
      cases hl
      simp only [Act.put]
      rw [Array.getD_eq_getD_getElem?, Array.getElem?_setIfInBounds_self_of_lt (by rw [h.cur.size]; exact hlt)]
      exact hv
    · simp only [ASt.put, if_neg hlt] at hl
      have := h.old t v' hU hl
      have e : a.tmps.setIfInBounds t u = a.tmps := by
        apply Array.ext_getElem?
        intro i
        by_cases hi : t = i
        · subst hi
          have h1 : a.tmps.size ≤ t := by rw [h.cur.size]; exact Nat.le_of_not_lt hlt
          rw [Array.getElem?_eq_none (by simpa using h1), Array.getElem?_eq_none h1]
        · rw [Array.getElem?_setIfInBounds_ne hi]
      simp only [Act.put, e]
      exact this
  · rw [getD_put hd]
    rcases look_put hl with ⟨e, _⟩ | ⟨_, e⟩ | e
    · exact absurd e hd
    · exact h.old t v' hU e
    · exact h.old t v' hU e

/-- a value that came up in the region goes into a slot -/
theorem MixF.putU (h : MixF X μ0 h0 w0 ms U ok μ s a w) {ok' : Bool} {μ' : List Nat} {h' : List Blk} {w' : World} {d : Option Tmp} {v : AV} {u : Value} (hS : Sim X μ' h' w') (hT : Stp μ s.h w μ' h' w') (hv : AV.rep (X ++ alive μ' h') μ' w' v u)
    (hk : ok' = true → Keep (mapK μ0 ms) w0 w') : MixF X μ0 h0 w0 ms (addU d U) ok' μ' (ASt.put ⟨s.n, s.t, h'⟩ d v) (a.put d u) w' := by
  refine ⟨(h.cur.step hT hS).put hv, by rw [put_h]; exact h.stp.trans hT, h.base, fun t v' hU hl => ?_, hk⟩
  cases d with
  | none => exact h.old t v' hU hl
  | some d =>
    simp only [addU, List.contains_cons, Bool.or_eq_false_iff, beq_eq_false_iff_ne, ne_eq] at hU
    have hd : some d ≠ some t := fun e => hU.1 (by simpa using e.symm)
    rw [getD_put hd]
    rcases look_put hl with ⟨e, _⟩ | ⟨_, e⟩ | e
    · exact absurd e hd
    · exact h.old t v' hU.2 e
    · exact h.old t v' hU.2 e

theorem MixF.drop (h : MixF X μ0 h0 w0 ms U ok μ s a w) {ok' : Bool} {h' : List Blk} {w' : World} {d : Option Tmp} (hS : Sim X μ h' w') (hT : Stp μ s.h w μ h' w') (hk : ok' = true → Keep (mapK μ0 ms) w0 w') :
    MixF X μ0 h0 w0 ms U ok' μ (ASt.put ⟨s.n, s.t, h'⟩ d aundef) (a.put d undef) w' :=
  MixF.put (s := ⟨s.n, s.t, h'⟩) ⟨h.cur.step hT hS, h.stp.trans hT, h.base, h.old, hk⟩ (AV.rep_undef _ _ _)

/-- the frame of what does not stem from the region's calls -/
def still (U : List Nat) (t : List (Nat × AV)) : List (Nat × AV) := t.filter fun p => !U.contains p.1
theorem look_still {U : List Nat} {t : Nat} : ∀ {l : List (Nat × AV)}, look t (still U l) = if U.contains t then none else look t l
  | [] => by simp [still, look]
  | (t', v) :: l => by
    have ih := look_still (U := U) (t := t) (l := l)
    simp only [still, List.filter_cons] at ih ⊢
    by_cases hu : U.contains t' = true
    · simp only [hu, Bool.not_true, Bool.false_eq_true, if_false, ih, look]
      by_cases e : t' = t
      · subst e; have hm : t' ∈ U := by simpa using hu
        simp [hm]
      · rw [if_neg e]
    · have hu' : U.contains t' = false := by simpa using hu
      simp only [hu', Bool.not_false, if_true, look]
      by_cases e : t' = t
      · subst e; have hm : t' ∉ U := by simpa using hu'
        simp [hm]
      · rw [if_neg e, if_neg e]; exact ih
theorem MixF.still (h : MixF X μ0 h0 w0 ms U ok μ s a w) : SimF X μ0 ⟨s.n, still U s.t, h0⟩ a w0 := by
  refine ⟨h.cur.size, h.cur.ds, h.base, fun t v hl => ?_⟩
  simp only [look_still] at hl
  split at hl
  · cases hl
  · rename_i hu; exact h.old t v (by simpa using hu) hl
theorem still_eval {x : Operand} (hx : stabX U x = true) : ASt.eval ⟨s.n, still U s.t, h0⟩ x = s.eval x := by
  cases x with
  | tmp t => simp only [ASt.eval, look_still]; simp only [stabX, Bool.not_eq_true'] at hx; rw [hx]; rfl
  | _ => rfl

theorem qf_lift {o : Oper} {a : Act} {w : World} {N : Act → World → Prop} (h : o.wp P a w N QF) : o.wp P a w N QF := h

theorem mix_load {o : Oper} {t : TypeId} {x : Operand} {p : C} {v : AV} {M : List Nat} (h : MixF X μ0 h0 w0 ms U ok μ s a w) (ho : o.op = .load t x) (hx : stabX U x = true) (hp : s.eval x = some (.one p)) (hms : offMs ms p = true) (hmut : ∀ b ∈ ms, ∃ k, h0[b]? = some k ∧ k.st.isMut = true) (hv : aload P h0 t p = some v) :
    ∃ u, (∀ w2, Keep (mapK μ0 ms) w0 w2 → (execOp a.eval o).run P w2 = .ok (.value u) w2) ∧ AV.rep (X ++ alive μ0 h0) μ0 w0 v u := by
  have hF := h.still
  obtain ⟨g, u, h1, h2, h3, h4⟩ := op_load (P := P) ho hF (by rw [still_eval hx]; exact hp) hv
  refine ⟨u, fun w2 hK => h3 w2 (hK.block g (fun hm => ?_) h1), h4⟩
  obtain ⟨i, hi⟩ := List.getElem?_of_mem hm
  simp only [mapK, List.getElem?_map, Option.map_eq_some_iff] at hi
  obtain ⟨b, hb, hg⟩ := hi
  obtain ⟨k, e1, e2⟩ := hmut b (List.mem_of_getElem? hb)
  obtain ⟨g', hg', _⟩ := h.base.get e1
  rw [List.getD_eq_getElem?_getD, hg', Option.getD_some] at hg
  subst hg
  rcases h2 with h2 | ⟨n, b', i', j', k', rfl, q1, q2, q3⟩
  · exact h2 (List.mem_append.2 (.inr (mem_alive.2 ⟨b, k, hg', e1, e2⟩)))
  · have hne : b ≠ b' := fun e => by
      subst e
      simp only [offMs, Bool.not_eq_true', List.contains_eq_mem, decide_eq_false_iff_not] at hms
      exact hms (List.mem_of_getElem? hb)
    exact h.base.inj b b' k k' g' hne e1 q2 e2 q3 hg' q1

theorem mrun_sound (hmut : ∀ b ∈ c.ms, ∃ k, c.h0[b]? = some k ∧ k.st.isMut = true) : ∀ (l : List Oper) (U : List Nat) (ok : Bool) (s : ASt), MDis P N c K (mrun P c l U ok s) → AMix P N c l U ok s K := by
  intro l
  induction l with
  | nil =>
    intro U ok s h X μ0 w0 μ a w μs hs ws hM hT
    rw [mrun] at h
    unfold wpMix
    exact ⟨s, μ, h, hM.cur, hT.trans hM.stp⟩
  | cons o l ih =>
    intro U ok s h X μ0 w0 μ a w μs hs ws hM hT
    rw [mrun] at h
    cases hw : wantedA c.all s.t o.guard with
    | none => rw [hw, mwant] at h; exact h.elim
    | some b =>
      have hwt := wanted_spec hM.cur hw
      unfold wpMix
      rw [hwt]
      cases b with
      | false =>
        rw [hw, mwant] at h
        rw [if_neg (by simp)]
        exact ih U ok _ h X μ0 w0 μ _ w μs hs ws (hM.put (AV.rep_undef _ _ _)) hT
      | true =>
        rw [hw, mwant] at h
        rw [if_pos rfl]
        cases hrd : readOp o with
        | true =>
          have hld : loudOp o = false := by
            cases ho : o.op <;> simp [readOp, ho] at hrd
            simp [loudOp, ho]
          rw [hrd, mkind] at h
          rw [hld, if_neg (by simp)]
          split at h
          · rename_i t x ho
            split at h
            · rename_i hx
              split at h
              · rename_i p hp
                split at h
                · rename_i hms
                  cases hv : aload P c.h0 t p with
                  | none => rw [hv, mload] at h; exact h.elim
                  | some v =>
                    rw [hv, mload] at h
                    obtain ⟨u, h1, h2⟩ := mix_load (M := []) hM ho hx hp hms hmut hv
                    exact ⟨u, by simpa [Calm, Cls] using h1, ih U ok _ h X μ0 w0 μ _ w μs hs ws (hM.put h2) hT⟩
                · exact h.elim
              · exact h.elim
            · exact h.elim
          · exact h.elim
        | false =>
          cases hld : loudOp o with
          | false =>
            rw [hrd, hld, mkind] at h
            rw [if_neg (by simp)]
            cases ho : aop P s o with
            | val v h' =>
              rw [ho, mfree] at h
              obtain ⟨rfl, hp⟩ := aop_pure hld hrd ho
              obtain ⟨u, h1, h2⟩ := hp X μ s a w hM.cur (fun _ _ => rfl)
              refine ⟨u, fun w _ => h1 w, ?_⟩
              by_cases hst : stab U o = true
              · rw [if_pos hst] at h
                obtain ⟨u', h1', h2'⟩ := hp X μ0 ⟨s.n, still U s.t, c.h0⟩ a w0 hM.still (fun x hx => still_eval (List.all_eq_true.1 hst x hx))
                have : u' = u := by
                  have e1 := h1 w; rw [h1' w] at e1; injection e1 with e1; injection e1
                subst this
                exact ih U ok _ h X μ0 w0 μ _ w μs hs ws (hM.put h2') hT
              · rw [if_neg hst] at h
                have := hM.putU (ok' := ok) (d := o.dst) hM.cur.sim (Stp.refl _ _ _) h2 hM.keep
                exact ih _ ok _ h X μ0 w0 μ _ w μs hs ws this hT
            | skip h' => rw [ho, mfree] at h; exact h.elim; all_goals simp
            | call f args => rw [ho, mfree] at h; exact h.elim; all_goals simp
            | bad => rw [ho, mfree] at h; exact h.elim; all_goals simp
          | true =>
            rw [hrd, hld, mkind] at h
            rw [if_pos rfl]
            cases ho : aop P s o with
            | bad => rw [ho, mloud] at h; exact h.elim
            | skip h' =>
              rw [ho, mloud] at h
              split at h
              · rename_i hf
                obtain ⟨w', r1, r2, r3⟩ := aop_skip hM.cur ho
                unfold Oper.wp
                rw [r1]
                exact ⟨.inl (by simpa using hf), ih U false _ h X μ0 w0 μ _ w' μs hs ws (hM.drop r2 r3 (by simp)) hT⟩
              · exact h.elim
            | val v h' =>
              rw [ho, mloud] at h
              split at h
              · rename_i hf
                cases hnew : (ok && isNew o) with
                | false =>
                  rw [hnew] at hf h
                  obtain ⟨u, w', μ', r1, r2, r3, r4⟩ := aop_val hM.cur ho
                  unfold Oper.wp
                  rw [r1]
                  exact ⟨.inl (by simpa using hf), ih _ false _ h X μ0 w0 μ' _ w' μs hs ws (hM.putU r2 r3 r4 (by simp)) hT⟩
                | true =>
                  rw [hnew] at h
                  simp only [Bool.and_eq_true] at hnew
                  obtain ⟨hok, hnw⟩ := hnew
                  have hN : OpNew P X μ s a w o v h' := by
                    unfold aop at ho
                    unfold isNew at hnw
                    split at hnw
                    · rename_i t hop
                      rw [hop] at ho
                      simp only at ho
                      split at ho
                      · rename_i ti hti
                        split at ho
                        · injection ho with e1 e2; subst e1 e2; exact op_alloc hop hM.cur hti
                        · cases ho
                      · cases ho
                    · rename_i t x hop
                      rw [hop] at ho
                      simp only at ho
                      split at ho
                      · rename_i cs hx; injection ho with e1 e2; subst e1 e2; exact op_box hop hM.cur hx
                      · cases ho
                    · rename_i t len parts hop
                      rw [hop] at ho
                      exact op_buildSlice hop hM.cur ho
                    · rename_i t x y hop
                      rw [hop] at ho
                      simp only at ho
                      split at ho
                      · rename_i h1 h2; exact op_makeSlice hop hM.cur h1 h2 ho
                      · cases ho
                    · cases hnw
                  obtain ⟨u, w', μ', r1, r2, r3, r4, r5⟩ := hN
                  have hK : Keep (mapK μ0 c.ms) w0 w' := (hM.keep hok).trans r5 (by simp)
                  unfold Oper.wp
                  rw [r1]
                  exact ⟨.inr hK, ih _ true _ h X μ0 w0 μ' _ w' μs hs ws (hM.putU r2 r3 r4 (fun _ => hK)) hT⟩
              · exact h.elim
            | call f args =>
              rw [ho, mloud] at h
              obtain ⟨ks, hcnd, hc⟩ := h
              obtain ⟨vs, r1, r2⟩ := aop_call hM.cur ho
              obtain ⟨hfn, hcl⟩ := calls_of hM.cur.sim r1 hc
              unfold Oper.wp
              rw [r2 hfn]
              refine Calls.mono hcl fun e w' ⟨r, h', μ', v, he, hk, s1, s2, s3, s4⟩ => ?_
              subst he
              cases hokk : (ok && ks.all c.ms.contains) with
              | false =>
                rw [hokk] at hcnd hk
                exact ⟨.inl (by simpa using hcnd), hk X μ0 w0 μ' _ w' μs hs ws (hM.putU s1 s2 s3 (by simp)) hT⟩
              | true =>
                rw [hokk] at hk
                simp only [Bool.and_eq_true] at hokk
                have hK : Keep (mapK μ0 c.ms) w0 w' := by
                  refine (hM.keep hokk.1).trans s4 (fun x hx hlt => ?_)
                  obtain ⟨i, hi⟩ := List.getElem?_of_mem hx
                  simp only [mapK, List.getElem?_map, Option.map_eq_some_iff] at hi
                  obtain ⟨b, hb, hg⟩ := hi
                  have hbm : b ∈ c.ms := by
                    have := List.all_eq_true.1 hokk.2 b (List.mem_of_getElem? hb)
                    simpa using this
                  obtain ⟨k, e1, e2⟩ := hmut b hbm
                  obtain ⟨g', hg', _⟩ := hM.base.get e1
                  have := hM.stp.map b g' hg'
                  rw [List.getD_eq_getElem?_getD, this, Option.getD_some] at hg
                  subst hg
                  refine List.mem_map.2 ⟨b, hbm, ?_⟩
                  rw [List.getD_eq_getElem?_getD, hg', Option.getD_some]
                exact ⟨.inr hK, hk X μ0 w0 μ' _ w' μs hs ws (hM.putU s1 s2 s3 (fun _ => hK)) hT⟩

theorem mrun_sound' (hmut : c.ms.all (fun b => match c.h0[b]? with | some k => k.st.isMut | none => false) = true) (l : List Oper) (U : List Nat) (ok : Bool) (s : ASt) (h : MDis P N c K (mrun P c l U ok s)) : AMix P N c l U ok s K :=
  mrun_sound (fun b hb => by
    have := List.all_eq_true.1 hmut b hb
    split at this
    · rename_i k hk; exact ⟨k, hk, this⟩
    · cases this) l U ok s h

/-- a region that draws its order -/
theorem go_mix {R : ASt → Prop} {id : Nat} {l : List Oper} {k : List Item} (f : Nat) (ms : List Nat) (hm : P.follows .mixedOrders = true) (hB : mixOK loudOp readOp f l.toArray = true) (hmut : ms.all (fun b => match s.h[b]? with | some k => k.st.isMut | none => false) = true)
    (h : MDis P N ⟨f, s.h, ms, l⟩ (AGo P N R k) (mrun P ⟨f, s.h, ms, l⟩ l [] true s)) : AGo P N R (.code (.region id l.toArray true) :: k) .normal s := by
  intro X μ0 hh0 w0 μ a w hF hT
  have hdr : Stp μ s.h w μ s.h w.drew := ⟨Keep.drew _ _, fun _ _ e => e, fun _ h _ => h⟩
  have hSd : Sim X μ s.h w.drew := by
    have hs := hF.sim
    exact ⟨hs.len, hs.lt, hs.xlt, hs.out, hs.inj, fun i b g h1 h2 h3 => let ⟨cur, q1, q2⟩ := hs.blk i b g h1 h2 h3; ⟨cur, q1, q2.carry hdr.carry⟩⟩
  have hFd : SimF X μ s a w.drew := hF.step hdr hSd
  have hms : ∀ b ∈ ms, ∃ k, s.h[b]? = some k ∧ k.st.isMut = true := fun b hb => by
    have := List.all_eq_true.1 hmut b hb
    split at this
    · rename_i k hk; exact ⟨k, hk, this⟩
    · cases this
  have hA := mrun_sound (c := ⟨f, s.h, ms, l⟩) hms l [] true s h X μ w.drew μ a w.drew μ0 hh0 w0 ⟨hFd, Stp.refl _ _ _, hSd, fun t v _ hl => hFd.reg t v hl, fun _ => Keep.refl _ _⟩ (hT.trans hdr)
  exact wp_region_mix (C := Keep (mapK μ ms) w.drew) f hm hB (Keep.refl _ _) (by simpa using hA)
end
end Go.Proofs.Sh
