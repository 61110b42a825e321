/- Texts of the proof, one behind another. -/
import Derived.Laws.BytesString
import Derived.Test.YtkkijdlgmlffoaaKW4
set_option linter.unusedSimpArgs false
set_option linter.unusedVariables false
/- A run on shadows is sound. -/
namespace Go.Proofs.Sh
open Go.RowKit

section
variable {P : Program} {X μ : List Nat} {s : ASt} {a : Act} {w : World} {o : Oper} {v : AV} {h' : List Blk}

theorem ares_val {x : Option AV} {h : List Blk} (e : ares x h = .val v h') : x = some v ∧ h' = h := by
  unfold ares at e; split at e
  · injection e with e1 e2; exact ⟨by rw [e1], e2.symm⟩
  · cases e
theorem ares1_val {x : Operand} {g : AV → Option AV} (e : ares1 s x g = .val v h') : ∃ u, s.eval x = some u ∧ g u = some v ∧ h' = s.h := by
  unfold ares1 at e; split at e
  · rename_i u hu; obtain ⟨e1, e2⟩ := ares_val e; exact ⟨u, hu, e1, e2⟩
  · cases e
theorem ares2_val {x y : Operand} {g : AV → AV → Option AV} (e : ares2 s x y g = .val v h') : ∃ u1 u2, s.eval x = some u1 ∧ s.eval y = some u2 ∧ g u1 u2 = some v ∧ h' = s.h := by
  unfold ares2 at e; split at e
  · rename_i u1 u2 h1 h2; obtain ⟨e1, e2⟩ := ares_val e; exact ⟨u1, u2, h1, h2, e1, e2⟩
  · cases e
theorem ared_val {x : Option (List Blk)} : ared x ≠ .val v h' := by unfold ared; split <;> simp

theorem call_ne_val {c : Call} : acall s c ≠ .val v h' := by
  unfold acall; split
  · split <;> simp
  · simp

theorem aop_val (hF : SimF X μ s a w) (e : aop P s o = .val v h') : OpOK P X μ s a w o v h' := by
  unfold aop at e
  split at e
  · rename_i x ho; obtain ⟨e1, rfl⟩ := ares_val e; exact OpOK.of_pure hF (pure_move ho hF e1)
  · rename_i x ho; obtain ⟨e1, rfl⟩ := ares_val e; exact OpOK.of_pure hF (pure_assign ho hF e1)
  · rename_i c x y ho
    split at e
    · rename_i b v1 v2 h1 h2 h3
      injection e with e1 e2; subst e1 e2
      exact OpOK.of_pure hF (pure_pick ho hF h1 h2 h3)
    · cases e
  · rename_i t ho
    split at e
    · rename_i ti hti
      split at e
      · injection e with e1 e2; subst e1 e2; exact (op_alloc ho hF hti).ok
      · cases e
    · cases e
  · rename_i t x ho
    split at e
    · rename_i cs hx
      injection e with e1 e2; subst e1 e2; exact (op_box ho hF hx).ok
    · cases e
  · rename_i t parts ho; obtain ⟨e1, rfl⟩ := ares_val e; exact OpOK.of_pure hF (op_build ho hF e1)
  · rename_i t len parts ho; exact (op_buildSlice ho hF e).ok
  · rename_i t x ho
    split at e
    · rename_i p hp
      obtain ⟨e1, rfl⟩ := ares_val e
      obtain ⟨g, u, _, _, h3, h4⟩ := op_load ho hF hp e1
      exact ⟨u, w, μ, h3 w rfl, hF.sim, Stp.refl _ _ _, h4⟩
    · cases e
  · rename_i t x y ho
    split at e
    · exact absurd e ared_val
    · cases e
  · rename_i x ho
    split at e
    · rename_i hx; injection e with e1 e2; subst e1 e2; exact OpOK.of_pure hF (pure_nilCheck ho hF hx rfl)
    · rename_i hx; injection e with e1 e2; subst e1 e2; exact OpOK.of_pure hF (pure_nilCheck ho hF hx rfl)
    · rename_i hx; injection e with e1 e2; subst e1 e2; exact OpOK.of_pure hF (pure_nilCheck ho hF hx rfl)
    · cases e
  · rename_i op t x y t' ho
    obtain ⟨u1, u2, h1, h2, h3, rfl⟩ := ares2_val e
    exact OpOK.of_pure hF (pure_bin ho hF h1 h2 h3)
  · rename_i op t x ho
    obtain ⟨u1, h1, h3, rfl⟩ := ares1_val e
    exact OpOK.of_pure hF (pure_un ho hF h1 h3)
  · rename_i t t' x ho
    split at e
    · rename_i k' n k hx ht'
      split at e
      · rename_i ht; injection e with e1 e2; subst e1 e2; exact OpOK.of_pure hF (pure_conv ho hF hx ht ht')
      · cases e
    · cases e
  · rename_i f first cs ho
    split at e
    · rename_i hf
      split at e
      · rename_i cc hcc; injection e with e1 e2; subst e1 e2; exact OpOK.of_pure hF (pure_makeFunc ho hF hf hcc)
      · cases e
    · cases e
  · rename_i t l c ho
    split at e
    · rename_i h1 h2; exact (op_makeSlice ho hF h1 h2 e).ok
    · cases e
  · rename_i t x lo hi ho
    obtain ⟨u1, h1, h3, rfl⟩ := ares1_val e
    exact OpOK.of_pure hF (pure_slice ho hF h1 h3)
  · rename_i t x f ho
    obtain ⟨u1, h1, h3, rfl⟩ := ares1_val e
    exact OpOK.of_pure hF (pure_fieldAddr ho hF h1 h3)
  · rename_i t x f ho
    obtain ⟨u1, h1, h3, rfl⟩ := ares1_val e
    exact OpOK.of_pure hF (pure_field ho hF h1 h3)
  · rename_i t x i ho
    obtain ⟨u1, u2, h1, h2, h3, rfl⟩ := ares2_val e
    exact OpOK.of_pure hF (pure_indexAddr ho hF h1 h2 h3)
  · rename_i x k ho
    split at e
    · rename_i vs hx; obtain ⟨e1, rfl⟩ := ares_val e; exact OpOK.of_pure hF (pure_extract ho hF hx e1)
    · cases e
  · rename_i t x i ho
    obtain ⟨u1, u2, h1, h2, h3, rfl⟩ := ares2_val e
    exact OpOK.of_pure hF (pure_index ho hF h1 h2 h3)
  · rename_i b args ts ho
    unfold abuiltin at e
    split at e
    · rename_i x t ha ht
      obtain ⟨u1, h1, h3, rfl⟩ := ares1_val e
      have ha' : args = #[x] := by rw [← Array.toArray_toList (xs := args), ha]
      have ht' : ts = #[t] := by rw [← Array.toArray_toList (xs := ts), ht]
      subst ha' ht'
      exact OpOK.of_pure hF (pure_len ho hF h1 h3)
    · rename_i x y t t' ha ht
      obtain ⟨u1, u2, h1, h2, h3, rfl⟩ := ares2_val e
      have ha' : args = #[x, y] := by rw [← Array.toArray_toList (xs := args), ha]
      subst ha'
      exact OpOK.of_pure hF (pure_max ho hF h1 h2 h3)
    · rename_i x y t t' ha ht
      have ha' : args = #[x, y] := by rw [← Array.toArray_toList (xs := args), ha]
      have ht' : ts = #[t, t'] := by rw [← Array.toArray_toList (xs := ts), ht]
      subst ha' ht'
      split at e
      · rename_i h1 h2
        split at e
        · rename_i htt; subst htt; exact (op_append ho hF h1 h2 e).ok
        · cases e
      · cases e
    · cases e
  · exact absurd e call_ne_val
  · cases e

theorem aop_skip' (hF : SimF X μ s a w) (e : aop P s o = .skip h') : ∃ w', (execOp a.eval o).run P w = .ok .skip w' ∧ (Sim X μ h' w' ∧ Stp μ s.h w μ h' w') ∧ ∀ t x y n b i j g, o.op = .store t x y → s.eval x = some (.one (.ptr n b i j)) → μ[b]? = some g → Keep [g] w w' := by
  have na : ∀ (x : Option AV) (h : List Blk), ares x h ≠ .skip h' := fun x h => by unfold ares; split <;> simp
  have n1 : ∀ (x : Operand) (g : AV → Option AV), ares1 s x g ≠ .skip h' := fun x g => by unfold ares1; split; exact na _ _; simp
  have n2 : ∀ (x y : Operand) (g : AV → AV → Option AV), ares2 s x y g ≠ .skip h' := fun x y g => by unfold ares2; split; exact na _ _; simp
  have n3 : ∀ t l p, abuildSlice P s.h t l p ≠ .skip h' := fun t l p => by unfold abuildSlice; (repeat' split) <;> simp
  have n4 : ∀ t x y, amakeSlice P s.h t x y ≠ .skip h' := fun t x y => by unfold amakeSlice; (repeat' split) <;> simp
  have n5 : ∀ t x y, aappend P s.h t x y ≠ .skip h' := fun t x y => by unfold aappend asame aappend1; (repeat' split) <;> simp
  have n6 : ∀ c, acall s c ≠ .skip h' := fun c => by unfold acall; (repeat' split) <;> simp
  unfold aop at e
  split at e
  case h_9 t x y ho =>
    split at e
    · rename_i p v hp hv
      unfold ared at e
      split at e
      · rename_i h2 hst
        injection e with e; subst e
        obtain ⟨w', q1, q2, q3⟩ := op_store ho hF hp hv hst
        refine ⟨w', q1, q2, fun t' x' y' n b i j g e1 e2 e3 => ?_⟩
        rw [ho] at e1; cases e1
        rw [hp] at e2; cases e2
        exact q3 n b i j g rfl e3
      · cases e
    · cases e
  all_goals exfalso
  all_goals first
    | exact na _ _ e
    | exact n1 _ _ e
    | exact n2 _ _ _ e
    | exact n3 _ _ _ e
    | exact n6 _ e
    | (cases e; done)
    | (split at e <;> first | (cases e; done) | exact na _ _ e | exact n4 _ _ _ e | (split at e <;> first | (cases e; done) | exact na _ _ e))
    | (unfold abuiltin at e; split at e <;> first | (cases e; done) | exact n1 _ _ e | exact n2 _ _ _ e | (split at e <;> first | (cases e; done) | (split at e <;> first | (cases e; done) | exact n5 _ _ _ e)))

theorem aop_skip (hF : SimF X μ s a w) (e : aop P s o = .skip h') : ∃ w', (execOp a.eval o).run P w = .ok .skip w' ∧ Sim X μ h' w' ∧ Stp μ s.h w μ h' w' := by
  obtain ⟨w', q1, q2, _⟩ := aop_skip' hF e
  exact ⟨w', q1, q2.1, q2.2⟩

theorem vals_rep {L : List Nat} : ∀ {os : List Operand} {vs : List AV}, (∀ o v, s.eval o = some v → AV.rep L μ w v (a.eval o)) → vals (os.map s.eval) = some vs → AV.repl L μ w vs (os.map a.eval)
  | [], cs, _, h => by simp only [List.map_nil, vals, Option.some.injEq] at h; subst h; simp [AV.repl]
  | o :: os, cs, he, h => by
    cases hq : s.eval o with
    | none => simp [vals, hq] at h
    | some v =>
      simp only [List.map_cons, hq, vals, Option.map_eq_some_iff] at h
      obtain ⟨cs', h2, rfl⟩ := h
      simp only [List.map_cons, AV.repl]
      exact ⟨_, _, rfl, he o _ hq, vals_rep he h2⟩
theorem AV.repl_append {L : List Nat} {vs vs2 : List AV} {us us2 : List Value} (h : AV.repl L μ w vs us) (k : AV.repl L μ w vs2 us2) : AV.repl L μ w (vs ++ vs2) (us ++ us2) := by
  induction vs generalizing us with
  | nil => simp only [AV.repl] at h; subst h; simpa using k
  | cons v vs ih =>
    simp only [AV.repl] at h
    obtain ⟨u, us', rfl, h2, h3⟩ := h
    simp only [List.cons_append, AV.repl]
    exact ⟨u, us' ++ us2, rfl, h2, ih h3⟩
theorem AV.repl_one {L : List Nat} : ∀ {cs : List C} {us : List Value}, C.repl L μ w cs us → AV.repl L μ w (cs.map .one) us
  | [], us, h => by simpa [C.repl, AV.repl] using h
  | c :: cs, us, h => by
    simp only [C.repl] at h
    obtain ⟨u, us', rfl, h2, h3⟩ := h
    simp only [List.map_cons, AV.repl, AV.rep]
    exact ⟨u, us', rfl, h2, AV.repl_one h3⟩

def IsFn (P : Program) (f : FuncId) : Prop := ∀ (args : Array Value) (w : World), (callFunc f args).run P w = .ok (.enter f args) w

theorem aop_call {f : FuncId} {args : List AV} (hF : SimF X μ s a w) (e : aop P s o = .call f args) : ∃ vs : Array Value, AV.repl (X ++ alive μ s.h) μ w args vs.toList ∧ (IsFn P f → (execOp a.eval o).run P w = .ok (.enter f vs) w) := by
  have na : ∀ (x : Option AV) (h : List Blk), ares x h ≠ .call f args := fun x h => by unfold ares; split <;> simp
  have n1 : ∀ (x : Operand) (g : AV → Option AV), ares1 s x g ≠ .call f args := fun x g => by unfold ares1; split; exact na _ _; simp
  have n2 : ∀ (x y : Operand) (g : AV → AV → Option AV), ares2 s x y g ≠ .call f args := fun x y g => by unfold ares2; split; exact na _ _; simp
  have n3 : ∀ t l p, abuildSlice P s.h t l p ≠ .call f args := fun t l p => by unfold abuildSlice; (repeat' split) <;> simp
  have n4 : ∀ t x y, amakeSlice P s.h t x y ≠ .call f args := fun t x y => by unfold amakeSlice; (repeat' split) <;> simp
  have n5 : ∀ t x y, aappend P s.h t x y ≠ .call f args := fun t x y => by unfold aappend asame aappend1; (repeat' split) <;> simp
  unfold aop at e
  split at e
  case h_23 c hb ho =>
    unfold acall at e
    split at e
    · rename_i x hc
      split at e
      · rename_i g cs vs hx hv
        injection e with e1 e2
        subst e1 e2
        have h1 := hF.eval hx
        simp only [AV.rep, C.rep] at h1
        obtain ⟨arr, he, hr⟩ := h1
        refine ⟨(c.args.map a.eval) ++ arr, ?_, fun hfn => ?_⟩
        · rw [Array.toList_append, Array.toList_map]
          exact AV.repl_append (vals_rep (fun o v hv => hF.eval hv) hv) (AV.repl_one hr)
        · simp only [execOp, ho, resolve, hc, he, Deferred.ofValue, Sem.run_bind, Sem.run_pure, Result.andThen_ok, invoke]
          simpa using hfn (c.args.map a.eval ++ arr) w
      · cases e
    · cases e
  all_goals exfalso
  all_goals first
    | exact na _ _ e
    | exact n1 _ _ e
    | exact n2 _ _ _ e
    | exact n3 _ _ _ e
    | (cases e; done)
    | (split at e <;> first | (cases e; done) | exact na _ _ e | exact n4 _ _ _ e | (split at e <;> first | (cases e; done) | exact na _ _ e))
    | (split at e <;> first | (cases e; done) | (unfold ared at e; split at e <;> cases e))
    | (unfold abuiltin at e; split at e <;> first | (cases e; done) | exact n1 _ _ e | exact n2 _ _ _ e | (split at e <;> first | (cases e; done) | (split at e <;> first | (cases e; done) | exact n5 _ _ _ e)))
theorem abytes_spec {L : List Nat} : ∀ {rows : List (List C)} {ns : List Int} {us : List Value}, abytes rows = some ns → C.repl L μ w rows.flatten us → us = ns.map (Value.int .u8) ∧ rows.length = ns.length
  | [], ns, us, h, hr => by
    simp only [abytes, Option.some.injEq] at h
    subst h
    simpa [C.repl] using hr
  | [] :: l, ns, us, h, hr => by simp [abytes] at h
  | (c :: d :: r) :: l, ns, us, h, hr => by cases c <;> simp [abytes] at h
  | [c] :: l, ns, us, h, hr => by
    unfold abytes at h
    split at h
    · simp at *
    · rename_i n l' hc
      simp only [List.cons.injEq, and_true] at hc
      obtain ⟨rfl, rfl⟩ := hc
      split at h
      · rename_i ns' h'
        cases h
        simp only [List.flatten_cons, List.cons_append, List.nil_append, C.repl] at hr
        obtain ⟨u, us', rfl, h2, h3⟩ := hr
        simp only [C.rep] at h2
        obtain ⟨e1, e2⟩ := abytes_spec h' h3
        exact ⟨by rw [e1, h2.1]; rfl, by simp [e2]⟩
      · cases h
    · cases h
theorem op_convB (hF : SimF X μ s a w) (e : aconvB P s o = .val v h') : OpOK P X μ s a w o v h' := by
  unfold aconvB at e
  split at e
  case h_2 => cases e
  rename_i t b x ho
  split at e
  case h_2 => cases e
  rename_i vx hx
  split at e
  case h_2 => cases e
  rename_i r rs ti hrows hti
  obtain ⟨i, d, z, hi, hd, hz, hzc, hzs, rfl⟩ := tinfo_spec hti
  split at e
  case isFalse => cases e
  rename_i hk
  obtain ⟨hk1, hk2, hk3⟩ := hk
  obtain ⟨el, rfl⟩ := tkind_slice (tkindP_eq hk1 (by decide))
  simp only [telem] at hk3
  obtain ⟨db, hdb, hkb⟩ := tk_some hk2 (by decide)
  have := tkind_string hkb
  subst this
  split at e
  case h_2 => cases e
  rename_i ns hns
  injection e with e1 e2
  subst e1 e2
  obtain ⟨ad, c, news, he2, hnr, hnc⟩ := arows_spec hF.sim hrows (hF.eval hx)
  obtain ⟨e1, e2⟩ := abytes_spec hns hnr
  refine ⟨.string (bytesOf ns), w, μ, ?_, hF.sim, Stp.refl _ _ _, AV.rep_sc rfl⟩
  have hl := run_loadCells_list (P := P) (w := w) ad news hnc
  have hlen : rs.length + 1 = news.length := by rw [e1, List.length_map, ← e2]; rfl
  simp only [execOp, ho, Sem.run_bind]
  rw [he2, run_convert_bytes_string w t b el (some ad) _ c hd (tint_some hk3) hdb, hlen, run_bytesToString w ad _ c ns (by rw [hl, e1])]
  rfl
theorem aopX_val (hF : SimF X μ s a w) (e : aopX P s o = .val v h') : OpOK P X μ s a w o v h' := by
  unfold aopX aor at e
  split at e
  · exact op_convB hF e
  · exact aop_val hF e
theorem aconvB_skip : aconvB P s o ≠ .skip h' := by unfold aconvB; (repeat' split) <;> simp
theorem aconvB_call {f : FuncId} {args : List AV} : aconvB P s o ≠ .call f args := by unfold aconvB; (repeat' split) <;> simp
theorem aopX_skip (e : aopX P s o = .skip h') : aop P s o = .skip h' := by
  unfold aopX aor at e
  split at e
  · exact absurd e aconvB_skip
  · exact e
theorem aopX_call {f : FuncId} {args : List AV} (e : aopX P s o = .call f args) : aop P s o = .call f args := by
  unfold aopX aor at e
  split at e
  · exact absurd e aconvB_call
  · exact e
end
end Go.Proofs.Sh
/- The run on shadows: what it shows of the code. -/
namespace Go.Proofs.Sh
open Go.RowKit

/-- the change from one state to a later one, of which the first N own blocks keep their numbers -/
structure StpN (N : Nat) (μ : List Nat) (H : List Blk) (w : World) (μ' : List Nat) (H' : List Blk) (w' : World) : Prop where
  keep : Keep (alive μ H) w w'
  map : ∀ (b g : Nat), b < N → μ[b]? = some g → μ'[b]? = some g
  old : ∀ g ∈ alive μ' H', g < w.heap.size → g ∈ alive μ H
theorem StpN.refl (N : Nat) (μ : List Nat) (H : List Blk) (w : World) : StpN N μ H w μ H w := ⟨Keep.refl _ _, fun _ _ _ h => h, fun _ h _ => h⟩
theorem StpN.trans {N : Nat} {μ μ1 μ2 : List Nat} {H H1 H2 : List Blk} {w w1 w2 : World} (h : StpN N μ H w μ1 H1 w1) (k : Stp μ1 H1 w1 μ2 H2 w2) : StpN N μ H w μ2 H2 w2 :=
  ⟨h.keep.trans k.keep (fun x hx hl => h.old x hx hl), fun b g hb e => k.map b g (h.map b g hb e), fun g hg hl => h.old g (k.old g hg (Nat.lt_of_lt_of_le hl h.keep.size)) hl⟩

/-- the code ends as K says, in shadows -/
def lift (N : Nat) (X μ : List Nat) (h : List Blk) (w : World) (K : Exit → ASt → Prop) : Exit → Act → World → Prop :=
  fun e a' w' => ∃ s' μ', K e s' ∧ SimF X μ' s' a' w' ∧ StpN N μ h w μ' s'.h w'
def ACode (P : Program) (N : Nat) (c : Code) (s : ASt) (K : Exit → ASt → Prop) : Prop := ∀ X μ0 h0 w0 μ a w, SimF X μ s a w → StpN N μ0 h0 w0 μ s.h w → c.wp P (lift N X μ0 h0 w0 K) a w
def AOps (P : Program) (N : Nat) (all l : List Oper) (s : ASt) (K : Exit → ASt → Prop) : Prop := ∀ X μ0 h0 w0 μ a w, SimF X μ s a w → StpN N μ0 h0 w0 μ s.h w → wpList P all.toArray (lift N X μ0 h0 w0 K) l a w

def AGo (P : Program) (N : Nat) (R : ASt → Prop) : List Item → Exit → ASt → Prop
  | [], e, s => match e with | .normal => R s | .ret => R s | _ => False
  | .goal I :: k, e, s => match e with | .normal => I s | e => AGo P N R k e s
  | .blk id :: k, e, s => match e with | .normal => AGo P N R k .normal s | .exit id' => if id' = id then AGo P N R k .normal s else AGo P N R k (.exit id') s | e => AGo P N R k e s
  | .code c :: k, e, s => match e with | .normal => ACode P N c s (AGo P N R k) | e => AGo P N R k e s
  | .ops l all :: k, e, s => match e with | .normal => AOps P N all l s (AGo P N R k) | e => AGo P N R k e s

def ACall (P : Program) (f : FuncId) (args : List AV) (H : List Blk) (K : AV → List Blk → Prop) : Prop :=
  IsFn P f ∧ ∀ X μ w (vs : Array Value), Sim X μ H w → AV.repl (X ++ alive μ H) μ w args vs.toList →
    Calls P f vs w (fun e w' => ∃ r H' μ' v, e = .returned v ∧ K r H' ∧ Sim X μ' H' w' ∧ Stp μ H w μ' H' w' ∧ AV.rep (X ++ alive μ' H') μ' w' r v)

theorem ACall.mono {P : Program} {f : FuncId} {args : List AV} {H : List Blk} {K K' : AV → List Blk → Prop} (h : ACall P f args H K) (hk : ∀ r H', K r H' → K' r H') : ACall P f args H K' :=
  ⟨h.1, fun X μ w vs hS hr => (h.2 X μ w vs hS hr).mono fun e w' ⟨r, H', μ', v, h1, h2, h3⟩ => ⟨r, H', μ', v, h1, hk r H' h2, h3⟩⟩

/-- what is asked at a call, of the caller's state; ks: the own blocks that the call may change -/
def ACalls (P : Program) (f : FuncId) (args : List AV) (h : List Blk) (ks : List Nat) (K : AV → List Blk → Prop) : Prop :=
  IsFn P f ∧ ∀ X μ w (vs : Array Value), Sim X μ h w → AV.repl (X ++ alive μ h) μ w args vs.toList →
    Calls P f vs w (fun e w' => ∃ r h' μ' v, e = .returned v ∧ K r h' ∧ Sim X μ' h' w' ∧ Stp μ h w μ' h' w' ∧ AV.rep (X ++ alive μ' h') μ' w' r v ∧ Keep (mapK μ ks) w w')
theorem ACalls.mono {P : Program} {f : FuncId} {args : List AV} {h : List Blk} {ks : List Nat} {K K' : AV → List Blk → Prop} (hc : ACalls P f args h ks K) (hk : ∀ r H', K r H' → K' r H') : ACalls P f args h ks K' :=
  ⟨hc.1, fun X μ w vs hS hr => (hc.2 X μ w vs hS hr).mono fun e w' ⟨r, H', μ', v, h1, h2, h3⟩ => ⟨r, H', μ', v, h1, hk r H' h2, h3⟩⟩

def ADis (P : Program) (N : Nat) (R : ASt → Prop) : Out → Prop
  | .ret s => R s
  | .call f args h dst k s => ∃ ks, ACalls P f args h ks (fun r h' => AGo P N R k .normal (ASt.put ⟨s.n, s.t, h'⟩ dst r))
  | .loop c k s => AGo P N R (.code (.loop c) :: k) .normal s
  | .drawn id l k s => AGo P N R (.code (.region id l.toArray true) :: k) .normal s
  | .goal I s => I s
  | .bad _ => False
  | .fuel k s => AGo P N R k .normal s

section
variable {P : Program} {N : Nat} {R : ASt → Prop}

theorem AGo_ret {s : ASt} (h : R s) : ∀ k, AGo P N R k .ret s
  | [] => h
  | .goal _ :: k => AGo_ret h k
  | .blk _ :: k => AGo_ret h k
  | .code _ :: k => AGo_ret h k
  | .ops _ _ :: k => AGo_ret h k
theorem AGo_exit {s : ASt} {id : Nat} (k : List Item) : ∀ {k' : List Item}, exitK id k = some k' → AGo P N R k' .normal s → AGo P N R k (.exit id) s := by
  induction k with
  | nil => intro k' h _; simp [exitK] at h
  | cons x k ih =>
    intro k' h hg
    cases x with
    | blk id' =>
      simp only [exitK] at h
      simp only [AGo]
      split at h
      · rename_i e; subst e; cases h; simpa using hg
      · rename_i e; rw [if_neg (fun e' => e e'.symm)]; exact ih h hg
    | goal I => simp only [exitK] at h; exact ih h hg
    | code c => simp only [exitK] at h; exact ih h hg
    | ops l a => simp only [exitK] at h; exact ih h hg

theorem AGo_skip {x : Item} {k : List Item} (hx : (match x with | .code _ => true | .ops _ _ => true | _ => false) = true) {e : Exit} {s : ASt} (he : e ≠ .normal) (h : AGo P N R (x :: k) e s) : AGo P N R k e s := by
  cases x <;> simp at hx <;> cases e <;> first | exact absurd rfl he | exact h

theorem go_seq {x y : Code} {s : ASt} {k : List Item} (h : AGo P N R (.code x :: .code y :: k) .normal s) : AGo P N R (.code (.seq x y) :: k) .normal s := by
  intro X μ0 h0 w0 μ a w hF hT
  refine wp_seq (Code.wp_mono ?_ (h X μ0 h0 w0 μ a w hF hT))
  intro e a' w' ⟨s', μ', q1, q2, q3⟩
  cases e with
  | normal => exact q1 X μ0 h0 w0 μ' a' w' q2 q3
  | _ => exact ⟨s', μ', AGo_skip rfl (by simp) q1, q2, q3⟩

theorem go_block {c : Code} {id : Nat} {s : ASt} {k : List Item} (h : AGo P N R (.code c :: .blk id :: k) .normal s) : AGo P N R (.code (.block id c) :: k) .normal s := by
  intro X μ0 h0 w0 μ a w hF hT
  refine wp_block (Code.wp_mono ?_ (h X μ0 h0 w0 μ a w hF hT))
  intro e a' w' ⟨s', μ', q1, q2, q3⟩
  cases e with
  | exit id' =>
    simp only [Exit.inBlock]
    simp only [AGo] at q1
    split
    · rename_i e; rw [if_pos e] at q1; exact ⟨s', μ', q1, q2, q3⟩
    · rename_i e; rw [if_neg e] at q1; exact ⟨s', μ', q1, q2, q3⟩
  | _ => exact ⟨s', μ', q1, q2, q3⟩

theorem go_cond {c : Operand} {x y : Code} {b : Bool} {s : ASt} {k : List Item} (hc : s.eval c = some (.one (.sc (.bool b)))) (h : AGo P N R (.code (if b then x else y) :: k) .normal s) : AGo P N R (.code (.cond c x y) :: k) .normal s := by
  intro X μ0 h0 w0 μ a w hF hT
  exact wp_cond (AV.sc_eq (hF.eval hc)) (h X μ0 h0 w0 μ a w hF hT)

theorem go_region {id : Nat} {ops : Array Oper} {s : ASt} {k : List Item} (h : AGo P N R (.ops ops.toList ops.toList :: k) .normal s) : AGo P N R (.code (.region id ops false) :: k) .normal s := by
  intro X μ0 h0 w0 μ a w hF hT
  have := h X μ0 h0 w0 μ a w hF hT
  exact wp_region_list (by simpa using this)

theorem go_nil {all : List Oper} {s : ASt} {k : List Item} (h : AGo P N R k .normal s) : AGo P N R (.ops [] all :: k) .normal s := by
  intro X μ0 h0 w0 μ a w hF hT
  exact wpList_nil ⟨s, μ, h, hF, hT⟩

theorem wanted_spec {X μ : List Nat} {s : ASt} {a : Act} {w : World} (hF : SimF X μ s a w) {all : List Oper} {o : Oper} {b : Bool} (h : wantedA all s.t o.guard = some b) : Region.wanted o (yielded all.toArray a.tmps) = b := by
  unfold wantedA at h
  unfold Region.wanted
  split at h
  · rename_i hg; cases h; rw [hg]
  · rename_i j want hg
    rw [hg]
    split at h
    · rename_i oj hj
      split at h
      · rename_i d hd
        have hy : ∀ v, look d s.t = some v → AV.rep (X ++ alive μ s.h) μ w v (a.tmps.getD d undef) := fun v hv => hF.reg d v hv
        split at h
        · rename_i bb hl
          cases h
          have := AV.sc_eq (hy _ hl)
          rw [Array.getD_eq_getD_getElem?] at this
          have e : a.tmps[d]? = some (.bool bb) := by
            cases hq : a.tmps[d]? with
            | none => rw [hq] at this; simp [undef] at this
            | some x => rw [hq] at this; simp at this; rw [this]
          simp [yielded, hj, hd, e]
        · rename_i hl
          cases h
          have := hy _ hl
          simp only [AV.rep] at this
          obtain ⟨arr, h1, h2⟩ := this
          rw [Array.getD_eq_getD_getElem?] at h1
          have e : yielded all.toArray a.tmps j = none := by
            simp only [yielded, List.getElem?_toArray, hj, Option.bind_some, hd]
            cases hq : a.tmps[d]? with
            | none => rfl
            | some x => rw [hq] at h1; simp at h1; subst h1; rfl
          simp [e]
        · cases h
      · cases h
    · cases h

theorem go_off {o : Oper} {l all : List Oper} {s : ASt} {k : List Item} (hw : wantedA all s.t o.guard = some false) (h : AGo P N R (.ops l all :: k) .normal (s.put o.dst aundef)) : AGo P N R (.ops (o :: l) all :: k) .normal s := by
  intro X μ0 h0 w0 μ a w hF hT
  unfold wpList
  rw [wanted_spec hF hw, if_neg (by simp)]
  have hh : (s.put o.dst aundef).h = s.h := by cases hd : o.dst <;> simp only [ASt.put]; split <;> rfl
  exact h X μ0 h0 w0 μ _ w (hF.put (AV.rep_undef _ _ _)) (by rw [hh]; exact hT)

theorem put_h (s : ASt) (d : Option Tmp) (v : AV) : (s.put d v).h = s.h := by cases d <;> simp only [ASt.put]; split <;> rfl

theorem go_val {o : Oper} {l all : List Oper} {s : ASt} {k : List Item} {v : AV} {h' : List Blk} (hw : wantedA all s.t o.guard = some true) (ho : aopX P s o = .val v h') (h : AGo P N R (.ops l all :: k) .normal (ASt.put ⟨s.n, s.t, h'⟩ o.dst v)) : AGo P N R (.ops (o :: l) all :: k) .normal s := by
  intro X μ0 h0 w0 μ a w hF hT
  unfold wpList
  rw [wanted_spec hF hw, if_pos rfl]
  left
  obtain ⟨u, w', μ', h1, h2, h3, h4⟩ := aopX_val hF ho
  unfold Oper.wp
  rw [h1]
  have hF' := (hF.step h3 h2).put (d := o.dst) h4
  exact h X μ0 h0 w0 μ' _ w' hF' (by rw [put_h]; exact hT.trans h3)

theorem go_do {o : Oper} {l all : List Oper} {s : ASt} {k : List Item} {h' : List Blk} (hw : wantedA all s.t o.guard = some true) (ho : aop P s o = .skip h') (h : AGo P N R (.ops l all :: k) .normal (ASt.put ⟨s.n, s.t, h'⟩ o.dst aundef)) : AGo P N R (.ops (o :: l) all :: k) .normal s := by
  intro X μ0 h0 w0 μ a w hF hT
  unfold wpList
  rw [wanted_spec hF hw, if_pos rfl]
  left
  obtain ⟨w', h1, h2, h3⟩ := aop_skip hF ho
  unfold Oper.wp
  rw [h1]
  have hF' := (hF.step h3 h2).put (d := o.dst) (AV.rep_undef _ _ _)
  exact h X μ0 h0 w0 μ _ w' hF' (by rw [put_h]; exact hT.trans h3)

theorem outer_of {X μ : List Nat} {h1 : List Blk} {ks : List Nat} : (∀ x ∈ outer X μ h1 ks, x ∈ X ++ alive μ h1) := fun x hx => by
  unfold outer at hx
  rcases List.mem_append.1 hx with hx | hx
  · exact List.mem_append.2 (.inl hx)
  · exact List.mem_append.2 (.inr (List.mem_filter.1 hx).1)

theorem calls_of {X μ : List Nat} {h : List Blk} {w : World} {f : FuncId} {args : List AV} {ks : List Nat} {K : AV → List Blk → Prop} {vs : Array Value} (hS : Sim X μ h w) (hr : AV.repl (X ++ alive μ h) μ w args vs.toList) (hc : ACalls P f args h ks K) :
    IsFn P f ∧ Calls P f vs w (fun e w' => ∃ r h' μ' v, e = .returned v ∧ K r h' ∧ Sim X μ' h' w' ∧ Stp μ h w μ' h' w' ∧ AV.rep (X ++ alive μ' h') μ' w' r v ∧ Keep (mapK μ ks) w w') := ⟨hc.1, hc.2 X μ w vs hS hr⟩

/-- a call to which the own blocks ks are handed over -/
theorem acalls_at {h : List Blk} {f : FuncId} {args : List AV} {K : AV → List Blk → Prop} (ks : List Nat) {args' : List AV} {H h1 : List Blk} {K' : AV → List Blk → Prop} (hp : prepC h ks args = some (args', H, h1)) (hc : ACall P f args' H K') (hK : ∀ r H', K' r H' → K (r.ren (back h1.length ks)) (merge h1 ks H')) : ACalls P f args h ks K := by
  obtain ⟨hp, hkn⟩ := prepC_some hp
  obtain ⟨hfn, hcall⟩ := hc
  refine ⟨hfn, fun X μ w vs hS hr => ?_⟩
  have hH := prep_sound hS hp hr
  have hX2 : ∀ (m g : Nat) (k : Blk), (mapK μ ks)[m]? = some g → H[m]? = some k → k.st.known = true → g ∉ outer X μ h1 ks := fun i g q hi hq hk hx => by
    have hg : g ∈ mapK μ ks := List.mem_of_getElem? hi
    unfold outer at hx
    rcases List.mem_append.1 hx with hx | hx
    · have hil : i < ks.length := by have := (List.getElem?_eq_some_iff.1 hi).1; simpa [mapK] using this
      obtain ⟨k, k', f1, f3, f4⟩ := hH.blk i _ (List.getElem?_eq_getElem hil)
      rw [hq] at f3; cases f3
      obtain ⟨g', hg', _⟩ := hH.sim.get f1
      have := mapK_get (List.getElem?_eq_getElem hil) hg'
      rw [hi] at this; cases this
      exact hH.sim.out _ k g f1 (by rw [← f4]; exact hk) hg' hx
    · have := (List.mem_filter.1 hx).2
      simp at this
      exact this hg
  obtain ⟨q1, q2⟩ := hH.out (outer X μ h1 ks) outer_of hX2
  refine (hcall _ _ w vs q1 q2).mono fun e w' ⟨r, H', μ', v, he, hk, s1, s2, s3⟩ => ?_
  obtain ⟨μ3, t1, t2, t3, t4⟩ := take_back hH hkn s1 s2 s3
  exact ⟨_, _, μ3, v, he, hK _ _ hk, t1, hH.stp.trans t2, t3, t4⟩

theorem go_call {o : Oper} {l all : List Oper} {s : ASt} {k : List Item} {f : FuncId} {args : List AV} {ks : List Nat} (hw : wantedA all s.t o.guard = some true) (ho : aop P s o = .call f args)
    (h : ACalls P f args s.h ks (fun r h' => AGo P N R (.ops l all :: k) .normal (ASt.put ⟨s.n, s.t, h'⟩ o.dst r))) : AGo P N R (.ops (o :: l) all :: k) .normal s := by
  intro X μ0 h0 w0 μ a w hF hT
  unfold wpList
  rw [wanted_spec hF hw, if_pos rfl]
  left
  obtain ⟨vs, h1, h2⟩ := aop_call hF ho
  obtain ⟨hfn, hc⟩ := calls_of hF.sim h1 h
  unfold Oper.wp
  rw [h2 hfn]
  refine Calls.mono hc fun e w' ⟨r, h', μ', v, he, hk, s1, s2, s3, _⟩ => ?_
  subst he
  have hF' := (hF.step s2 s1).put (d := o.dst) s3
  exact hk X μ0 h0 w0 μ' _ w' hF' (by rw [put_h]; exact hT.trans s2)

theorem arun_sound : ∀ (n : Nat) (k : List Item) (s : ASt), ADis P N R (arun P n k s) → AGo P N R k .normal s := by
  intro n
  induction n with
  | zero => intro k s h; unfold arun at h; exact h
  | succ n ih =>
    intro k s h
    have hops : ∀ (o : Oper) (l all : List Oper) (k : List Item), ADis P N R (awant P n (wantedA all s.t o.guard) o l all k s) → AGo P N R (.ops (o :: l) all :: k) .normal s := by
      intro o l all k h
      cases hw : wantedA all s.t o.guard with
      | none => rw [hw, awant] at h; exact h.elim
      | some b =>
        cases b with
        | false => rw [hw, awant] at h; exact go_off hw (ih _ _ h)
        | true =>
          rw [hw, awant] at h
          cases ho : aopX P s o with
          | val v h' => rw [ho, astep] at h; exact go_val hw ho (ih _ _ h)
          | skip h' => rw [ho, astep] at h; exact go_do hw (aopX_skip ho) (ih _ _ h)
          | call f args =>
            rw [ho, astep] at h
            obtain ⟨ks, h⟩ := h
            exact go_call hw (aopX_call ho) h
          | bad => rw [ho, astep] at h; exact h.elim
    cases k with
    | nil => rw [arun] at h; exact h
    | cons x k =>
      cases x with
      | goal I => rw [arun] at h; exact h
      | blk id => rw [arun] at h; show AGo P N R k .normal s; exact ih _ _ h
      | ops l all =>
        cases l with
        | nil => rw [arun] at h; exact go_nil (ih _ _ h)
        | cons o l => rw [arun] at h; exact hops o l all k h
      | code c =>
        cases c with
        | skip => rw [arun] at h; intro X μ0 h0 w0 μ a w hF hT; exact wp_skip ⟨s, μ, ih _ _ h, hF, hT⟩
        | seq a b => rw [arun] at h; exact go_seq (ih _ _ h)
        | region id ops d =>
          rw [arun] at h
          cases d with
          | true => simp only [if_true] at h; simpa [ADis] using h
          | false => exact go_region (ih _ _ (by simpa using h))
        | cond c x y =>
          rw [arun] at h
          unfold acond at h
          split at h
          · rename_i b hc
            cases b with
            | true => rw [abr] at h; exact go_cond hc (ih _ _ h)
            | false => rw [abr] at h; exact go_cond hc (ih _ _ h)
          · exact h.elim
        | block id c => rw [arun] at h; exact go_block (ih _ _ h)
        | loop c => rw [arun] at h; exact h
        | exit id =>
          rw [arun] at h
          cases he : exitK id k with
          | none => rw [he] at h; exact h.elim
          | some k' =>
            rw [he] at h
            intro X μ0 h0 w0 μ a w hF hT
            exact wp_exit ⟨s, μ, AGo_exit k he (ih _ _ h), hF, hT⟩
        | ret => rw [arun] at h; intro X μ0 h0 w0 μ a w hF hT; exact wp_ret ⟨s, μ, AGo_ret h k, hF, hT⟩
        | rangeFunc f p a b => rw [arun] at h; exact h.elim; all_goals simp
        | scope b => rw [arun] at h; exact h.elim; all_goals simp
        | label b => rw [arun] at h; exact h.elim; all_goals simp
        | goto b => rw [arun] at h; exact h.elim; all_goals simp
        | refuse b => rw [arun] at h; exact h.elim; all_goals simp

/-! ### loops -/
def ASt.gets (t : List (Nat × AV)) : List Nat → Option (List AV)
  | [] => some []
  | x :: l => match look x t, ASt.gets t l with | some v, some vs => some (v :: vs) | _, _ => none
def zipT : List Nat → List AV → List (Nat × AV)
  | x :: l, v :: vs => (x, v) :: zipT l vs
  | _, _ => []

theorem zip_look {t : List (Nat × AV)} {L μ : List Nat} {w : World} {tm : Array Value} (ht : ∀ (x : Nat) (v : AV), look x t = some v → AV.rep L μ w v (tm.getD x undef)) : ∀ {l : List Nat} {vs : List AV}, ASt.gets t l = some vs → ∀ (x : Nat) (v : AV), look x (zipT l vs) = some v → AV.rep L μ w v (tm.getD x undef)
  | [], vs, h, x, v, hl => by simp only [ASt.gets, Option.some.injEq] at h; subst h; simp [zipT, look] at hl
  | y :: l, vs, h, x, v, hl => by
    simp only [ASt.gets] at h
    split at h
    · rename_i v1 vs1 h1 h2
      cases h
      simp only [zipT, look] at hl
      split at hl
      · rename_i e; subst e; cases hl; exact ht _ _ h1
      · exact zip_look ht h2 x v hl
    · cases h

theorem wp_loop_rel {Q : Exit → Act → World → Prop} {a : Act} {w : World} {c : Code} (I : Nat → Act → World → Prop) (h0 : ∃ n, I n a w) (round : ∀ n a w, I n a w → c.wp P (Exit.then (fun a' w' => ∃ n', n' < n ∧ I n' a' w') Q) a w) : (Code.loop c).wp P Q a w := by
  intro b k cs
  have key : ∀ n a w, I n a w →
      ∃ e a' w', Q e a' w' ∧ Arrives P (lone (b.at a (.code c :: .inLoop c :: k)) cs w) b k cs e a' w' := by
    intro n
    induction n using Nat.strongRecOn with
    | _ n ih =>
      intro a w hI
      obtain ⟨e, a1, w1, hq, harr⟩ := round n a w hI b (.inLoop c :: k) cs
      cases e with
      | normal =>
        obtain ⟨n', hlt, hI1⟩ := hq
        obtain ⟨e2, a2, w2, hq2, harr2⟩ := ih n' hlt a1 w1 hI1
        exact ⟨e2, a2, w2, hq2, .of_steps (Steps.trans harr (.one step_inLoop)) harr2⟩
      | exit id => exact ⟨_, a1, w1, hq, .pass (x := .inLoop c) rfl (fun _ _ => .inl (by simp)) harr⟩
      | goto l => exact ⟨_, a1, w1, hq, .pass (x := .inLoop c) rfl (fun _ _ => .inl (by simp)) harr⟩
      | ret => exact ⟨_, a1, w1, hq, .pass (x := .inLoop c) rfl (fun _ _ => .inl (by simp)) harr⟩
      | panic ch => exact ⟨_, a1, w1, hq, .pass (x := .inLoop c) rfl (fun _ _ => .inl (by simp)) harr⟩
      | outgrown => exact ⟨_, a1, w1, hq, .pass (x := .inLoop c) rfl (fun _ _ => .inl (by simp)) harr⟩
  obtain ⟨n, hn⟩ := h0
  obtain ⟨e, a', w', hq, harr⟩ := key n a w hn
  exact ⟨e, a', w', hq, .of_steps (.one step_loop) harr⟩

theorem StpN.prep {μ0 : List Nat} {h0 : List Blk} {w0 w : World} {X μ : List Nat} {h : List Blk} {ks : List Nat} {vs' : List AV} {us : List Value} {K h1 : List Blk} (hT : StpN N μ0 h0 w0 μ h w) (hH : Handed X μ h w (List.range N ++ ks) vs' us K h1) : StpN N μ0 h0 w0 (mapK μ (List.range N ++ ks)) K w := by
  refine ⟨hT.keep, fun b g hb e => mapK_get (b := b) (by rw [List.getElem?_append_left (by simpa using hb), List.getElem?_range hb]) (hT.map b g hb e), fun g hg hl => ?_⟩
  obtain ⟨i, q, e1, e2, e3⟩ := mem_alive.1 hg
  have hil : i < (List.range N ++ ks).length := by have := (List.getElem?_eq_some_iff.1 e1).1; simpa [mapK] using this
  obtain ⟨k, k', f1, f3, f4⟩ := hH.blk i _ (List.getElem?_eq_getElem hil)
  rw [f3] at e2; cases e2
  obtain ⟨g', hg', _⟩ := hH.sim.get f1
  have := mapK_get (List.getElem?_eq_getElem hil) hg'
  rw [e1] at this; cases this
  have : g ∈ alive μ h1 := mem_alive.2 ⟨_, k, hg', f1, by rw [← f4]; exact e3⟩
  exact hT.old g (hH.stp.old g this (Nat.lt_of_lt_of_le hl hT.keep.size)) hl

theorem Handed.apart {X μ : List Nat} {h : List Blk} {w : World} {ks : List Nat} {vs' : List AV} {us : List Value} {K h1 : List Blk} (hH : Handed X μ h w ks vs' us K h1) : ∀ (m g : Nat) (k : Blk), (mapK μ ks)[m]? = some g → K[m]? = some k → k.st.known = true → g ∉ X := fun i g q hi hq hk => by
  have hil : i < ks.length := by have := (List.getElem?_eq_some_iff.1 hi).1; simpa [mapK] using this
  obtain ⟨k, k', f1, f3, f4⟩ := hH.blk i _ (List.getElem?_eq_getElem hil)
  rw [hq] at f3; cases f3
  obtain ⟨g', hg', _⟩ := hH.sim.get f1
  have := mapK_get (List.getElem?_eq_getElem hil) hg'
  rw [hi] at this; cases this
  exact hH.sim.out _ k g f1 (by rw [← f4]; exact hk) hg'
theorem Handed.free {X μ : List Nat} {h : List Blk} {w : World} {ks : List Nat} {vs' : List AV} {us : List Value} {K h1 : List Blk} (hH : Handed X μ h w ks vs' us K h1) : Sim X (mapK μ ks) K w ∧ AV.repl (X ++ alive (mapK μ ks) K) (mapK μ ks) w vs' us := by
  exact hH.out X (fun x hx => List.mem_append.2 (.inl hx)) hH.apart

theorem gets_repl {t : List (Nat × AV)} {L μ : List Nat} {w : World} {tm : Array Value} (ht : ∀ (x : Nat) (v : AV), look x t = some v → AV.rep L μ w v (tm.getD x undef)) : ∀ {l : List Nat} {vs : List AV}, ASt.gets t l = some vs → AV.repl L μ w vs (l.map fun x => tm.getD x undef)
  | [], vs, h => by simp only [ASt.gets, Option.some.injEq] at h; subst h; simp [AV.repl]
  | x :: l, vs, h => by
    simp only [ASt.gets] at h
    split at h
    · rename_i v1 vs1 h1 h2
      cases h
      simp only [List.map_cons, AV.repl]
      exact ⟨_, _, rfl, ht x v1 h1, gets_repl ht h2⟩
    · cases h
theorem repl_zip {L μ : List Nat} {w : World} {tm : Array Value} : ∀ {l : List Nat} {vs : List AV}, AV.repl L μ w vs (l.map fun x => tm.getD x undef) → ∀ (x : Nat) (v : AV), look x (zipT l vs) = some v → AV.rep L μ w v (tm.getD x undef)
  | [], vs, h, x, v, hl => by cases vs <;> simp [zipT, look] at hl
  | y :: l, [], h, x, v, hl => by simp [zipT, look] at hl
  | y :: l, v1 :: vs, h, x, v, hl => by
    simp only [List.map_cons, AV.repl] at h
    obtain ⟨u, us', e, h1, h2⟩ := h
    cases e
    simp only [zipT, look] at hl
    split at hl
    · rename_i e; subst e; cases hl; exact h1
    · exact repl_zip h2 x v hl

/-- the state, brought down to these slots and these own blocks (beside the first N) -/
def AHead (N : Nat) (l : List Nat) (I : List AV → List Blk → Prop) (s : ASt) : Prop :=
  (∃ ks, match ASt.gets s.t l with
    | some vs => (match prep false s.h (List.range N ++ ks) vs with
      | some (vs', K, _) => I vs' K
      | none => False)
    | none => False) ∨ ∃ vs, ASt.gets s.t l = some vs ∧ I vs s.h

theorem head_sound {X μ0 : List Nat} {h0 : List Blk} {w0 : World} {μ : List Nat} {s : ASt} {a : Act} {w : World} {l : List Nat} {I : List AV → List Blk → Prop} (hF : SimF X μ s a w) (hT : StpN N μ0 h0 w0 μ s.h w) (h : AHead N l I s) :
    ∃ μ' vs K, I vs K ∧ SimF X μ' ⟨s.n, zipT l vs, K⟩ a w ∧ StpN N μ0 h0 w0 μ' K w := by
  rcases h with ⟨ks, h⟩ | ⟨vs, hvs, h⟩
  case inr => exact ⟨μ, vs, s.h, h, ⟨hF.size, hF.ds, hF.sim, zip_look hF.reg hvs⟩, hT⟩
  split at h
  · rename_i vs hvs
    split at h
    · rename_i vs' K h1 hp
      have hH := prep_sound hF.sim hp (gets_repl hF.reg hvs)
      obtain ⟨s1, s2⟩ := hH.free
      exact ⟨_, vs', K, h, ⟨hF.size, hF.ds, s1, repl_zip s2⟩, hT.prep hH⟩
    · exact h.elim
  · exact h.elim

/-- a loop of at most so many rounds, round by round -/
def ALoop (P : Program) (N : Nat) (R : ASt → Prop) (c : Code) (k : List Item) : Nat → ASt → Prop
  | 0, _ => False
  | n + 1, s => AGo P N R (.code c :: .goal (ALoop P N R c k n) :: k) .normal s
theorem go_rounds {c : Code} {s : ASt} {k : List Item} (n : Nat) (h : ALoop P N R c k n s) : AGo P N R (.code (.loop c) :: k) .normal s := by
  intro X μ0 hh0 w0 μ a w hF hT
  refine wp_loop_rel (fun n a w => ∃ μ s, ALoop P N R c k n s ∧ SimF X μ s a w ∧ StpN N μ0 hh0 w0 μ s.h w) ⟨n, μ, s, h, hF, hT⟩ ?_
  intro n a w ⟨μ, s, hL, hF, hT⟩
  cases n with
  | zero => exact hL.elim
  | succ n =>
    refine Code.wp_mono ?_ (hL X μ0 hh0 w0 μ a w hF hT)
    intro e a' w' ⟨s', μ', q1, q2, q3⟩
    cases e with
    | normal => exact ⟨n, Nat.lt_succ_self n, μ', s', q1, q2, q3⟩
    | _ => exact ⟨s', μ', q1, q2, q3⟩

/-! ### a function as a whole -/
def slots : Nat → List AV → List (Nat × AV)
  | _, [] => []
  | i, v :: vs => (i, v) :: slots (i + 1) vs
def ares' (P : Program) (s : ASt) : List ResultVar → Option (List AV)
  | [] => some []
  | .tmp t :: l => match look t s.t, ares' P s l with | some v, some vs => some (v :: vs) | _, _ => none
  | .cell t ty :: l => match look t s.t, ares' P s l with
    | some (.one p), some vs => match aload P s.h ty p with | some v => some (v :: vs) | none => none
    | _, _ => none
def aresult (P : Program) (s : ASt) (rs : List ResultVar) : Option AV := match ares' P s rs with
  | some [v] => some v
  | some vs => some (.tup vs)
  | none => none

theorem slots_look {L μ : List Nat} {w : World} : ∀ {vs : List AV} {us : List Value}, AV.repl L μ w vs us → ∀ (i x : Nat) (v : AV), look x (slots i vs) = some v → i ≤ x ∧ ∃ u, us[x - i]? = some u ∧ AV.rep L μ w v u
  | [], us, h, i, x, v, hl => by simp [slots, look] at hl
  | v0 :: vs, us, h, i, x, v, hl => by
    simp only [AV.repl] at h
    obtain ⟨u, us', rfl, h1, h2⟩ := h
    simp only [slots, look] at hl
    split at hl
    · rename_i e; subst e; cases hl; exact ⟨Nat.le_refl _, u, by simp, h1⟩
    · obtain ⟨q1, u', q2, q3⟩ := slots_look h2 (i + 1) x v hl
      refine ⟨by omega, u', ?_, q3⟩
      rw [show x - i = (x - (i + 1)) + 1 from by omega, List.getElem?_cons_succ]; exact q2

theorem AV.repl_length {L μ : List Nat} {w : World} : ∀ {vs : List AV} {us : List Value}, AV.repl L μ w vs us → us.length = vs.length
  | [], us, h => by simp only [AV.repl] at h; simp [h]
  | v :: vs, us, h => by
    simp only [AV.repl] at h
    obtain ⟨u, us', rfl, _, h3⟩ := h
    simp [AV.repl_length h3]

def resF (tm : Array Value) : ResultVar → Sem Value
  | .tmp t => pure (tm.getD t undef)
  | .cell a t => do loadVar t (← asAddr (tm.getD a undef))

theorem ares_sound {X μ : List Nat} {s : ASt} {a : Act} {w : World} (hF : SimF X μ s a w) : ∀ {rs : List ResultVar} {vs : List AV}, ares' P s rs = some vs → ∃ us : List Value, AV.repl (X ++ alive μ s.h) μ w vs us ∧ (rs.mapM (resF a.tmps)).run P w = .ok us w
  | [], vs, h => by
    simp only [ares', Option.some.injEq] at h
    subst h
    exact ⟨[], by simp [AV.repl], by simp⟩
  | .tmp t :: rs, vs, h => by
    simp only [ares'] at h
    split at h
    · rename_i v vs' h1 h2
      cases h
      obtain ⟨us, q1, q2⟩ := ares_sound hF h2
      exact ⟨_ :: us, by simp only [AV.repl]; exact ⟨_, _, rfl, hF.reg t v h1, q1⟩, by simp [List.mapM_cons, q2, resF]⟩
    · cases h
  | .cell t ty :: rs, vs, h => by
    simp only [ares'] at h
    split at h
    · rename_i p vs' h1 h2
      split at h
      · rename_i v hv
        cases h
        obtain ⟨us, q1, q2⟩ := ares_sound hF h2
        obtain ⟨g, u, _, _, h3, h4⟩ := op_load (P := P) (o := { dst := none, op := .load ty (.tmp t), type := 0, pos := "", after := #[], guard := none }) (x := .tmp t) (t := ty) rfl hF h1 hv
        have h5 := h3 w rfl
        have hp := hF.reg t _ h1
        simp only [AV.rep] at hp
        have h6 : (resF a.tmps (.cell t ty)).run P w = .ok u w := by
          have hsh : ∃ ad, a.tmps.getD t undef = .pointer (some ad) := by
            unfold aload at hv
            split at hv
            · rename_i ti cs hti hcs
              obtain ⟨g, off, he, _⟩ := acells_spec hF.sim hcs hp
              exact ⟨_, he⟩
            · cases hv
          obtain ⟨ad, had⟩ := hsh
          have e : a.eval (.tmp t) = .pointer (some ad) := had
          simp only [execOp, Sem.run_bind, e, Instr.loadAt, Instr.sureAddr, Sem.run_pure, Result.andThen_ok] at h5
          simp only [resF, had, asAddr, Sem.run_bind, Sem.run_pure, Result.andThen_ok]
          cases hq : (loadVar ty ad).run P w with
          | ok x w1 => rw [hq] at h5; simp at h5; rw [h5.1, h5.2]
          | halt x w1 => rw [hq] at h5; simp at h5
        exact ⟨u :: us, by simp only [AV.repl]; exact ⟨_, _, rfl, h4, q1⟩, by simp [List.mapM_cons, q2, h6]⟩
      · cases h
    · cases h

theorem aresult_sound {X μ : List Nat} {s : ASt} {a : Act} {w : World} (hF : SimF X μ s a w) {fn : Func} {v : AV} (h : aresult P s fn.results.toList = some v) : ∃ u, AV.rep (X ++ alive μ s.h) μ w v u ∧ (results fn a.tmps).run P w = .ok u w := by
  have key : ∀ vs, ares' P s fn.results.toList = some vs → ∃ us : List Value, AV.repl (X ++ alive μ s.h) μ w vs us ∧ (results fn a.tmps).run P w = .ok (if h : us.toArray.size = 1 then us.toArray[0] else .tuple us.toArray) w := by
    intro vs hvs
    obtain ⟨us, q1, q2⟩ := ares_sound hF hvs
    refine ⟨us, q1, ?_⟩
    have hm : (fn.results.mapM (resF a.tmps)).run P w = .ok us.toArray w := by
      rw [Array.mapM_eq_mapM_toList]
      simp [q2]
    have hr : results fn a.tmps = (do let vs ← fn.results.mapM (resF a.tmps); pure (if h : vs.size = 1 then vs[0] else .tuple vs)) := rfl
    rw [hr]
    simp only [Sem.run_bind, hm, Result.andThen_ok, Sem.run_pure]
  unfold aresult at h
  split at h
  · rename_i v1 hv1
    cases h
    obtain ⟨us, q1, q2⟩ := key _ hv1
    simp only [AV.repl] at q1
    obtain ⟨u, us', rfl, r1, rfl⟩ := q1
    exact ⟨u, r1, by rw [q2]; simp⟩
  · rename_i vs hne hvs
    cases h
    obtain ⟨us, q1, q2⟩ := key _ hvs
    have hl := AV.repl_length q1
    have : ¬ us.toArray.size = 1 := fun e => by
      have e : us.length = 1 := by simpa using e
      rw [e] at hl
      match vs, hl with
      | [x], _ => exact hne x rfl
      | [], hl => simp at hl
      | _ :: _ :: _, hl => simp at hl
    refine ⟨.tuple us.toArray, by simp only [AV.rep]; exact ⟨_, rfl, by simpa using q1⟩, by rw [q2, dif_neg this]⟩
  · cases h

/-- what is asked at the end: ks the own blocks that are handed back beside those that came in -/
def ARet (P : Program) (rs : List ResultVar) (n : Nat) (K : AV → List Blk → Prop) (s : ASt) : Prop :=
  (∃ ks z, match aresult P s rs with
    | some r => (match prep z s.h (List.range n ++ ks) [r] with
      | some ([r'], H', _) => K r' H'
      | _ => False)
    | none => False) ∨ ∃ r, aresult P s rs = some r ∧ K r s.h

/-- A function's contract, from a run of its body. -/
theorem acall_of {f : FuncId} {fn : Func} {c : Code} {args : List AV} {H : List Blk} {K : AV → List Blk → Prop} (hf : P.funcs[f]? = some fn) (hb : fn.body = some c) (hfn : IsFn P f) (hn : args.length ≤ fn.ntmps)
    (h : AGo P H.length (ARet P fn.results.toList H.length K) [.code c] .normal ⟨fn.ntmps, slots 0 args, H⟩) : ACall P f args H K := by
  refine ⟨hfn, fun X μ w vs hS hr => calls_of_wp hf hb ?_⟩
  have hvl : vs.size = args.length := by have := AV.repl_length hr; simpa using this
  have hF : SimF X μ ⟨fn.ntmps, slots 0 args, H⟩ { tmps := vs ++ Array.replicate (fn.ntmps - vs.size) undef, defers := [] } w := by
    refine ⟨by simp; omega, rfl, hS, fun t v hl => ?_⟩
    obtain ⟨_, u, h1, h2⟩ := slots_look hr 0 t v hl
    have h1' : vs[t]? = some u := by simpa using h1
    have hlt := (Array.getElem?_eq_some_iff.1 h1').1
    rw [Array.getD_eq_getD_getElem?, Array.getElem?_append_left hlt, h1']
    exact h2
  refine Code.wp_mono ?_ (h X μ H w μ _ w hF (StpN.refl _ _ _ _))
  intro e a' w' ⟨s', μ', q1, q2, q3⟩
  have fin : (∃ ks z, ∃ r r' H' h1, aresult P s' fn.results.toList = some r ∧ prep z s'.h (List.range H.length ++ ks) [r] = some ([r'], H', h1) ∧ K r' H') → bodyPost P fn (fun e w' => ∃ r H' μ' v, e = .returned v ∧ K r H' ∧ Sim X μ' H' w' ∧ Stp μ H w μ' H' w' ∧ AV.rep (X ++ alive μ' H') μ' w' r v) .normal a' w' := by
    rintro ⟨ks, z, r, r', H', h1, hres, hp, hK⟩
    obtain ⟨u, hu, hrun⟩ := aresult_sound q2 hres
    refine ⟨q2.ds, u, hrun, r', H', mapK μ' (List.range H.length ++ ks), u, rfl, hK, ?_⟩
    have hH := prep_sound q2.sim hp (us := [u]) (by simp only [AV.repl]; exact ⟨u, [], rfl, hu, rfl⟩)
    obtain ⟨s1, s2⟩ := hH.free
    simp only [AV.repl] at s2
    obtain ⟨u', _, e1, s2, _⟩ := s2
    cases e1
    refine ⟨s1, ⟨q3.keep, fun b g hb => ?_, fun g hg hlt => ?_⟩, s2⟩
    · have hbl : b < H.length := by rw [← hS.len]; exact (List.getElem?_eq_some_iff.1 hb).1
      exact mapK_get (b := b) (by rw [List.getElem?_append_left (by simpa using hbl), List.getElem?_range hbl]) (q3.map b g hbl hb)
    · obtain ⟨i, q, e1, e2, e3⟩ := mem_alive.1 hg
      have hil : i < (List.range H.length ++ ks).length := by have := (List.getElem?_eq_some_iff.1 e1).1; simpa [mapK] using this
      obtain ⟨k, k', f1, f3, f4⟩ := hH.blk i _ (List.getElem?_eq_getElem hil)
      rw [f3] at e2; cases e2
      obtain ⟨g', hg', _⟩ := hH.sim.get f1
      have := mapK_get (List.getElem?_eq_getElem hil) hg'
      rw [e1] at this; cases this
      have : g ∈ alive μ' h1 := mem_alive.2 ⟨_, k, hg', f1, by rw [← f4]; exact e3⟩
      exact q3.old g (hH.stp.old g this (Nat.lt_of_lt_of_le hlt q3.keep.size)) hlt
  have conv : ARet P fn.results.toList H.length K s' → bodyPost P fn (fun e w' => ∃ r H' μ' v, e = .returned v ∧ K r H' ∧ Sim X μ' H' w' ∧ Stp μ H w μ' H' w' ∧ AV.rep (X ++ alive μ' H') μ' w' r v) .normal a' w' := by
    rintro (⟨ks, z, hq⟩ | ⟨r, hr, hK⟩)
    · split at hq
      · rename_i r hr
        split at hq
        · rename_i r' H' h1 hp
          exact fin ⟨ks, z, r, r', H', h1, hr, hp, hq⟩
        · exact hq.elim
      · exact hq.elim
    · obtain ⟨u, hu, hrun⟩ := aresult_sound q2 hr
      exact ⟨q2.ds, u, hrun, r, s'.h, μ', u, rfl, hK, q2.sim, ⟨q3.keep, fun b g hb => q3.map b g (by rw [← hS.len]; exact (List.getElem?_eq_some_iff.1 hb).1) hb, q3.old⟩, hu⟩
  cases e with
  | normal => exact conv q1
  | ret => exact conv q1
  | _ => exact q1.elim
end
end Go.Proofs.Sh
