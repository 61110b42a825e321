/- A run on shadows is sound. -/
import Derived.Test.YtkkijdlgmlffoaaShF
namespace Go.Proofs.Sh
open Go.RowKit

section
variable {P : Program} {X μ : List Nat} {s : ASt} {a : Act} {w : World} {o : Oper} {v : AV} {h' : List Blk}

theorem ares_val {x : Option AV} {h : List Blk} (e : ares x h = .val v h') : x = some v ∧ h' = h := by
  unfold ares at e; split at e
  · injection e with e1 e2; exact ⟨by rw [e1], e2.symm⟩
  · cases e
theorem ares1_val {x : Operand} {g : AV → Option AV} (e : ares1 s x g = .val v h') : ∃ u, s.eval x = some u ∧ g u = some v ∧ h' = s.h := by
  unfold ares1 at e; split at e
  · rename_i u hu; obtain ⟨e1, e2⟩ := ares_val e; exact ⟨u, hu, e1, e2⟩
  · cases e
theorem ares2_val {x y : Operand} {g : AV → AV → Option AV} (e : ares2 s x y g = .val v h') : ∃ u1 u2, s.eval x = some u1 ∧ s.eval y = some u2 ∧ g u1 u2 = some v ∧ h' = s.h := by
  unfold ares2 at e; split at e
  · rename_i u1 u2 h1 h2; obtain ⟨e1, e2⟩ := ares_val e; exact ⟨u1, u2, h1, h2, e1, e2⟩
  · cases e
theorem ared_val {x : Option (List Blk)} : ared x ≠ .val v h' := by unfold ared; split <;> simp

theorem call_ne_val {c : Call} : acall s c ≠ .val v h' := by
  unfold acall; split
  · split <;> simp
  · simp

theorem aop_val (hF : SimF X μ s a w) (e : aop P s o = .val v h') : OpOK P X μ s a w o v h' := by
  unfold aop at e
  split at e
  · rename_i x ho; obtain ⟨e1, rfl⟩ := ares_val e; exact OpOK.of_pure hF (pure_move ho hF e1)
  · rename_i x ho; obtain ⟨e1, rfl⟩ := ares_val e; exact OpOK.of_pure hF (pure_assign ho hF e1)
  · rename_i c x y ho
    split at e
    · rename_i b v1 v2 h1 h2 h3
      injection e with e1 e2; subst e1 e2
      exact OpOK.of_pure hF (pure_pick ho hF h1 h2 h3)
    · cases e
  · rename_i t ho
    split at e
    · rename_i ti hti
      split at e
      · injection e with e1 e2; subst e1 e2; exact (op_alloc ho hF hti).ok
      · cases e
    · cases e
  · rename_i t x ho
    split at e
    · rename_i cs hx
      injection e with e1 e2; subst e1 e2; exact (op_box ho hF hx).ok
    · cases e
  · rename_i t parts ho; obtain ⟨e1, rfl⟩ := ares_val e; exact OpOK.of_pure hF (op_build ho hF e1)
  · rename_i t len parts ho; exact (op_buildSlice ho hF e).ok
  · rename_i t x ho
    split at e
    · rename_i p hp
      obtain ⟨e1, rfl⟩ := ares_val e
      obtain ⟨g, u, _, _, h3, h4⟩ := op_load ho hF hp e1
      exact ⟨u, w, μ, h3 w rfl, hF.sim, Stp.refl _ _ _, h4⟩
    · cases e
  · rename_i t x y ho
    split at e
    · exact absurd e ared_val
    · cases e
  · rename_i x ho
    split at e
    · rename_i hx; injection e with e1 e2; subst e1 e2; exact OpOK.of_pure hF (pure_nilCheck ho hF hx rfl)
    · rename_i hx; injection e with e1 e2; subst e1 e2; exact OpOK.of_pure hF (pure_nilCheck ho hF hx rfl)
    · rename_i hx; injection e with e1 e2; subst e1 e2; exact OpOK.of_pure hF (pure_nilCheck ho hF hx rfl)
    · cases e
  · rename_i op t x y t' ho
    obtain ⟨u1, u2, h1, h2, h3, rfl⟩ := ares2_val e
    exact OpOK.of_pure hF (pure_bin ho hF h1 h2 h3)
  · rename_i op t x ho
    obtain ⟨u1, h1, h3, rfl⟩ := ares1_val e
    exact OpOK.of_pure hF (pure_un ho hF h1 h3)
  · rename_i t t' x ho
    split at e
    · rename_i k' n k hx ht'
      split at e
      · rename_i ht; injection e with e1 e2; subst e1 e2; exact OpOK.of_pure hF (pure_conv ho hF hx ht ht')
      · cases e
    · cases e
  · rename_i f first cs ho
    split at e
    · rename_i hf
      split at e
      · rename_i cc hcc; injection e with e1 e2; subst e1 e2; exact OpOK.of_pure hF (pure_makeFunc ho hF hf hcc)
      · cases e
    · cases e
  · rename_i t l c ho
    split at e
    · rename_i h1 h2; exact (op_makeSlice ho hF h1 h2 e).ok
    · cases e
  · rename_i t x lo hi ho
    obtain ⟨u1, h1, h3, rfl⟩ := ares1_val e
    exact OpOK.of_pure hF (pure_slice ho hF h1 h3)
  · rename_i t x f ho
    obtain ⟨u1, h1, h3, rfl⟩ := ares1_val e
    exact OpOK.of_pure hF (pure_fieldAddr ho hF h1 h3)
  · rename_i t x f ho
    obtain ⟨u1, h1, h3, rfl⟩ := ares1_val e
    exact OpOK.of_pure hF (pure_field ho hF h1 h3)
  · rename_i t x i ho
    obtain ⟨u1, u2, h1, h2, h3, rfl⟩ := ares2_val e
    exact OpOK.of_pure hF (pure_indexAddr ho hF h1 h2 h3)
  · rename_i x k ho
    split at e
    · rename_i vs hx; obtain ⟨e1, rfl⟩ := ares_val e; exact OpOK.of_pure hF (pure_extract ho hF hx e1)
    · cases e
  · rename_i b args ts ho
    unfold abuiltin at e
    split at e
    · rename_i x t ha ht
      obtain ⟨u1, h1, h3, rfl⟩ := ares1_val e
      have ha' : args = #[x] := by rw [← Array.toArray_toList (xs := args), ha]
      have ht' : ts = #[t] := by rw [← Array.toArray_toList (xs := ts), ht]
      subst ha' ht'
      exact OpOK.of_pure hF (pure_len ho hF h1 h3)
    · rename_i x y t t' ha ht
      have ha' : args = #[x, y] := by rw [← Array.toArray_toList (xs := args), ha]
      have ht' : ts = #[t, t'] := by rw [← Array.toArray_toList (xs := ts), ht]
      subst ha' ht'
      split at e
      · rename_i h1 h2
        split at e
        · rename_i htt; subst htt; exact op_append ho hF h1 h2 e
        · cases e
      · cases e
    · cases e
  · exact absurd e call_ne_val
  · cases e

theorem aop_skip (hF : SimF X μ s a w) (e : aop P s o = .skip h') : ∃ w', (execOp a.eval o).run P w = .ok .skip w' ∧ Sim X μ h' w' ∧ Stp μ s.h w μ h' w' := by
  have na : ∀ (x : Option AV) (h : List Blk), ares x h ≠ .skip h' := fun x h => by unfold ares; split <;> simp
  have n1 : ∀ (x : Operand) (g : AV → Option AV), ares1 s x g ≠ .skip h' := fun x g => by unfold ares1; split; exact na _ _; simp
  have n2 : ∀ (x y : Operand) (g : AV → AV → Option AV), ares2 s x y g ≠ .skip h' := fun x y g => by unfold ares2; split; exact na _ _; simp
  have n3 : ∀ t l p, abuildSlice P s.h t l p ≠ .skip h' := fun t l p => by unfold abuildSlice; (repeat' split) <;> simp
  have n4 : ∀ t x y, amakeSlice P s.h t x y ≠ .skip h' := fun t x y => by unfold amakeSlice; (repeat' split) <;> simp
  have n5 : ∀ t x y, aappend P s.h t x y ≠ .skip h' := fun t x y => by unfold aappend; (repeat' split) <;> simp
  have n6 : ∀ c, acall s c ≠ .skip h' := fun c => by unfold acall; (repeat' split) <;> simp
  unfold aop at e
  split at e
  case h_9 t x y ho =>
    split at e
    · rename_i p v hp hv
      unfold ared at e
      split at e
      · rename_i h2 hst
        injection e with e; subst e
        exact op_store ho hF hp hv hst
      · cases e
    · cases e
  all_goals exfalso
  all_goals first
    | exact na _ _ e
    | exact n1 _ _ e
    | exact n2 _ _ _ e
    | exact n3 _ _ _ e
    | exact n6 _ e
    | (cases e; done)
    | (split at e <;> first | (cases e; done) | exact na _ _ e | exact n4 _ _ _ e | (split at e <;> first | (cases e; done) | exact na _ _ e))
    | (unfold abuiltin at e; split at e <;> first | (cases e; done) | exact n1 _ _ e | (split at e <;> first | (cases e; done) | (split at e <;> first | (cases e; done) | exact n5 _ _ _ e)))

theorem vals_rep {L : List Nat} : ∀ {os : List Operand} {vs : List AV}, (∀ o v, s.eval o = some v → AV.rep L μ w v (a.eval o)) → vals (os.map s.eval) = some vs → AV.repl L μ w vs (os.map a.eval)
  | [], cs, _, h => by simp only [List.map_nil, vals, Option.some.injEq] at h; subst h; simp [AV.repl]
  | o :: os, cs, he, h => by
    cases hq : s.eval o with
    | none => simp [vals, hq] at h
    | some v =>
      simp only [List.map_cons, hq, vals, Option.map_eq_some_iff] at h
      obtain ⟨cs', h2, rfl⟩ := h
      simp only [List.map_cons, AV.repl]
      exact ⟨_, _, rfl, he o _ hq, vals_rep he h2⟩
theorem AV.repl_append {L : List Nat} {vs vs2 : List AV} {us us2 : List Value} (h : AV.repl L μ w vs us) (k : AV.repl L μ w vs2 us2) : AV.repl L μ w (vs ++ vs2) (us ++ us2) := by
  induction vs generalizing us with
  | nil => simp only [AV.repl] at h; subst h; simpa using k
  | cons v vs ih =>
    simp only [AV.repl] at h
    obtain ⟨u, us', rfl, h2, h3⟩ := h
    simp only [List.cons_append, AV.repl]
    exact ⟨u, us' ++ us2, rfl, h2, ih h3⟩
theorem AV.repl_one {L : List Nat} : ∀ {cs : List C} {us : List Value}, C.repl L μ w cs us → AV.repl L μ w (cs.map .one) us
  | [], us, h => by simpa [C.repl, AV.repl] using h
  | c :: cs, us, h => by
    simp only [C.repl] at h
    obtain ⟨u, us', rfl, h2, h3⟩ := h
    simp only [List.map_cons, AV.repl, AV.rep]
    exact ⟨u, us', rfl, h2, AV.repl_one h3⟩

def IsFn (P : Program) (f : FuncId) : Prop := ∀ (args : Array Value) (w : World), (callFunc f args).run P w = .ok (.enter f args) w

theorem aop_call {f : FuncId} {args : List AV} (hF : SimF X μ s a w) (e : aop P s o = .call f args) : ∃ vs : Array Value, AV.repl (X ++ alive μ s.h) μ w args vs.toList ∧ (IsFn P f → (execOp a.eval o).run P w = .ok (.enter f vs) w) := by
  have na : ∀ (x : Option AV) (h : List Blk), ares x h ≠ .call f args := fun x h => by unfold ares; split <;> simp
  have n1 : ∀ (x : Operand) (g : AV → Option AV), ares1 s x g ≠ .call f args := fun x g => by unfold ares1; split; exact na _ _; simp
  have n2 : ∀ (x y : Operand) (g : AV → AV → Option AV), ares2 s x y g ≠ .call f args := fun x y g => by unfold ares2; split; exact na _ _; simp
  have n3 : ∀ t l p, abuildSlice P s.h t l p ≠ .call f args := fun t l p => by unfold abuildSlice; (repeat' split) <;> simp
  have n4 : ∀ t x y, amakeSlice P s.h t x y ≠ .call f args := fun t x y => by unfold amakeSlice; (repeat' split) <;> simp
  have n5 : ∀ t x y, aappend P s.h t x y ≠ .call f args := fun t x y => by unfold aappend; (repeat' split) <;> simp
  unfold aop at e
  split at e
  case h_22 c hb ho =>
    unfold acall at e
    split at e
    · rename_i x hc
      split at e
      · rename_i g cs vs hx hv
        injection e with e1 e2
        subst e1 e2
        have h1 := hF.eval hx
        simp only [AV.rep, C.rep] at h1
        obtain ⟨arr, he, hr⟩ := h1
        refine ⟨(c.args.map a.eval) ++ arr, ?_, fun hfn => ?_⟩
        · rw [Array.toList_append, Array.toList_map]
          exact AV.repl_append (vals_rep (fun o v hv => hF.eval hv) hv) (AV.repl_one hr)
        · simp only [execOp, ho, resolve, hc, he, Deferred.ofValue, Sem.run_bind, Sem.run_pure, Result.andThen_ok, invoke]
          simpa using hfn (c.args.map a.eval ++ arr) w
      · cases e
    · cases e
  all_goals exfalso
  all_goals first
    | exact na _ _ e
    | exact n1 _ _ e
    | exact n2 _ _ _ e
    | exact n3 _ _ _ e
    | (cases e; done)
    | (split at e <;> first | (cases e; done) | exact na _ _ e | exact n4 _ _ _ e | (split at e <;> first | (cases e; done) | exact na _ _ e))
    | (split at e <;> first | (cases e; done) | (unfold ared at e; split at e <;> cases e))
    | (unfold abuiltin at e; split at e <;> first | (cases e; done) | exact n1 _ _ e | (split at e <;> first | (cases e; done) | (split at e <;> first | (cases e; done) | exact n5 _ _ _ e)))
end
end Go.Proofs.Sh
