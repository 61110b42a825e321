/- Texts of the proof, one behind another. -/
import Derived.Test.YtfgjiamolknicaaProg
import Derived.Shelf.Sort.Plain
import Derived.Shelf.Slices.CompactI
import Derived.Shelf.Slices.In.SortNone
import Derived.Test.YtfgjiamolknicaaK3
set_option linter.unusedSimpArgs false
set_option linter.unusedVariables false
/- A region that draws its order: a walk of a tree of orders, on shadows. -/
namespace Go.Proofs.Sh
open Go.RowKit

@[simp] def MT.size : MT → Nat
  | .nil => 0
  | .op _ _ t => t.size + 1
  | .fork _ _ t u => t.size + u.size + 1
inductive TOut where
  | done (s : ASt)
  | call (f : FuncId) (args : List AV) (o : Oper) (fin : Bool) (l : MT) (U : List Nat × List Nat) (ok : Bool) (s : ASt)
  | fork (i : Nat) (fin : Bool) (t u : MT) (U : List Nat × List Nat) (ok : Bool) (s : ASt)
  | bad

/-- a store into a block that may be changed, or that has come up in the region -/
def newSt (c : MC) (F : List Nat) (s : ASt) (o : Oper) : Bool := match o.op with
  | .store _ x _ => (match s.eval x with | some (.one (.ptr _ b _ _)) => c.ms.contains b || F.contains b | _ => false)
  | _ => false
mutual
def trun (P : Program) (c : MC) : MT → List Nat × List Nat → Bool → ASt → TOut
  | .nil, _, _, s => .done s
  | .op i fin l, U, ok, s => match c.all[i]? with
    | some o => twantT P c (wantedA c.all s.t o.guard) o fin l U ok s
    | none => .bad
  | .fork i fin t u, U, ok, s => .fork i fin t u U ok s
termination_by l => (l.size, 0)
def twantT (P : Program) (c : MC) (w : Option Bool) (o : Oper) (fin : Bool) (l : MT) (U : List Nat × List Nat) (ok : Bool) (s : ASt) : TOut :=
  match w with
  | none => .bad
  | some false => trun P c l U ok (s.put o.dst aundef)
  | some true => tkindT P c (readOp o) (loudOp o) o fin l U ok s
termination_by (l.size, 3)
def tkindT (P : Program) (c : MC) (rd ld : Bool) (o : Oper) (fin : Bool) (l : MT) (U : List Nat × List Nat) (ok : Bool) (s : ASt) : TOut :=
  match rd, ld with
  | true, _ => match o.op with
    | .load t x => if stabX U.1 x then (match s.eval x with | some (.one p) => if offMs c.ms p then tloadT P c (aload P c.h0 t p) o fin l U ok s else .bad | _ => .bad) else .bad
    | _ => .bad
  | false, true => tloudT P c (aop P s o) o fin l U ok s
  | false, false => tfreeT P c (aop P s o) o fin l U ok s
termination_by (l.size, 2)
def tloadT (P : Program) (c : MC) (v : Option AV) (o : Oper) (fin : Bool) (l : MT) (U : List Nat × List Nat) (ok : Bool) (s : ASt) : TOut :=
  match v with
  | some v => trun P c l U ok (s.put o.dst v)
  | none => .bad
termination_by (l.size, 1)
def tloudT (P : Program) (c : MC) (r : Res) (o : Oper) (fin : Bool) (l : MT) (U : List Nat × List Nat) (ok : Bool) (s : ASt) : TOut :=
  match r with
  | .val v h => if (ok && isNew o) || fin then trun P c l (addU o.dst U.1, if isNew o then s.h.length :: U.2 else U.2) (ok && isNew o) (ASt.put ⟨s.n, s.t, h⟩ o.dst v) else .bad
  | .skip h => if (ok && newSt c U.2 s o) || fin then trun P c l U (ok && newSt c U.2 s o) (ASt.put ⟨s.n, s.t, h⟩ o.dst aundef) else .bad
  | .call f args => .call f args o fin l U ok s
  | .bad => .bad
termination_by (l.size, 1)
def tfreeT (P : Program) (c : MC) (r : Res) (o : Oper) (fin : Bool) (l : MT) (U : List Nat × List Nat) (ok : Bool) (s : ASt) : TOut :=
  match r with
  | .val v _ => trun P c l (if stab U.1 o then U else (addU o.dst U.1, U.2)) ok (s.put o.dst v)
  | _ => .bad
termination_by (l.size, 1)
end

def ATree (P : Program) (N : Nat) (c : MC) (l : MT) (U : List Nat × List Nat) (ok : Bool) (s : ASt) (K : Exit → ASt → Prop) : Prop :=
  ∀ X μ0 w0 μ a w μs hs ws, MixF X μ0 c.h0 w0 c.ms U.1 ok μ s a w → (∀ b ∈ U.2, ∃ g, μ[b]? = some g ∧ w0.heap.size ≤ g) → StpN N μs hs ws μ0 c.h0 w0 → wpMT P c.all.toArray (Keep (mapK μ0 c.ms) w0) loudOp readOp (lift N X μs hs ws K) l a w

def TDis (P : Program) (N : Nat) (c : MC) (K : Exit → ASt → Prop) : TOut → Prop
  | .done s => K .normal s
  | .call f args o fin l U ok s => ∃ ks, ((ok && ks.all c.ms.contains) || fin) = true ∧ ACalls P f args s.h ks (fun r h' => ATree P N c l (addU o.dst U.1, U.2) (ok && ks.all c.ms.contains) (ASt.put ⟨s.n, s.t, h'⟩ o.dst r) K)
  | .fork i fin t u U ok s => ATree P N c (.op i fin t) U ok s K ∧ ATree P N c u U ok s K
  | .bad => False

section
variable {P : Program} {N : Nat} {c : MC} {K : Exit → ASt → Prop} {X μ0 μ : List Nat} {h0 : List Blk} {w0 w : World} {ms U : List Nat} {ok : Bool} {s : ASt} {a : Act}

theorem hN' {μ μ' : List Nat} {h h' : List Blk} {w w0 w' : World} {F : List Nat} (hN : ∀ b ∈ F, ∃ g, μ[b]? = some g ∧ w0.heap.size ≤ g) (hT : Stp μ h w μ' h' w') : ∀ b ∈ F, ∃ g, μ'[b]? = some g ∧ w0.heap.size ≤ g :=
  fun b hb => let ⟨g, e, l⟩ := hN b hb; ⟨g, hT.map b g e, l⟩
theorem new_block {X μ μ' : List Nat} {h h' : List Blk} {w w' : World} {k : Blk} (hS : Sim X μ' h' w') (hT : Stp μ h w μ' h' w') (hm : k.st.isMut = true) (e : h' = h ++ [k]) : ∃ g, μ'[h.length]? = some g ∧ w.heap.size ≤ g := by
  have hk : h'[h.length]? = some k := by rw [e]; simp
  obtain ⟨g, hg, _⟩ := hS.get hk
  refine ⟨g, hg, Nat.le_of_not_lt fun hlt => ?_⟩
  obtain ⟨i, q, h1, h2, h3⟩ := mem_alive.1 (hT.old g (mem_alive.2 ⟨_, k, hg, hk, hm⟩) hlt)
  have hi := (List.getElem?_eq_some_iff.1 h2).1
  have h2' : h'[i]? = some q := by rw [e, List.getElem?_append_left hi]; exact h2
  exact hS.inj h.length i k q g (by omega) hk h2' hm (known_of_mut h3) hg (hT.map i g h1)
theorem isNew_app {o : Oper} {v : AV} {h' : List Blk} (hnw : isNew o = true) (ho : aop P s o = .val v h') : ∃ k : Blk, h' = s.h ++ [k] ∧ k.st.isMut = true := by
  unfold aop at ho
  unfold isNew at hnw
  split at hnw
  · rename_i t hop
    rw [hop] at ho
    simp only at ho
    split at ho
    · split at ho
      · injection ho with e1 e2; exact ⟨_, e2.symm, rfl⟩
      · cases ho
    · cases ho
  · rename_i t x hop
    rw [hop] at ho
    simp only at ho
    split at ho
    · injection ho with e1 e2; exact ⟨_, e2.symm, rfl⟩
    · cases ho
  · rename_i t len parts hop
    rw [hop] at ho
    simp only [abuildSlice] at ho
    (repeat' split at ho) <;> first | (cases ho; done) | (injection ho with e1 e2; exact ⟨_, e2.symm, rfl⟩)
  · rename_i t x y hop
    rw [hop] at ho
    simp only at ho
    split at ho
    · simp only [amakeSlice] at ho
      (repeat' split at ho) <;> first | (cases ho; done) | (injection ho with e1 e2; exact ⟨_, e2.symm, rfl⟩)
    · cases ho
  · cases hnw

theorem trun_sound (hmut : ∀ b ∈ c.ms, ∃ k, c.h0[b]? = some k ∧ k.st.isMut = true) : ∀ (l : MT) (U : List Nat × List Nat) (ok : Bool) (s : ASt), TDis P N c K (trun P c l U ok s) → ATree P N c l U ok s K := by
  intro l
  induction l with
  | nil =>
    intro U ok s h X μ0 w0 μ a w μs hs ws hM hN hT
    rw [trun] at h
    unfold wpMT
    exact ⟨s, μ, h, hM.cur, hT.trans hM.stp⟩
  | fork i fin t u iht ihu =>
    intro U ok s h X μ0 w0 μ a w μs hs ws hM hN hT
    rw [trun] at h
    exact ⟨h.1 X μ0 w0 μ a w μs hs ws hM hN hT, h.2 X μ0 w0 μ a w μs hs ws hM hN hT⟩
  | op i fin l ih =>
    intro U ok s h X μ0 w0 μ a w μs hs ws hM hN hT
    rw [trun] at h
    cases hoi : c.all[i]? with
    | none => rw [hoi] at h; exact h.elim
    | some o =>
    rw [hoi] at h
    simp only at h
    cases hw : wantedA c.all s.t o.guard with
    | none => rw [hw, twantT] at h; exact h.elim
    | some b =>
      have hwt := wanted_spec hM.cur hw
      unfold wpMT stepT
      have hoi' : c.all.toArray[i]? = some o := by simpa using hoi
      simp only [hoi']
      rw [hwt]
      cases b with
      | false =>
        rw [hw, twantT] at h
        rw [if_neg (by simp)]
        exact ih U ok _ h X μ0 w0 μ _ w μs hs ws (hM.put (AV.rep_undef _ _ _)) hN hT
      | true =>
        rw [hw, twantT] at h
        rw [if_pos rfl]
        cases hrd : readOp o with
        | true =>
          have hld : loudOp o = false := by
            cases ho : o.op <;> simp [readOp, ho] at hrd
            simp [loudOp, ho]
          rw [hrd, tkindT] at h
          rw [hld, if_neg (by simp)]
          split at h
          · rename_i t x ho
            split at h
            · rename_i hx
              split at h
              · rename_i p hp
                split at h
                · rename_i hms
                  cases hv : aload P c.h0 t p with
                  | none => rw [hv, tloadT] at h; exact h.elim
                  | some v =>
                    rw [hv, tloadT] at h
                    obtain ⟨u, h1, h2⟩ := mix_load (M := []) hM ho hx hp hms hmut hv
                    exact ⟨u, by simpa [Calm, Cls] using h1, ih U ok _ h X μ0 w0 μ _ w μs hs ws (hM.put h2) hN hT⟩
                · exact h.elim
              · exact h.elim
            · exact h.elim
          · exact h.elim
        | false =>
          cases hld : loudOp o with
          | false =>
            rw [hrd, hld, tkindT] at h
            rw [if_neg (by simp)]
            cases ho : aop P s o with
            | val v h' =>
              rw [ho, tfreeT] at h
              obtain ⟨rfl, hp⟩ := aop_pure hld hrd ho
              obtain ⟨u, h1, h2⟩ := hp X μ s a w hM.cur (fun _ _ => rfl)
              refine ⟨u, fun w _ => h1 w, ?_⟩
              by_cases hst : stab U.1 o = true
              · rw [if_pos hst] at h
                obtain ⟨u', h1', h2'⟩ := hp X μ0 ⟨s.n, still U.1 s.t, c.h0⟩ a w0 hM.still (fun x hx => still_eval (List.all_eq_true.1 hst x hx))
                have : u' = u := by
                  have e1 := h1 w; rw [h1' w] at e1; injection e1 with e1; injection e1
                subst this
                exact ih U ok _ h X μ0 w0 μ _ w μs hs ws (hM.put h2') hN hT
              · rw [if_neg hst] at h
                have := hM.putU (ok' := ok) (d := o.dst) hM.cur.sim (Stp.refl _ _ _) h2 hM.keep
                exact ih _ ok _ h X μ0 w0 μ _ w μs hs ws this hN hT
            | skip h' => rw [ho, tfreeT] at h; exact h.elim; all_goals simp
            | call f args => rw [ho, tfreeT] at h; exact h.elim; all_goals simp
            | bad => rw [ho, tfreeT] at h; exact h.elim; all_goals simp
          | true =>
            rw [hrd, hld, tkindT] at h
            rw [if_pos rfl]
            cases ho : aop P s o with
            | bad => rw [ho, tloudT] at h; exact h.elim
            | skip h' =>
              rw [ho, tloudT] at h
              split at h
              · rename_i hf
                obtain ⟨w', r1, ⟨r2, r3⟩, r4⟩ := aop_skip' hM.cur ho
                unfold Oper.wp
                rw [r1]
                cases hnew : (ok && newSt c U.2 s o) with
                | false =>
                  rw [hnew] at hf h
                  exact ⟨.inl (by simpa using hf), ih U false _ h X μ0 w0 μ _ w' μs hs ws (hM.drop r2 r3 (by simp)) hN hT⟩
                | true =>
                  rw [hnew] at h
                  simp only [Bool.and_eq_true] at hnew
                  obtain ⟨hok, hnw⟩ := hnew
                  have hK : Keep (mapK μ0 c.ms) w0 w' := by
                    unfold newSt at hnw
                    split at hnw
                    · rename_i t x y hop
                      split at hnw
                      · rename_i n b i' j' hx
                        simp only [Bool.or_eq_true, List.contains_eq_mem, decide_eq_true_eq] at hnw
                        rcases hnw with hbm | hbn
                        · obtain ⟨k, e1, e2⟩ := hmut b hbm
                          obtain ⟨g', hg', _⟩ := hM.base.get e1
                          refine (hM.keep hok).trans (r4 _ _ _ n b i' j' g' hop hx (hM.stp.map b g' hg')) (fun z hz _ => ?_)
                          simp only [List.mem_singleton] at hz
                          subst hz
                          refine List.mem_map.2 ⟨b, hbm, ?_⟩
                          rw [List.getD_eq_getElem?_getD, hg', Option.getD_some]
                        · obtain ⟨g', hg', hle⟩ := hN b hbn
                          refine (hM.keep hok).trans (r4 _ _ _ n b i' j' g' hop hx hg') (fun z hz hlt => ?_)
                          simp only [List.mem_singleton] at hz
                          omega
                      · cases hnw
                    · cases hnw
                  exact ⟨.inr hK, ih U true _ h X μ0 w0 μ _ w' μs hs ws (hM.drop r2 r3 (fun _ => hK)) hN hT⟩
              · exact h.elim
            | val v h' =>
              rw [ho, tloudT] at h
              have hFn : ∀ {μ' w'}, Sim X μ' h' w' → Stp μ s.h w μ' h' w' → ∀ b ∈ (if isNew o then s.h.length :: U.2 else U.2), ∃ g, μ'[b]? = some g ∧ w0.heap.size ≤ g := by
                intro μ' w' hS hT' b hb
                split at hb
                · rename_i hnw
                  rcases List.mem_cons.1 hb with rfl | hb
                  · obtain ⟨k, e1, e2⟩ := isNew_app hnw ho
                    obtain ⟨g, e3, e4⟩ := new_block hS hT' e2 e1
                    exact ⟨g, e3, Nat.le_trans hM.stp.keep.size e4⟩
                  · exact hN' hN hT' b hb
                · exact hN' hN hT' b hb
              split at h
              · rename_i hf
                cases hnew : (ok && isNew o) with
                | false =>
                  rw [hnew] at hf h
                  obtain ⟨u, w', μ', r1, r2, r3, r4⟩ := aop_val hM.cur ho
                  unfold Oper.wp
                  rw [r1]
                  exact ⟨.inl (by simpa using hf), ih _ false _ h X μ0 w0 μ' _ w' μs hs ws (hM.putU r2 r3 r4 (by simp)) (hFn r2 r3) hT⟩
                | true =>
                  rw [hnew] at h
                  simp only [Bool.and_eq_true] at hnew
                  obtain ⟨hok, hnw⟩ := hnew
                  have hN : OpNew P X μ s a w o v h' := by
                    unfold aop at ho
                    unfold isNew at hnw
                    split at hnw
                    · rename_i t hop
                      rw [hop] at ho
                      simp only at ho
                      split at ho
                      · rename_i ti hti
                        split at ho
                        · injection ho with e1 e2; subst e1 e2; exact op_alloc hop hM.cur hti
                        · cases ho
                      · cases ho
                    · rename_i t x hop
                      rw [hop] at ho
                      simp only at ho
                      split at ho
                      · rename_i cs hx; injection ho with e1 e2; subst e1 e2; exact op_box hop hM.cur hx
                      · cases ho
                    · rename_i t len parts hop
                      rw [hop] at ho
                      exact op_buildSlice hop hM.cur ho
                    · rename_i t x y hop
                      rw [hop] at ho
                      simp only at ho
                      split at ho
                      · rename_i h1 h2; exact op_makeSlice hop hM.cur h1 h2 ho
                      · cases ho
                    · cases hnw
                  obtain ⟨u, w', μ', r1, r2, r3, r4, r5⟩ := hN
                  have hK : Keep (mapK μ0 c.ms) w0 w' := (hM.keep hok).trans r5 (by simp)
                  unfold Oper.wp
                  rw [r1]
                  exact ⟨.inr hK, ih _ true _ h X μ0 w0 μ' _ w' μs hs ws (hM.putU r2 r3 r4 (fun _ => hK)) (hFn r2 r3) hT⟩
              · exact h.elim
            | call f args =>
              rw [ho, tloudT] at h
              obtain ⟨ks, hcnd, hc⟩ := h
              obtain ⟨vs, r1, r2⟩ := aop_call hM.cur ho
              obtain ⟨hfn, hcl⟩ := calls_of hM.cur.sim r1 hc
              unfold Oper.wp
              rw [r2 hfn]
              refine Calls.mono hcl fun e w' ⟨r, h', μ', v, he, hk, s1, s2, s3, s4⟩ => ?_
              subst he
              cases hokk : (ok && ks.all c.ms.contains) with
              | false =>
                rw [hokk] at hcnd hk
                exact ⟨.inl (by simpa using hcnd), hk X μ0 w0 μ' _ w' μs hs ws (hM.putU s1 s2 s3 (by simp)) (hN' hN s2) hT⟩
              | true =>
                rw [hokk] at hk
                simp only [Bool.and_eq_true] at hokk
                have hK : Keep (mapK μ0 c.ms) w0 w' := by
                  refine (hM.keep hokk.1).trans s4 (fun x hx hlt => ?_)
                  obtain ⟨i, hi⟩ := List.getElem?_of_mem hx
                  simp only [mapK, List.getElem?_map, Option.map_eq_some_iff] at hi
                  obtain ⟨b, hb, hg⟩ := hi
                  have hbm : b ∈ c.ms := by
                    have := List.all_eq_true.1 hokk.2 b (List.mem_of_getElem? hb)
                    simpa using this
                  obtain ⟨k, e1, e2⟩ := hmut b hbm
                  obtain ⟨g', hg', _⟩ := hM.base.get e1
                  have := hM.stp.map b g' hg'
                  rw [List.getD_eq_getElem?_getD, this, Option.getD_some] at hg
                  subst hg
                  refine List.mem_map.2 ⟨b, hbm, ?_⟩
                  rw [List.getD_eq_getElem?_getD, hg', Option.getD_some]
                exact ⟨.inr hK, hk X μ0 w0 μ' _ w' μs hs ws (hM.putU s1 s2 s3 (fun _ => hK)) (hN' hN s2) hT⟩

theorem trun_sound' (hmut : c.ms.all (fun b => match c.h0[b]? with | some k => k.st.isMut | none => false) = true) (l : MT) (U : List Nat × List Nat) (ok : Bool) (s : ASt) (h : TDis P N c K (trun P c l U ok s)) : ATree P N c l U ok s K :=
  trun_sound (fun b hb => by
    have := List.all_eq_true.1 hmut b hb
    split at this
    · rename_i k hk; exact ⟨k, hk, this⟩
    · cases this) l U ok s h

/-- a region that draws its order, by a tree of orders -/
theorem go_tree {R : ASt → Prop} {id : Nat} {l : List Oper} {k : List Item} (T : MT) (ms : List Nat) (hm : P.follows .mixedOrders = true) (hB : treeOK loudOp readOp l.toArray T = true) (hmut : ms.all (fun b => match s.h[b]? with | some k => k.st.isMut | none => false) = true)
    (h : TDis P N ⟨0, s.h, ms, l⟩ (AGo P N R k) (trun P ⟨0, s.h, ms, l⟩ T ([], []) true s)) : AGo P N R (.code (.region id l.toArray true) :: k) .normal s := by
  intro X μ0 hh0 w0 μ a w hF hT
  have hdr : Stp μ s.h w μ s.h w.drew := ⟨Keep.drew _ _, fun _ _ e => e, fun _ h _ => h⟩
  have hSd : Sim X μ s.h w.drew := by
    have hs := hF.sim
    exact ⟨hs.len, hs.lt, hs.xlt, hs.out, hs.inj, fun i b g h1 h2 h3 => let ⟨cur, q1, q2⟩ := hs.blk i b g h1 h2 h3; ⟨cur, q1, q2.carry hdr.carry⟩⟩
  have hFd : SimF X μ s a w.drew := hF.step hdr hSd
  have hms : ∀ b ∈ ms, ∃ k, s.h[b]? = some k ∧ k.st.isMut = true := fun b hb => by
    have := List.all_eq_true.1 hmut b hb
    split at this
    · rename_i k hk; exact ⟨k, hk, this⟩
    · cases this
  have hA := trun_sound (c := ⟨0, s.h, ms, l⟩) hms T ([], []) true s h X μ w.drew μ a w.drew μ0 hh0 w0 ⟨hFd, Stp.refl _ _ _, hSd, fun t v _ hl => hFd.reg t v hl, fun _ => Keep.refl _ _⟩ (fun _ hb => by simp at hb) (hT.trans hdr)
  exact wp_region_tree (C := Keep (mapK μ ms) w.drew) T hm hB (Keep.refl _ _) hA
end
end Go.Proofs.Sh
/- The rules of a run on shadows, as rewrite rules. -/
namespace Go.Proofs.Sh
open Go.RowKit

theorem look_at (t t' : Nat) (v : AV) (l : List (Nat × AV)) : look t ((t', v) :: l) = match t' == t with | true => some v | false => look t l := by
  rw [look]
  by_cases h : t' = t
  · simp [h]
  · rw [if_neg h, show (t' == t) = false from by simpa using h]
@[go_sem ↓] theorem ite_match {α : Sort _} (c : Prop) [Decidable c] (a b : α) : (if c then a else b) = (match decide c with | true => a | false => b) := by
  by_cases h : c <;> simp [h]
attribute [go_sem] look_at look.eq_1
@[go_sem] theorem rowsLen_nil (s : Nat) : rowsLen s [] = true := rfl
@[go_sem] theorem rowsLen_cons (s : Nat) (r : List C) (l : List (List C)) : rowsLen s (r :: l) = (r.length == s && rowsLen s l) := rfl
@[go_sem] theorem rowsLen_append (s : Nat) (l m : List (List C)) : rowsLen s (l ++ m) = (rowsLen s l && rowsLen s m) := by simp [rowsLen]
@[go_sem] theorem treeL_nil : treeL [] = true := rfl
@[go_sem] theorem treeL_cons (c : C) (l : List C) : treeL (c :: l) = (c.tree && treeL l) := rfl
@[go_sem] theorem treeL_append (l m : List C) : treeL (l ++ m) = (treeL l && treeL m) := by simp [treeL]
@[go_sem] theorem treeRows_nil : treeRows [] = true := rfl
@[go_sem] theorem treeRows_cons (c : List C) (l : List (List C)) : treeRows (c :: l) = (treeL c && treeRows l) := rfl
@[go_sem] theorem treeRows_append (l m : List (List C)) : treeRows (l ++ m) = (treeRows l && treeRows m) := by simp [treeRows]
@[go_sem] theorem splice_succ (c : C) (l cs : List C) (j : Nat) : splice (c :: l) (j + 1) cs = c :: splice l j cs := by
  simp [splice, Nat.succ_add]
@[go_sem] theorem splice_zero (l cs : List C) : splice l 0 cs = cs ++ l.drop cs.length := by simp [splice]
attribute [go_sem] Nat.reduceLT Nat.reduceLeDiff Nat.reduceEqDiff Nat.reduceAdd Nat.reduceMul Nat.reduceSub Nat.reduceBEq Int.reduceLT Int.reduceLE Int.reduceGT Int.reduceGE Int.reduceToNat Int.reduceEq Int.reduceBEq Int.reduceBNe Int.reduceAdd Int.reduceSub Int.reduceNeg reduceIte reduceCtorEq decide_true decide_false beq_self_eq_true Int.toNat_natCast Int.natCast_nonneg
attribute [go_sem] Blk.frz Blk.dead ne_eq not_false_eq_true not_true_eq_false
theorem getElem?_app_len {α : Type} (l : List α) (x : α) : (l ++ [x])[l.length]? = some x := by simp

section
variable {P : Program} {N : Nat} {R : ASt → Prop}
@[go_sem] theorem dis_ret (s : ASt) : ADis P N R (.ret s) = R s := rfl
theorem dis_call (f : FuncId) (args : List AV) (h : List Blk) (dst : Option Tmp) (k : List Item) (s : ASt) : ADis P N R (.call f args h dst k s) = ∃ ks, ACalls P f args h ks (fun r h' => AGo P N R k .normal (ASt.put ⟨s.n, s.t, h'⟩ dst r)) := rfl
theorem dis_loop (c : Code) (k : List Item) (s : ASt) : ADis P N R (.loop c k s) = AGo P N R (.code (.loop c) :: k) .normal s := rfl
theorem dis_drawn (id : Nat) (l : List Oper) (k : List Item) (s : ASt) : ADis P N R (.drawn id l k s) = AGo P N R (.code (.region id l.toArray true) :: k) .normal s := rfl
@[go_sem] theorem dis_goal (I : ASt → Prop) (s : ASt) : ADis P N R (.goal I s) = I s := rfl
@[go_sem] theorem dis_bad (k : List Item) : ADis P N R (.bad k) = False := rfl
@[go_sem] theorem dis_fuel (k : List Item) (s : ASt) : ADis P N R (.fuel k s) = AGo P N R k .normal s := rfl
variable {c : MC} {K : Exit → ASt → Prop}
theorem mdis_done (s : ASt) : MDis P N c K (.done s) = K .normal s := rfl
theorem mdis_call (f : FuncId) (args : List AV) (o : Oper) (l : List Oper) (U : List Nat) (ok : Bool) (s : ASt) : MDis P N c K (.call f args o l U ok s) = ∃ ks, ((ok && ks.all c.ms.contains) || decide (l.length < c.f)) = true ∧ ACalls P f args s.h ks (fun r h' => AMix P N c l (addU o.dst U) (ok && ks.all c.ms.contains) (ASt.put ⟨s.n, s.t, h'⟩ o.dst r) K) := rfl
@[go_sem] theorem mdis_bad (k : List Oper) : MDis P N c K (.bad k) = False := rfl
end
attribute [go_sem] Op.operands Call.operands Array.toList_append Option.toArray_some Option.toArray_none List.append_toArray
attribute [go_sem] Bool.false_eq_true List.range_zero List.range_succ
attribute [go_sem] arun.eq_1 arun.eq_2 arun.eq_3 arun.eq_4 arun.eq_5 arun.eq_6 arun.eq_7 arun.eq_8 arun.eq_9 arun.eq_10 arun.eq_11 arun.eq_12 arun.eq_13 arun.eq_14 awant astep acond abr aop ASt.eval ares ared ares1 ares2 ASt.put wantedA AV.cells aload astore acells afield afieldAddr aindexAddr aindex ashift alen abound aslice abuild afill arow abuildSlice amakeSlice arows aappend aappend1 asame aempty aisSlice caps vals acall abuiltin amax
  C.isConst aundef aint astr abin aun exitK aresult ares' slots prep prepC prVs prV prL prC prCs prR prRs prH apart nodupB pos fz fzL fzRows C.tree frzAt AV.ren AV.renL C.ren C.renL renA renRows merge setAll back Blk.ren ASt.gets zipT
  mrun mwant mkind mload mloud mfree trun twantT tkindT tloadT tloudT tfreeT newSt stabX stab addU offMs isNew loudOp readOp
  St.isMut St.known
attribute [go_sem] List.length_cons List.length_nil List.map_cons List.map_nil List.append_nil List.cons_append List.nil_append List.getElem?_cons_zero List.getElem?_cons_succ List.getElem?_nil List.set_cons_zero List.set_cons_succ List.drop_zero List.drop_succ_cons List.drop_nil List.take_zero List.take_succ_cons List.take_nil
  List.all_cons List.all_nil List.any_cons List.any_nil List.contains_cons List.contains_nil List.filter_cons List.filter_nil List.replicate_succ List.replicate_zero
  Option.bind_some Option.bind_none Option.getD_some Option.getD_none Option.map_some Option.map_none
  Bool.and_true Bool.true_and Bool.false_and Bool.and_false Bool.or_true Bool.true_or Bool.or_false Bool.false_or Bool.not_true Bool.not_false
  and_true true_and and_false false_and and_self or_true true_or
  Nat.zero_add Nat.add_zero List.length_append List.getElem?_drop
end Go.Proofs.Sh
/- Rules for walking functions on shadows. -/
namespace Go.Proofs.Sh
open Go.RowKit

section
variable {P : Program} {N : Nat} {R : ASt → Prop}

/-- a function that reads its arguments' trees and yields a value -/
structure AFn (P : Program) (f : FuncId) (args : List AV) (r : AV) : Prop where
  out : ACall P f args [] (fun r' H' => r' = r ∧ H' = [])
/-- a function that ends as K says -/
structure ACl (P : Program) (f : FuncId) (args : List AV) (H : List Blk) (K : AV → List Blk → Prop) : Prop where
  out : ACall P f args H K
/-- a run outside of regions that draw their order; within one; code ahead -/
structure WD (P : Program) (N : Nat) (R : ASt → Prop) (o : Out) : Prop where
  out : ADis P N R o
structure WM (P : Program) (N : Nat) (c : MC) (R : ASt → Prop) (k : List Item) (o : MOut) : Prop where
  out : MDis P N c (AGo P N R k) o
structure WT (P : Program) (N : Nat) (c : MC) (R : ASt → Prop) (k : List Item) (o : TOut) : Prop where
  out : TDis P N c (AGo P N R k) o
structure WG (P : Program) (N : Nat) (R : ASt → Prop) (k : List Item) (s : ASt) : Prop where
  out : AGo P N R k .normal s

theorem wg_run {s : ASt} {k : List Item} (h : WD P N R (arun P 4000 k s)) : WG P N R k s := ⟨arun_sound 4000 _ _ h.out⟩
@[go_sem] theorem wd_ret (s : ASt) : WD P N R (.ret s) = R s := propext ⟨fun h => h.out, fun h => ⟨h⟩⟩
@[go_sem] theorem wd_goal (I : ASt → Prop) (s : ASt) : WD P N R (.goal I s) = I s := propext ⟨fun h => h.out, fun h => ⟨h⟩⟩
theorem wd_split {n : Nat} (b : Bool) {x y : List Item} {s : ASt} (h1 : b = true → WD P N R (arun P n x s)) (h2 : b = false → WD P N R (arun P n y s)) : WD P N R (abr P n b x y s) := by
  cases b
  · rw [abr]; exact h2 rfl
  · rw [abr]; exact h1 rfl
theorem wd_want {n : Nat} (b : Bool) {o : Oper} {l all : List Oper} {k : List Item} {s : ASt} (h1 : b = true → WD P N R (awant P n (some true) o l all k s)) (h2 : b = false → WD P N R (awant P n (some false) o l all k s)) : WD P N R (awant P n (some b) o l all k s) := by
  cases b
  · exact h2 rfl
  · exact h1 rfl
theorem wd_nwant {n : Nat} (b : Bool) {o : Oper} {l all : List Oper} {k : List Item} {s : ASt} (h1 : b = true → WD P N R (awant P n (some false) o l all k s)) (h2 : b = false → WD P N R (awant P n (some true) o l all k s)) : WD P N R (awant P n (some !b) o l all k s) := by
  cases b
  · exact h2 rfl
  · exact h1 rfl
theorem wm_want {c : MC} {k : List Item} (b : Bool) {o : Oper} {l : List Oper} {U : List Nat} {ok : Bool} {s : ASt} (h1 : b = true → WM P N c R k (mwant P c (some true) o l U ok s)) (h2 : b = false → WM P N c R k (mwant P c (some false) o l U ok s)) : WM P N c R k (mwant P c (some b) o l U ok s) := by
  cases b
  · exact h2 rfl
  · exact h1 rfl
theorem wm_nwant {c : MC} {k : List Item} (b : Bool) {o : Oper} {l : List Oper} {U : List Nat} {ok : Bool} {s : ASt} (h1 : b = true → WM P N c R k (mwant P c (some false) o l U ok s)) (h2 : b = false → WM P N c R k (mwant P c (some true) o l U ok s)) : WM P N c R k (mwant P c (some !b) o l U ok s) := by
  cases b
  · exact h2 rfl
  · exact h1 rfl
theorem wt_want {c : MC} {k : List Item} (b : Bool) {o : Oper} {f : Bool} {l : MT} {U : List Nat × List Nat} {ok : Bool} {s : ASt} (h1 : b = true → WT P N c R k (twantT P c (some true) o f l U ok s)) (h2 : b = false → WT P N c R k (twantT P c (some false) o f l U ok s)) : WT P N c R k (twantT P c (some b) o f l U ok s) := by
  cases b
  · exact h2 rfl
  · exact h1 rfl
theorem wt_nwant {c : MC} {k : List Item} (b : Bool) {o : Oper} {f : Bool} {l : MT} {U : List Nat × List Nat} {ok : Bool} {s : ASt} (h1 : b = true → WT P N c R k (twantT P c (some false) o f l U ok s)) (h2 : b = false → WT P N c R k (twantT P c (some true) o f l U ok s)) : WT P N c R k (twantT P c (some !b) o f l U ok s) := by
  cases b
  · exact h2 rfl
  · exact h1 rfl
@[go_sem] theorem abr_not {n : Nat} (b : Bool) {x y : List Item} {s : ASt} : abr P n (!b) x y s = abr P n b y x s := by
  cases b <;> simp [abr]
theorem int_bne (x y : Int) : (x != y) = !(x == y) := rfl
@[go_sem] theorem isEmpty_nil {α : Type} : (#[] : Array α).isEmpty = true := rfl
@[go_sem] theorem wrap_in {n : Int} (h1 : -9223372036854775808 ≤ n) (h2 : n ≤ 9223372036854775807) : IntKind.i64.wrap n = n := IntWalk.i64_in _ (by omega)
attribute [go_sem] Int.cast_ofNat_Int cond_true cond_false beq_true beq_false Bool.not_not Int.natCast_zero List.toList_toArray

/-- A function's contract, from a run of its body; R: what is asked at the end. -/
theorem acl_in {f : FuncId} {fn : Func} {c : Code} {args : List AV} {H : List Blk} {K : AV → List Blk → Prop} (hf : P.funcs[f]? = some fn) (hb : fn.body = some c) (hfn : IsFn P f) (hn : args.length ≤ fn.ntmps)
    (h : ∀ R : ASt → Prop, (∀ s, ARet P fn.results.toList H.length K s → R s) → WG P H.length R [.code c] ⟨fn.ntmps, slots 0 args, H⟩) : ACl P f args H K :=
  ⟨acall_of hf hb hfn hn (h _ (fun _ h => h)).out⟩
theorem fn_in {f : FuncId} {args : List AV} {r : AV} (h : ACl P f args [] (fun r' H' => r' = r ∧ H' = [])) : AFn P f args r := ⟨h.out⟩
theorem AFn.cl {f : FuncId} {args : List AV} {r : AV} (h : AFn P f args r) : ACl P f args [] (fun r' H' => r' = r ∧ H' = []) := ⟨h.out⟩
theorem ACl.mono {f : FuncId} {args : List AV} {H : List Blk} {K K' : AV → List Blk → Prop} (h : ACl P f args H K) (hk : ∀ r H', K r H' → K' r H') : ACl P f args H K' := ⟨h.out.mono hk⟩

/-- a loop: the state at each round's head is (V x, H x), for an x of which I holds -/
theorem wd_for {σ : Type} {c : Code} {n0 : Nat} {t0 : List (Nat × AV)} {b0 : List Blk} {k : List Item} (l : List Nat) (V : σ → List AV) (H : σ → List Blk) (I : σ → Prop) (m : σ → Nat) (x0 : σ) (hI : I x0) (h0 : AHead N l (fun vs h => vs = V x0 ∧ h = H x0) ⟨n0, t0, b0⟩)
    (hr : ∀ x, I x → ∀ G : ASt → Prop, (∀ x' t h, I x' → m x' < m x → AHead N l (fun vs h => vs = V x' ∧ h = H x') ⟨n0, t, h⟩ → G ⟨n0, t, h⟩) → WG P N R (.code c :: .goal G :: k) ⟨n0, zipT l (V x), H x⟩) : WD P N R (.loop c k ⟨n0, t0, b0⟩) := by
  refine ⟨?_⟩
  show AGo P N R (.code (.loop c) :: k) .normal ⟨n0, t0, b0⟩
  intro X μ0 hh0 w0 μ a w hF hT
  refine wp_loop_rel (fun n a w => ∃ μ x, I x ∧ SimF X μ ⟨n0, zipT l (V x), H x⟩ a w ∧ StpN N μ0 hh0 w0 μ (H x) w ∧ m x = n) ?_ ?_
  · obtain ⟨μ', vs, K, ⟨rfl, rfl⟩, q2, q3⟩ := head_sound hF hT h0
    exact ⟨_, μ', x0, hI, q2, q3, rfl⟩
  · intro n a w ⟨μ, x, hI, hF, hT, hm⟩
    refine Code.wp_mono ?_ ((hr x hI (fun s' => s'.n = n0 ∧ ∃ x', I x' ∧ m x' < m x ∧ AHead N l (fun vs h => vs = V x' ∧ h = H x') s') (fun x' t h h2 h3 h4 => ⟨rfl, x', h2, h3, h4⟩)).out X μ0 hh0 w0 μ a w hF hT)
    intro e a' w' ⟨s', μ', q1, q2, q3⟩
    cases e with
    | normal =>
      obtain ⟨hn, x', hI', hlt, hh⟩ := q1
      obtain ⟨μ2, vs', K, ⟨rfl, rfl⟩, r2, r3⟩ := head_sound q2 q3 hh
      exact ⟨_, by rw [← hm]; exact hlt, μ2, x', hI', by rw [← hn]; exact r2, r3, rfl⟩
    | _ => exact ⟨s', μ', q1, q2, q3⟩

/-- a loop of few rounds, one after another -/
structure WL (P : Program) (N : Nat) (R : ASt → Prop) (c : Code) (k : List Item) (n : Nat) (s : ASt) : Prop where
  out : ALoop P N R c k n s
theorem wd_rounds (n : Nat) {c : Code} {k : List Item} {s : ASt} (h : WL P N R c k n s) : WD P N R (.loop c k s) := ⟨go_rounds n h.out⟩
theorem wl_next {n : Nat} {c : Code} {k : List Item} {s : ASt} (h : WG P N R (.code c :: .goal (WL P N R c k n) :: k) s) : WL P N R c k (n + 1) s := by
  refine ⟨?_⟩
  have e : (WL P N R c k n) = ALoop P N R c k n := by funext s'; exact propext ⟨fun h => h.out, fun h => ⟨h⟩⟩
  rw [e] at h
  exact h.out

theorem head_at {l : List Nat} {I : List AV → List Blk → Prop} {s : ASt} (ks : List Nat) {vs vs' : List AV} {K h1 : List Blk} (h : ASt.gets s.t l = some vs) (hp : prep false s.h (List.range N ++ ks) vs = some (vs', K, h1)) (hI : I vs' K) : AHead N l I s := by
  refine ⟨ks, ?_⟩
  simp only [h, hp]
  exact hI
theorem ret_at {rs : List ResultVar} {K : AV → List Blk → Prop} {s : ASt} (ks : List Nat) {r r' : AV} {H h1 : List Blk} (h : aresult P s rs = some r) (hp : prep true s.h (List.range N ++ ks) [r] = some ([r'], H, h1)) (hK : K r' H) : ARet P rs N K s := by
  refine ⟨ks, true, ?_⟩
  simp only [h, hp]
  exact hK
theorem ret_own {rs : List ResultVar} {K : AV → List Blk → Prop} {s : ASt} (ks : List Nat) {r r' : AV} {H h1 : List Blk} (h : aresult P s rs = some r) (hp : prep false s.h (List.range N ++ ks) [r] = some ([r'], H, h1)) (hK : K r' H) : ARet P rs N K s := by
  refine ⟨ks, false, ?_⟩
  simp only [h, hp]
  exact hK
theorem calls_at {f : FuncId} {args : List AV} {h : List Blk} {K : AV → List Blk → Prop} (ks : List Nat) {args' : List AV} {H h1 : List Blk} {K' : AV → List Blk → Prop} (hp : prepC h ks args = some (args', H, h1)) (hc : ACall P f args' H K') (hK : ∀ r H', K' r H' → K (r.ren (back h1.length ks)) (merge h1 ks H')) : ∃ ks, ACalls P f args h ks K := by
  refine ⟨ks, ?_⟩
  simp only [ACalls, hp]
  exact hc.mono hK
theorem wrap_succ {k n : Nat} (h : k < n) (hn : n < 4611686018427387904) : IntKind.i64.wrap ((k : Int) + 1) = ((k + 1 : Nat) : Int) := by
  rw [IntWalk.i64_in _ (by omega)]; omega
/-- a call of a function that yields a value -/
theorem wd_fn {f : FuncId} {args : List AV} {h : List Blk} {d : Option Tmp} {k : List Item} {s : ASt} {args' : List AV} {h1 : List Blk} {r : AV} (hp : prep true h [] args = some (args', [], h1)) (hc : AFn P f args' r) (hK : WD P N R (arun P 4000 k (ASt.put ⟨s.n, s.t, merge h1 [] []⟩ d (r.ren (back h1.length []))))) : WD P N R (.call f args h d k s) :=
  ⟨calls_at [] (prepC_nil hp) hc.out (fun _ _ ⟨e1, e2⟩ => by subst e1 e2; exact arun_sound 4000 _ _ hK.out)⟩
theorem wm_fn {c : MC} {k : List Item} {f : FuncId} {args : List AV} {o : Oper} {l : List Oper} {U : List Nat} {ok : Bool} {s : ASt} {args' : List AV} {h1 : List Blk} {r : AV} (hp : prep true s.h [] args = some (args', [], h1)) (hc : AFn P f args' r) (hok : (ok || decide (l.length < c.f)) = true)
    (hmut : c.ms.all (fun b => match c.h0[b]? with | some k => k.st.isMut | none => false) = true)
    (hK : WM P N c R k (mrun P c l (addU o.dst U) ok (ASt.put ⟨s.n, s.t, merge h1 [] []⟩ o.dst (r.ren (back h1.length []))))) : WM P N c R k (.call f args o l U ok s) := by
  refine ⟨⟨[], by simpa using hok, ?_⟩⟩
  simp only [ACalls, prepC_nil hp]
  refine hc.out.mono ?_
  rintro _ _ ⟨rfl, rfl⟩
  simp only [List.all_nil, Bool.and_true]
  exact mrun_sound' hmut _ _ _ _ hK.out
/-- a call, in whatever way it ends -/
theorem wd_cl {f : FuncId} {args : List AV} {h : List Blk} {d : Option Tmp} {k : List Item} {s : ASt} (ks : List Nat) {args' : List AV} {H h1 : List Blk} {K' : AV → List Blk → Prop} (hp : prepC h ks args = some (args', H, h1)) (hc : ACl P f args' H K') (hK : ∀ r H', K' r H' → WD P N R (arun P 4000 k (ASt.put ⟨s.n, s.t, merge h1 ks H'⟩ d (r.ren (back h1.length ks))))) : WD P N R (.call f args h d k s) :=
  ⟨calls_at ks hp hc.out (fun r H' e => arun_sound 4000 _ _ (hK r H' e).out)⟩
theorem wm_cl {c : MC} {k : List Item} {f : FuncId} {args : List AV} {o : Oper} {l : List Oper} {U : List Nat} {ok : Bool} {s : ASt} (ks : List Nat) {args' : List AV} {H h1 : List Blk} {K' : AV → List Blk → Prop} (hp : prepC s.h ks args = some (args', H, h1)) (hc : ACl P f args' H K') (hok : ((ok && ks.all c.ms.contains) || decide (l.length < c.f)) = true)
    (hmut : c.ms.all (fun b => match c.h0[b]? with | some k => k.st.isMut | none => false) = true)
    (hK : ∀ r H', K' r H' → WM P N c R k (mrun P c l (addU o.dst U) (ok && ks.all c.ms.contains) (ASt.put ⟨s.n, s.t, merge h1 ks H'⟩ o.dst (r.ren (back h1.length ks))))) : WM P N c R k (.call f args o l U ok s) := by
  refine ⟨⟨ks, hok, ?_⟩⟩
  simp only [ACalls, hp]
  refine hc.out.mono ?_
  intro r H' e
  exact mrun_sound' hmut _ _ _ _ (hK r H' e).out
theorem wt_fn {c : MC} {k : List Item} {f : FuncId} {args : List AV} {o : Oper} {fin : Bool} {l : MT} {U : List Nat × List Nat} {ok : Bool} {s : ASt} {args' : List AV} {h1 : List Blk} {r : AV} (hp : prep true s.h [] args = some (args', [], h1)) (hc : AFn P f args' r) (hok : (ok || fin) = true)
    (hmut : c.ms.all (fun b => match c.h0[b]? with | some k => k.st.isMut | none => false) = true)
    (hK : WT P N c R k (trun P c l (addU o.dst U.1, U.2) ok (ASt.put ⟨s.n, s.t, merge h1 [] []⟩ o.dst (r.ren (back h1.length []))))) : WT P N c R k (.call f args o fin l U ok s) := by
  refine ⟨⟨[], by simpa using hok, ?_⟩⟩
  simp only [ACalls, prepC_nil hp]
  refine hc.out.mono ?_
  rintro _ _ ⟨rfl, rfl⟩
  simp only [List.all_nil, Bool.and_true]
  exact trun_sound' hmut _ _ _ _ hK.out
theorem wt_cl {c : MC} {k : List Item} {f : FuncId} {args : List AV} {o : Oper} {fin : Bool} {l : MT} {U : List Nat × List Nat} {ok : Bool} {s : ASt} (ks : List Nat) {args' : List AV} {H h1 : List Blk} {K' : AV → List Blk → Prop} (hp : prepC s.h ks args = some (args', H, h1)) (hc : ACl P f args' H K') (hok : ((ok && ks.all c.ms.contains) || fin) = true)
    (hmut : c.ms.all (fun b => match c.h0[b]? with | some k => k.st.isMut | none => false) = true)
    (hK : ∀ r H', K' r H' → WT P N c R k (trun P c l (addU o.dst U.1, U.2) (ok && ks.all c.ms.contains) (ASt.put ⟨s.n, s.t, merge h1 ks H'⟩ o.dst (r.ren (back h1.length ks))))) : WT P N c R k (.call f args o fin l U ok s) := by
  refine ⟨⟨ks, hok, ?_⟩⟩
  simp only [ACalls, hp]
  refine hc.out.mono ?_
  intro r H' e
  exact trun_sound' hmut _ _ _ _ (hK r H' e).out
theorem wt_fork {c : MC} {k : List Item} {i : Nat} {fin : Bool} {t u : MT} {U : List Nat × List Nat} {ok : Bool} {s : ASt} (hmut : c.ms.all (fun b => match c.h0[b]? with | some k => k.st.isMut | none => false) = true)
    (h1 : WT P N c R k (trun P c (.op i fin t) U ok s)) (h2 : WT P N c R k (trun P c u U ok s)) : WT P N c R k (.fork i fin t u U ok s) :=
  ⟨⟨trun_sound' hmut _ _ _ _ h1.out, trun_sound' hmut _ _ _ _ h2.out⟩⟩
theorem wd_tree {id : Nat} {l : List Oper} {k : List Item} {s : ASt} (T : MT) (ms : List Nat) (hm : P.follows .mixedOrders = true) (hB : treeOK loudOp readOp l.toArray T = true) (hmut : ms.all (fun b => match s.h[b]? with | some k => k.st.isMut | none => false) = true)
    (h : WT P N ⟨0, s.h, ms, l⟩ R k (trun P ⟨0, s.h, ms, l⟩ T ([], []) true s)) : WD P N R (.drawn id l k s) := ⟨go_tree T ms hm hB hmut h.out⟩
theorem wt_done {c : MC} {s : ASt} {k : List Item} (h : WD P N R (arun P 4000 k s)) : WT P N c R k (.done s) := ⟨arun_sound 4000 _ _ h.out⟩
/-- a region that draws its order; behind it -/
theorem wd_mix {id : Nat} {l : List Oper} {k : List Item} {s : ASt} (f : Nat) (ms : List Nat) (hm : P.follows .mixedOrders = true) (hB : mixOK loudOp readOp f l.toArray = true) (hmut : ms.all (fun b => match s.h[b]? with | some k => k.st.isMut | none => false) = true)
    (h : WM P N ⟨f, s.h, ms, l⟩ R k (mrun P ⟨f, s.h, ms, l⟩ l [] true s)) : WD P N R (.drawn id l k s) := ⟨go_mix f ms hm hB hmut h.out⟩
theorem wm_done {c : MC} {s : ASt} {k : List Item} (h : WD P N R (arun P 4000 k s)) : WM P N c R k (.done s) := ⟨arun_sound 4000 _ _ h.out⟩
end
end Go.Proofs.Sh
/- What a run on shadows asks of this program's types and functions. -/
namespace Go.Proofs.Ytfgjiamolknicaa
open Go.RowKit Go.Proofs.Sh
@[go_sem] theorem ti_3 : tinfo Try.prog 3 = some { size := 1, agg := false, bytes := 8, zero := [Value.int IntKind.i64 0], fields := [], elem := 0, kind := 5 } := by kernel_rfl
@[go_sem] theorem tk_3 : tk Try.prog 3 = 5 := by kernel_rfl
@[go_sem] theorem tint_3 : tint Try.prog 3 = some IntKind.i64 := by kernel_rfl
@[go_sem] theorem ti_4 : tinfo Try.prog 4 = some { size := 1, agg := false, bytes := 1, zero := [Value.bool false], fields := [], elem := 0, kind := 6 } := by kernel_rfl
@[go_sem] theorem tk_4 : tk Try.prog 4 = 6 := by kernel_rfl
@[go_sem] theorem tint_4 : tint Try.prog 4 = none := by kernel_rfl
@[go_sem] theorem ti_5 : tinfo Try.prog 5 = some { size := 1, agg := false, bytes := 1, zero := [Value.int IntKind.u8 0], fields := [], elem := 0, kind := 5 } := by kernel_rfl
@[go_sem] theorem tk_5 : tk Try.prog 5 = 5 := by kernel_rfl
@[go_sem] theorem tint_5 : tint Try.prog 5 = some IntKind.u8 := by kernel_rfl
@[go_sem] theorem ti_9 : tinfo Try.prog 9 = some { size := 1, agg := false, bytes := 16, zero := [Value.string { data := { toList := [] } }], fields := [], elem := 0, kind := 4 } := by kernel_rfl
@[go_sem] theorem tk_9 : tk Try.prog 9 = 4 := by kernel_rfl
@[go_sem] theorem tint_9 : tint Try.prog 9 = none := by kernel_rfl
@[go_sem] theorem ti_22 : tinfo Try.prog 22 = some { size := 1, agg := false, bytes := 24, zero := [Value.slice none 0 0], fields := [], elem := 5, kind := 3 } := by kernel_rfl
@[go_sem] theorem tk_22 : tk Try.prog 22 = 3 := by kernel_rfl
@[go_sem] theorem tint_22 : tint Try.prog 22 = none := by kernel_rfl
@[go_sem] theorem es_22 : aesz Try.prog 22 = 1 := by kernel_rfl
@[go_sem] theorem ti_23 : tinfo Try.prog 23 = some { size := 1, agg := false, bytes := 24, zero := [Value.slice none 0 0], fields := [], elem := 25, kind := 3 } := by kernel_rfl
@[go_sem] theorem tk_23 : tk Try.prog 23 = 3 := by kernel_rfl
@[go_sem] theorem tint_23 : tint Try.prog 23 = none := by kernel_rfl
@[go_sem] theorem es_23 : aesz Try.prog 23 = 2 := by kernel_rfl
@[go_sem] theorem ti_25 : tinfo Try.prog 25 = some { size := 2, agg := true, bytes := 32, zero := [Value.int IntKind.i64 0, Value.slice none 0 0], fields := [(0, 1, false), (1, 1, false)], elem := 0, kind := 1 } := by kernel_rfl
@[go_sem] theorem tk_25 : tk Try.prog 25 = 1 := by kernel_rfl
@[go_sem] theorem tint_25 : tint Try.prog 25 = none := by kernel_rfl
@[go_sem] theorem ar_25 : aarr Try.prog 25 = none := by kernel_rfl
@[go_sem] theorem ti_26 : tinfo Try.prog 26 = some { size := 1, agg := false, bytes := 24, zero := [Value.slice none 0 0], fields := [], elem := 28, kind := 3 } := by kernel_rfl
@[go_sem] theorem tk_26 : tk Try.prog 26 = 3 := by kernel_rfl
@[go_sem] theorem tint_26 : tint Try.prog 26 = none := by kernel_rfl
@[go_sem] theorem es_26 : aesz Try.prog 26 = 9 := by kernel_rfl
@[go_sem] theorem ti_28 : tinfo Try.prog 28 = some { size := 9, agg := true, bytes := 128, zero := [Value.int IntKind.i64 0, Value.string { data := { toList := [] } }, Value.int IntKind.i64 0, Value.int IntKind.i64 0, Value.slice none 0 0, Value.int IntKind.i64 0, Value.slice none 0 0, Value.int IntKind.i64 0, Value.slice none 0 0], fields := [(0, 1, false), (1, 1, false), (2, 1, false), (3, 2, true), (5, 2, true), (7, 1, false), (8, 1, false)], elem := 0, kind := 1 } := by kernel_rfl
@[go_sem] theorem tk_28 : tk Try.prog 28 = 1 := by kernel_rfl
@[go_sem] theorem tint_28 : tint Try.prog 28 = none := by kernel_rfl
@[go_sem] theorem ar_28 : aarr Try.prog 28 = none := by kernel_rfl
@[go_sem] theorem ti_33 : tinfo Try.prog 33 = some { size := 1, agg := false, bytes := 8, zero := [Value.nilFunc], fields := [], elem := 0, kind := 0 } := by kernel_rfl
@[go_sem] theorem tk_33 : tk Try.prog 33 = 0 := by kernel_rfl
@[go_sem] theorem tint_33 : tint Try.prog 33 = none := by kernel_rfl
@[go_sem] theorem ti_36 : tinfo Try.prog 36 = some { size := 1, agg := false, bytes := 8, zero := [Value.nilFunc], fields := [], elem := 0, kind := 0 } := by kernel_rfl
@[go_sem] theorem tk_36 : tk Try.prog 36 = 0 := by kernel_rfl
@[go_sem] theorem tint_36 : tint Try.prog 36 = none := by kernel_rfl
@[go_sem] theorem ti_39 : tinfo Try.prog 39 = some { size := 1, agg := false, bytes := 24, zero := [Value.slice none 0 0], fields := [], elem := 41, kind := 3 } := by kernel_rfl
@[go_sem] theorem tk_39 : tk Try.prog 39 = 3 := by kernel_rfl
@[go_sem] theorem tint_39 : tint Try.prog 39 = none := by kernel_rfl
@[go_sem] theorem es_39 : aesz Try.prog 39 = 2 := by kernel_rfl
@[go_sem] theorem ti_41 : tinfo Try.prog 41 = some { size := 2, agg := true, bytes := 32, zero := [Value.int IntKind.i64 0, Value.slice none 0 0], fields := [(0, 1, false), (1, 1, false)], elem := 0, kind := 1 } := by kernel_rfl
@[go_sem] theorem tk_41 : tk Try.prog 41 = 1 := by kernel_rfl
@[go_sem] theorem tint_41 : tint Try.prog 41 = none := by kernel_rfl
@[go_sem] theorem ar_41 : aarr Try.prog 41 = none := by kernel_rfl
@[go_sem] theorem ti_42 : tinfo Try.prog 42 = some { size := 1, agg := false, bytes := 24, zero := [Value.slice none 0 0], fields := [], elem := 44, kind := 3 } := by kernel_rfl
@[go_sem] theorem tk_42 : tk Try.prog 42 = 3 := by kernel_rfl
@[go_sem] theorem tint_42 : tint Try.prog 42 = none := by kernel_rfl
@[go_sem] theorem es_42 : aesz Try.prog 42 = 9 := by kernel_rfl
@[go_sem] theorem ti_44 : tinfo Try.prog 44 = some { size := 9, agg := true, bytes := 128, zero := [Value.int IntKind.i64 0, Value.string { data := { toList := [] } }, Value.int IntKind.i64 0, Value.int IntKind.i64 0, Value.slice none 0 0, Value.int IntKind.i64 0, Value.slice none 0 0, Value.int IntKind.i64 0, Value.slice none 0 0], fields := [(0, 1, false), (1, 1, false), (2, 1, false), (3, 2, true), (5, 2, true), (7, 1, false), (8, 1, false)], elem := 0, kind := 1 } := by kernel_rfl
@[go_sem] theorem tk_44 : tk Try.prog 44 = 1 := by kernel_rfl
@[go_sem] theorem tint_44 : tint Try.prog 44 = none := by kernel_rfl
@[go_sem] theorem ar_44 : aarr Try.prog 44 = none := by kernel_rfl
@[go_sem] theorem ti_61 : tinfo Try.prog 61 = some { size := 1, agg := false, bytes := 24, zero := [Value.slice none 0 0], fields := [], elem := 3, kind := 3 } := by kernel_rfl
@[go_sem] theorem tk_61 : tk Try.prog 61 = 3 := by kernel_rfl
@[go_sem] theorem tint_61 : tint Try.prog 61 = none := by kernel_rfl
@[go_sem] theorem es_61 : aesz Try.prog 61 = 1 := by kernel_rfl
@[go_sem] theorem ti_65 : tinfo Try.prog 65 = some { size := 1, agg := false, bytes := 8, zero := [Value.pointer none], fields := [], elem := 0, kind := 0 } := by kernel_rfl
@[go_sem] theorem tk_65 : tk Try.prog 65 = 0 := by kernel_rfl
@[go_sem] theorem tint_65 : tint Try.prog 65 = none := by kernel_rfl
@[go_sem] theorem ti_73 : tinfo Try.prog 73 = some { size := 1, agg := false, bytes := 24, zero := [Value.slice none 0 0], fields := [], elem := 9, kind := 3 } := by kernel_rfl
@[go_sem] theorem tk_73 : tk Try.prog 73 = 3 := by kernel_rfl
@[go_sem] theorem tint_73 : tint Try.prog 73 = none := by kernel_rfl
@[go_sem] theorem es_73 : aesz Try.prog 73 = 1 := by kernel_rfl
@[go_sem] theorem ti_76 : tinfo Try.prog 76 = some { size := 1, agg := false, bytes := 8, zero := [Value.pointer none], fields := [], elem := 0, kind := 0 } := by kernel_rfl
@[go_sem] theorem tk_76 : tk Try.prog 76 = 0 := by kernel_rfl
@[go_sem] theorem tint_76 : tint Try.prog 76 = none := by kernel_rfl
@[go_sem] theorem ti_79 : tinfo Try.prog 79 = some { size := 1, agg := false, bytes := 8, zero := [Value.nilFunc], fields := [], elem := 0, kind := 0 } := by kernel_rfl
@[go_sem] theorem tk_79 : tk Try.prog 79 = 0 := by kernel_rfl
@[go_sem] theorem tint_79 : tint Try.prog 79 = none := by kernel_rfl
@[go_sem] theorem ti_80 : tinfo Try.prog 80 = some { size := 1, agg := false, bytes := 8, zero := [Value.nilFunc], fields := [], elem := 0, kind := 0 } := by kernel_rfl
@[go_sem] theorem tk_80 : tk Try.prog 80 = 0 := by kernel_rfl
@[go_sem] theorem tint_80 : tint Try.prog 80 = none := by kernel_rfl
@[go_sem] theorem ti_93 : tinfo Try.prog 93 = some { size := 1, agg := false, bytes := 8, zero := [Value.nilFunc], fields := [], elem := 0, kind := 0 } := by kernel_rfl
@[go_sem] theorem tk_93 : tk Try.prog 93 = 0 := by kernel_rfl
@[go_sem] theorem tint_93 : tint Try.prog 93 = none := by kernel_rfl
@[go_sem] theorem ti_106 : tinfo Try.prog 106 = some { size := 2, agg := true, bytes := 32, zero := [Value.slice none 0 0, Value.int IntKind.i64 0], fields := [(0, 1, false), (1, 1, false)], elem := 0, kind := 1 } := by kernel_rfl
@[go_sem] theorem tk_106 : tk Try.prog 106 = 1 := by kernel_rfl
@[go_sem] theorem tint_106 : tint Try.prog 106 = none := by kernel_rfl
@[go_sem] theorem ar_106 : aarr Try.prog 106 = none := by kernel_rfl
@[go_sem] theorem ti_113 : tinfo Try.prog 113 = some { size := 26, agg := true, bytes := 26, zero := [Value.bool false, Value.bool false, Value.bool false, Value.bool false, Value.bool false, Value.bool false, Value.bool false, Value.bool false, Value.bool false, Value.bool false, Value.bool false, Value.bool false, Value.bool false, Value.bool false, Value.bool false, Value.bool false, Value.bool false, Value.bool false, Value.bool false, Value.bool false, Value.bool false, Value.bool false, Value.bool false, Value.bool false, Value.bool false, Value.bool false], fields := [], elem := 4, kind := 2 } := by kernel_rfl
@[go_sem] theorem tk_113 : tk Try.prog 113 = 2 := by kernel_rfl
@[go_sem] theorem tint_113 : tint Try.prog 113 = none := by kernel_rfl
@[go_sem] theorem ar_113 : aarr Try.prog 113 = some 26 := by kernel_rfl
@[go_sem] theorem ti_115 : tinfo Try.prog 115 = some { size := 1, agg := false, bytes := 8, zero := [Value.pointer none], fields := [], elem := 0, kind := 0 } := by kernel_rfl
@[go_sem] theorem tk_115 : tk Try.prog 115 = 0 := by kernel_rfl
@[go_sem] theorem tint_115 : tint Try.prog 115 = none := by kernel_rfl
@[go_sem] theorem ti_135 : tinfo Try.prog 135 = some { size := 1, agg := false, bytes := 8, zero := [Value.int IntKind.u64 0], fields := [], elem := 0, kind := 5 } := by kernel_rfl
@[go_sem] theorem tk_135 : tk Try.prog 135 = 5 := by kernel_rfl
@[go_sem] theorem tint_135 : tint Try.prog 135 = some IntKind.u64 := by kernel_rfl
@[go_sem] theorem ti_138 : tinfo Try.prog 138 = some { size := 1, agg := false, bytes := 24, zero := [Value.slice none 0 0], fields := [], elem := 141, kind := 3 } := by kernel_rfl
@[go_sem] theorem tk_138 : tk Try.prog 138 = 3 := by kernel_rfl
@[go_sem] theorem tint_138 : tint Try.prog 138 = none := by kernel_rfl
@[go_sem] theorem es_138 : aesz Try.prog 138 = 3 := by kernel_rfl
@[go_sem] theorem ti_141 : tinfo Try.prog 141 = some { size := 3, agg := true, bytes := 48, zero := [Value.string { data := { toList := [] } }, Value.int IntKind.i64 0, Value.slice none 0 0], fields := [(0, 1, false), (1, 2, true)], elem := 0, kind := 1 } := by kernel_rfl
@[go_sem] theorem tk_141 : tk Try.prog 141 = 1 := by kernel_rfl
@[go_sem] theorem tint_141 : tint Try.prog 141 = none := by kernel_rfl
@[go_sem] theorem ar_141 : aarr Try.prog 141 = none := by kernel_rfl
@[go_sem] theorem ti_148 : tinfo Try.prog 148 = some { size := 1, agg := false, bytes := 8, zero := [Value.int IntKind.i64 0], fields := [], elem := 0, kind := 5 } := by kernel_rfl
@[go_sem] theorem tk_148 : tk Try.prog 148 = 5 := by kernel_rfl
@[go_sem] theorem tint_148 : tint Try.prog 148 = some IntKind.i64 := by kernel_rfl
@[go_sem] theorem ti_157 : tinfo Try.prog 157 = some { size := 1, agg := false, bytes := 4, zero := [Value.int IntKind.u32 0], fields := [], elem := 0, kind := 5 } := by kernel_rfl
@[go_sem] theorem tk_157 : tk Try.prog 157 = 5 := by kernel_rfl
@[go_sem] theorem tint_157 : tint Try.prog 157 = some IntKind.u32 := by kernel_rfl
@[go_sem] theorem ti_159 : tinfo Try.prog 159 = some { size := 1, agg := false, bytes := 8, zero := [Value.int IntKind.u64 0], fields := [], elem := 0, kind := 5 } := by kernel_rfl
@[go_sem] theorem tk_159 : tk Try.prog 159 = 5 := by kernel_rfl
@[go_sem] theorem tint_159 : tint Try.prog 159 = some IntKind.u64 := by kernel_rfl
@[go_sem] theorem ti_165 : tinfo Try.prog 165 = some { size := 1, agg := false, bytes := 8, zero := [Value.int IntKind.u64 0], fields := [], elem := 0, kind := 5 } := by kernel_rfl
@[go_sem] theorem tk_165 : tk Try.prog 165 = 5 := by kernel_rfl
@[go_sem] theorem tint_165 : tint Try.prog 165 = some IntKind.u64 := by kernel_rfl
theorem follows : Try.prog.follows .mixedOrders = true := by kernel_rfl
theorem isfn_2 : IsFn Try.prog 2 := by intro args w; kernel_rfl
theorem isfn_3 : IsFn Try.prog 3 := by intro args w; kernel_rfl
theorem isfn_4 : IsFn Try.prog 4 := by intro args w; kernel_rfl
theorem isfn_5 : IsFn Try.prog 5 := by intro args w; kernel_rfl
theorem isfn_6 : IsFn Try.prog 6 := by intro args w; kernel_rfl
theorem isfn_7 : IsFn Try.prog 7 := by intro args w; kernel_rfl
theorem isfn_8 : IsFn Try.prog 8 := by intro args w; kernel_rfl
theorem isfn_9 : IsFn Try.prog 9 := by intro args w; kernel_rfl
theorem isfn_10 : IsFn Try.prog 10 := by intro args w; kernel_rfl
theorem isfn_11 : IsFn Try.prog 11 := by intro args w; kernel_rfl
theorem isfn_12 : IsFn Try.prog 12 := by intro args w; kernel_rfl
theorem isfn_13 : IsFn Try.prog 13 := by intro args w; kernel_rfl
theorem isfn_14 : IsFn Try.prog 14 := by intro args w; kernel_rfl
theorem isfn_15 : IsFn Try.prog 15 := by intro args w; kernel_rfl
theorem isfn_16 : IsFn Try.prog 16 := by intro args w; kernel_rfl
theorem isfn_17 : IsFn Try.prog 17 := by intro args w; kernel_rfl
theorem isfn_18 : IsFn Try.prog 18 := by intro args w; kernel_rfl
theorem isfn_19 : IsFn Try.prog 19 := by intro args w; kernel_rfl
theorem isfn_20 : IsFn Try.prog 20 := by intro args w; kernel_rfl
theorem isfn_21 : IsFn Try.prog 21 := by intro args w; kernel_rfl
theorem isfn_22 : IsFn Try.prog 22 := by intro args w; kernel_rfl
theorem isfn_23 : IsFn Try.prog 23 := by intro args w; kernel_rfl
theorem isfn_24 : IsFn Try.prog 24 := by intro args w; kernel_rfl
theorem isfn_25 : IsFn Try.prog 25 := by intro args w; kernel_rfl
theorem isfn_26 : IsFn Try.prog 26 := by intro args w; kernel_rfl
theorem isfn_27 : IsFn Try.prog 27 := by intro args w; kernel_rfl
theorem isfn_28 : IsFn Try.prog 28 := by intro args w; kernel_rfl
theorem isfn_29 : IsFn Try.prog 29 := by intro args w; kernel_rfl
theorem isfn_30 : IsFn Try.prog 30 := by intro args w; kernel_rfl
theorem isfn_31 : IsFn Try.prog 31 := by intro args w; kernel_rfl
theorem isfn_32 : IsFn Try.prog 32 := by intro args w; kernel_rfl
theorem isfn_33 : IsFn Try.prog 33 := by intro args w; kernel_rfl
theorem isfn_34 : IsFn Try.prog 34 := by intro args w; kernel_rfl
theorem isfn_35 : IsFn Try.prog 35 := by intro args w; kernel_rfl
theorem isfn_36 : IsFn Try.prog 36 := by intro args w; kernel_rfl
theorem isfn_37 : IsFn Try.prog 37 := by intro args w; kernel_rfl
theorem isfn_38 : IsFn Try.prog 38 := by intro args w; kernel_rfl
theorem isfn_39 : IsFn Try.prog 39 := by intro args w; kernel_rfl
theorem isfn_40 : IsFn Try.prog 40 := by intro args w; kernel_rfl
theorem isfn_41 : IsFn Try.prog 41 := by intro args w; kernel_rfl
theorem isfn_42 : IsFn Try.prog 42 := by intro args w; kernel_rfl
theorem isfn_43 : IsFn Try.prog 43 := by intro args w; kernel_rfl
theorem isfn_44 : IsFn Try.prog 44 := by intro args w; kernel_rfl
theorem isfn_45 : IsFn Try.prog 45 := by intro args w; kernel_rfl
theorem isfn_46 : IsFn Try.prog 46 := by intro args w; kernel_rfl
theorem isfn_47 : IsFn Try.prog 47 := by intro args w; kernel_rfl
theorem isfn_48 : IsFn Try.prog 48 := by intro args w; kernel_rfl
theorem isfn_49 : IsFn Try.prog 49 := by intro args w; kernel_rfl
theorem isfn_50 : IsFn Try.prog 50 := by intro args w; kernel_rfl
theorem isfn_51 : IsFn Try.prog 51 := by intro args w; kernel_rfl
theorem isfn_52 : IsFn Try.prog 52 := by intro args w; kernel_rfl
theorem isfn_53 : IsFn Try.prog 53 := by intro args w; kernel_rfl
theorem isfn_54 : IsFn Try.prog 54 := by intro args w; kernel_rfl
theorem isfn_55 : IsFn Try.prog 55 := by intro args w; kernel_rfl
theorem isfn_56 : IsFn Try.prog 56 := by intro args w; kernel_rfl
theorem isfn_57 : IsFn Try.prog 57 := by intro args w; kernel_rfl
theorem isfn_58 : IsFn Try.prog 58 := by intro args w; kernel_rfl
theorem isfn_59 : IsFn Try.prog 59 := by intro args w; kernel_rfl
theorem isfn_60 : IsFn Try.prog 60 := by intro args w; kernel_rfl
theorem isfn_61 : IsFn Try.prog 61 := by intro args w; kernel_rfl
theorem isfn_62 : IsFn Try.prog 62 := by intro args w; kernel_rfl
theorem isfn_63 : IsFn Try.prog 63 := by intro args w; kernel_rfl
theorem isfn_64 : IsFn Try.prog 64 := by intro args w; kernel_rfl
theorem isfn_65 : IsFn Try.prog 65 := by intro args w; kernel_rfl
theorem isfn_66 : IsFn Try.prog 66 := by intro args w; kernel_rfl
theorem isfn_67 : IsFn Try.prog 67 := by intro args w; kernel_rfl
theorem isfn_68 : IsFn Try.prog 68 := by intro args w; kernel_rfl
theorem isfn_69 : IsFn Try.prog 69 := by intro args w; kernel_rfl
theorem isfn_70 : IsFn Try.prog 70 := by intro args w; kernel_rfl
theorem isfn_71 : IsFn Try.prog 71 := by intro args w; kernel_rfl
theorem isfn_72 : IsFn Try.prog 72 := by intro args w; kernel_rfl
theorem isfn_73 : IsFn Try.prog 73 := by intro args w; kernel_rfl
theorem isfn_74 : IsFn Try.prog 74 := by intro args w; kernel_rfl
theorem isfn_75 : IsFn Try.prog 75 := by intro args w; kernel_rfl
theorem isfn_76 : IsFn Try.prog 76 := by intro args w; kernel_rfl
theorem isfn_77 : IsFn Try.prog 77 := by intro args w; kernel_rfl
theorem isfn_78 : IsFn Try.prog 78 := by intro args w; kernel_rfl
theorem isfn_79 : IsFn Try.prog 79 := by intro args w; kernel_rfl
theorem isfn_80 : IsFn Try.prog 80 := by intro args w; kernel_rfl
theorem isfn_81 : IsFn Try.prog 81 := by intro args w; kernel_rfl
theorem isfn_82 : IsFn Try.prog 82 := by intro args w; kernel_rfl
theorem isfn_83 : IsFn Try.prog 83 := by intro args w; kernel_rfl
theorem isfn_84 : IsFn Try.prog 84 := by intro args w; kernel_rfl
theorem isfn_85 : IsFn Try.prog 85 := by intro args w; kernel_rfl
theorem isfn_86 : IsFn Try.prog 86 := by intro args w; kernel_rfl
theorem isfn_87 : IsFn Try.prog 87 := by intro args w; kernel_rfl
theorem isfn_88 : IsFn Try.prog 88 := by intro args w; kernel_rfl
theorem isfn_89 : IsFn Try.prog 89 := by intro args w; kernel_rfl
theorem isfn_90 : IsFn Try.prog 90 := by intro args w; kernel_rfl
theorem isfn_91 : IsFn Try.prog 91 := by intro args w; kernel_rfl
theorem isfn_92 : IsFn Try.prog 92 := by intro args w; kernel_rfl
theorem isfn_93 : IsFn Try.prog 93 := by intro args w; kernel_rfl
theorem isfn_94 : IsFn Try.prog 94 := by intro args w; kernel_rfl
theorem isfn_95 : IsFn Try.prog 95 := by intro args w; kernel_rfl
theorem isfn_96 : IsFn Try.prog 96 := by intro args w; kernel_rfl
theorem isfn_97 : IsFn Try.prog 97 := by intro args w; kernel_rfl
theorem isfn_98 : IsFn Try.prog 98 := by intro args w; kernel_rfl
theorem isfn_99 : IsFn Try.prog 99 := by intro args w; kernel_rfl
theorem isfn_100 : IsFn Try.prog 100 := by intro args w; kernel_rfl
theorem isfn_101 : IsFn Try.prog 101 := by intro args w; kernel_rfl
theorem isfn_102 : IsFn Try.prog 102 := by intro args w; kernel_rfl
theorem isfn_103 : IsFn Try.prog 103 := by intro args w; kernel_rfl
theorem isfn_104 : IsFn Try.prog 104 := by intro args w; kernel_rfl
theorem isfn_105 : IsFn Try.prog 105 := by intro args w; kernel_rfl
theorem isfn_106 : IsFn Try.prog 106 := by intro args w; kernel_rfl
theorem isfn_107 : IsFn Try.prog 107 := by intro args w; kernel_rfl
theorem isfn_108 : IsFn Try.prog 108 := by intro args w; kernel_rfl
theorem isfn_109 : IsFn Try.prog 109 := by intro args w; kernel_rfl
theorem isfn_110 : IsFn Try.prog 110 := by intro args w; kernel_rfl
theorem isfn_111 : IsFn Try.prog 111 := by intro args w; kernel_rfl
theorem isfn_112 : IsFn Try.prog 112 := by intro args w; kernel_rfl
theorem isfn_113 : IsFn Try.prog 113 := by intro args w; kernel_rfl
theorem isfn_114 : IsFn Try.prog 114 := by intro args w; kernel_rfl
theorem isfn_115 : IsFn Try.prog 115 := by intro args w; kernel_rfl
theorem isfn_116 : IsFn Try.prog 116 := by intro args w; kernel_rfl
theorem isfn_117 : IsFn Try.prog 117 := by intro args w; kernel_rfl
theorem isfn_118 : IsFn Try.prog 118 := by intro args w; kernel_rfl
theorem isfn_119 : IsFn Try.prog 119 := by intro args w; kernel_rfl
theorem isfn_120 : IsFn Try.prog 120 := by intro args w; kernel_rfl
theorem isfn_121 : IsFn Try.prog 121 := by intro args w; kernel_rfl
theorem isfn_122 : IsFn Try.prog 122 := by intro args w; kernel_rfl
theorem isfn_123 : IsFn Try.prog 123 := by intro args w; kernel_rfl
theorem isfn_124 : IsFn Try.prog 124 := by intro args w; kernel_rfl
theorem isfn_125 : IsFn Try.prog 125 := by intro args w; kernel_rfl
theorem isfn_126 : IsFn Try.prog 126 := by intro args w; kernel_rfl
theorem isfn_127 : IsFn Try.prog 127 := by intro args w; kernel_rfl
theorem isfn_128 : IsFn Try.prog 128 := by intro args w; kernel_rfl
theorem isfn_129 : IsFn Try.prog 129 := by intro args w; kernel_rfl
theorem isfn_130 : IsFn Try.prog 130 := by intro args w; kernel_rfl
theorem isfn_131 : IsFn Try.prog 131 := by intro args w; kernel_rfl
theorem isfn_132 : IsFn Try.prog 132 := by intro args w; kernel_rfl
theorem isfn_133 : IsFn Try.prog 133 := by intro args w; kernel_rfl
theorem isfn_134 : IsFn Try.prog 134 := by intro args w; kernel_rfl
theorem isfn_135 : IsFn Try.prog 135 := by intro args w; kernel_rfl
theorem isfn_136 : IsFn Try.prog 136 := by intro args w; kernel_rfl
theorem isfn_137 : IsFn Try.prog 137 := by intro args w; kernel_rfl
theorem isfn_138 : IsFn Try.prog 138 := by intro args w; kernel_rfl
theorem isfn_139 : IsFn Try.prog 139 := by intro args w; kernel_rfl
theorem isfn_140 : IsFn Try.prog 140 := by intro args w; kernel_rfl
theorem isfn_141 : IsFn Try.prog 141 := by intro args w; kernel_rfl
theorem isfn_142 : IsFn Try.prog 142 := by intro args w; kernel_rfl
theorem isfn_143 : IsFn Try.prog 143 := by intro args w; kernel_rfl
theorem isfn_144 : IsFn Try.prog 144 := by intro args w; kernel_rfl
theorem isfn_145 : IsFn Try.prog 145 := by intro args w; kernel_rfl
theorem isfn_146 : IsFn Try.prog 146 := by intro args w; kernel_rfl
theorem isfn_147 : IsFn Try.prog 147 := by intro args w; kernel_rfl
theorem isfn_148 : IsFn Try.prog 148 := by intro args w; kernel_rfl
theorem isfn_149 : IsFn Try.prog 149 := by intro args w; kernel_rfl
theorem isfn_150 : IsFn Try.prog 150 := by intro args w; kernel_rfl
theorem isfn_151 : IsFn Try.prog 151 := by intro args w; kernel_rfl
theorem isfn_152 : IsFn Try.prog 152 := by intro args w; kernel_rfl
theorem isfn_153 : IsFn Try.prog 153 := by intro args w; kernel_rfl
theorem isfn_154 : IsFn Try.prog 154 := by intro args w; kernel_rfl
theorem isfn_155 : IsFn Try.prog 155 := by intro args w; kernel_rfl
theorem isfn_156 : IsFn Try.prog 156 := by intro args w; kernel_rfl
theorem isfn_157 : IsFn Try.prog 157 := by intro args w; kernel_rfl
theorem isfn_158 : IsFn Try.prog 158 := by intro args w; kernel_rfl
theorem isfn_159 : IsFn Try.prog 159 := by intro args w; kernel_rfl
theorem isfn_160 : IsFn Try.prog 160 := by intro args w; kernel_rfl
theorem isfn_161 : IsFn Try.prog 161 := by intro args w; kernel_rfl
theorem isfn_162 : IsFn Try.prog 162 := by intro args w; kernel_rfl
theorem isfn_163 : IsFn Try.prog 163 := by intro args w; kernel_rfl
theorem isfn_164 : IsFn Try.prog 164 := by intro args w; kernel_rfl
theorem isfn_165 : IsFn Try.prog 165 := by intro args w; kernel_rfl
theorem isfn_166 : IsFn Try.prog 166 := by intro args w; kernel_rfl
theorem isfn_167 : IsFn Try.prog 167 := by intro args w; kernel_rfl
theorem isfn_168 : IsFn Try.prog 168 := by intro args w; kernel_rfl
theorem isfn_169 : IsFn Try.prog 169 := by intro args w; kernel_rfl
theorem isfn_170 : IsFn Try.prog 170 := by intro args w; kernel_rfl
theorem isfn_171 : IsFn Try.prog 171 := by intro args w; kernel_rfl
theorem isfn_172 : IsFn Try.prog 172 := by intro args w; kernel_rfl
theorem isfn_173 : IsFn Try.prog 173 := by intro args w; kernel_rfl
theorem isfn_174 : IsFn Try.prog 174 := by intro args w; kernel_rfl
theorem isfn_175 : IsFn Try.prog 175 := by intro args w; kernel_rfl
theorem isfn_176 : IsFn Try.prog 176 := by intro args w; kernel_rfl
theorem isfn_177 : IsFn Try.prog 177 := by intro args w; kernel_rfl
theorem isfn_178 : IsFn Try.prog 178 := by intro args w; kernel_rfl
theorem isfn_179 : IsFn Try.prog 179 := by intro args w; kernel_rfl
theorem isfn_180 : IsFn Try.prog 180 := by intro args w; kernel_rfl
theorem isfn_181 : IsFn Try.prog 181 := by intro args w; kernel_rfl
theorem isfn_182 : IsFn Try.prog 182 := by intro args w; kernel_rfl
theorem isfn_183 : IsFn Try.prog 183 := by intro args w; kernel_rfl
theorem isfn_184 : IsFn Try.prog 184 := by intro args w; kernel_rfl
theorem isfn_185 : IsFn Try.prog 185 := by intro args w; kernel_rfl
theorem isfn_186 : IsFn Try.prog 186 := by intro args w; kernel_rfl
theorem isfn_187 : IsFn Try.prog 187 := by intro args w; kernel_rfl
theorem isfn_188 : IsFn Try.prog 188 := by intro args w; kernel_rfl
theorem isfn_189 : IsFn Try.prog 189 := by intro args w; kernel_rfl
theorem isfn_190 : IsFn Try.prog 190 := by intro args w; kernel_rfl
theorem isfn_191 : IsFn Try.prog 191 := by intro args w; kernel_rfl
theorem isfn_192 : IsFn Try.prog 192 := by intro args w; kernel_rfl
theorem isfn_193 : IsFn Try.prog 193 := by intro args w; kernel_rfl
theorem isfn_194 : IsFn Try.prog 194 := by intro args w; kernel_rfl
theorem isfn_195 : IsFn Try.prog 195 := by intro args w; kernel_rfl
theorem isfn_196 : IsFn Try.prog 196 := by intro args w; kernel_rfl
theorem isfn_197 : IsFn Try.prog 197 := by intro args w; kernel_rfl
theorem isfn_198 : IsFn Try.prog 198 := by intro args w; kernel_rfl
theorem isfn_199 : IsFn Try.prog 199 := by intro args w; kernel_rfl
theorem isfn_200 : IsFn Try.prog 200 := by intro args w; kernel_rfl
theorem isfn_201 : IsFn Try.prog 201 := by intro args w; kernel_rfl
theorem isfn_202 : IsFn Try.prog 202 := by intro args w; kernel_rfl
theorem isfn_203 : IsFn Try.prog 203 := by intro args w; kernel_rfl
theorem isfn_204 : IsFn Try.prog 204 := by intro args w; kernel_rfl
theorem isfn_205 : IsFn Try.prog 205 := by intro args w; kernel_rfl
theorem isfn_206 : IsFn Try.prog 206 := by intro args w; kernel_rfl
theorem isfn_207 : IsFn Try.prog 207 := by intro args w; kernel_rfl
theorem isfn_208 : IsFn Try.prog 208 := by intro args w; kernel_rfl
theorem isfn_209 : IsFn Try.prog 209 := by intro args w; kernel_rfl
theorem isfn_210 : IsFn Try.prog 210 := by intro args w; kernel_rfl
theorem isfn_211 : IsFn Try.prog 211 := by intro args w; kernel_rfl
theorem isfn_212 : IsFn Try.prog 212 := by intro args w; kernel_rfl
theorem isfn_213 : IsFn Try.prog 213 := by intro args w; kernel_rfl
theorem isfn_214 : IsFn Try.prog 214 := by intro args w; kernel_rfl
theorem isfn_215 : IsFn Try.prog 215 := by intro args w; kernel_rfl
theorem isfn_216 : IsFn Try.prog 216 := by intro args w; kernel_rfl
theorem isfn_217 : IsFn Try.prog 217 := by intro args w; kernel_rfl
theorem isfn_218 : IsFn Try.prog 218 := by intro args w; kernel_rfl
theorem isfn_220 : IsFn Try.prog 220 := by intro args w; kernel_rfl
theorem isfn_221 : IsFn Try.prog 221 := by intro args w; kernel_rfl
theorem isfn_222 : IsFn Try.prog 222 := by intro args w; kernel_rfl
theorem isfn_224 : IsFn Try.prog 224 := by intro args w; kernel_rfl
end Go.Proofs.Ytfgjiamolknicaa
/- Lists of numbers sorted and made compact by the library: its contracts, as contracts on shadows. -/
namespace Go.Proofs.Sh
open Go.RowKit
def intR : List Int → List (List C) | [] => [] | z :: l => [.sc (.int .i64 z)] :: intR l
@[go_sem] theorem intR_length (l : List Int) : (intR l).length = l.length := by
  induction l with
  | nil => rfl
  | cons t l ih => simp [intR, ih]
theorem intR_get (l : List Int) (i : Nat) : (intR l)[i]? = (l[i]?).map fun z => [C.sc (.int .i64 z)] := by
  induction l generalizing i with
  | nil => simp [intR]
  | cons t l ih => cases i <;> simp [intR, ih]
/-- the k-th number -/
def num (l : List Int) (k : Nat) : Int := l.getD k 0
@[go_sem] theorem intR_at (l : List Int) (i : Nat) : (intR l)[i]? = match decide ((i : Int) < (l.length : Int)) with | true => some [C.sc (.int .i64 (num l i))] | false => none := by
  rw [intR_get]
  by_cases h : i < l.length
  · have h' : (i : Int) < (l.length : Int) := by omega
    simp [h, h', num]
  · have h' : ¬ (i : Int) < (l.length : Int) := by omega
    simp [h, h']
theorem num_eq {l : List Int} {k : Nat} (h : k < l.length) : num l k = l[k] := by simp [num, h]
theorem intR_append (l m : List Int) : intR (l ++ m) = intR l ++ intR m := by
  induction l with
  | nil => rfl
  | cons t l ih => simp [intR, ih]
theorem numtake {l : List Int} {k : Nat} (h : k < l.length) : l.take (k + 1) = l.take k ++ [num l k] := by
  rw [num_eq h, List.take_succ_eq_append_getElem h]
theorem numdrop {l : List Int} {k : Nat} (h : k < l.length) : l.drop k = num l k :: l.drop (k + 1) := by
  rw [num_eq h, List.drop_eq_getElem_cons h]
theorem intR_take {l : List Int} {k : Nat} (h : k < l.length) : intR (l.take (k + 1)) = intR (l.take k) ++ [[.sc (.int .i64 (num l k))]] := by
  rw [numtake h, intR_append]; rfl
@[go_sem] theorem intR_tree (l : List Int) : treeRows (intR l) = true := by
  induction l with
  | nil => rfl
  | cons t l ih => simp only [intR, treeRows_cons, treeL_cons, treeL_nil, C.tree, Bool.true_and]; exact ih
@[go_sem] theorem intR_len (l : List Int) : rowsLen 1 (intR l) = true := by
  induction l with
  | nil => rfl
  | cons t l ih => simp only [intR, rowsLen_cons, List.length_cons, List.length_nil]; exact ih
attribute [go_sem] intR
/-! ### a row of numbers written by the library -/
section
variable {X : List Nat} {g : Nat} {ty : TypeId} {zs : List Int} {w : World}
theorem sim_cells (hS : Sim X [g] [⟨1, ty, .mut, intR zs⟩] w) : ∃ cur, w.heap[g]? = some (.cells cur ty (0, 0)) ∧ ∀ j (h : j < zs.length), cur[j]? = some (.int .i64 zs[j]) := by
  obtain ⟨cur, h1, h2⟩ := hS.blk 0 _ g rfl rfl rfl
  refine ⟨cur, h1, fun j h => ?_⟩
  have h3 : (intR zs)[j]? = some [C.sc (.int .i64 zs[j])] := by rw [intR_get]; simp [h]
  obtain ⟨_, h4⟩ := h2 j _ h3
  obtain ⟨u, h5, h6⟩ := h4 0 _ rfl
  simp only [C.rep] at h6
  simpa [h6.1] using h5
theorem sim_holds (hS : Sim X [g] [⟨1, ty, .mut, intR zs⟩] w) : Go.Sort.Holds (Value.int .i64) w g 0 zs.toArray := by
  obtain ⟨cur, h1, h2⟩ := sim_cells hS
  intro j hj
  have hj : j < zs.length := by simpa using hj
  have h3 := h2 j hj
  have hlt := (Array.getElem?_eq_some_iff.1 h3).1
  refine ⟨?_, ?_⟩
  · simp only [World.cell?, h1, Nat.zero_add, h3]
    simp [hj]
  · simp [World.frozen?, h1]
theorem put_heap {d : Array Int} {os : Array Obj} {n : Nat} {cur : Array Value} (hg : w.heap[g]? = some (.cells cur ty (0, 0))) : ∀ b, b < w.heap.size → (Go.Sort.grow (Go.Sort.putRow (Value.int .i64) (Go.Sort.ahead w n) g 0 d) os).heap[b]? = if b = g then some (.cells (Go.Sort.putCells (Value.int .i64) 0 d cur) ty (0, 0)) else w.heap[b]? := by
  intro b hb
  have : (Go.Sort.grow (Go.Sort.putRow (Value.int .i64) (Go.Sort.ahead w n) g 0 d) os).heap[b]? = (Go.Sort.putRow (Value.int .i64) (Go.Sort.ahead w n) g 0 d).heap[b]? := by
    rw [Go.Sort.heap_grow_old]; simpa using hb
  rw [this]
  show (w.heap.modify g _)[b]? = _
  rw [Array.getElem?_modify]
  by_cases h : b = g
  · subst h; simp [hg, Go.Sort.onCells]
  · rw [if_neg h, if_neg (fun e => h e.symm)]
theorem put_sim (hS : Sim X [g] [⟨1, ty, .mut, intR zs⟩] w) {d : List Int} {os : Array Obj} {n : Nat} {l : List Int} (hd : d.length = zs.length) (hl : l.length ≤ d.length) (hp : ∀ j (h : j < l.length), d[j]? = some l[j]) :
    Sim X [g] [⟨1, ty, .mut, intR l⟩] (Go.Sort.grow (Go.Sort.putRow (Value.int .i64) (Go.Sort.ahead w n) g 0 d.toArray) os) ∧ Stp [g] [⟨1, ty, .mut, intR zs⟩] w [g] [⟨1, ty, .mut, intR l⟩] (Go.Sort.grow (Go.Sort.putRow (Value.int .i64) (Go.Sort.ahead w n) g 0 d.toArray) os) := by
  obtain ⟨cur, hg, hc⟩ := sim_cells hS
  have hh := put_heap (w := w) (d := d.toArray) (os := os) (n := n) hg
  have hsz : w.heap.size ≤ (Go.Sort.grow (Go.Sort.putRow (Value.int .i64) (Go.Sort.ahead w n) g 0 d.toArray) os).heap.size := by simp
  have hgs : g < w.heap.size := (Array.getElem?_eq_some_iff.1 hg).1
  refine ⟨⟨rfl, fun x hx => ?_, fun x hx => Nat.lt_of_lt_of_le (hS.xlt x hx) hsz, ?_, ?_, ?_⟩, ⟨⟨rfl, rfl, rfl, hsz, ?_, ?_⟩, fun _ _ h => h, fun x hx _ => hx⟩⟩
  · simp at hx; subst hx; omega
  · intro i b x hi hk hx
    cases i with
    | zero => simp at hx; subst hx; exact hS.out 0 _ g rfl rfl rfl
    | succ i => simp at hi
  · intro i j b b' x hij hi hj
    cases i with
    | zero => cases j with
      | zero => exact absurd rfl hij
      | succ j => simp at hj
    | succ i => simp at hi
  · intro i b x hi hk hx
    cases i with
    | zero =>
      simp at hi hx; subst hi hx
      refine ⟨_, by rw [hh g hgs, if_pos rfl], fun i r hr => ?_⟩
      rw [intR_get] at hr
      by_cases hil : i < l.length
      · rw [List.getElem?_eq_getElem hil] at hr
        simp only [Option.map_some, Option.some.injEq] at hr
        subst hr
        refine ⟨rfl, fun j c hj => ?_⟩
        cases j with
        | zero =>
          simp at hj; subst hj
          have hci := hc i (by omega)
          refine ⟨.int .i64 l[i], ?_, ?_⟩
          · simp only [Go.Sort.putCells, Nat.mul_one, Nat.add_zero, Array.getElem?_mapIdx, hci, Option.map_some]
            have : d.toArray[i]! = l[i] := by
              have := hp i hil
              simp [this]
            rw [if_pos ⟨Nat.zero_le _, by simp; omega⟩, Nat.sub_zero, this]
          · simp only [C.rep]; exact ⟨trivial, rfl⟩
        | succ j => simp at hj
      · rw [List.getElem?_eq_none (by omega)] at hr; simp at hr
    | succ i => simp at hi
  · intro b hb hbl
    have : b ≠ g := fun e => hb (by simp [alive, St.isMut, e])
    rw [hh b hbl, if_neg this]
  · intro b c t hb
    have hbl : b < w.heap.size := (Array.getElem?_eq_some_iff.1 hb).1
    rw [hh b hbl]
    by_cases e : b = g
    · subst e
      rw [hg] at hb
      simp only [Option.some.injEq, Obj.cells.injEq] at hb
      obtain ⟨rfl, rfl, _⟩ := hb
      exact ⟨_, by rw [if_pos rfl], by simp [Go.Sort.putCells]⟩
    · exact ⟨c, by rw [if_neg e]; exact hb, rfl⟩
end
end Go.Proofs.Sh
/- Under which numbers the library's sort and its removal of neighbours stand in this program. -/
namespace Go.Proofs.Ytfgjiamolknicaa
set_option maxRecDepth 1000000
set_option maxHeartbeats 40000000
def sortRen : Go.Shelf.Ren := ⟨fun | 189 => 121 | 125 => 167 | 257 => 166 | 128 => 198 | 129 => 199 | 294 => 189 | 295 => 190 | 296 => 191 | 297 => 192 | 298 => 193 | 299 => 194 | 216 => 195 | 300 => 196 | 301 => 197 | 328 => 208 | 329 => 209 | 330 => 210 | 331 => 211 | 332 => 212 | 215 => 213 | 343 => 217 | n => n, fun | 28 => 61 | 3 => 3 | 46 => 135 | 0 => 0 | 51 => 157 | 53 => 159 | 4 => 4 | 183 => 149 | 182 => 148 | 131 => 154 | 5 => 5 | 9 => 9 | 218 => 165 | 222 => 76 | 228 => 172 | 229 => 173 | n => n, fun n => n⟩
theorem sortLays : Lays.n189 Try.prog sortRen where
  mixed := by kernel_rfl
  f125 := Try.func167.trans (congrArg some (by kernel_rfl))
  f128 := Try.func198.trans (congrArg some (by kernel_rfl))
  f129 := Try.func199.trans (congrArg some (by kernel_rfl))
  f189 := Try.func121.trans (congrArg some (by kernel_rfl))
  f215 := Try.func213.trans (congrArg some (by kernel_rfl))
  f216 := Try.func195.trans (congrArg some (by kernel_rfl))
  f257 := Try.func166.trans (congrArg some (by kernel_rfl))
  f294 := Try.func189.trans (congrArg some (by kernel_rfl))
  f295 := Try.func190.trans (congrArg some (by kernel_rfl))
  f296 := Try.func191.trans (congrArg some (by kernel_rfl))
  f297 := Try.func192.trans (congrArg some (by kernel_rfl))
  f298 := Try.func193.trans (congrArg some (by kernel_rfl))
  f299 := Try.func194.trans (congrArg some (by kernel_rfl))
  f300 := Try.func196.trans (congrArg some (by kernel_rfl))
  f301 := Try.func197.trans (congrArg some (by kernel_rfl))
  f328 := Try.func208.trans (congrArg some (by kernel_rfl))
  f329 := Try.func209.trans (congrArg some (by kernel_rfl))
  f330 := Try.func210.trans (congrArg some (by kernel_rfl))
  f331 := Try.func211.trans (congrArg some (by kernel_rfl))
  f332 := Try.func212.trans (congrArg some (by kernel_rfl))
  f343 := Try.func217.trans (congrArg some (by kernel_rfl))
  t0 := Try.underlying0
  a0 := Try.isAgg0
  z0 := Try.sizeOf0
  v0 := Try.zeroValue0
  t3 := Try.underlying3
  a3 := Try.isAgg3
  z3 := Try.sizeOf3
  v3 := Try.zeroValue3
  t4 := Try.underlying4
  a4 := Try.isAgg4
  z4 := Try.sizeOf4
  v4 := Try.zeroValue4
  t5 := Try.underlying5
  a5 := Try.isAgg5
  z5 := Try.sizeOf5
  v5 := Try.zeroValue5
  t9 := Try.underlying9
  a9 := Try.isAgg9
  z9 := Try.sizeOf9
  v9 := Try.zeroValue9
  t28 := Try.underlying61
  a28 := Try.isAgg61
  z28 := Try.sizeOf61
  v28 := Try.zeroValue61
  t46 := Try.underlying135
  a46 := Try.isAgg135
  z46 := Try.sizeOf135
  v46 := Try.zeroValue135
  t51 := Try.underlying157
  a51 := Try.isAgg157
  z51 := Try.sizeOf157
  v51 := Try.zeroValue157
  t53 := Try.underlying159
  a53 := Try.isAgg159
  z53 := Try.sizeOf159
  v53 := Try.zeroValue159
  t131 := Try.underlying154
  a131 := Try.isAgg154
  z131 := Try.sizeOf154
  v131 := Try.zeroValue154
  t182 := Try.underlying148
  a182 := Try.isAgg148
  z182 := Try.sizeOf148
  v182 := Try.zeroValue148
  t183 := Try.underlying149
  a183 := Try.isAgg149
  z183 := Try.sizeOf149
  v183 := Try.zeroValue149
  t218 := Try.underlying165
  a218 := Try.isAgg165
  z218 := Try.sizeOf165
  v218 := Try.zeroValue165
  t222 := Try.underlying76
  a222 := Try.isAgg76
  z222 := Try.sizeOf76
  v222 := Try.zeroValue76
  t228 := Try.underlying172
  a228 := Try.isAgg172
  z228 := Try.sizeOf172
  v228 := Try.zeroValue172
  t229 := Try.underlying173
  a229 := Try.isAgg173
  z229 := Try.sizeOf173
  v229 := Try.zeroValue173
def compRen : Go.Shelf.Ren := ⟨fun | 20 => 122 | n => n, fun | 22 => 61 | 3 => 3 | 4 => 4 | 0 => 0 | n => n, fun n => n⟩
theorem compLays : Lays2.n20 Try.prog compRen where
  mixed := by kernel_rfl
  f20 := Try.func122.trans (congrArg some (by kernel_rfl))
  t0 := Try.underlying0
  a0 := Try.isAgg0
  z0 := Try.sizeOf0
  v0 := Try.zeroValue0
  t3 := Try.underlying3
  a3 := Try.isAgg3
  z3 := Try.sizeOf3
  v3 := Try.zeroValue3
  t4 := Try.underlying4
  a4 := Try.isAgg4
  z4 := Try.sizeOf4
  v4 := Try.zeroValue4
  t22 := Try.underlying61
  a22 := Try.isAgg61
  z22 := Try.sizeOf61
  v22 := Try.zeroValue61
  i3 := by kernel_rfl
end Go.Proofs.Ytfgjiamolknicaa
/- Types as trees: plain functions and laws. No program, no world. -/
namespace Go.Proofs.Grad

inductive Ty where
  | mk (kind : Int) (kids : List Ty)

def Ty.kind : Ty → Int | .mk k _ => k
def Ty.kids : Ty → List Ty | .mk _ l => l

mutual
def Ty.size : Ty → Nat
  | .mk _ l => 1 + Ty.sizes l
def Ty.sizes : List Ty → Nat
  | [] => 0
  | t :: l => t.size + Ty.sizes l
end

theorem Ty.sizes_mem {t : Ty} {l : List Ty} (h : t ∈ l) : t.size ≤ Ty.sizes l := by
  induction l with
  | nil => cases h
  | cons x l ih =>
    simp only [Ty.sizes]
    rcases List.mem_cons.1 h with rfl | h
    · omega
    · have := ih h; omega
theorem Ty.length_le_sizes (l : List Ty) : l.length ≤ Ty.sizes l := by
  induction l with
  | nil => simp
  | cons x l ih => cases x; simp only [Ty.sizes, Ty.size, List.length_cons]; omega

theorem Ty.kid_lt {l : List Ty} {k : Nat} (h : k < l.length) : Ty.sizes l[k].kids < Ty.sizes l := by
  have h1 := Ty.sizes_mem (List.getElem_mem h)
  generalize l[k] = t at *
  cases t
  simp only [Ty.size, Ty.kids] at *
  omega


theorem Ty.eta (t : Ty) : t = .mk t.kind t.kids := by cases t; rfl

/-! ### Equality -/
mutual
def Ty.same : Ty → Ty → Bool
  | .mk k l, .mk k' l' => k == k' && Ty.sames l l'
def Ty.sames : List Ty → List Ty → Bool
  | [], [] => true
  | t :: l, t' :: l' => t.same t' && Ty.sames l l'
  | [], _ :: _ => false
  | _ :: _, [] => false
end
mutual
theorem Ty.same_iff : ∀ a b : Ty, a.same b = true ↔ a = b
  | .mk k l, .mk k' l' => by simp [Ty.same, Ty.sames_iff l l']
theorem Ty.sames_iff : ∀ a b : List Ty, Ty.sames a b = true ↔ a = b
  | [], [] => by simp [Ty.sames]
  | t :: l, t' :: l' => by simp [Ty.sames, Ty.same_iff t t', Ty.sames_iff l l']
  | [], _ :: _ => by simp [Ty.sames]
  | _ :: _, [] => by simp [Ty.sames]
end
theorem Ty.same_eq (a b : Ty) : a.same b = (a.kind == b.kind && Ty.sames a.kids b.kids) := by cases a; cases b; rfl
theorem Ty.same_refl (a : Ty) : a.same a = true := (Ty.same_iff a a).2 rfl
theorem Ty.same_comm (a b : Ty) : a.same b = b.same a := by
  rw [Bool.eq_iff_iff, Ty.same_iff, Ty.same_iff]; exact eq_comm

/-- a relation, element by element -/
def all2 (f : Ty → Ty → Bool) : List Ty → List Ty → Bool
  | [], [] => true
  | t :: l, t' :: l' => f t t' && all2 f l l'
  | [], _ :: _ => false
  | _ :: _, [] => false
theorem Ty.sames_all2 : ∀ a b : List Ty, Ty.sames a b = all2 Ty.same a b
  | [], [] => rfl
  | t :: l, t' :: l' => by simp [Ty.sames, all2, Ty.sames_all2 l l']
  | [], _ :: _ => rfl
  | _ :: _, [] => rfl
theorem all2_drop {f : Ty → Ty → Bool} {a b : List Ty} {i : Nat} (ha : i < a.length) (hb : i < b.length) : all2 f (a.drop i) (b.drop i) = (f a[i] b[i] && all2 f (a.drop (i + 1)) (b.drop (i + 1))) := by
  rw [List.drop_eq_getElem_cons ha, List.drop_eq_getElem_cons hb, all2]
theorem all2_len {f : Ty → Ty → Bool} : ∀ {a b : List Ty}, a.length ≠ b.length → all2 f a b = false
  | [], [], h => by simp at h
  | t :: l, t' :: l', h => by simp [all2, all2_len (f := f) (a := l) (b := l') (by simpa using h)]
  | [], _ :: _, _ => rfl
  | _ :: _, [], _ => rfl

/-! ### Validity -/
def kidsN (k : Int) : Int := if k = 1 ∨ k = 2 ∨ k = 3 then 0 else if k = 4 ∨ k = 5 then 2 else -1
def Ty.shape : Nat → Ty → Bool
  | 0, _ => false
  | d + 1, t => (kidsN t.kind == (t.kids.length : Int)) && t.kids.all (Ty.shape d)
def Ty.valid (t : Ty) : Bool := t.shape 4

/-- valid types -/
inductive T where
  | any | int | bool
  | fn (a b : T)
  | pr (a b : T)
  deriving DecidableEq, Repr
def T.kind : T → Int | .any => 1 | .int => 2 | .bool => 3 | .fn _ _ => 4 | .pr _ _ => 5
def T.kids : T → List T | .fn a b => [a, b] | .pr a b => [a, b] | _ => []
def T.ty : T → Ty
  | .any => .mk 1 [] | .int => .mk 2 [] | .bool => .mk 3 []
  | .fn a b => .mk 4 [a.ty, b.ty] | .pr a b => .mk 5 [a.ty, b.ty]
def T.depth : T → Nat
  | .fn a b => max a.depth b.depth + 1 | .pr a b => max a.depth b.depth + 1 | _ => 1
def T.size : T → Nat
  | .fn a b => a.size + b.size + 1 | .pr a b => a.size + b.size + 1 | _ => 1
theorem T.size_pos (t : T) : 0 < t.size := by cases t <;> simp [T.size]
theorem T.ty_kind (t : T) : t.ty.kind = t.kind := by cases t <;> rfl
theorem T.ty_kids (t : T) : t.ty.kids = t.kids.map T.ty := by cases t <;> rfl
theorem T.ty_size (t : T) : t.ty.size = t.size := by
  induction t <;> simp [T.ty, Ty.size, Ty.sizes, T.size, *] <;> omega
theorem T.ty_inj : ∀ a b : T, a.ty = b.ty → a = b := by
  intro a
  induction a with
  | any => intro b h; cases b <;> simp [T.ty] at h ⊢
  | int => intro b h; cases b <;> simp [T.ty] at h ⊢
  | bool => intro b h; cases b <;> simp [T.ty] at h ⊢
  | fn x y hx hy => intro b h; cases b <;> simp [T.ty] at h ⊢; exact ⟨hx _ h.1, hy _ h.2⟩
  | pr x y hx hy => intro b h; cases b <;> simp [T.ty] at h ⊢; exact ⟨hx _ h.1, hy _ h.2⟩

theorem T.shape_ty : ∀ (t : T) (d : Nat), t.ty.shape d = decide (t.depth ≤ d)
  | .any, d => by cases d <;> simp [T.ty, Ty.shape, kidsN, Ty.kind, Ty.kids, T.depth]
  | .int, d => by cases d <;> simp [T.ty, Ty.shape, kidsN, Ty.kind, Ty.kids, T.depth]
  | .bool, d => by cases d <;> simp [T.ty, Ty.shape, kidsN, Ty.kind, Ty.kids, T.depth]
  | .fn a b, d => by
    cases d with
    | zero => simp [Ty.shape, T.depth]
    | succ d => simp [T.ty, Ty.shape, kidsN, Ty.kind, Ty.kids, T.depth, T.shape_ty a d, T.shape_ty b d, Nat.max_le]
  | .pr a b, d => by
    cases d with
    | zero => simp [Ty.shape, T.depth]
    | succ d => simp [T.ty, Ty.shape, kidsN, Ty.kind, Ty.kids, T.depth, T.shape_ty a d, T.shape_ty b d, Nat.max_le]

theorem Ty.shape_T : ∀ (d : Nat) (t : Ty), t.shape d = true → ∃ x : T, x.ty = t ∧ x.depth ≤ d
  | 0, t, h => by simp [Ty.shape] at h
  | d + 1, .mk k l, h => by
    simp only [Ty.shape, Ty.kind, Ty.kids, Bool.and_eq_true, beq_iff_eq, List.all_eq_true] at h
    obtain ⟨h1, h2⟩ := h
    unfold kidsN at h1
    split at h1
    · rename_i hk
      have : l = [] := List.eq_nil_of_length_eq_zero (by omega)
      subst this
      rcases hk with rfl | rfl | rfl
      · exact ⟨.any, rfl, by simp [T.depth]⟩
      · exact ⟨.int, rfl, by simp [T.depth]⟩
      · exact ⟨.bool, rfl, by simp [T.depth]⟩
    · split at h1
      · rename_i hk
        match l, h1 with
        | [a, b], _ =>
          obtain ⟨x, hx, dx⟩ := Ty.shape_T d a (h2 a (by simp))
          obtain ⟨y, hy, dy⟩ := Ty.shape_T d b (h2 b (by simp))
          subst hx hy
          rcases hk with rfl | rfl
          · exact ⟨.fn x y, rfl, by simp [T.depth]; omega⟩
          · exact ⟨.pr x y, rfl, by simp [T.depth]; omega⟩
        | [], h1 => simp at h1
        | [_], h1 => simp at h1
        | _ :: _ :: _ :: _, h1 => simp at h1; omega
      · omega

theorem Ty.valid_iff (t : Ty) : t.valid = true ↔ ∃ x : T, x.ty = t ∧ x.depth ≤ 4 :=
  ⟨Ty.shape_T 4 t, fun ⟨x, hx, hd⟩ => by subst hx; simp [Ty.valid, T.shape_ty, hd]⟩

/-! ### Relations on valid types -/
def T.ground : T → T | .fn _ _ => .fn .any .any | .pr _ _ => .pr .any .any | t => t
def T.cons : T → T → Bool
  | .any, _ => true | _, .any => true
  | .int, .int => true | .bool, .bool => true
  | .fn a b, .fn c d => a.cons c && b.cons d
  | .pr a b, .pr c d => a.cons c && b.cons d
  | _, _ => false
def T.prec : T → T → Bool
  | _, .any => true
  | .int, .int => true | .bool, .bool => true
  | .fn a b, .fn c d => a.prec c && b.prec d
  | .pr a b, .pr c d => a.prec c && b.prec d
  | _, _ => false
def subF (s o : T → T → Bool) : T → T → Bool
  | .any, .any => true | .int, .int => true | .bool, .bool => true
  | .fn a b, .fn c d => o c a && s b d
  | .pr a b, .pr c d => s a c && s b d
  | _, _ => false
mutual
def T.pos : T → T → Bool
  | _, .any => true
  | .int, .int => true | .bool, .bool => true
  | .fn a b, .fn c d => T.neg c a && T.pos b d
  | .pr a b, .pr c d => T.pos a c && T.pos b d
  | _, _ => false
termination_by a b => a.size + b.size
decreasing_by all_goals (simp only [T.size]; omega)
/-- against the unknown type as against the ground type -/
def T.neg : T → T → Bool
  | .any, _ => true
  | .fn a b, .any => T.pos .any a && T.neg b .any
  | .pr a b, .any => T.neg a .any && T.neg b .any
  | .int, .any => true | .bool, .any => true
  | .int, .int => true | .bool, .bool => true
  | .fn a b, .fn c d => T.pos c a && T.neg b d
  | .pr a b, .pr c d => T.neg a c && T.neg b d
  | _, _ => false
termination_by a b => a.size + b.size
decreasing_by all_goals (simp only [T.size]; omega)
end
def T.sub : T → T → Bool
  | .any, .any => true
  | .any, _ => false
  | .fn a b, .any => T.sub .any a && T.sub b .any
  | .pr a b, .any => T.sub a .any && T.sub b .any
  | .int, .any => true | .bool, .any => true
  | .int, .int => true | .bool, .bool => true
  | .fn a b, .fn c d => T.sub c a && T.sub b d
  | .pr a b, .pr c d => T.sub a c && T.sub b d
  | _, _ => false
termination_by a b => a.size + b.size
decreasing_by all_goals (simp only [T.size]; omega)
def T.count : T → Nat
  | .any => 1 | .fn a b => a.count + b.count | .pr a b => a.count + b.count | _ => 0

theorem T.pos_any (a : T) : a.pos .any = true := by cases a <;> simp [T.pos]
theorem T.any_pos (a : T) : T.any.pos a = decide (a = .any) := by cases a <;> simp [T.pos]
theorem T.any_neg (a : T) : T.any.neg a = true := by simp [T.neg]
theorem T.pos_eq (a b : T) (h : b ≠ .any) : a.pos b = subF T.pos T.neg a b := by
  cases a <;> cases b <;> simp [T.pos, subF] at h ⊢
theorem T.neg_eq (a b : T) (ha : a ≠ .any) (hb : b ≠ .any) : a.neg b = subF T.neg T.pos a b := by
  cases a <;> cases b <;> simp [T.neg, subF] at ha hb ⊢
theorem T.neg_ground (a : T) (ha : a ≠ .any) : a.neg .any = subF T.neg T.pos a a.ground := by
  cases a <;> simp [T.neg, subF, T.ground] at ha ⊢
theorem T.sub_eq (a b : T) (ha : a ≠ .any) (hb : b ≠ .any) : a.sub b = subF T.sub T.sub a b := by
  cases a <;> cases b <;> simp [T.sub, subF] at ha hb ⊢
theorem T.sub_ground (a : T) (ha : a ≠ .any) : a.sub .any = subF T.sub T.sub a a.ground := by
  cases a <;> simp [T.sub, subF, T.ground] at ha ⊢
theorem T.any_sub (b : T) : T.any.sub b = decide (b = .any) := by cases b <;> simp [T.sub]

/-! ### The same relations on types as they come -/
mutual
def Ty.cons : Ty → Ty → Bool
  | .mk k l, .mk k' l' => k == 1 || (k' == 1 || (k == k' && Ty.conss l l'))
def Ty.conss : List Ty → List Ty → Bool
  | [], [] => true
  | t :: l, t' :: l' => t.cons t' && Ty.conss l l'
  | [], _ :: _ => false
  | _ :: _, [] => false
end
theorem Ty.conss_all2 : ∀ a b : List Ty, Ty.conss a b = all2 Ty.cons a b
  | [], [] => rfl
  | t :: l, t' :: l' => by simp [Ty.conss, all2, Ty.conss_all2 l l']
  | [], _ :: _ => rfl
  | _ :: _, [] => rfl
theorem Ty.cons_eq (a b : Ty) : a.cons b = (a.kind == 1 || (b.kind == 1 || (a.kind == b.kind && all2 Ty.cons a.kids b.kids))) := by
  cases a; cases b; simp [Ty.cons, Ty.conss_all2, Ty.kind, Ty.kids]
mutual
def Ty.prec : Ty → Ty → Bool
  | .mk k l, .mk k' l' => k' == 1 || (k == k' && Ty.precs l l')
def Ty.precs : List Ty → List Ty → Bool
  | [], [] => true
  | t :: l, t' :: l' => t.prec t' && Ty.precs l l'
  | [], _ :: _ => false
  | _ :: _, [] => false
end
theorem Ty.precs_all2 : ∀ a b : List Ty, Ty.precs a b = all2 Ty.prec a b
  | [], [] => rfl
  | t :: l, t' :: l' => by simp [Ty.precs, all2, Ty.precs_all2 l l']
  | [], _ :: _ => rfl
  | _ :: _, [] => rfl
theorem Ty.prec_eq (a b : Ty) : a.prec b = (b.kind == 1 || (a.kind == b.kind && all2 Ty.prec a.kids b.kids)) := by
  cases a; cases b; simp [Ty.prec, Ty.precs_all2, Ty.kind, Ty.kids]
theorem T.cons_ty (a : T) : ∀ b : T, a.ty.cons b.ty = a.cons b := by
  induction a with
  | any => intro b; cases b <;> rfl
  | int => intro b; cases b <;> rfl
  | bool => intro b; cases b <;> rfl
  | fn x y hx hy => intro b; cases b <;> simp [T.ty, Ty.cons, Ty.conss, T.cons, hx, hy]
  | pr x y hx hy => intro b; cases b <;> simp [T.ty, Ty.cons, Ty.conss, T.cons, hx, hy]
theorem T.prec_ty (a : T) : ∀ b : T, a.ty.prec b.ty = a.prec b := by
  induction a with
  | any => intro b; cases b <;> rfl
  | int => intro b; cases b <;> rfl
  | bool => intro b; cases b <;> rfl
  | fn x y hx hy => intro b; cases b <;> simp [T.ty, Ty.prec, Ty.precs, T.prec, hx, hy]
  | pr x y hx hy => intro b; cases b <;> simp [T.ty, Ty.prec, Ty.precs, T.prec, hx, hy]
/- how many nodes are unknown; below an unknown node none is looked at -/
mutual
def Ty.count : Ty → Nat
  | .mk k l => if k = 1 then 1 else Ty.counts l
def Ty.counts : List Ty → Nat
  | [] => 0
  | t :: l => t.count + Ty.counts l
end
theorem T.count_ty (a : T) : a.ty.count = a.count := by
  induction a <;> simp [T.ty, Ty.count, Ty.counts, T.count, *]
mutual
theorem Ty.count_le : ∀ t : Ty, t.count ≤ t.size
  | .mk k l => by
    rw [Ty.count, Ty.size]
    have := Ty.counts_le l
    split <;> omega
theorem Ty.counts_le : ∀ l : List Ty, Ty.counts l ≤ Ty.sizes l
  | [] => by simp [Ty.counts, Ty.sizes]
  | t :: l => by rw [Ty.counts, Ty.sizes]; have := Ty.count_le t; have := Ty.counts_le l; omega
end
theorem Ty.counts_take {l : List Ty} {k : Nat} (h : k < l.length) : Ty.counts (l.take (k + 1)) = Ty.counts (l.take k) + l[k].count := by
  induction l generalizing k with
  | nil => simp at h
  | cons t l ih =>
    cases k with
    | zero => simp [Ty.counts]
    | succ k => simp only [List.take_succ_cons, Ty.counts, List.getElem_cons_succ]; rw [ih (by simpa using h)]; omega
theorem Ty.counts_take_le (l : List Ty) (k : Nat) : Ty.counts (l.take k) ≤ Ty.counts l := by
  induction l generalizing k with
  | nil => simp [Ty.counts]
  | cons t l ih =>
    cases k with
    | zero => simp [Ty.counts]
    | succ k => simp only [List.take_succ_cons, Ty.counts]; have := ih k; omega
end Go.Proofs.Grad
/- Coercions as trees, and their pure functions. No program, no world. -/
namespace Go.Proofs.Grad

/-- coercions as they come -/
inductive Co where
  | mk (k tag label : Int) (kids : List Co)
def Co.kind : Co → Int | .mk k _ _ _ => k
def Co.tag : Co → Int | .mk _ t _ _ => t
def Co.label : Co → Int | .mk _ _ l _ => l
def Co.kids : Co → List Co | .mk _ _ _ l => l
mutual
def Co.size : Co → Nat
  | .mk _ _ _ l => 1 + Co.sizes l
def Co.sizes : List Co → Nat
  | [] => 0
  | t :: l => t.size + Co.sizes l
end
theorem Co.eta (c : Co) : c = .mk c.kind c.tag c.label c.kids := by cases c; rfl

/-- coercions that are valid but for depth and labels, where of a form -/
inductive K where
  | id (g : Int) | fn (a b : K) | pr (a b : K) | inj (c : K) | prj (l : Int) (c : K) | fail (l g : Int)
def K.co : K → Co
  | .id g => .mk 1 g 0 []
  | .fn a b => .mk 2 0 0 [a.co, b.co]
  | .pr a b => .mk 3 0 0 [a.co, b.co]
  | .inj c => .mk 4 0 0 [c.co]
  | .prj l c => .mk 5 0 l [c.co]
  | .fail l g => .mk 6 g l []
def K.plain : K → Bool
  | .fn _ _ => true | .pr _ _ => true | .id g => g != 1 | _ => false
def K.isAny : K → Bool
  | .id g => g == 1 | _ => false
def K.isPrj : K → Bool
  | .prj _ _ => true | _ => false
/-- a label -/
def lab (n : Int) : Bool := (decide (1 ≤ n) && decide (n ≤ 99)) || (decide (-99 ≤ n) && decide (n ≤ -1))
def K.wf : K → Bool
  | .id g => decide (1 ≤ g) && decide (g ≤ 3)
  | .fn a b => a.wf && b.wf
  | .pr a b => a.wf && b.wf
  | .inj c => c.plain && c.wf
  | .prj l c => lab l && !c.isPrj && !c.isAny && c.wf
  | .fail l g => lab l && decide (2 ≤ g) && decide (g ≤ 5)
def K.depth : K → Nat
  | .id _ => 1 | .fail _ _ => 1
  | .fn a b => max a.depth b.depth + 1
  | .pr a b => max a.depth b.depth + 1
  | .inj c => c.depth + 1
  | .prj _ c => c.depth + 1
def K.size : K → Nat
  | .id _ => 1 | .fail _ _ => 1
  | .fn a b => a.size + b.size + 1
  | .pr a b => a.size + b.size + 1
  | .inj c => c.size + 1
  | .prj _ c => c.size + 1
def K.tag : K → Int
  | .id g => g | .fn _ _ => 4 | .pr _ _ => 5 | .inj c => c.tag | .prj _ _ => 0 | .fail _ g => g
def K.height : K → Nat
  | .id _ => 1 | .fail _ _ => 1
  | .fn a b => max a.height b.height + 1
  | .pr a b => max a.height b.height + 1
  | .inj c => c.height
  | .prj _ c => c.height
def K.labels : K → List Int
  | .id _ => [] | .fail l _ => [l]
  | .fn a b => a.labels ++ b.labels
  | .pr a b => a.labels ++ b.labels
  | .inj c => c.labels
  | .prj l c => l :: c.labels
def K.ident : K → Bool
  | .id _ => true | .fn a b => a.ident && b.ident | .pr a b => a.ident && b.ident | _ => false
theorem K.size_pos (c : K) : 0 < c.size := by cases c <;> simp [K.size]
/-- first a, then b, where they fit -/
def K.comp (a b : K) : Option K :=
  match a, b with
  | .id g, b => if g = 1 then (if b.isPrj || b.isAny then some b else none) else
      match b with
      | .fail l t => if g = t then some (.fail l t) else none
      | .inj c => (K.comp (.id g) c).map .inj
      | .id g' => if g = g' then some (.id g) else none
      | _ => none
  | .prj l c, b => (K.comp c b).map (.prj l)
  | .fail l g, _ => some (.fail l g)
  | .inj c, .prj l d => if c.tag = d.tag then K.comp c d else some (.fail l c.tag)
  | .inj c, b => if b.isAny then some (.inj c) else none
  | .fn a1 a2, .fail l t => if t = 4 then some (.fail l t) else none
  | .pr a1 a2, .fail l t => if t = 5 then some (.fail l t) else none
  | .fn a1 a2, .inj c => (K.comp (.fn a1 a2) c).map .inj
  | .pr a1 a2, .inj c => (K.comp (.pr a1 a2) c).map .inj
  | .fn a1 a2, .fn b1 b2 => match K.comp b1 a1, K.comp a2 b2 with | some x, some y => some (.fn x y) | _, _ => none
  | .pr a1 a2, .pr b1 b2 => match K.comp a1 b1, K.comp a2 b2 with | some x, some y => some (.pr x y) | _, _ => none
  | _, _ => none
termination_by a.size + b.size
decreasing_by all_goals (simp only [K.size]; omega)

/-! ### Coercions as they come -/
mutual
def Co.same : Co → Co → Bool
  | .mk k t l a, .mk k' t' l' b => k == k' && (t == t' && (l == l' && Co.sames a b))
def Co.sames : List Co → List Co → Bool
  | [], [] => true
  | a :: l, b :: m => a.same b && Co.sames l m
  | _, _ => false
end
mutual
theorem Co.same_iff : ∀ a b : Co, a.same b = true ↔ a = b
  | .mk k t l a, .mk k' t' l' b => by simp [Co.same, Co.sames_iff a b]
theorem Co.sames_iff : ∀ a b : List Co, Co.sames a b = true ↔ a = b
  | [], [] => by simp [Co.sames]
  | [], _ :: _ => by simp [Co.sames]
  | _ :: _, [] => by simp [Co.sames]
  | a :: l, b :: m => by simp [Co.sames, Co.same_iff a b, Co.sames_iff l m]
end
theorem Co.same_refl (a : Co) : a.same a = true := (Co.same_iff a a).2 rfl
def Co.plain (c : Co) : Bool := c.kind == 2 || (c.kind == 3 || (c.kind == 1 && c.tag != 1))
def Co.okN (c : Co) : Bool :=
  match c with
  | .mk k t l ks =>
    if k = 1 then ks.length == 0 && (l == 0 && (decide (1 ≤ t) && decide (t ≤ 3)))
    else if k = 2 ∨ k = 3 then ks.length == 2 && (l == 0 && t == 0)
    else if k = 4 then (match ks with | [c] => l == 0 && (t == 0 && c.plain) | _ => false)
    else if k = 5 then (match ks with | [c] => lab l && (t == 0 && (c.kind != 5 && (c.kind != 1 || c.tag != 1))) | _ => false)
    else if k = 6 then ks.length == 0 && (lab l && (decide (2 ≤ t) && decide (t ≤ 5)))
    else false
def Co.shape : Nat → Co → Bool
  | 0, _ => false
  | d + 1, c => c.okN && c.kids.all (Co.shape d)
def Co.valid (c : Co) : Bool := c.shape 9

theorem K.co_plain (k : K) : k.co.plain = k.plain := by cases k <;> simp [K.co, Co.plain, Co.kind, Co.tag, K.plain]
theorem K.co_any (k : K) : (k.co.kind == 1 && k.co.tag == 1) = k.isAny := by cases k <;> simp [K.co, Co.kind, Co.tag, K.isAny]
theorem K.co_prj (k : K) : (k.co.kind == 5) = k.isPrj := by cases k <;> simp [K.co, Co.kind, K.isPrj]
theorem K.shape_co : ∀ (k : K) (d : Nat), k.co.shape d = (k.wf && decide (k.depth ≤ d))
  | k, 0 => by cases k <;> simp [Co.shape, K.depth]
  | .id g, d + 1 => by simp [K.co, Co.shape, Co.okN, Co.kids, K.wf, K.depth]
  | .fail l g, d + 1 => by simp [K.co, Co.shape, Co.okN, Co.kids, K.wf, K.depth, Bool.and_assoc]
  | .fn a b, d + 1 => by
    simp only [K.co, Co.shape, Co.okN, Co.kids, K.wf, K.depth, List.all_cons, List.all_nil, K.shape_co a d, K.shape_co b d]
    rw [Bool.eq_iff_iff]; simp; grind
  | .pr a b, d + 1 => by
    simp only [K.co, Co.shape, Co.okN, Co.kids, K.wf, K.depth, List.all_cons, List.all_nil, K.shape_co a d, K.shape_co b d]
    rw [Bool.eq_iff_iff]; simp; grind
  | .inj a, d + 1 => by
    simp only [K.co, Co.shape, Co.okN, Co.kids, K.wf, K.depth, List.all_cons, List.all_nil, K.shape_co a d, K.co_plain]
    rw [Bool.eq_iff_iff]; simp; grind
  | .prj l a, d + 1 => by
    have h1 := K.co_any a
    have h2 := K.co_prj a
    simp only [K.co, Co.shape, Co.okN, Co.kids, K.wf, K.depth, List.all_cons, List.all_nil, K.shape_co a d, ← h1, ← h2]
    rw [Bool.eq_iff_iff]; simp [bne]; grind
theorem Co.shape_K : ∀ (d : Nat) (c : Co), c.shape d = true → ∃ k : K, k.co = c ∧ k.wf = true ∧ k.depth ≤ d := by
  intro d
  induction d with
  | zero => intro c h; simp [Co.shape] at h
  | succ d ih =>
    intro c h
    obtain ⟨k, t, l, ks⟩ := c
    have h0 := h
    simp only [Co.shape, Bool.and_eq_true, Co.kids, List.all_eq_true] at h
    obtain ⟨h1, h2⟩ := h
    have fin : ∀ x : K, x.co = Co.mk k t l ks → ∃ k' : K, k'.co = Co.mk k t l ks ∧ k'.wf = true ∧ k'.depth ≤ d + 1 := by
      intro x hx
      rw [← hx, K.shape_co] at h0
      simp only [Bool.and_eq_true, decide_eq_true_eq] at h0
      exact ⟨x, hx, h0.1, h0.2⟩
    simp only [Co.okN] at h1
    split at h1
    · rename_i hk; simp at h1
      obtain ⟨rfl, rfl, _⟩ := h1
      subst hk
      exact fin (.id t) rfl
    · split at h1
      · rename_i hk; simp at h1
        obtain ⟨hl, rfl, rfl⟩ := h1
        obtain ⟨a, b, rfl⟩ : ∃ a b, ks = [a, b] := by
          match ks, hl with
          | [a, b], _ => exact ⟨a, b, rfl⟩
        obtain ⟨x, hx, _⟩ := ih a (h2 a (by simp))
        obtain ⟨y, hy, _⟩ := ih b (h2 b (by simp))
        rcases hk with rfl | rfl
        · exact fin (.fn x y) (by rw [K.co, hx, hy])
        · exact fin (.pr x y) (by rw [K.co, hx, hy])
      · split at h1
        · rename_i hk; subst hk
          split at h1
          · rename_i a; simp at h1
            obtain ⟨rfl, rfl, _⟩ := h1
            obtain ⟨x, hx, _⟩ := ih a (h2 a (by simp))
            exact fin (.inj x) (by rw [K.co, hx])
          · cases h1
        · split at h1
          · rename_i hk; subst hk
            split at h1
            · rename_i a; simp at h1
              obtain ⟨_, rfl, _⟩ := h1
              obtain ⟨x, hx, _⟩ := ih a (h2 a (by simp))
              exact fin (.prj l x) (by rw [K.co, hx])
            · cases h1
          · split at h1
            · rename_i hk; subst hk
              simp at h1
              obtain ⟨rfl, _⟩ := h1
              exact fin (.fail l t) rfl
            · cases h1
theorem Co.valid_iff (c : Co) : c.valid = true ↔ ∃ k : K, k.co = c ∧ k.wf = true ∧ k.depth ≤ 9 :=
  ⟨Co.shape_K 9 c, fun ⟨k, e, h1, h2⟩ => by rw [← e, Co.valid, K.shape_co, h1]; simpa using h2⟩
end Go.Proofs.Grad
