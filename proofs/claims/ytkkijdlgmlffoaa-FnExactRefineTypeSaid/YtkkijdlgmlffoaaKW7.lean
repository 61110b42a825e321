/- Texts of the proof, one behind another. -/
import Derived.Test.YtkkijdlgmlffoaaKW6
set_option linter.unusedSimpArgs false
set_option linter.unusedVariables false
/- A region that draws its order: a walk of a tree of orders, which forks where what writes or calls is not ordered. No program in sight. -/
namespace Go.Proofs.Sh
section
variable {P : Program} {ops : Array Oper} {C : World → Prop} {Q : Exit → Act → World → Prop} {loud : Oper → Bool} {rd : Oper → Bool}

/-- orders: this operation next (fin: behind all that reads); or: this one next, or one of the others -/
inductive MT where
  | nil
  | op (i : Nat) (fin : Bool) (t : MT)
  | fork (i : Nat) (fin : Bool) (t u : MT)

def stepT (P : Program) (ops : Array Oper) (C : World → Prop) (loud rd : Oper → Bool) (i : Nat) (fin : Bool) (K : Act → World → Prop) (a : Act) (w : World) : Prop :=
  match ops[i]? with
  | none => False
  | some o =>
    if Region.wanted o (yielded ops a.tmps) then
      if loud o then o.wp P a w (fun a' w' => (fin = true ∨ C w') ∧ K a' w') QF else ∃ v, Calm P (Cls C (rd o)) o a v ∧ K (a.put o.dst v) w
    else K (a.put o.dst undef) w

def wpMT (P : Program) (ops : Array Oper) (C : World → Prop) (loud rd : Oper → Bool) (Q : Exit → Act → World → Prop) : MT → Act → World → Prop
  | .nil, a, w => Q .normal a w
  | .op i fin t, a, w => stepT P ops C loud rd i fin (wpMT P ops C loud rd Q t) a w
  | .fork i fin t u, a, w => stepT P ops C loud rd i fin (wpMT P ops C loud rd Q t) a w ∧ wpMT P ops C loud rd Q u a w

/-- behind all that reads -/
def finB (loud rd : Oper → Bool) (ops : Array Oper) (b : Array Nat) (j : Nat) : Bool :=
  (List.range ops.size).all fun k => k == j || !((ops[k]?).map rd).getD false || waitsB ops.size b j k
def soloB (loud : Oper → Bool) (ops : Array Oper) (b : Array Nat) (listed : Array Bool) (i : Nat) : Bool :=
  match ops[i]? with
  | none => false
  | some oi => (List.range ops.size).all fun j => j == i || listed.getD j true || waitsB ops.size b j i || (match ops[j]? with | none => false | some oj => oi.apart ops oj && !(loud oi && loud oj))
def treeB (loud rd : Oper → Bool) (ops : Array Oper) (b : Array Nat) : Nat → Array Bool → List Nat → MT → Bool
  | 0, listed, heads, .nil => heads.isEmpty && (Region.ready .any ops listed).isEmpty
  | n + 1, listed, heads, .op i fin t => (Region.ready .any ops listed).contains i && (!fin || finB loud rd ops b i) && treeB loud rd ops b n (listed.setIfInBounds i true) [] t &&
      (if heads.isEmpty then soloB loud ops b listed i else (Region.ready .any ops listed).all fun j => j == i || heads.contains j)
  | n + 1, listed, heads, .fork i fin t u => (Region.ready .any ops listed).contains i && (!fin || finB loud rd ops b i) && treeB loud rd ops b n (listed.setIfInBounds i true) [] t && treeB loud rd ops b (n + 1) listed (i :: heads) u
  | _, _, _, _ => false
def edgesB (ops : Array Oper) (b : Array Nat) : Bool :=
  (List.range ops.size).all fun j =>
    match ops[j]? with
    | none => false
    | some oj =>
      (oj.after.toList.all fun e => !Region.binds .any e || decide (e.on < j)) &&
      ((List.range ops.size).all fun i => !waitsB ops.size b j i || (oj.after.toList.any fun e => Region.binds .any e && (e.on == i || waitsB ops.size b e.on i)))
/-- What is asked of the region's text and the tree, by the kernel's own run. -/
def treeOK (loud rd : Oper → Bool) (ops : Array Oper) (t : MT) : Bool :=
  Region.noSelect ops && (edgesB ops (Region.before ops) && treeB loud rd ops (Region.before ops) ops.size (Array.replicate ops.size false) [] t)

theorem tree_any {b : Array Nat} (hW : Waits ops (waitsB ops.size b)) (hs : Region.noSelect ops = true) :
    ∀ (T : MT) (n : Nat) (listed : Array Bool) (heads : List Nat) (a : Act) (w : World), treeB loud rd ops b n listed heads T = true → Down ops listed → (Need ops rd listed → C w) →
      (∀ i ∈ heads, ∀ m, n = m + 1 → mOp P ops C loud rd (finB loud rd ops b) i (wpAnyM P ops C loud rd (finB loud rd ops b) Q m (listed.setIfInBounds i true)) a w) →
      wpMT P ops C loud rd Q T a w → wpAnyM P ops C loud rd (finB loud rd ops b) Q n listed a w := by
  have hfin : ∀ j, finB loud rd ops b j = true → ∀ k ok, ops[k]? = some ok → rd ok = true → k ≠ j → waitsB ops.size b j k = true := by
    intro j hj k ok hk hr hkj
    have hk' := (Array.getElem?_eq_some_iff.1 hk).1
    have := List.all_eq_true.1 hj k (List.mem_range.2 hk')
    simpa [hk, hr, hkj] using this
  intro T
  induction T with
  | nil =>
    intro n listed heads a w hB hD hC hh h
    cases n with
    | zero =>
      simp only [treeB, Bool.and_eq_true, List.isEmpty_iff] at hB
      exact ⟨hB.2, h⟩
    | succ n => simp [treeB] at hB
  | op i fin t ih =>
    intro n listed heads a w hB hD hC hh h
    cases n with
    | zero => simp [treeB] at hB
    | succ m =>
      simp only [treeB, Bool.and_eq_true] at hB
      obtain ⟨⟨⟨h1, h2⟩, h3⟩, h4⟩ := hB
      have hr : i ∈ Region.ready .any ops listed := by simpa using h1
      have H : mOp P ops C loud rd (finB loud rd ops b) i (wpAnyM P ops C loud rd (finB loud rd ops b) Q m (listed.setIfInBounds i true)) a w := by
        obtain ⟨hun, o, ho, hall⟩ := mem_ready.1 hr
        have step : ∀ a' w', (Need ops rd (listed.setIfInBounds i true) → C w') → wpMT P ops C loud rd Q t a' w' → wpAnyM P ops C loud rd (finB loud rd ops b) Q m (listed.setIfInBounds i true) a' w' :=
          fun a' w' hC' hk => ih m _ [] a' w' h3 (hD.set hr) hC' (fun _ hm => by simp at hm) hk
        have hneed : Need ops rd (listed.setIfInBounds i true) → Need ops rd listed := fun ⟨k, ok, hk, hrk, hu⟩ => by
          refine ⟨k, ok, hk, hrk, ?_⟩
          by_cases hjk : i = k
          · subst hjk; exact hun
          · rwa [getD_set_ne true hjk] at hu
        unfold wpMT stepT at h
        unfold mOp
        simp only [ho] at h ⊢
        split
        · rename_i hw
          simp only [hw, if_true] at h
          split
          · rename_i hlo
            simp only [hlo, if_true] at h
            refine Oper.wp_mono (fun a' w' hk => ?_) h
            rcases hk.1 with hf | hC'
            · have hfb : finB loud rd ops b i = true := by simpa [hf] using h2
              refine ⟨.inl hfb, step a' w' (fun ⟨k, ok, hk, hrk, hu⟩ => ?_) hk.2⟩
              exfalso
              have hki : k ≠ i := fun e => by
                subst e
                rcases Nat.lt_or_ge k listed.size with h' | h'
                · rw [Array.getD_eq_getD_getElem?, Array.getElem?_setIfInBounds_self_of_lt h'] at hu; simp at hu
                · rw [Array.getD_eq_getD_getElem?, Array.getElem?_eq_none (by simpa using h')] at hu; simp at hu
              have hu' : listed.getD k true = false := by rwa [getD_set_ne true (Ne.symm hki)] at hu
              have w1 := hfin i hfb k ok hk hrk hki
              have w2 := not_waits hW hD hu' (i + 1) i o (by omega) ho hall
              rw [w1] at w2; cases w2
            · exact ⟨.inr hC', step a' w' (fun _ => hC') hk.2⟩
          · rename_i hlo
            simp only [hlo] at h
            obtain ⟨v, hv, h⟩ := h
            exact ⟨v, hv, step _ _ (fun hn => hC (hneed hn)) h⟩
        · rename_i hw
          simp only [hw] at h
          exact step _ _ (fun hn => hC (hneed hn)) h
      split at h4
      · obtain ⟨hun, o, ho, hall⟩ := mem_ready.1 hr
        refine first hW hfin ho (Region.noSelect_spec hs) m listed a w hC hD (fun j oj hoj hji hjun hno => ?_) hr H
        unfold soloB at h4
        rw [ho] at h4
        have hj' := (Array.getElem?_eq_some_iff.1 hoj).1
        have := List.all_eq_true.1 h4 j (List.mem_range.2 hj')
        rw [hjun, hno, hoj] at this
        simp [hji] at this
        exact ⟨this.1, by rcases this.2 with h | h <;> simp [h]⟩
      · refine ⟨hC, fun he => (by rw [he] at hr; cases hr), fun j hj => ?_⟩
        have := List.all_eq_true.1 h4 j hj
        simp only [Bool.or_eq_true, beq_iff_eq, List.contains_eq_mem, decide_eq_true_eq] at this
        rcases this with rfl | hm
        · exact H
        · exact hh j hm m rfl
  | fork i fin t u iht ihu =>
    intro n listed heads a w hB hD hC hh h
    cases n with
    | zero => simp [treeB] at hB
    | succ m =>
      simp only [treeB, Bool.and_eq_true] at hB
      obtain ⟨⟨⟨h1, h2⟩, h3⟩, h4⟩ := hB
      have hr : i ∈ Region.ready .any ops listed := by simpa using h1
      obtain ⟨h, hrest⟩ := h
      refine ihu (m + 1) listed (i :: heads) a w h4 hD hC (fun j hj m' hm' => ?_) hrest
      cases hm'
      rcases List.mem_cons.1 hj with rfl | hj
      · obtain ⟨hun, o, ho, hall⟩ := mem_ready.1 hr
        have step : ∀ a' w', (Need ops rd (listed.setIfInBounds j true) → C w') → wpMT P ops C loud rd Q t a' w' → wpAnyM P ops C loud rd (finB loud rd ops b) Q m (listed.setIfInBounds j true) a' w' :=
          fun a' w' hC' hk => iht m _ [] a' w' h3 (hD.set hr) hC' (fun _ hm => by simp at hm) hk
        have hneed : Need ops rd (listed.setIfInBounds j true) → Need ops rd listed := fun ⟨k, ok, hk, hrk, hu⟩ => by
          refine ⟨k, ok, hk, hrk, ?_⟩
          by_cases hjk : j = k
          · subst hjk; exact hun
          · rwa [getD_set_ne true hjk] at hu
        unfold stepT at h
        unfold mOp
        simp only [ho] at h ⊢
        split
        · rename_i hw
          simp only [hw, if_true] at h
          split
          · rename_i hlo
            simp only [hlo, if_true] at h
            refine Oper.wp_mono (fun a' w' hk => ?_) h
            rcases hk.1 with hf | hC'
            · have hfb : finB loud rd ops b j = true := by simpa [hf] using h2
              refine ⟨.inl hfb, step a' w' (fun ⟨k, ok, hk, hrk, hu⟩ => ?_) hk.2⟩
              exfalso
              have hki : k ≠ j := fun e => by
                subst e
                rcases Nat.lt_or_ge k listed.size with h' | h'
                · rw [Array.getD_eq_getD_getElem?, Array.getElem?_setIfInBounds_self_of_lt h'] at hu; simp at hu
                · rw [Array.getD_eq_getD_getElem?, Array.getElem?_eq_none (by simpa using h')] at hu; simp at hu
              have hu' : listed.getD k true = false := by rwa [getD_set_ne true (Ne.symm hki)] at hu
              have w1 := hfin j hfb k ok hk hrk hki
              have w2 := not_waits hW hD hu' (j + 1) j o (by omega) ho hall
              rw [w1] at w2; cases w2
            · exact ⟨.inr hC', step a' w' (fun _ => hC') hk.2⟩
          · rename_i hlo
            simp only [hlo] at h
            obtain ⟨v, hv, h⟩ := h
            exact ⟨v, hv, step _ _ (fun hn => hC (hneed hn)) h⟩
        · rename_i hw
          simp only [hw] at h
          exact step _ _ (fun hn => hC (hneed hn)) h
      · exact hh j hj m rfl

theorem wp_region_tree {id : Nat} {a : Act} {w : World} (T : MT) (hm : P.follows .mixedOrders = true) (hB : treeOK loud rd ops T = true) (hC : C { w with drawn := w.drawn + 1 })
    (h : wpMT P ops C loud rd Q T a { w with drawn := w.drawn + 1 }) : (Code.region id ops true).wp P Q a w := by
  simp only [treeOK, Bool.and_eq_true] at hB
  obtain ⟨hs, hE, hT⟩ := hB
  have hW : Waits ops (waitsB ops.size (Region.before ops)) := by
    intro j oj hoj
    have hj := (Array.getElem?_eq_some_iff.1 hoj).1
    have h := List.all_eq_true.1 hE j (List.mem_range.2 hj)
    rw [hoj] at h
    simp only [Bool.and_eq_true, List.all_eq_true, List.mem_range] at h
    refine ⟨fun e he hb => ?_, fun i hi => ?_⟩
    · have := h.1 e (by simpa using he)
      simpa [hb] using this
    · have hisz : i < ops.size := by
        simp only [waitsB, Bool.and_eq_true, decide_eq_true_eq] at hi; exact hi.1
      have := h.2 i hisz
      rw [hi] at this
      simp only [Bool.not_true, Bool.false_or, List.any_eq_true, Bool.and_eq_true, Bool.or_eq_true, beq_iff_eq] at this
      obtain ⟨e, he, h1, h2⟩ := this
      exact ⟨e, by simpa using he, h1, h2⟩
  refine wp_region_any hm (wpAny_of_M (C := C) (loud := loud) (rd := rd) (fin := finB loud rd ops (Region.before ops)) _ _ _ _ ?_)
  refine tree_any hW hs T ops.size (Array.replicate ops.size false) [] a _ hT ?_ (fun _ => hC) (fun _ hm => by simp at hm) h
  intro j oj hoj hl e he hb
  have hj := (Array.getElem?_eq_some_iff.1 hoj).1
  simp [hj] at hl
end
end Go.Proofs.Sh
/- A region that draws its order: a walk of a tree of orders, on shadows. -/
namespace Go.Proofs.Sh
open Go.RowKit

@[simp] def MT.size : MT → Nat
  | .nil => 0
  | .op _ _ t => t.size + 1
  | .fork _ _ t u => t.size + u.size + 1
inductive TOut where
  | done (s : ASt)
  | call (f : FuncId) (args : List AV) (o : Oper) (fin : Bool) (l : MT) (U : List Nat × List Nat) (ok : Bool) (s : ASt)
  | fork (i : Nat) (fin : Bool) (t u : MT) (U : List Nat × List Nat) (ok : Bool) (s : ASt)
  | bad

/-- a store into a block that may be changed, or that has come up in the region -/
def newSt (c : MC) (F : List Nat) (s : ASt) (o : Oper) : Bool := match o.op with
  | .store _ x _ => (match s.eval x with | some (.one (.ptr _ b _ _)) => c.ms.contains b || F.contains b | _ => false)
  | _ => false
/-- an append onto a block that has come up in the region, or onto nothing -/
def newApp (F : List Nat) (s : ASt) (o : Oper) : Bool := match o.op with
  | .call ⟨.builtin .append, args, _⟩ => (match args.toList with
    | [x, _] => (match s.eval x with | some (.one (.row _ b _)) => F.contains b | some _ => true | none => false)
    | _ => false)
  | _ => false
def newIx (b : Bool) (n m : Nat) (F : List Nat) : List Nat := match b with | true => (match decide (n < m) with | true => n :: F | false => F) | false => F
mutual
def trun (P : Program) (c : MC) : MT → List Nat × List Nat → Bool → ASt → TOut
  | .nil, _, _, s => .done s
  | .op i fin l, U, ok, s => match c.all[i]? with
    | some o => twantT P c (wantedA c.all s.t o.guard) o fin l U ok s
    | none => .bad
  | .fork i fin t u, U, ok, s => .fork i fin t u U ok s
termination_by l => (l.size, 0)
def twantT (P : Program) (c : MC) (w : Option Bool) (o : Oper) (fin : Bool) (l : MT) (U : List Nat × List Nat) (ok : Bool) (s : ASt) : TOut :=
  match w with
  | none => .bad
  | some false => trun P c l U ok (s.put o.dst aundef)
  | some true => tkindT P c (readOp o) (loudOp o) o fin l U ok s
termination_by (l.size, 3)
def tkindT (P : Program) (c : MC) (rd ld : Bool) (o : Oper) (fin : Bool) (l : MT) (U : List Nat × List Nat) (ok : Bool) (s : ASt) : TOut :=
  match rd, ld with
  | true, _ => match o.op with
    | .load t x => if stabX U.1 x then (match s.eval x with | some (.one p) => if offMs c.ms p then tloadT P c (aload P c.h0 t p) o fin l U ok s else .bad | _ => .bad) else .bad
    | _ => .bad
  | false, true => tloudT P c (aop P s o) o fin l U ok s
  | false, false => tfreeT P c (aop P s o) o fin l U ok s
termination_by (l.size, 2)
def tloadT (P : Program) (c : MC) (v : Option AV) (o : Oper) (fin : Bool) (l : MT) (U : List Nat × List Nat) (ok : Bool) (s : ASt) : TOut :=
  match v with
  | some v => trun P c l U ok (s.put o.dst v)
  | none => .bad
termination_by (l.size, 1)
def tloudT (P : Program) (c : MC) (r : Res) (o : Oper) (fin : Bool) (l : MT) (U : List Nat × List Nat) (ok : Bool) (s : ASt) : TOut :=
  match r with
  | .val v h => if (ok && (isNew o || newApp U.2 s o)) || fin then trun P c l (addU o.dst U.1, newIx (isNew o || newApp U.2 s o) s.h.length h.length U.2) (ok && (isNew o || newApp U.2 s o)) (ASt.put ⟨s.n, s.t, h⟩ o.dst v) else .bad
  | .skip h => if (ok && newSt c U.2 s o) || fin then trun P c l U (ok && newSt c U.2 s o) (ASt.put ⟨s.n, s.t, h⟩ o.dst aundef) else .bad
  | .call f args => .call f args o fin l U ok s
  | .bad => .bad
termination_by (l.size, 1)
def tfreeT (P : Program) (c : MC) (r : Res) (o : Oper) (fin : Bool) (l : MT) (U : List Nat × List Nat) (ok : Bool) (s : ASt) : TOut :=
  match r with
  | .val v _ => trun P c l (if stab U.1 o then U else (addU o.dst U.1, U.2)) ok (s.put o.dst v)
  | _ => .bad
termination_by (l.size, 1)
end

def ATree (P : Program) (N : Nat) (c : MC) (l : MT) (U : List Nat × List Nat) (ok : Bool) (s : ASt) (K : Exit → ASt → Prop) : Prop :=
  ∀ X μ0 w0 μ a w μs hs ws, MixF X μ0 c.h0 w0 c.ms U.1 ok μ s a w → (∀ b ∈ U.2, ∃ g, μ[b]? = some g ∧ w0.heap.size ≤ g) → StpN N μs hs ws μ0 c.h0 w0 → wpMT P c.all.toArray (Keep (mapK μ0 c.ms) w0) loudOp readOp (lift N X μs hs ws K) l a w

def TDis (P : Program) (N : Nat) (c : MC) (K : Exit → ASt → Prop) : TOut → Prop
  | .done s => K .normal s
  | .call f args o fin l U ok s => ∃ ks, ((ok && ks.all c.ms.contains) || fin) = true ∧ ACalls P f args s.h ks (fun r h' => ATree P N c l (addU o.dst U.1, U.2) (ok && ks.all c.ms.contains) (ASt.put ⟨s.n, s.t, h'⟩ o.dst r) K)
  | .fork i fin t u U ok s => ATree P N c (.op i fin t) U ok s K ∧ ATree P N c u U ok s K
  | .bad => False

section
variable {P : Program} {N : Nat} {c : MC} {K : Exit → ASt → Prop} {X μ0 μ : List Nat} {h0 : List Blk} {w0 w : World} {ms U : List Nat} {ok : Bool} {s : ASt} {a : Act}

theorem hN' {μ μ' : List Nat} {h h' : List Blk} {w w0 w' : World} {F : List Nat} (hN : ∀ b ∈ F, ∃ g, μ[b]? = some g ∧ w0.heap.size ≤ g) (hT : Stp μ h w μ' h' w') : ∀ b ∈ F, ∃ g, μ'[b]? = some g ∧ w0.heap.size ≤ g :=
  fun b hb => let ⟨g, e, l⟩ := hN b hb; ⟨g, hT.map b g e, l⟩
theorem new_block {X μ μ' : List Nat} {h h' : List Blk} {w w' : World} {k : Blk} (hS : Sim X μ' h' w') (hT : Stp μ h w μ' h' w') (hm : k.st.isMut = true) (e : h' = h ++ [k]) : ∃ g, μ'[h.length]? = some g ∧ w.heap.size ≤ g := by
  have hk : h'[h.length]? = some k := by rw [e]; simp
  obtain ⟨g, hg, _⟩ := hS.get hk
  refine ⟨g, hg, Nat.le_of_not_lt fun hlt => ?_⟩
  obtain ⟨i, q, h1, h2, h3⟩ := mem_alive.1 (hT.old g (mem_alive.2 ⟨_, k, hg, hk, hm⟩) hlt)
  have hi := (List.getElem?_eq_some_iff.1 h2).1
  have h2' : h'[i]? = some q := by rw [e, List.getElem?_append_left hi]; exact h2
  exact hS.inj h.length i k q g (by omega) hk h2' hm (known_of_mut h3) hg (hT.map i g h1)
theorem isNew_app {o : Oper} {v : AV} {h' : List Blk} (hnw : isNew o = true) (ho : aop P s o = .val v h') : ∃ k : Blk, h' = s.h ++ [k] ∧ k.st.isMut = true := by
  unfold aop at ho
  unfold isNew at hnw
  split at hnw
  · rename_i t hop
    rw [hop] at ho
    simp only at ho
    split at ho
    · split at ho
      · injection ho with e1 e2; exact ⟨_, e2.symm, rfl⟩
      · cases ho
    · cases ho
  · rename_i t x hop
    rw [hop] at ho
    simp only at ho
    split at ho
    · injection ho with e1 e2; exact ⟨_, e2.symm, rfl⟩
    · cases ho
  · rename_i t len parts hop
    rw [hop] at ho
    simp only [abuildSlice] at ho
    (repeat' split at ho) <;> first | (cases ho; done) | (injection ho with e1 e2; exact ⟨_, e2.symm, rfl⟩)
  · rename_i t x y hop
    rw [hop] at ho
    simp only at ho
    split at ho
    · simp only [amakeSlice] at ho
      (repeat' split at ho) <;> first | (cases ho; done) | (injection ho with e1 e2; exact ⟨_, e2.symm, rfl⟩)
    · cases ho
  · cases hnw

/-- what is new in the region, or appended to such -/
theorem loud_new {F : List Nat} {B : Nat} {o : Oper} {v : AV} {h' : List Blk} (hF : SimF X μ s a w) (hn : (isNew o || newApp F s o) = true) (ho : aop P s o = .val v h') (hN : ∀ b ∈ F, ∃ g, μ[b]? = some g ∧ B ≤ g) (hB : B ≤ w.heap.size) :
    ∃ u w' μ', (execOp a.eval o).run P w = .ok (.value u) w' ∧ Sim X μ' h' w' ∧ Stp μ s.h w μ' h' w' ∧ AV.rep (X ++ alive μ' h') μ' w' v u ∧ (∃ L, Keep L w w' ∧ ∀ z ∈ L, B ≤ z) ∧ ∀ g, s.h.length < h'.length → μ'[s.h.length]? = some g → B ≤ g := by
  cases hnw : isNew o with
  | true =>
    have hO : OpNew P X μ s a w o v h' := by
      have ho' := ho
      unfold aop at ho'
      unfold isNew at hnw
      split at hnw
      · rename_i t hop
        rw [hop] at ho'
        simp only at ho'
        split at ho'
        · rename_i ti hti
          split at ho'
          · injection ho' with e1 e2; subst e1 e2; exact op_alloc hop hF hti
          · cases ho'
        · cases ho'
      · rename_i t x hop
        rw [hop] at ho'
        simp only at ho'
        split at ho'
        · rename_i cs hx; injection ho' with e1 e2; subst e1 e2; exact op_box hop hF hx
        · cases ho'
      · rename_i t len parts hop
        rw [hop] at ho'
        exact op_buildSlice hop hF ho'
      · rename_i t x y hop
        rw [hop] at ho'
        simp only at ho'
        split at ho'
        · rename_i h1 h2; exact op_makeSlice hop hF h1 h2 ho'
        · cases ho'
      · cases hnw
    obtain ⟨u, w', μ', r1, r2, r3, r4, r5⟩ := hO
    obtain ⟨k, e1, e2⟩ := isNew_app hnw ho
    refine ⟨u, w', μ', r1, r2, r3, r4, ⟨[], r5, by simp⟩, fun g _ hg => ?_⟩
    obtain ⟨g', e3, e4⟩ := new_block r2 r3 e2 e1
    rw [hg] at e3; cases e3; omega
  | false =>
    rw [hnw, Bool.false_or] at hn
    unfold newApp at hn
    split at hn
    case h_2 => cases hn
    rename_i args ts hop
    split at hn
    case h_2 => cases hn
    rename_i x y hargs
    have hA : ∃ vx, s.eval x = some vx ∧ OpApp P X μ s a w o vx v h' := by
      unfold aop at ho
      rw [hop] at ho
      simp only [abuiltin, hargs] at ho
      split at ho <;> try contradiction
      rename_i x' y' t t' _ hxy ht
      injection hxy with e1 e2
      injection e2 with e2 _
      subst e1 e2
      have ha' : args = #[x, y] := by rw [← Array.toArray_toList (xs := args), hargs]
      have ht' : ts = #[t, t'] := by rw [← Array.toArray_toList (xs := ts), ht]
      subst ha' ht'
      split at ho
      · rename_i vx vy h1 h2
        split at ho
        · rename_i htt; subst htt; exact ⟨vx, h1, op_append hop hF h1 h2 ho⟩
        · cases ho
      · cases ho
    obtain ⟨vx, hx, u, w', μ', r1, r2, r3, r4, r5⟩ := hA
    refine ⟨u, w', μ', r1, r2, r3, r4, r5 B (fun s' b n g e hg => ?_) hB⟩
    subst e
    rw [hx] at hn
    simp only [List.contains_eq_mem, decide_eq_true_eq] at hn
    obtain ⟨g', e1, e2⟩ := hN b hn
    rw [hg] at e1; cases e1; exact e2

theorem trun_sound (hmut : ∀ b ∈ c.ms, ∃ k, c.h0[b]? = some k ∧ k.st.isMut = true) : ∀ (l : MT) (U : List Nat × List Nat) (ok : Bool) (s : ASt), TDis P N c K (trun P c l U ok s) → ATree P N c l U ok s K := by
  intro l
  induction l with
  | nil =>
    intro U ok s h X μ0 w0 μ a w μs hs ws hM hN hT
    rw [trun] at h
    unfold wpMT
    exact ⟨s, μ, h, hM.cur, hT.trans hM.stp⟩
  | fork i fin t u iht ihu =>
    intro U ok s h X μ0 w0 μ a w μs hs ws hM hN hT
    rw [trun] at h
    exact ⟨h.1 X μ0 w0 μ a w μs hs ws hM hN hT, h.2 X μ0 w0 μ a w μs hs ws hM hN hT⟩
  | op i fin l ih =>
    intro U ok s h X μ0 w0 μ a w μs hs ws hM hN hT
    rw [trun] at h
    cases hoi : c.all[i]? with
    | none => rw [hoi] at h; exact h.elim
    | some o =>
    rw [hoi] at h
    simp only at h
    cases hw : wantedA c.all s.t o.guard with
    | none => rw [hw, twantT] at h; exact h.elim
    | some b =>
      have hwt := wanted_spec hM.cur hw
      unfold wpMT stepT
      have hoi' : c.all.toArray[i]? = some o := by simpa using hoi
      simp only [hoi']
      rw [hwt]
      cases b with
      | false =>
        rw [hw, twantT] at h
        rw [if_neg (by simp)]
        exact ih U ok _ h X μ0 w0 μ _ w μs hs ws (hM.put (AV.rep_undef _ _ _)) hN hT
      | true =>
        rw [hw, twantT] at h
        rw [if_pos rfl]
        cases hrd : readOp o with
        | true =>
          have hld : loudOp o = false := by
            cases ho : o.op <;> simp [readOp, ho] at hrd
            simp [loudOp, ho]
          rw [hrd, tkindT] at h
          rw [hld, if_neg (by simp)]
          split at h
          · rename_i t x ho
            split at h
            · rename_i hx
              split at h
              · rename_i p hp
                split at h
                · rename_i hms
                  cases hv : aload P c.h0 t p with
                  | none => rw [hv, tloadT] at h; exact h.elim
                  | some v =>
                    rw [hv, tloadT] at h
                    obtain ⟨u, h1, h2⟩ := mix_load (M := []) hM ho hx hp hms hmut hv
                    exact ⟨u, by simpa [Calm, Cls] using h1, ih U ok _ h X μ0 w0 μ _ w μs hs ws (hM.put h2) hN hT⟩
                · exact h.elim
              · exact h.elim
            · exact h.elim
          · exact h.elim
        | false =>
          cases hld : loudOp o with
          | false =>
            rw [hrd, hld, tkindT] at h
            rw [if_neg (by simp)]
            cases ho : aop P s o with
            | val v h' =>
              rw [ho, tfreeT] at h
              obtain ⟨rfl, hp⟩ := aop_pure hld hrd ho
              obtain ⟨u, h1, h2⟩ := hp X μ s a w hM.cur (fun _ _ => rfl)
              refine ⟨u, fun w _ => h1 w, ?_⟩
              by_cases hst : stab U.1 o = true
              · rw [if_pos hst] at h
                obtain ⟨u', h1', h2'⟩ := hp X μ0 ⟨s.n, still U.1 s.t, c.h0⟩ a w0 hM.still (fun x hx => still_eval (List.all_eq_true.1 hst x hx))
                have : u' = u := by
                  have e1 := h1 w; rw [h1' w] at e1; injection e1 with e1; injection e1
                subst this
                exact ih U ok _ h X μ0 w0 μ _ w μs hs ws (hM.put h2') hN hT
              · rw [if_neg hst] at h
                have := hM.putU (ok' := ok) (d := o.dst) hM.cur.sim (Stp.refl _ _ _) h2 hM.keep
                exact ih _ ok _ h X μ0 w0 μ _ w μs hs ws this hN hT
            | skip h' => rw [ho, tfreeT] at h; exact h.elim; all_goals simp
            | call f args => rw [ho, tfreeT] at h; exact h.elim; all_goals simp
            | bad => rw [ho, tfreeT] at h; exact h.elim; all_goals simp
          | true =>
            rw [hrd, hld, tkindT] at h
            rw [if_pos rfl]
            cases ho : aop P s o with
            | bad => rw [ho, tloudT] at h; exact h.elim
            | skip h' =>
              rw [ho, tloudT] at h
              split at h
              · rename_i hf
                obtain ⟨w', r1, ⟨r2, r3⟩, r4⟩ := aop_skip' hM.cur ho
                unfold Oper.wp
                rw [r1]
                cases hnew : (ok && newSt c U.2 s o) with
                | false =>
                  rw [hnew] at hf h
                  exact ⟨.inl (by simpa using hf), ih U false _ h X μ0 w0 μ _ w' μs hs ws (hM.drop r2 r3 (by simp)) hN hT⟩
                | true =>
                  rw [hnew] at h
                  simp only [Bool.and_eq_true] at hnew
                  obtain ⟨hok, hnw⟩ := hnew
                  have hK : Keep (mapK μ0 c.ms) w0 w' := by
                    unfold newSt at hnw
                    split at hnw
                    · rename_i t x y hop
                      split at hnw
                      · rename_i n b i' j' hx
                        simp only [Bool.or_eq_true, List.contains_eq_mem, decide_eq_true_eq] at hnw
                        rcases hnw with hbm | hbn
                        · obtain ⟨k, e1, e2⟩ := hmut b hbm
                          obtain ⟨g', hg', _⟩ := hM.base.get e1
                          refine (hM.keep hok).trans (r4 _ _ _ n b i' j' g' hop hx (hM.stp.map b g' hg')) (fun z hz _ => ?_)
                          simp only [List.mem_singleton] at hz
                          subst hz
                          refine List.mem_map.2 ⟨b, hbm, ?_⟩
                          rw [List.getD_eq_getElem?_getD, hg', Option.getD_some]
                        · obtain ⟨g', hg', hle⟩ := hN b hbn
                          refine (hM.keep hok).trans (r4 _ _ _ n b i' j' g' hop hx hg') (fun z hz hlt => ?_)
                          simp only [List.mem_singleton] at hz
                          omega
                      · cases hnw
                    · cases hnw
                  exact ⟨.inr hK, ih U true _ h X μ0 w0 μ _ w' μs hs ws (hM.drop r2 r3 (fun _ => hK)) hN hT⟩
              · exact h.elim
            | val v h' =>
              rw [ho, tloudT] at h
              split at h
              · rename_i hf
                cases hn : (isNew o || newApp U.2 s o) with
                | false =>
                  rw [hn] at hf h
                  simp only [Bool.and_false, Bool.false_or] at hf h
                  obtain ⟨u, w', μ', r1, r2, r3, r4⟩ := aop_val hM.cur ho
                  unfold Oper.wp
                  rw [r1]
                  exact ⟨.inl hf, ih _ false _ h X μ0 w0 μ' _ w' μs hs ws (hM.putU r2 r3 r4 (by simp)) (hN' hN r3) hT⟩
                | true =>
                  rw [hn] at hf h
                  simp only [Bool.and_true] at hf h
                  obtain ⟨u, w', μ', r1, r2, r3, r4, ⟨L, r5, r6⟩, r7⟩ := loud_new hM.cur hn ho hN hM.stp.keep.size
                  have hFn : ∀ b ∈ newIx true s.h.length h'.length U.2, ∃ g, μ'[b]? = some g ∧ w0.heap.size ≤ g := by
                    intro b hb
                    unfold newIx at hb
                    simp only at hb
                    split at hb
                    · rename_i hlt
                      have hlt := of_decide_eq_true hlt
                      rcases List.mem_cons.1 hb with rfl | hb
                      · obtain ⟨g, e3, _⟩ := r2.get (List.getElem?_eq_getElem hlt)
                        exact ⟨g, e3, r7 g hlt e3⟩
                      · exact hN' hN r3 b hb
                    · exact hN' hN r3 b hb
                  have hK : ok = true → Keep (mapK μ0 c.ms) w0 w' := fun hok => (hM.keep hok).trans r5 (fun z hz hlt => by have := r6 z hz; omega)
                  unfold Oper.wp
                  rw [r1]
                  refine ⟨?_, ih _ ok _ h X μ0 w0 μ' _ w' μs hs ws (hM.putU r2 r3 r4 hK) hFn hT⟩
                  cases hok : ok with
                  | true => exact .inr (hK hok)
                  | false => rw [hok] at hf; exact .inl (by simpa using hf)
              · exact h.elim
            | call f args =>
              rw [ho, tloudT] at h
              obtain ⟨ks, hcnd, hc⟩ := h
              obtain ⟨vs, r1, r2⟩ := aop_call hM.cur ho
              obtain ⟨hfn, hcl⟩ := calls_of hM.cur.sim r1 hc
              unfold Oper.wp
              rw [r2 hfn]
              refine Calls.mono hcl fun e w' ⟨r, h', μ', v, he, hk, s1, s2, s3, s4⟩ => ?_
              subst he
              cases hokk : (ok && ks.all c.ms.contains) with
              | false =>
                rw [hokk] at hcnd hk
                exact ⟨.inl (by simpa using hcnd), hk X μ0 w0 μ' _ w' μs hs ws (hM.putU s1 s2 s3 (by simp)) (hN' hN s2) hT⟩
              | true =>
                rw [hokk] at hk
                simp only [Bool.and_eq_true] at hokk
                have hK : Keep (mapK μ0 c.ms) w0 w' := by
                  refine (hM.keep hokk.1).trans s4 (fun x hx hlt => ?_)
                  obtain ⟨i, hi⟩ := List.getElem?_of_mem hx
                  simp only [mapK, List.getElem?_map, Option.map_eq_some_iff] at hi
                  obtain ⟨b, hb, hg⟩ := hi
                  have hbm : b ∈ c.ms := by
                    have := List.all_eq_true.1 hokk.2 b (List.mem_of_getElem? hb)
                    simpa using this
                  obtain ⟨k, e1, e2⟩ := hmut b hbm
                  obtain ⟨g', hg', _⟩ := hM.base.get e1
                  have := hM.stp.map b g' hg'
                  rw [List.getD_eq_getElem?_getD, this, Option.getD_some] at hg
                  subst hg
                  refine List.mem_map.2 ⟨b, hbm, ?_⟩
                  rw [List.getD_eq_getElem?_getD, hg', Option.getD_some]
                exact ⟨.inr hK, hk X μ0 w0 μ' _ w' μs hs ws (hM.putU s1 s2 s3 (fun _ => hK)) (hN' hN s2) hT⟩

theorem trun_sound' (hmut : c.ms.all (fun b => match c.h0[b]? with | some k => k.st.isMut | none => false) = true) (l : MT) (U : List Nat × List Nat) (ok : Bool) (s : ASt) (h : TDis P N c K (trun P c l U ok s)) : ATree P N c l U ok s K :=
  trun_sound (fun b hb => by
    have := List.all_eq_true.1 hmut b hb
    split at this
    · rename_i k hk; exact ⟨k, hk, this⟩
    · cases this) l U ok s h

/-- a region that draws its order, by a tree of orders -/
theorem go_tree {R : ASt → Prop} {id : Nat} {l : List Oper} {k : List Item} (T : MT) (ms : List Nat) (hm : P.follows .mixedOrders = true) (hB : treeOK loudOp readOp l.toArray T = true) (hmut : ms.all (fun b => match s.h[b]? with | some k => k.st.isMut | none => false) = true)
    (h : TDis P N ⟨0, s.h, ms, l⟩ (AGo P N R k) (trun P ⟨0, s.h, ms, l⟩ T ([], []) true s)) : AGo P N R (.code (.region id l.toArray true) :: k) .normal s := by
  intro X μ0 hh0 w0 μ a w hF hT
  have hdr : Stp μ s.h w μ s.h w.drew := ⟨Keep.drew _ _, fun _ _ e => e, fun _ h _ => h⟩
  have hSd : Sim X μ s.h w.drew := by
    have hs := hF.sim
    exact ⟨hs.len, hs.lt, hs.xlt, hs.out, hs.inj, fun i b g h1 h2 h3 => let ⟨cur, q1, q2⟩ := hs.blk i b g h1 h2 h3; ⟨cur, q1, q2.carry hdr.carry⟩⟩
  have hFd : SimF X μ s a w.drew := hF.step hdr hSd
  have hms : ∀ b ∈ ms, ∃ k, s.h[b]? = some k ∧ k.st.isMut = true := fun b hb => by
    have := List.all_eq_true.1 hmut b hb
    split at this
    · rename_i k hk; exact ⟨k, hk, this⟩
    · cases this
  have hA := trun_sound (c := ⟨0, s.h, ms, l⟩) hms T ([], []) true s h X μ w.drew μ a w.drew μ0 hh0 w0 ⟨hFd, Stp.refl _ _ _, hSd, fun t v _ hl => hFd.reg t v hl, fun _ => Keep.refl _ _⟩ (fun _ hb => by simp at hb) (hT.trans hdr)
  exact wp_region_tree (C := Keep (mapK μ ms) w.drew) T hm hB (Keep.refl _ _) hA
end
end Go.Proofs.Sh
/- The rules of a run on shadows, as rewrite rules. -/
namespace Go.Proofs.Sh
open Go.RowKit

theorem look_at (t t' : Nat) (v : AV) (l : List (Nat × AV)) : look t ((t', v) :: l) = match t' == t with | true => some v | false => look t l := by
  rw [look]
  by_cases h : t' = t
  · simp [h]
  · rw [if_neg h, show (t' == t) = false from by simpa using h]
@[go_sem ↓] theorem ite_match {α : Sort _} (c : Prop) [Decidable c] (a b : α) : (if c then a else b) = (match decide c with | true => a | false => b) := by
  by_cases h : c <;> simp [h]
attribute [go_sem] look_at look.eq_1
@[go_sem] theorem rowsLen_nil (s : Nat) : rowsLen s [] = true := rfl
@[go_sem] theorem rowsLen_cons (s : Nat) (r : List C) (l : List (List C)) : rowsLen s (r :: l) = (r.length == s && rowsLen s l) := rfl
@[go_sem] theorem rowsLen_append (s : Nat) (l m : List (List C)) : rowsLen s (l ++ m) = (rowsLen s l && rowsLen s m) := by simp [rowsLen]
@[go_sem] theorem treeL_nil : treeL [] = true := rfl
@[go_sem] theorem treeL_cons (c : C) (l : List C) : treeL (c :: l) = (c.tree && treeL l) := rfl
@[go_sem] theorem treeL_append (l m : List C) : treeL (l ++ m) = (treeL l && treeL m) := by simp [treeL]
@[go_sem] theorem treeRows_nil : treeRows [] = true := rfl
@[go_sem] theorem treeRows_cons (c : List C) (l : List (List C)) : treeRows (c :: l) = (treeL c && treeRows l) := rfl
@[go_sem] theorem treeRows_append (l m : List (List C)) : treeRows (l ++ m) = (treeRows l && treeRows m) := by simp [treeRows]
@[go_sem] theorem splice_succ (c : C) (l cs : List C) (j : Nat) : splice (c :: l) (j + 1) cs = c :: splice l j cs := by
  simp [splice, Nat.succ_add]
@[go_sem] theorem splice_zero (l cs : List C) : splice l 0 cs = cs ++ l.drop cs.length := by simp [splice]
attribute [go_sem] Nat.reduceLT Nat.reduceLeDiff Nat.reduceEqDiff Nat.reduceAdd Nat.reduceMul Nat.reduceSub Nat.reduceBEq Int.reduceLT Int.reduceLE Int.reduceGT Int.reduceGE Int.reduceToNat Int.reduceEq Int.reduceBEq Int.reduceBNe Int.reduceAdd Int.reduceSub Int.reduceNeg reduceIte reduceCtorEq decide_true decide_false beq_self_eq_true Int.toNat_natCast Int.natCast_nonneg
attribute [go_sem] Blk.frz Blk.dead ne_eq not_false_eq_true not_true_eq_false
section
variable {P : Program} {N : Nat} {R : ASt → Prop}
@[go_sem] theorem dis_ret (s : ASt) : ADis P N R (.ret s) = R s := rfl
@[go_sem] theorem dis_goal (I : ASt → Prop) (s : ASt) : ADis P N R (.goal I s) = I s := rfl
@[go_sem] theorem dis_bad (k : List Item) : ADis P N R (.bad k) = False := rfl
@[go_sem] theorem dis_fuel (k : List Item) (s : ASt) : ADis P N R (.fuel k s) = AGo P N R k .normal s := rfl
variable {c : MC} {K : Exit → ASt → Prop}
@[go_sem] theorem mdis_bad (k : List Oper) : MDis P N c K (.bad k) = False := rfl
end
attribute [go_sem] Op.operands Call.operands Array.toList_append Option.toArray_some Option.toArray_none List.append_toArray
attribute [go_sem] Bool.false_eq_true List.range_zero List.range_succ
attribute [go_sem] arun.eq_1 arun.eq_2 arun.eq_3 arun.eq_4 arun.eq_5 arun.eq_6 arun.eq_7 arun.eq_8 arun.eq_9 arun.eq_10 arun.eq_11 arun.eq_12 arun.eq_13 arun.eq_14 awant astep acond abr aop aopX aor aconvB abytes ASt.eval ares ared ares1 ares2 ASt.put wantedA AV.cells aload astore acells afield afieldAddr aindexAddr aindex ashift alen abound aslice abuild afill arow abuildSlice amakeSlice arows aappend aappend1 asame aempty aisSlice caps vals acall abuiltin amax
  C.isConst aundef aint astr abin aun exitK aresult ares' slots prep prepC prVs prV prL prC prCs prR prRs prH apart nodupB pos fz fzL fzRows C.tree frzAt AV.ren AV.renL C.ren C.renL renA renRows merge setAll back Blk.ren ASt.gets zipT
  mrun mwant mkind mload mloud mfree trun twantT tkindT tloadT tloudT tfreeT newSt newApp newIx stabX stab addU offMs isNew loudOp readOp
  St.isMut St.known
attribute [go_sem] List.length_cons List.length_nil List.map_cons List.map_nil List.append_nil List.cons_append List.nil_append List.getElem?_cons_zero List.getElem?_cons_succ List.getElem?_nil List.set_cons_zero List.set_cons_succ List.drop_zero List.drop_succ_cons List.drop_nil List.take_zero List.take_succ_cons List.take_nil
  List.all_cons List.all_nil List.any_cons List.any_nil List.contains_cons List.contains_nil List.filter_cons List.filter_nil List.replicate_succ List.replicate_zero
  Option.bind_some Option.bind_none Option.getD_some Option.getD_none Option.map_some Option.map_none
  Bool.and_true Bool.true_and Bool.false_and Bool.and_false Bool.or_true Bool.true_or Bool.or_false Bool.false_or Bool.not_true Bool.not_false
  and_true true_and and_false false_and and_self or_true true_or
  Nat.zero_add Nat.add_zero List.length_append List.getElem?_drop
end Go.Proofs.Sh
/- Types as trees: plain functions and laws. No program, no world. -/
namespace Go.Proofs.Grad

inductive Ty where
  | mk (kind : Int) (kids : List Ty)

def Ty.kind : Ty → Int | .mk k _ => k
def Ty.kids : Ty → List Ty | .mk _ l => l

mutual
def Ty.size : Ty → Nat
  | .mk _ l => 1 + Ty.sizes l
def Ty.sizes : List Ty → Nat
  | [] => 0
  | t :: l => t.size + Ty.sizes l
end

theorem Ty.sizes_mem {t : Ty} {l : List Ty} (h : t ∈ l) : t.size ≤ Ty.sizes l := by
  induction l with
  | nil => cases h
  | cons x l ih =>
    simp only [Ty.sizes]
    rcases List.mem_cons.1 h with rfl | h
    · omega
    · have := ih h; omega
theorem Ty.length_le_sizes (l : List Ty) : l.length ≤ Ty.sizes l := by
  induction l with
  | nil => simp
  | cons x l ih => cases x; simp only [Ty.sizes, Ty.size, List.length_cons]; omega

theorem Ty.kid_lt {l : List Ty} {k : Nat} (h : k < l.length) : Ty.sizes l[k].kids < Ty.sizes l := by
  have h1 := Ty.sizes_mem (List.getElem_mem h)
  generalize l[k] = t at *
  cases t
  simp only [Ty.size, Ty.kids] at *
  omega


mutual
def Ty.same : Ty → Ty → Bool
  | .mk k l, .mk k' l' => k == k' && Ty.sames l l'
def Ty.sames : List Ty → List Ty → Bool
  | [], [] => true
  | t :: l, t' :: l' => t.same t' && Ty.sames l l'
  | [], _ :: _ => false
  | _ :: _, [] => false
end
mutual
theorem Ty.same_iff : ∀ a b : Ty, a.same b = true ↔ a = b
  | .mk k l, .mk k' l' => by simp [Ty.same, Ty.sames_iff l l']
theorem Ty.sames_iff : ∀ a b : List Ty, Ty.sames a b = true ↔ a = b
  | [], [] => by simp [Ty.sames]
  | t :: l, t' :: l' => by simp [Ty.sames, Ty.same_iff t t', Ty.sames_iff l l']
  | [], _ :: _ => by simp [Ty.sames]
  | _ :: _, [] => by simp [Ty.sames]
end
theorem Ty.same_refl (a : Ty) : a.same a = true := (Ty.same_iff a a).2 rfl
/-- a relation, element by element -/
def all2 (f : Ty → Ty → Bool) : List Ty → List Ty → Bool
  | [], [] => true
  | t :: l, t' :: l' => f t t' && all2 f l l'
  | [], _ :: _ => false
  | _ :: _, [] => false
theorem Ty.sames_all2 : ∀ a b : List Ty, Ty.sames a b = all2 Ty.same a b
  | [], [] => rfl
  | t :: l, t' :: l' => by simp [Ty.sames, all2, Ty.sames_all2 l l']
  | [], _ :: _ => rfl
  | _ :: _, [] => rfl
theorem all2_len {f : Ty → Ty → Bool} : ∀ {a b : List Ty}, a.length ≠ b.length → all2 f a b = false
  | [], [], h => by simp at h
  | t :: l, t' :: l', h => by simp [all2, all2_len (f := f) (a := l) (b := l') (by simpa using h)]
  | [], _ :: _, _ => rfl
  | _ :: _, [], _ => rfl

/-! ### Validity -/
def kidsN (k : Int) : Int := if k = 1 ∨ k = 2 ∨ k = 3 then 0 else if k = 4 ∨ k = 5 then 2 else -1
def Ty.shape : Nat → Ty → Bool
  | 0, _ => false
  | d + 1, t => (kidsN t.kind == (t.kids.length : Int)) && t.kids.all (Ty.shape d)
def Ty.valid (t : Ty) : Bool := t.shape 4

/-- valid types -/
inductive T where
  | any | int | bool
  | fn (a b : T)
  | pr (a b : T)
  deriving DecidableEq, Repr
def T.kind : T → Int | .any => 1 | .int => 2 | .bool => 3 | .fn _ _ => 4 | .pr _ _ => 5
def T.kids : T → List T | .fn a b => [a, b] | .pr a b => [a, b] | _ => []
def T.ty : T → Ty
  | .any => .mk 1 [] | .int => .mk 2 [] | .bool => .mk 3 []
  | .fn a b => .mk 4 [a.ty, b.ty] | .pr a b => .mk 5 [a.ty, b.ty]
def T.depth : T → Nat
  | .fn a b => max a.depth b.depth + 1 | .pr a b => max a.depth b.depth + 1 | _ => 1
def T.size : T → Nat
  | .fn a b => a.size + b.size + 1 | .pr a b => a.size + b.size + 1 | _ => 1
theorem T.ty_size (t : T) : t.ty.size = t.size := by
  induction t <;> simp [T.ty, Ty.size, Ty.sizes, T.size, *] <;> omega
theorem T.shape_ty : ∀ (t : T) (d : Nat), t.ty.shape d = decide (t.depth ≤ d)
  | .any, d => by cases d <;> simp [T.ty, Ty.shape, kidsN, Ty.kind, Ty.kids, T.depth]
  | .int, d => by cases d <;> simp [T.ty, Ty.shape, kidsN, Ty.kind, Ty.kids, T.depth]
  | .bool, d => by cases d <;> simp [T.ty, Ty.shape, kidsN, Ty.kind, Ty.kids, T.depth]
  | .fn a b, d => by
    cases d with
    | zero => simp [Ty.shape, T.depth]
    | succ d => simp [T.ty, Ty.shape, kidsN, Ty.kind, Ty.kids, T.depth, T.shape_ty a d, T.shape_ty b d, Nat.max_le]
  | .pr a b, d => by
    cases d with
    | zero => simp [Ty.shape, T.depth]
    | succ d => simp [T.ty, Ty.shape, kidsN, Ty.kind, Ty.kids, T.depth, T.shape_ty a d, T.shape_ty b d, Nat.max_le]

theorem Ty.shape_T : ∀ (d : Nat) (t : Ty), t.shape d = true → ∃ x : T, x.ty = t ∧ x.depth ≤ d
  | 0, t, h => by simp [Ty.shape] at h
  | d + 1, .mk k l, h => by
    simp only [Ty.shape, Ty.kind, Ty.kids, Bool.and_eq_true, beq_iff_eq, List.all_eq_true] at h
    obtain ⟨h1, h2⟩ := h
    unfold kidsN at h1
    split at h1
    · rename_i hk
      have : l = [] := List.eq_nil_of_length_eq_zero (by omega)
      subst this
      rcases hk with rfl | rfl | rfl
      · exact ⟨.any, rfl, by simp [T.depth]⟩
      · exact ⟨.int, rfl, by simp [T.depth]⟩
      · exact ⟨.bool, rfl, by simp [T.depth]⟩
    · split at h1
      · rename_i hk
        match l, h1 with
        | [a, b], _ =>
          obtain ⟨x, hx, dx⟩ := Ty.shape_T d a (h2 a (by simp))
          obtain ⟨y, hy, dy⟩ := Ty.shape_T d b (h2 b (by simp))
          subst hx hy
          rcases hk with rfl | rfl
          · exact ⟨.fn x y, rfl, by simp [T.depth]; omega⟩
          · exact ⟨.pr x y, rfl, by simp [T.depth]; omega⟩
        | [], h1 => simp at h1
        | [_], h1 => simp at h1
        | _ :: _ :: _ :: _, h1 => simp at h1; omega
      · omega

theorem Ty.valid_iff (t : Ty) : t.valid = true ↔ ∃ x : T, x.ty = t ∧ x.depth ≤ 4 :=
  ⟨Ty.shape_T 4 t, fun ⟨x, hx, hd⟩ => by subst hx; simp [Ty.valid, T.shape_ty, hd]⟩

/-! ### Relations on valid types -/
def T.ground : T → T | .fn _ _ => .fn .any .any | .pr _ _ => .pr .any .any | t => t
def T.cons : T → T → Bool
  | .any, _ => true | _, .any => true
  | .int, .int => true | .bool, .bool => true
  | .fn a b, .fn c d => a.cons c && b.cons d
  | .pr a b, .pr c d => a.cons c && b.cons d
  | _, _ => false
mutual
def T.pos : T → T → Bool
  | _, .any => true
  | .int, .int => true | .bool, .bool => true
  | .fn a b, .fn c d => T.neg c a && T.pos b d
  | .pr a b, .pr c d => T.pos a c && T.pos b d
  | _, _ => false
termination_by a b => a.size + b.size
decreasing_by all_goals (simp only [T.size]; omega)
/-- against the unknown type as against the ground type -/
def T.neg : T → T → Bool
  | .any, _ => true
  | .fn a b, .any => T.pos .any a && T.neg b .any
  | .pr a b, .any => T.neg a .any && T.neg b .any
  | .int, .any => true | .bool, .any => true
  | .int, .int => true | .bool, .bool => true
  | .fn a b, .fn c d => T.pos c a && T.neg b d
  | .pr a b, .pr c d => T.neg a c && T.neg b d
  | _, _ => false
termination_by a b => a.size + b.size
decreasing_by all_goals (simp only [T.size]; omega)
end
def T.sub : T → T → Bool
  | .any, .any => true
  | .any, _ => false
  | .fn a b, .any => T.sub .any a && T.sub b .any
  | .pr a b, .any => T.sub a .any && T.sub b .any
  | .int, .any => true | .bool, .any => true
  | .int, .int => true | .bool, .bool => true
  | .fn a b, .fn c d => T.sub c a && T.sub b d
  | .pr a b, .pr c d => T.sub a c && T.sub b d
  | _, _ => false
termination_by a b => a.size + b.size
decreasing_by all_goals (simp only [T.size]; omega)
def T.count : T → Nat
  | .any => 1 | .fn a b => a.count + b.count | .pr a b => a.count + b.count | _ => 0

mutual
def Ty.cons : Ty → Ty → Bool
  | .mk k l, .mk k' l' => k == 1 || (k' == 1 || (k == k' && Ty.conss l l'))
def Ty.conss : List Ty → List Ty → Bool
  | [], [] => true
  | t :: l, t' :: l' => t.cons t' && Ty.conss l l'
  | [], _ :: _ => false
  | _ :: _, [] => false
end
mutual
def Ty.count : Ty → Nat
  | .mk k l => if k = 1 then 1 else Ty.counts l
def Ty.counts : List Ty → Nat
  | [] => 0
  | t :: l => t.count + Ty.counts l
end
end Go.Proofs.Grad
/- Types as shadows. -/
namespace Go.Proofs.Sh
open Go.RowKit Go.Proofs.Grad

mutual
def tyC : Ty → List C
  | .mk k l => [.sc (.int .i64 k), .sl (tyR l)]
def tyR : List Ty → List (List C)
  | [] => []
  | t :: l => tyC t :: tyR l
end
theorem tyC_eq (t : Ty) : tyC t = [.sc (.int .i64 t.kind), .sl (tyR t.kids)] := by cases t; rfl
@[go_sem] theorem tyC_length (t : Ty) : (tyC t).length = 2 := by rw [tyC_eq]; rfl
@[go_sem] theorem tyC_0 (t : Ty) : (tyC t)[0]? = some (.sc (.int .i64 t.kind)) := by rw [tyC_eq]; rfl
@[go_sem] theorem tyC_1 (t : Ty) : (tyC t)[1]? = some (.sl (tyR t.kids)) := by rw [tyC_eq]; rfl
@[go_sem] theorem tyC_take (t : Ty) : (tyC t).take 2 = tyC t := by rw [tyC_eq]; rfl
@[go_sem] theorem tyC_drop2 (t : Ty) : (tyC t).drop 2 = [] := by rw [tyC_eq]; rfl
@[go_sem] theorem tyC_tree (t : Ty) : (tyC t).all C.tree = true := by rw [tyC_eq]; rfl
@[go_sem] theorem tyC_treeL (t : Ty) : treeL (tyC t) = true := by rw [tyC_eq]; rfl
@[go_sem] theorem tyR_length (l : List Ty) : (tyR l).length = l.length := by
  induction l with
  | nil => rfl
  | cons t l ih => simp [tyR, ih]
theorem tyR_get (l : List Ty) (i : Nat) : (tyR l)[i]? = (l[i]?).map tyC := by
  induction l generalizing i with
  | nil => simp [tyR]
  | cons t l ih => cases i <;> simp [tyR, ih]
@[go_sem] theorem tyC_splice1 (t : Ty) (x : C) : splice (tyC t) 1 [x] = [.sc (.int .i64 t.kind), x] := by rw [tyC_eq]; rfl
@[go_sem] theorem tyC_splice0 (t : Ty) (x : C) : splice (tyC t) 0 [x] = [x, .sl (tyR t.kids)] := by rw [tyC_eq]; rfl
@[go_sem] theorem tyC_splice2 (t : Ty) (x y : C) : splice (tyC t) 0 [x, y] = [x, y] := by rw [tyC_eq]; rfl
/-- the k-th one of a list of types -/
def kid (l : List Ty) (k : Nat) : Ty := l.getD k (.mk 0 [])
theorem kid_eq {l : List Ty} {k : Nat} (h : k < l.length) : kid l k = l[k] := by simp [kid, h]
@[go_sem] theorem tyR_at (l : List Ty) (i : Nat) : (tyR l)[i]? = match decide ((i : Int) < (l.length : Int)) with | true => some (tyC (kid l i)) | false => none := by
  rw [tyR_get]
  by_cases h : i < l.length
  · have h' : (i : Int) < (l.length : Int) := by omega
    simp [h, h', kid]
  · have h' : ¬ (i : Int) < (l.length : Int) := by omega
    simp [h, h']
theorem kid_lt {t : Ty} {k : Nat} (h : k < t.kids.length) : (kid t.kids k).size < t.size := by
  rw [kid_eq h]
  have := Ty.sizes_mem (List.getElem_mem h)
  cases t; simp only [Ty.size, Ty.kids] at *; omega
theorem take_kid {l : List Ty} {k : Nat} (h : k < l.length) : l.take (k + 1) = l.take k ++ [kid l k] := by
  rw [kid_eq h, List.take_succ_eq_append_getElem h]
theorem drop_kid {l : List Ty} {k : Nat} (h : k < l.length) : l.drop k = kid l k :: l.drop (k + 1) := by
  rw [kid_eq h, List.drop_eq_getElem_cons h]
theorem tyR_take {l : List Ty} {k : Nat} (h : k < l.length) : tyR (l.take (k + 1)) = tyR (l.take k) ++ [tyC (kid l k)] := by
  rw [take_kid h]
  induction l.take k with
  | nil => rfl
  | cons x m ih => simp only [List.cons_append, tyR, ih]
@[go_sem] theorem tyR_tree (l : List Ty) : treeRows (tyR l) = true := by
  induction l with
  | nil => rfl
  | cons t l ih =>
    simp only [treeRows, tyR, List.all_cons, tyC_treeL, Bool.true_and]
    exact ih
@[go_sem] theorem tyR_len (l : List Ty) : rowsLen 2 (tyR l) = true := by
  induction l with
  | nil => rfl
  | cons t l ih =>
    simp only [rowsLen, tyR, List.all_cons, tyC_length, beq_self_eq_true, Bool.true_and]
    exact ih
theorem tyR_append (l m : List Ty) : tyR (l ++ m) = tyR l ++ tyR m := by
  induction l with
  | nil => rfl
  | cons t l ih => simp [tyR, ih]
attribute [go_sem] tyR
end Go.Proofs.Sh
