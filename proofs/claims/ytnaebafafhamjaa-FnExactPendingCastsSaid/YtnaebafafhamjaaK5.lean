/- Texts of the proof, one behind another. -/
import Derived.Test.YtnaebafafhamjaaProg
import Derived.Test.YtnaebafafhamjaaK1
import Derived.Test.YtnaebafafhamjaaK4
set_option linter.unusedSimpArgs false
set_option linter.unusedVariables false
/- Rules for walking functions on shadows. -/
namespace Go.Proofs.Sh
open Go.RowKit

section
variable {P : Program} {N : Nat} {R : ASt → Prop}

/-- a function that reads its arguments' trees and yields a value -/
structure AFn (P : Program) (f : FuncId) (args : List AV) (r : AV) : Prop where
  out : ACall P f args [] (fun r' H' => r' = r ∧ H' = [])
/-- a function that ends as K says -/
structure ACl (P : Program) (f : FuncId) (args : List AV) (H : List Blk) (K : AV → List Blk → Prop) : Prop where
  out : ACall P f args H K
/-- a run outside of regions that draw their order; within one; code ahead -/
structure WD (P : Program) (N : Nat) (R : ASt → Prop) (o : Out) : Prop where
  out : ADis P N R o
structure WM (P : Program) (N : Nat) (c : MC) (R : ASt → Prop) (k : List Item) (o : MOut) : Prop where
  out : MDis P N c (AGo P N R k) o
structure WT (P : Program) (N : Nat) (c : MC) (R : ASt → Prop) (k : List Item) (o : TOut) : Prop where
  out : TDis P N c (AGo P N R k) o
structure WG (P : Program) (N : Nat) (R : ASt → Prop) (k : List Item) (s : ASt) : Prop where
  out : AGo P N R k .normal s

theorem wg_run {s : ASt} {k : List Item} (h : WD P N R (arun P 4000 k s)) : WG P N R k s := ⟨arun_sound 4000 _ _ h.out⟩
@[go_sem] theorem wd_ret (s : ASt) : WD P N R (.ret s) = R s := propext ⟨fun h => h.out, fun h => ⟨h⟩⟩
@[go_sem] theorem wd_goal (I : ASt → Prop) (s : ASt) : WD P N R (.goal I s) = I s := propext ⟨fun h => h.out, fun h => ⟨h⟩⟩
theorem wd_split {n : Nat} (b : Bool) {x y : List Item} {s : ASt} (h1 : b = true → WD P N R (arun P n x s)) (h2 : b = false → WD P N R (arun P n y s)) : WD P N R (abr P n b x y s) := by
  cases b
  · rw [abr]; exact h2 rfl
  · rw [abr]; exact h1 rfl
theorem wd_want {n : Nat} (b : Bool) {o : Oper} {l all : List Oper} {k : List Item} {s : ASt} (h1 : b = true → WD P N R (awant P n (some true) o l all k s)) (h2 : b = false → WD P N R (awant P n (some false) o l all k s)) : WD P N R (awant P n (some b) o l all k s) := by
  cases b
  · exact h2 rfl
  · exact h1 rfl
theorem wd_nwant {n : Nat} (b : Bool) {o : Oper} {l all : List Oper} {k : List Item} {s : ASt} (h1 : b = true → WD P N R (awant P n (some false) o l all k s)) (h2 : b = false → WD P N R (awant P n (some true) o l all k s)) : WD P N R (awant P n (some !b) o l all k s) := by
  cases b
  · exact h2 rfl
  · exact h1 rfl
theorem wm_want {c : MC} {k : List Item} (b : Bool) {o : Oper} {l : List Oper} {U : List Nat} {ok : Bool} {s : ASt} (h1 : b = true → WM P N c R k (mwant P c (some true) o l U ok s)) (h2 : b = false → WM P N c R k (mwant P c (some false) o l U ok s)) : WM P N c R k (mwant P c (some b) o l U ok s) := by
  cases b
  · exact h2 rfl
  · exact h1 rfl
theorem wm_nwant {c : MC} {k : List Item} (b : Bool) {o : Oper} {l : List Oper} {U : List Nat} {ok : Bool} {s : ASt} (h1 : b = true → WM P N c R k (mwant P c (some false) o l U ok s)) (h2 : b = false → WM P N c R k (mwant P c (some true) o l U ok s)) : WM P N c R k (mwant P c (some !b) o l U ok s) := by
  cases b
  · exact h2 rfl
  · exact h1 rfl
theorem wt_want {c : MC} {k : List Item} (b : Bool) {o : Oper} {f : Bool} {l : MT} {U : List Nat × List Nat} {ok : Bool} {s : ASt} (h1 : b = true → WT P N c R k (twantT P c (some true) o f l U ok s)) (h2 : b = false → WT P N c R k (twantT P c (some false) o f l U ok s)) : WT P N c R k (twantT P c (some b) o f l U ok s) := by
  cases b
  · exact h2 rfl
  · exact h1 rfl
theorem wt_nwant {c : MC} {k : List Item} (b : Bool) {o : Oper} {f : Bool} {l : MT} {U : List Nat × List Nat} {ok : Bool} {s : ASt} (h1 : b = true → WT P N c R k (twantT P c (some false) o f l U ok s)) (h2 : b = false → WT P N c R k (twantT P c (some true) o f l U ok s)) : WT P N c R k (twantT P c (some !b) o f l U ok s) := by
  cases b
  · exact h2 rfl
  · exact h1 rfl
@[go_sem] theorem abr_not {n : Nat} (b : Bool) {x y : List Item} {s : ASt} : abr P n (!b) x y s = abr P n b y x s := by
  cases b <;> simp [abr]
theorem int_bne (x y : Int) : (x != y) = !(x == y) := rfl
@[go_sem] theorem isEmpty_nil {α : Type} : (#[] : Array α).isEmpty = true := rfl
@[go_sem] theorem wrap_in {n : Int} (h1 : -9223372036854775808 ≤ n) (h2 : n ≤ 9223372036854775807) : IntKind.i64.wrap n = n := IntWalk.i64_in _ (by omega)
attribute [go_sem] Int.cast_ofNat_Int cond_true cond_false beq_true beq_false Bool.not_not Int.natCast_zero List.toList_toArray

/-- A function's contract, from a run of its body; R: what is asked at the end. -/
theorem acl_in {f : FuncId} {fn : Func} {c : Code} {args : List AV} {H : List Blk} {K : AV → List Blk → Prop} (hf : P.funcs[f]? = some fn) (hb : fn.body = some c) (hfn : IsFn P f) (hn : args.length ≤ fn.ntmps)
    (h : ∀ R : ASt → Prop, (∀ s, ARet P fn.results.toList H.length K s → R s) → WG P H.length R [.code c] ⟨fn.ntmps, slots 0 args, H⟩) : ACl P f args H K :=
  ⟨acall_of hf hb hfn hn (h _ (fun _ h => h)).out⟩
theorem fn_in {f : FuncId} {args : List AV} {r : AV} (h : ACl P f args [] (fun r' H' => r' = r ∧ H' = [])) : AFn P f args r := ⟨h.out⟩
theorem AFn.cl {f : FuncId} {args : List AV} {r : AV} (h : AFn P f args r) : ACl P f args [] (fun r' H' => r' = r ∧ H' = []) := ⟨h.out⟩
theorem ACl.mono {f : FuncId} {args : List AV} {H : List Blk} {K K' : AV → List Blk → Prop} (h : ACl P f args H K) (hk : ∀ r H', K r H' → K' r H') : ACl P f args H K' := ⟨h.out.mono hk⟩

/-- a loop: the state at each round's head is (V x, H x), for an x of which I holds -/
theorem wd_for {σ : Type} {c : Code} {n0 : Nat} {t0 : List (Nat × AV)} {b0 : List Blk} {k : List Item} (l : List Nat) (V : σ → List AV) (H : σ → List Blk) (I : σ → Prop) (m : σ → Nat) (x0 : σ) (hI : I x0) (h0 : AHead N l (fun vs h => vs = V x0 ∧ h = H x0) ⟨n0, t0, b0⟩)
    (hr : ∀ x, I x → ∀ G : ASt → Prop, (∀ x' t h, I x' → m x' < m x → AHead N l (fun vs h => vs = V x' ∧ h = H x') ⟨n0, t, h⟩ → G ⟨n0, t, h⟩) → WG P N R (.code c :: .goal G :: k) ⟨n0, zipT l (V x), H x⟩) : WD P N R (.loop c k ⟨n0, t0, b0⟩) := by
  refine ⟨?_⟩
  show AGo P N R (.code (.loop c) :: k) .normal ⟨n0, t0, b0⟩
  intro X μ0 hh0 w0 μ a w hF hT
  refine wp_loop_rel (fun n a w => ∃ μ x, I x ∧ SimF X μ ⟨n0, zipT l (V x), H x⟩ a w ∧ StpN N μ0 hh0 w0 μ (H x) w ∧ m x = n) ?_ ?_
  · obtain ⟨μ', vs, K, ⟨rfl, rfl⟩, q2, q3⟩ := head_sound hF hT h0
    exact ⟨_, μ', x0, hI, q2, q3, rfl⟩
  · intro n a w ⟨μ, x, hI, hF, hT, hm⟩
    refine Code.wp_mono ?_ ((hr x hI (fun s' => s'.n = n0 ∧ ∃ x', I x' ∧ m x' < m x ∧ AHead N l (fun vs h => vs = V x' ∧ h = H x') s') (fun x' t h h2 h3 h4 => ⟨rfl, x', h2, h3, h4⟩)).out X μ0 hh0 w0 μ a w hF hT)
    intro e a' w' ⟨s', μ', q1, q2, q3⟩
    cases e with
    | normal =>
      obtain ⟨hn, x', hI', hlt, hh⟩ := q1
      obtain ⟨μ2, vs', K, ⟨rfl, rfl⟩, r2, r3⟩ := head_sound q2 q3 hh
      exact ⟨_, by rw [← hm]; exact hlt, μ2, x', hI', by rw [← hn]; exact r2, r3, rfl⟩
    | _ => exact ⟨s', μ', q1, q2, q3⟩

/-- a loop of few rounds, one after another -/
structure WL (P : Program) (N : Nat) (R : ASt → Prop) (c : Code) (k : List Item) (n : Nat) (s : ASt) : Prop where
  out : ALoop P N R c k n s
theorem wd_rounds (n : Nat) {c : Code} {k : List Item} {s : ASt} (h : WL P N R c k n s) : WD P N R (.loop c k s) := ⟨go_rounds n h.out⟩
theorem wl_next {n : Nat} {c : Code} {k : List Item} {s : ASt} (h : WG P N R (.code c :: .goal (WL P N R c k n) :: k) s) : WL P N R c k (n + 1) s := by
  refine ⟨?_⟩
  have e : (WL P N R c k n) = ALoop P N R c k n := by funext s'; exact propext ⟨fun h => h.out, fun h => ⟨h⟩⟩
  rw [e] at h
  exact h.out

theorem head_at {l : List Nat} {I : List AV → List Blk → Prop} {s : ASt} (ks : List Nat) {vs vs' : List AV} {K h1 : List Blk} (h : ASt.gets s.t l = some vs) (hp : prep false s.h (List.range N ++ ks) vs = some (vs', K, h1)) (hI : I vs' K) : AHead N l I s := by
  refine .inl ⟨ks, ?_⟩
  simp only [h, hp]
  exact hI
/-- .. all the own blocks are kept -/
theorem head_all {l : List Nat} {I : List AV → List Blk → Prop} {s : ASt} {vs : List AV} (h : ASt.gets s.t l = some vs) (hI : I vs s.h) : AHead N l I s := .inr ⟨vs, h, hI⟩
theorem ret_at {rs : List ResultVar} {K : AV → List Blk → Prop} {s : ASt} (ks : List Nat) {r r' : AV} {H h1 : List Blk} (h : aresult P s rs = some r) (hp : prep true s.h (List.range N ++ ks) [r] = some ([r'], H, h1)) (hK : K r' H) : ARet P rs N K s := by
  refine .inl ⟨ks, true, ?_⟩
  simp only [h, hp]
  exact hK
theorem ret_own {rs : List ResultVar} {K : AV → List Blk → Prop} {s : ASt} (ks : List Nat) {r r' : AV} {H h1 : List Blk} (h : aresult P s rs = some r) (hp : prep false s.h (List.range N ++ ks) [r] = some ([r'], H, h1)) (hK : K r' H) : ARet P rs N K s := by
  refine .inl ⟨ks, false, ?_⟩
  simp only [h, hp]
  exact hK
theorem ret_all {rs : List ResultVar} {K : AV → List Blk → Prop} {s : ASt} {r : AV} (h : aresult P s rs = some r) (hK : K r s.h) : ARet P rs N K s := .inr ⟨r, h, hK⟩
theorem calls_at {f : FuncId} {args : List AV} {h : List Blk} {K : AV → List Blk → Prop} (ks : List Nat) {args' : List AV} {H h1 : List Blk} {K' : AV → List Blk → Prop} (hp : prepC h ks args = some (args', H, h1)) (hc : ACall P f args' H K') (hK : ∀ r H', K' r H' → K (r.ren (back h1.length ks)) (merge h1 ks H')) : ∃ ks, ACalls P f args h ks K := ⟨ks, acalls_at ks hp hc hK⟩
theorem wrap_succ {k n : Nat} (h : k < n) (hn : n < 4611686018427387904) : IntKind.i64.wrap ((k : Int) + 1) = ((k + 1 : Nat) : Int) := by
  rw [IntWalk.i64_in _ (by omega)]; omega
/-- a call of a function that yields a value -/
theorem wd_fn {f : FuncId} {args : List AV} {h : List Blk} {d : Option Tmp} {k : List Item} {s : ASt} {args' : List AV} {h1 : List Blk} {r : AV} (hp : prep true h [] args = some (args', [], h1)) (hc : AFn P f args' r) (hK : WD P N R (arun P 4000 k (ASt.put ⟨s.n, s.t, merge h1 [] []⟩ d (r.ren (back h1.length []))))) : WD P N R (.call f args h d k s) :=
  ⟨calls_at [] (prepC_nil hp) hc.out (fun _ _ ⟨e1, e2⟩ => by subst e1 e2; exact arun_sound 4000 _ _ hK.out)⟩
theorem wm_fn {c : MC} {k : List Item} {f : FuncId} {args : List AV} {o : Oper} {l : List Oper} {U : List Nat} {ok : Bool} {s : ASt} {args' : List AV} {h1 : List Blk} {r : AV} (hp : prep true s.h [] args = some (args', [], h1)) (hc : AFn P f args' r) (hok : (ok || decide (l.length < c.f)) = true)
    (hmut : c.ms.all (fun b => match c.h0[b]? with | some k => k.st.isMut | none => false) = true)
    (hK : WM P N c R k (mrun P c l (addU o.dst U) ok (ASt.put ⟨s.n, s.t, merge h1 [] []⟩ o.dst (r.ren (back h1.length []))))) : WM P N c R k (.call f args o l U ok s) := by
  refine ⟨⟨[], by simpa using hok, ?_⟩⟩
  refine acalls_at [] (prepC_nil hp) hc.out ?_
  rintro _ _ ⟨rfl, rfl⟩
  simp only [List.all_nil, Bool.and_true]
  exact mrun_sound' hmut _ _ _ _ hK.out
/-- a call, in whatever way it ends -/
theorem wd_cl {f : FuncId} {args : List AV} {h : List Blk} {d : Option Tmp} {k : List Item} {s : ASt} (ks : List Nat) {args' : List AV} {H h1 : List Blk} {K' : AV → List Blk → Prop} (hp : prepC h ks args = some (args', H, h1)) (hc : ACl P f args' H K') (hK : ∀ r H', K' r H' → WD P N R (arun P 4000 k (ASt.put ⟨s.n, s.t, merge h1 ks H'⟩ d (r.ren (back h1.length ks))))) : WD P N R (.call f args h d k s) :=
  ⟨calls_at ks hp hc.out (fun r H' e => arun_sound 4000 _ _ (hK r H' e).out)⟩
theorem wm_cl {c : MC} {k : List Item} {f : FuncId} {args : List AV} {o : Oper} {l : List Oper} {U : List Nat} {ok : Bool} {s : ASt} (ks : List Nat) {args' : List AV} {H h1 : List Blk} {K' : AV → List Blk → Prop} (hp : prepC s.h ks args = some (args', H, h1)) (hc : ACl P f args' H K') (hok : ((ok && ks.all c.ms.contains) || decide (l.length < c.f)) = true)
    (hmut : c.ms.all (fun b => match c.h0[b]? with | some k => k.st.isMut | none => false) = true)
    (hK : ∀ r H', K' r H' → WM P N c R k (mrun P c l (addU o.dst U) (ok && ks.all c.ms.contains) (ASt.put ⟨s.n, s.t, merge h1 ks H'⟩ o.dst (r.ren (back h1.length ks))))) : WM P N c R k (.call f args o l U ok s) := by
  refine ⟨⟨ks, hok, ?_⟩⟩
  refine acalls_at ks hp hc.out ?_
  intro r H' e
  exact mrun_sound' hmut _ _ _ _ (hK r H' e).out
theorem wt_fn {c : MC} {k : List Item} {f : FuncId} {args : List AV} {o : Oper} {fin : Bool} {l : MT} {U : List Nat × List Nat} {ok : Bool} {s : ASt} {args' : List AV} {h1 : List Blk} {r : AV} (hp : prep true s.h [] args = some (args', [], h1)) (hc : AFn P f args' r) (hok : (ok || fin) = true)
    (hmut : c.ms.all (fun b => match c.h0[b]? with | some k => k.st.isMut | none => false) = true)
    (hK : WT P N c R k (trun P c l (addU o.dst U.1, U.2) ok (ASt.put ⟨s.n, s.t, merge h1 [] []⟩ o.dst (r.ren (back h1.length []))))) : WT P N c R k (.call f args o fin l U ok s) := by
  refine ⟨⟨[], by simpa using hok, ?_⟩⟩
  refine acalls_at [] (prepC_nil hp) hc.out ?_
  rintro _ _ ⟨rfl, rfl⟩
  simp only [List.all_nil, Bool.and_true]
  exact trun_sound' hmut _ _ _ _ hK.out
theorem wt_cl {c : MC} {k : List Item} {f : FuncId} {args : List AV} {o : Oper} {fin : Bool} {l : MT} {U : List Nat × List Nat} {ok : Bool} {s : ASt} (ks : List Nat) {args' : List AV} {H h1 : List Blk} {K' : AV → List Blk → Prop} (hp : prepC s.h ks args = some (args', H, h1)) (hc : ACl P f args' H K') (hok : ((ok && ks.all c.ms.contains) || fin) = true)
    (hmut : c.ms.all (fun b => match c.h0[b]? with | some k => k.st.isMut | none => false) = true)
    (hK : ∀ r H', K' r H' → WT P N c R k (trun P c l (addU o.dst U.1, U.2) (ok && ks.all c.ms.contains) (ASt.put ⟨s.n, s.t, merge h1 ks H'⟩ o.dst (r.ren (back h1.length ks))))) : WT P N c R k (.call f args o fin l U ok s) := by
  refine ⟨⟨ks, hok, ?_⟩⟩
  refine acalls_at ks hp hc.out ?_
  intro r H' e
  exact trun_sound' hmut _ _ _ _ (hK r H' e).out
/-- a call, by a law of its own of the caller's state -/
theorem wd_any {f : FuncId} {args : List AV} {h : List Blk} {d : Option Tmp} {k : List Item} {s : ASt} {ks : List Nat} {K' : AV → List Blk → Prop} (hc : ACalls P f args h ks K') (hK : ∀ r h', K' r h' → WD P N R (arun P 4000 k (ASt.put ⟨s.n, s.t, h'⟩ d r))) : WD P N R (.call f args h d k s) :=
  ⟨⟨ks, hc.mono fun r h' e => arun_sound 4000 _ _ (hK r h' e).out⟩⟩
theorem wm_any {c : MC} {k : List Item} {f : FuncId} {args : List AV} {o : Oper} {l : List Oper} {U : List Nat} {ok : Bool} {s : ASt} {ks : List Nat} {K' : AV → List Blk → Prop} (hc : ACalls P f args s.h ks K') (hok : ((ok && ks.all c.ms.contains) || decide (l.length < c.f)) = true)
    (hmut : c.ms.all (fun b => match c.h0[b]? with | some k => k.st.isMut | none => false) = true)
    (hK : ∀ r h', K' r h' → WM P N c R k (mrun P c l (addU o.dst U) (ok && ks.all c.ms.contains) (ASt.put ⟨s.n, s.t, h'⟩ o.dst r))) : WM P N c R k (.call f args o l U ok s) :=
  ⟨⟨ks, hok, hc.mono fun r h' e => mrun_sound' hmut _ _ _ _ (hK r h' e).out⟩⟩
theorem wt_any {c : MC} {k : List Item} {f : FuncId} {args : List AV} {o : Oper} {fin : Bool} {l : MT} {U : List Nat × List Nat} {ok : Bool} {s : ASt} {ks : List Nat} {K' : AV → List Blk → Prop} (hc : ACalls P f args s.h ks K') (hok : ((ok && ks.all c.ms.contains) || fin) = true)
    (hmut : c.ms.all (fun b => match c.h0[b]? with | some k => k.st.isMut | none => false) = true)
    (hK : ∀ r h', K' r h' → WT P N c R k (trun P c l (addU o.dst U.1, U.2) (ok && ks.all c.ms.contains) (ASt.put ⟨s.n, s.t, h'⟩ o.dst r))) : WT P N c R k (.call f args o fin l U ok s) :=
  ⟨⟨ks, hok, hc.mono fun r h' e => trun_sound' hmut _ _ _ _ (hK r h' e).out⟩⟩
theorem wt_fork {c : MC} {k : List Item} {i : Nat} {fin : Bool} {t u : MT} {U : List Nat × List Nat} {ok : Bool} {s : ASt} (hmut : c.ms.all (fun b => match c.h0[b]? with | some k => k.st.isMut | none => false) = true)
    (h1 : WT P N c R k (trun P c (.op i fin t) U ok s)) (h2 : WT P N c R k (trun P c u U ok s)) : WT P N c R k (.fork i fin t u U ok s) :=
  ⟨⟨trun_sound' hmut _ _ _ _ h1.out, trun_sound' hmut _ _ _ _ h2.out⟩⟩
theorem wd_tree {id : Nat} {l : List Oper} {k : List Item} {s : ASt} (T : MT) (ms : List Nat) (hm : P.follows .mixedOrders = true) (hB : treeOK loudOp readOp l.toArray T = true) (hmut : ms.all (fun b => match s.h[b]? with | some k => k.st.isMut | none => false) = true)
    (h : WT P N ⟨0, s.h, ms, l⟩ R k (trun P ⟨0, s.h, ms, l⟩ T ([], []) true s)) : WD P N R (.drawn id l k s) := ⟨go_tree T ms hm hB hmut h.out⟩
theorem wt_done {c : MC} {s : ASt} {k : List Item} (h : WD P N R (arun P 4000 k s)) : WT P N c R k (.done s) := ⟨arun_sound 4000 _ _ h.out⟩
/-- a region that draws its order; behind it -/
theorem wd_mix {id : Nat} {l : List Oper} {k : List Item} {s : ASt} (f : Nat) (ms : List Nat) (hm : P.follows .mixedOrders = true) (hB : mixOK loudOp readOp f l.toArray = true) (hmut : ms.all (fun b => match s.h[b]? with | some k => k.st.isMut | none => false) = true)
    (h : WM P N ⟨f, s.h, ms, l⟩ R k (mrun P ⟨f, s.h, ms, l⟩ l [] true s)) : WD P N R (.drawn id l k s) := ⟨go_mix f ms hm hB hmut h.out⟩
theorem wm_done {c : MC} {s : ASt} {k : List Item} (h : WD P N R (arun P 4000 k s)) : WM P N c R k (.done s) := ⟨arun_sound 4000 _ _ h.out⟩
end
end Go.Proofs.Sh
/- What a run on shadows asks of this program's types and functions. -/
namespace Go.Proofs.Ytnaebafafhamjaa
open Go.RowKit Go.Proofs.Sh
@[go_sem] theorem ti_3 : tinfo Try.prog 3 = some { size := 1, agg := false, bytes := 8, zero := [Value.int IntKind.i64 0], fields := [], elem := 0, kind := 5 } := by kernel_rfl
@[go_sem] theorem tk_3 : tk Try.prog 3 = 5 := by kernel_rfl
@[go_sem] theorem tint_3 : tint Try.prog 3 = some IntKind.i64 := by kernel_rfl
@[go_sem] theorem ti_4 : tinfo Try.prog 4 = some { size := 1, agg := false, bytes := 1, zero := [Value.bool false], fields := [], elem := 0, kind := 6 } := by kernel_rfl
@[go_sem] theorem tk_4 : tk Try.prog 4 = 6 := by kernel_rfl
@[go_sem] theorem tint_4 : tint Try.prog 4 = none := by kernel_rfl
@[go_sem] theorem ti_5 : tinfo Try.prog 5 = some { size := 1, agg := false, bytes := 1, zero := [Value.int IntKind.u8 0], fields := [], elem := 0, kind := 5 } := by kernel_rfl
@[go_sem] theorem tk_5 : tk Try.prog 5 = 5 := by kernel_rfl
@[go_sem] theorem tint_5 : tint Try.prog 5 = some IntKind.u8 := by kernel_rfl
@[go_sem] theorem ti_9 : tinfo Try.prog 9 = some { size := 1, agg := false, bytes := 16, zero := [Value.string { data := { toList := [] } }], fields := [], elem := 0, kind := 4 } := by kernel_rfl
@[go_sem] theorem tk_9 : tk Try.prog 9 = 4 := by kernel_rfl
@[go_sem] theorem tint_9 : tint Try.prog 9 = none := by kernel_rfl
@[go_sem] theorem ti_22 : tinfo Try.prog 22 = some { size := 1, agg := false, bytes := 24, zero := [Value.slice none 0 0], fields := [], elem := 5, kind := 3 } := by kernel_rfl
@[go_sem] theorem tk_22 : tk Try.prog 22 = 3 := by kernel_rfl
@[go_sem] theorem tint_22 : tint Try.prog 22 = none := by kernel_rfl
@[go_sem] theorem es_22 : aesz Try.prog 22 = 1 := by kernel_rfl
@[go_sem] theorem ti_23 : tinfo Try.prog 23 = some { size := 1, agg := false, bytes := 24, zero := [Value.slice none 0 0], fields := [], elem := 25, kind := 3 } := by kernel_rfl
@[go_sem] theorem tk_23 : tk Try.prog 23 = 3 := by kernel_rfl
@[go_sem] theorem tint_23 : tint Try.prog 23 = none := by kernel_rfl
@[go_sem] theorem es_23 : aesz Try.prog 23 = 2 := by kernel_rfl
@[go_sem] theorem ti_25 : tinfo Try.prog 25 = some { size := 2, agg := true, bytes := 32, zero := [Value.int IntKind.i64 0, Value.slice none 0 0], fields := [(0, 1, false), (1, 1, false)], elem := 0, kind := 1 } := by kernel_rfl
@[go_sem] theorem tk_25 : tk Try.prog 25 = 1 := by kernel_rfl
@[go_sem] theorem tint_25 : tint Try.prog 25 = none := by kernel_rfl
@[go_sem] theorem ar_25 : aarr Try.prog 25 = none := by kernel_rfl
@[go_sem] theorem ti_26 : tinfo Try.prog 26 = some { size := 1, agg := false, bytes := 24, zero := [Value.slice none 0 0], fields := [], elem := 28, kind := 3 } := by kernel_rfl
@[go_sem] theorem tk_26 : tk Try.prog 26 = 3 := by kernel_rfl
@[go_sem] theorem tint_26 : tint Try.prog 26 = none := by kernel_rfl
@[go_sem] theorem es_26 : aesz Try.prog 26 = 9 := by kernel_rfl
@[go_sem] theorem ti_28 : tinfo Try.prog 28 = some { size := 9, agg := true, bytes := 128, zero := [Value.int IntKind.i64 0, Value.string { data := { toList := [] } }, Value.int IntKind.i64 0, Value.int IntKind.i64 0, Value.slice none 0 0, Value.int IntKind.i64 0, Value.slice none 0 0, Value.int IntKind.i64 0, Value.slice none 0 0], fields := [(0, 1, false), (1, 1, false), (2, 1, false), (3, 2, true), (5, 2, true), (7, 1, false), (8, 1, false)], elem := 0, kind := 1 } := by kernel_rfl
@[go_sem] theorem tk_28 : tk Try.prog 28 = 1 := by kernel_rfl
@[go_sem] theorem tint_28 : tint Try.prog 28 = none := by kernel_rfl
@[go_sem] theorem ar_28 : aarr Try.prog 28 = none := by kernel_rfl
@[go_sem] theorem ti_33 : tinfo Try.prog 33 = some { size := 1, agg := false, bytes := 8, zero := [Value.nilFunc], fields := [], elem := 0, kind := 0 } := by kernel_rfl
@[go_sem] theorem tk_33 : tk Try.prog 33 = 0 := by kernel_rfl
@[go_sem] theorem tint_33 : tint Try.prog 33 = none := by kernel_rfl
@[go_sem] theorem ti_35 : tinfo Try.prog 35 = some { size := 1, agg := false, bytes := 24, zero := [Value.slice none 0 0], fields := [], elem := 37, kind := 3 } := by kernel_rfl
@[go_sem] theorem tk_35 : tk Try.prog 35 = 3 := by kernel_rfl
@[go_sem] theorem tint_35 : tint Try.prog 35 = none := by kernel_rfl
@[go_sem] theorem es_35 : aesz Try.prog 35 = 2 := by kernel_rfl
@[go_sem] theorem ti_37 : tinfo Try.prog 37 = some { size := 2, agg := true, bytes := 32, zero := [Value.int IntKind.i64 0, Value.slice none 0 0], fields := [(0, 1, false), (1, 1, false)], elem := 0, kind := 1 } := by kernel_rfl
@[go_sem] theorem tk_37 : tk Try.prog 37 = 1 := by kernel_rfl
@[go_sem] theorem tint_37 : tint Try.prog 37 = none := by kernel_rfl
@[go_sem] theorem ar_37 : aarr Try.prog 37 = none := by kernel_rfl
@[go_sem] theorem ti_38 : tinfo Try.prog 38 = some { size := 1, agg := false, bytes := 24, zero := [Value.slice none 0 0], fields := [], elem := 40, kind := 3 } := by kernel_rfl
@[go_sem] theorem tk_38 : tk Try.prog 38 = 3 := by kernel_rfl
@[go_sem] theorem tint_38 : tint Try.prog 38 = none := by kernel_rfl
@[go_sem] theorem es_38 : aesz Try.prog 38 = 9 := by kernel_rfl
@[go_sem] theorem ti_40 : tinfo Try.prog 40 = some { size := 9, agg := true, bytes := 128, zero := [Value.int IntKind.i64 0, Value.string { data := { toList := [] } }, Value.int IntKind.i64 0, Value.int IntKind.i64 0, Value.slice none 0 0, Value.int IntKind.i64 0, Value.slice none 0 0, Value.int IntKind.i64 0, Value.slice none 0 0], fields := [(0, 1, false), (1, 1, false), (2, 1, false), (3, 2, true), (5, 2, true), (7, 1, false), (8, 1, false)], elem := 0, kind := 1 } := by kernel_rfl
@[go_sem] theorem tk_40 : tk Try.prog 40 = 1 := by kernel_rfl
@[go_sem] theorem tint_40 : tint Try.prog 40 = none := by kernel_rfl
@[go_sem] theorem ar_40 : aarr Try.prog 40 = none := by kernel_rfl
@[go_sem] theorem ti_48 : tinfo Try.prog 48 = some { size := 1, agg := false, bytes := 8, zero := [Value.nilFunc], fields := [], elem := 0, kind := 0 } := by kernel_rfl
@[go_sem] theorem tk_48 : tk Try.prog 48 = 0 := by kernel_rfl
@[go_sem] theorem tint_48 : tint Try.prog 48 = none := by kernel_rfl
@[go_sem] theorem ti_52 : tinfo Try.prog 52 = some { size := 1, agg := false, bytes := 8, zero := [Value.pointer none], fields := [], elem := 0, kind := 0 } := by kernel_rfl
@[go_sem] theorem tk_52 : tk Try.prog 52 = 0 := by kernel_rfl
@[go_sem] theorem tint_52 : tint Try.prog 52 = none := by kernel_rfl
@[go_sem] theorem ti_58 : tinfo Try.prog 58 = some { size := 1, agg := false, bytes := 8, zero := [Value.nilFunc], fields := [], elem := 0, kind := 0 } := by kernel_rfl
@[go_sem] theorem tk_58 : tk Try.prog 58 = 0 := by kernel_rfl
@[go_sem] theorem tint_58 : tint Try.prog 58 = none := by kernel_rfl
@[go_sem] theorem ti_63 : tinfo Try.prog 63 = some { size := 1, agg := false, bytes := 8, zero := [Value.nilFunc], fields := [], elem := 0, kind := 0 } := by kernel_rfl
@[go_sem] theorem tk_63 : tk Try.prog 63 = 0 := by kernel_rfl
@[go_sem] theorem tint_63 : tint Try.prog 63 = none := by kernel_rfl
@[go_sem] theorem ti_74 : tinfo Try.prog 74 = some { size := 1, agg := false, bytes := 8, zero := [Value.nilFunc], fields := [], elem := 0, kind := 0 } := by kernel_rfl
@[go_sem] theorem tk_74 : tk Try.prog 74 = 0 := by kernel_rfl
@[go_sem] theorem tint_74 : tint Try.prog 74 = none := by kernel_rfl
@[go_sem] theorem ti_79 : tinfo Try.prog 79 = some { size := 1, agg := false, bytes := 8, zero := [Value.pointer none], fields := [], elem := 0, kind := 0 } := by kernel_rfl
@[go_sem] theorem tk_79 : tk Try.prog 79 = 0 := by kernel_rfl
@[go_sem] theorem tint_79 : tint Try.prog 79 = none := by kernel_rfl
@[go_sem] theorem ti_83 : tinfo Try.prog 83 = some { size := 2, agg := true, bytes := 32, zero := [Value.slice none 0 0, Value.int IntKind.i64 0], fields := [(0, 1, false), (1, 1, false)], elem := 0, kind := 1 } := by kernel_rfl
@[go_sem] theorem tk_83 : tk Try.prog 83 = 1 := by kernel_rfl
@[go_sem] theorem tint_83 : tint Try.prog 83 = none := by kernel_rfl
@[go_sem] theorem ar_83 : aarr Try.prog 83 = none := by kernel_rfl
@[go_sem] theorem ti_87 : tinfo Try.prog 87 = some { size := 1, agg := false, bytes := 24, zero := [Value.slice none 0 0], fields := [], elem := 3, kind := 3 } := by kernel_rfl
@[go_sem] theorem tk_87 : tk Try.prog 87 = 3 := by kernel_rfl
@[go_sem] theorem tint_87 : tint Try.prog 87 = none := by kernel_rfl
@[go_sem] theorem es_87 : aesz Try.prog 87 = 1 := by kernel_rfl
@[go_sem] theorem ti_91 : tinfo Try.prog 91 = some { size := 1, agg := false, bytes := 24, zero := [Value.slice none 0 0], fields := [], elem := 9, kind := 3 } := by kernel_rfl
@[go_sem] theorem tk_91 : tk Try.prog 91 = 3 := by kernel_rfl
@[go_sem] theorem tint_91 : tint Try.prog 91 = none := by kernel_rfl
@[go_sem] theorem es_91 : aesz Try.prog 91 = 1 := by kernel_rfl
@[go_sem] theorem ti_99 : tinfo Try.prog 99 = some { size := 1, agg := false, bytes := 8, zero := [Value.nilFunc], fields := [], elem := 0, kind := 0 } := by kernel_rfl
@[go_sem] theorem tk_99 : tk Try.prog 99 = 0 := by kernel_rfl
@[go_sem] theorem tint_99 : tint Try.prog 99 = none := by kernel_rfl
@[go_sem] theorem ti_113 : tinfo Try.prog 113 = some { size := 1, agg := false, bytes := 24, zero := [Value.slice none 0 0], fields := [], elem := 116, kind := 3 } := by kernel_rfl
@[go_sem] theorem tk_113 : tk Try.prog 113 = 3 := by kernel_rfl
@[go_sem] theorem tint_113 : tint Try.prog 113 = none := by kernel_rfl
@[go_sem] theorem es_113 : aesz Try.prog 113 = 3 := by kernel_rfl
@[go_sem] theorem ti_116 : tinfo Try.prog 116 = some { size := 3, agg := true, bytes := 48, zero := [Value.string { data := { toList := [] } }, Value.int IntKind.i64 0, Value.slice none 0 0], fields := [(0, 1, false), (1, 2, true)], elem := 0, kind := 1 } := by kernel_rfl
@[go_sem] theorem tk_116 : tk Try.prog 116 = 1 := by kernel_rfl
@[go_sem] theorem tint_116 : tint Try.prog 116 = none := by kernel_rfl
@[go_sem] theorem ar_116 : aarr Try.prog 116 = none := by kernel_rfl
theorem follows : Try.prog.follows .mixedOrders = true := by kernel_rfl
theorem isfn_2 : IsFn Try.prog 2 := by intro args w; kernel_rfl
theorem isfn_3 : IsFn Try.prog 3 := by intro args w; kernel_rfl
theorem isfn_4 : IsFn Try.prog 4 := by intro args w; kernel_rfl
theorem isfn_5 : IsFn Try.prog 5 := by intro args w; kernel_rfl
theorem isfn_6 : IsFn Try.prog 6 := by intro args w; kernel_rfl
theorem isfn_7 : IsFn Try.prog 7 := by intro args w; kernel_rfl
theorem isfn_8 : IsFn Try.prog 8 := by intro args w; kernel_rfl
theorem isfn_9 : IsFn Try.prog 9 := by intro args w; kernel_rfl
theorem isfn_10 : IsFn Try.prog 10 := by intro args w; kernel_rfl
theorem isfn_11 : IsFn Try.prog 11 := by intro args w; kernel_rfl
theorem isfn_12 : IsFn Try.prog 12 := by intro args w; kernel_rfl
theorem isfn_13 : IsFn Try.prog 13 := by intro args w; kernel_rfl
theorem isfn_14 : IsFn Try.prog 14 := by intro args w; kernel_rfl
theorem isfn_15 : IsFn Try.prog 15 := by intro args w; kernel_rfl
theorem isfn_16 : IsFn Try.prog 16 := by intro args w; kernel_rfl
theorem isfn_17 : IsFn Try.prog 17 := by intro args w; kernel_rfl
theorem isfn_18 : IsFn Try.prog 18 := by intro args w; kernel_rfl
theorem isfn_19 : IsFn Try.prog 19 := by intro args w; kernel_rfl
theorem isfn_20 : IsFn Try.prog 20 := by intro args w; kernel_rfl
theorem isfn_21 : IsFn Try.prog 21 := by intro args w; kernel_rfl
theorem isfn_22 : IsFn Try.prog 22 := by intro args w; kernel_rfl
theorem isfn_23 : IsFn Try.prog 23 := by intro args w; kernel_rfl
theorem isfn_24 : IsFn Try.prog 24 := by intro args w; kernel_rfl
theorem isfn_25 : IsFn Try.prog 25 := by intro args w; kernel_rfl
theorem isfn_26 : IsFn Try.prog 26 := by intro args w; kernel_rfl
theorem isfn_27 : IsFn Try.prog 27 := by intro args w; kernel_rfl
theorem isfn_28 : IsFn Try.prog 28 := by intro args w; kernel_rfl
theorem isfn_29 : IsFn Try.prog 29 := by intro args w; kernel_rfl
theorem isfn_30 : IsFn Try.prog 30 := by intro args w; kernel_rfl
theorem isfn_31 : IsFn Try.prog 31 := by intro args w; kernel_rfl
theorem isfn_32 : IsFn Try.prog 32 := by intro args w; kernel_rfl
theorem isfn_33 : IsFn Try.prog 33 := by intro args w; kernel_rfl
theorem isfn_34 : IsFn Try.prog 34 := by intro args w; kernel_rfl
theorem isfn_35 : IsFn Try.prog 35 := by intro args w; kernel_rfl
theorem isfn_36 : IsFn Try.prog 36 := by intro args w; kernel_rfl
theorem isfn_37 : IsFn Try.prog 37 := by intro args w; kernel_rfl
theorem isfn_38 : IsFn Try.prog 38 := by intro args w; kernel_rfl
theorem isfn_39 : IsFn Try.prog 39 := by intro args w; kernel_rfl
theorem isfn_40 : IsFn Try.prog 40 := by intro args w; kernel_rfl
theorem isfn_41 : IsFn Try.prog 41 := by intro args w; kernel_rfl
theorem isfn_42 : IsFn Try.prog 42 := by intro args w; kernel_rfl
theorem isfn_43 : IsFn Try.prog 43 := by intro args w; kernel_rfl
theorem isfn_44 : IsFn Try.prog 44 := by intro args w; kernel_rfl
theorem isfn_45 : IsFn Try.prog 45 := by intro args w; kernel_rfl
theorem isfn_46 : IsFn Try.prog 46 := by intro args w; kernel_rfl
theorem isfn_47 : IsFn Try.prog 47 := by intro args w; kernel_rfl
theorem isfn_48 : IsFn Try.prog 48 := by intro args w; kernel_rfl
theorem isfn_49 : IsFn Try.prog 49 := by intro args w; kernel_rfl
theorem isfn_50 : IsFn Try.prog 50 := by intro args w; kernel_rfl
theorem isfn_51 : IsFn Try.prog 51 := by intro args w; kernel_rfl
theorem isfn_52 : IsFn Try.prog 52 := by intro args w; kernel_rfl
theorem isfn_53 : IsFn Try.prog 53 := by intro args w; kernel_rfl
theorem isfn_54 : IsFn Try.prog 54 := by intro args w; kernel_rfl
theorem isfn_55 : IsFn Try.prog 55 := by intro args w; kernel_rfl
theorem isfn_56 : IsFn Try.prog 56 := by intro args w; kernel_rfl
theorem isfn_57 : IsFn Try.prog 57 := by intro args w; kernel_rfl
theorem isfn_58 : IsFn Try.prog 58 := by intro args w; kernel_rfl
theorem isfn_59 : IsFn Try.prog 59 := by intro args w; kernel_rfl
theorem isfn_60 : IsFn Try.prog 60 := by intro args w; kernel_rfl
theorem isfn_61 : IsFn Try.prog 61 := by intro args w; kernel_rfl
theorem isfn_62 : IsFn Try.prog 62 := by intro args w; kernel_rfl
theorem isfn_63 : IsFn Try.prog 63 := by intro args w; kernel_rfl
theorem isfn_64 : IsFn Try.prog 64 := by intro args w; kernel_rfl
theorem isfn_65 : IsFn Try.prog 65 := by intro args w; kernel_rfl
theorem isfn_66 : IsFn Try.prog 66 := by intro args w; kernel_rfl
theorem isfn_67 : IsFn Try.prog 67 := by intro args w; kernel_rfl
theorem isfn_68 : IsFn Try.prog 68 := by intro args w; kernel_rfl
theorem isfn_69 : IsFn Try.prog 69 := by intro args w; kernel_rfl
theorem isfn_70 : IsFn Try.prog 70 := by intro args w; kernel_rfl
theorem isfn_71 : IsFn Try.prog 71 := by intro args w; kernel_rfl
theorem isfn_72 : IsFn Try.prog 72 := by intro args w; kernel_rfl
theorem isfn_73 : IsFn Try.prog 73 := by intro args w; kernel_rfl
theorem isfn_74 : IsFn Try.prog 74 := by intro args w; kernel_rfl
theorem isfn_75 : IsFn Try.prog 75 := by intro args w; kernel_rfl
theorem isfn_76 : IsFn Try.prog 76 := by intro args w; kernel_rfl
theorem isfn_77 : IsFn Try.prog 77 := by intro args w; kernel_rfl
theorem isfn_78 : IsFn Try.prog 78 := by intro args w; kernel_rfl
theorem isfn_79 : IsFn Try.prog 79 := by intro args w; kernel_rfl
theorem isfn_80 : IsFn Try.prog 80 := by intro args w; kernel_rfl
theorem isfn_81 : IsFn Try.prog 81 := by intro args w; kernel_rfl
theorem isfn_82 : IsFn Try.prog 82 := by intro args w; kernel_rfl
theorem isfn_83 : IsFn Try.prog 83 := by intro args w; kernel_rfl
theorem isfn_84 : IsFn Try.prog 84 := by intro args w; kernel_rfl
theorem isfn_85 : IsFn Try.prog 85 := by intro args w; kernel_rfl
theorem isfn_86 : IsFn Try.prog 86 := by intro args w; kernel_rfl
theorem isfn_87 : IsFn Try.prog 87 := by intro args w; kernel_rfl
theorem isfn_88 : IsFn Try.prog 88 := by intro args w; kernel_rfl
theorem isfn_89 : IsFn Try.prog 89 := by intro args w; kernel_rfl
theorem isfn_90 : IsFn Try.prog 90 := by intro args w; kernel_rfl
theorem isfn_91 : IsFn Try.prog 91 := by intro args w; kernel_rfl
theorem isfn_92 : IsFn Try.prog 92 := by intro args w; kernel_rfl
theorem isfn_93 : IsFn Try.prog 93 := by intro args w; kernel_rfl
theorem isfn_94 : IsFn Try.prog 94 := by intro args w; kernel_rfl
theorem isfn_95 : IsFn Try.prog 95 := by intro args w; kernel_rfl
theorem isfn_96 : IsFn Try.prog 96 := by intro args w; kernel_rfl
theorem isfn_97 : IsFn Try.prog 97 := by intro args w; kernel_rfl
theorem isfn_98 : IsFn Try.prog 98 := by intro args w; kernel_rfl
theorem isfn_99 : IsFn Try.prog 99 := by intro args w; kernel_rfl
theorem isfn_100 : IsFn Try.prog 100 := by intro args w; kernel_rfl
theorem isfn_101 : IsFn Try.prog 101 := by intro args w; kernel_rfl
theorem isfn_102 : IsFn Try.prog 102 := by intro args w; kernel_rfl
theorem isfn_103 : IsFn Try.prog 103 := by intro args w; kernel_rfl
theorem isfn_104 : IsFn Try.prog 104 := by intro args w; kernel_rfl
theorem isfn_105 : IsFn Try.prog 105 := by intro args w; kernel_rfl
theorem isfn_106 : IsFn Try.prog 106 := by intro args w; kernel_rfl
theorem isfn_107 : IsFn Try.prog 107 := by intro args w; kernel_rfl
theorem isfn_108 : IsFn Try.prog 108 := by intro args w; kernel_rfl
theorem isfn_109 : IsFn Try.prog 109 := by intro args w; kernel_rfl
theorem isfn_110 : IsFn Try.prog 110 := by intro args w; kernel_rfl
theorem isfn_111 : IsFn Try.prog 111 := by intro args w; kernel_rfl
theorem isfn_112 : IsFn Try.prog 112 := by intro args w; kernel_rfl
theorem isfn_113 : IsFn Try.prog 113 := by intro args w; kernel_rfl
theorem isfn_114 : IsFn Try.prog 114 := by intro args w; kernel_rfl
theorem isfn_115 : IsFn Try.prog 115 := by intro args w; kernel_rfl
theorem isfn_116 : IsFn Try.prog 116 := by intro args w; kernel_rfl
theorem isfn_117 : IsFn Try.prog 117 := by intro args w; kernel_rfl
theorem isfn_118 : IsFn Try.prog 118 := by intro args w; kernel_rfl
theorem isfn_119 : IsFn Try.prog 119 := by intro args w; kernel_rfl
theorem isfn_120 : IsFn Try.prog 120 := by intro args w; kernel_rfl
theorem isfn_121 : IsFn Try.prog 121 := by intro args w; kernel_rfl
theorem isfn_122 : IsFn Try.prog 122 := by intro args w; kernel_rfl
theorem isfn_123 : IsFn Try.prog 123 := by intro args w; kernel_rfl
theorem isfn_124 : IsFn Try.prog 124 := by intro args w; kernel_rfl
theorem isfn_125 : IsFn Try.prog 125 := by intro args w; kernel_rfl
theorem isfn_126 : IsFn Try.prog 126 := by intro args w; kernel_rfl
theorem isfn_127 : IsFn Try.prog 127 := by intro args w; kernel_rfl
theorem isfn_128 : IsFn Try.prog 128 := by intro args w; kernel_rfl
theorem isfn_129 : IsFn Try.prog 129 := by intro args w; kernel_rfl
theorem isfn_130 : IsFn Try.prog 130 := by intro args w; kernel_rfl
theorem isfn_131 : IsFn Try.prog 131 := by intro args w; kernel_rfl
theorem isfn_132 : IsFn Try.prog 132 := by intro args w; kernel_rfl
theorem isfn_133 : IsFn Try.prog 133 := by intro args w; kernel_rfl
theorem isfn_134 : IsFn Try.prog 134 := by intro args w; kernel_rfl
theorem isfn_135 : IsFn Try.prog 135 := by intro args w; kernel_rfl
theorem isfn_136 : IsFn Try.prog 136 := by intro args w; kernel_rfl
theorem isfn_137 : IsFn Try.prog 137 := by intro args w; kernel_rfl
theorem isfn_138 : IsFn Try.prog 138 := by intro args w; kernel_rfl
theorem isfn_139 : IsFn Try.prog 139 := by intro args w; kernel_rfl
theorem isfn_140 : IsFn Try.prog 140 := by intro args w; kernel_rfl
theorem isfn_141 : IsFn Try.prog 141 := by intro args w; kernel_rfl
theorem isfn_142 : IsFn Try.prog 142 := by intro args w; kernel_rfl
theorem isfn_143 : IsFn Try.prog 143 := by intro args w; kernel_rfl
theorem isfn_144 : IsFn Try.prog 144 := by intro args w; kernel_rfl
theorem isfn_145 : IsFn Try.prog 145 := by intro args w; kernel_rfl
theorem isfn_146 : IsFn Try.prog 146 := by intro args w; kernel_rfl
theorem isfn_147 : IsFn Try.prog 147 := by intro args w; kernel_rfl
theorem isfn_148 : IsFn Try.prog 148 := by intro args w; kernel_rfl
theorem isfn_149 : IsFn Try.prog 149 := by intro args w; kernel_rfl
theorem isfn_150 : IsFn Try.prog 150 := by intro args w; kernel_rfl
theorem isfn_151 : IsFn Try.prog 151 := by intro args w; kernel_rfl
theorem isfn_152 : IsFn Try.prog 152 := by intro args w; kernel_rfl
theorem isfn_153 : IsFn Try.prog 153 := by intro args w; kernel_rfl
theorem isfn_154 : IsFn Try.prog 154 := by intro args w; kernel_rfl
theorem isfn_155 : IsFn Try.prog 155 := by intro args w; kernel_rfl
theorem isfn_156 : IsFn Try.prog 156 := by intro args w; kernel_rfl
theorem isfn_157 : IsFn Try.prog 157 := by intro args w; kernel_rfl
theorem isfn_158 : IsFn Try.prog 158 := by intro args w; kernel_rfl
theorem isfn_159 : IsFn Try.prog 159 := by intro args w; kernel_rfl
theorem isfn_160 : IsFn Try.prog 160 := by intro args w; kernel_rfl
theorem isfn_161 : IsFn Try.prog 161 := by intro args w; kernel_rfl
theorem isfn_162 : IsFn Try.prog 162 := by intro args w; kernel_rfl
theorem isfn_163 : IsFn Try.prog 163 := by intro args w; kernel_rfl
theorem isfn_164 : IsFn Try.prog 164 := by intro args w; kernel_rfl
theorem isfn_165 : IsFn Try.prog 165 := by intro args w; kernel_rfl
theorem isfn_166 : IsFn Try.prog 166 := by intro args w; kernel_rfl
theorem isfn_167 : IsFn Try.prog 167 := by intro args w; kernel_rfl
theorem isfn_168 : IsFn Try.prog 168 := by intro args w; kernel_rfl
theorem isfn_169 : IsFn Try.prog 169 := by intro args w; kernel_rfl
theorem isfn_170 : IsFn Try.prog 170 := by intro args w; kernel_rfl
theorem isfn_171 : IsFn Try.prog 171 := by intro args w; kernel_rfl
theorem isfn_172 : IsFn Try.prog 172 := by intro args w; kernel_rfl
theorem isfn_173 : IsFn Try.prog 173 := by intro args w; kernel_rfl
theorem isfn_174 : IsFn Try.prog 174 := by intro args w; kernel_rfl
theorem isfn_175 : IsFn Try.prog 175 := by intro args w; kernel_rfl
theorem isfn_176 : IsFn Try.prog 176 := by intro args w; kernel_rfl
theorem isfn_177 : IsFn Try.prog 177 := by intro args w; kernel_rfl
theorem isfn_178 : IsFn Try.prog 178 := by intro args w; kernel_rfl
theorem isfn_179 : IsFn Try.prog 179 := by intro args w; kernel_rfl
theorem isfn_180 : IsFn Try.prog 180 := by intro args w; kernel_rfl
theorem isfn_181 : IsFn Try.prog 181 := by intro args w; kernel_rfl
theorem isfn_182 : IsFn Try.prog 182 := by intro args w; kernel_rfl
theorem isfn_183 : IsFn Try.prog 183 := by intro args w; kernel_rfl
theorem isfn_184 : IsFn Try.prog 184 := by intro args w; kernel_rfl
theorem isfn_185 : IsFn Try.prog 185 := by intro args w; kernel_rfl
end Go.Proofs.Ytnaebafafhamjaa
/- Terms: equality and search of lists, on shadows. -/
namespace Go.Proofs.Sh
open Go.Proofs.Grad
def teall2 (f : Tm → Tm → Bool) : List Tm → List Tm → Bool
  | [], [] => true
  | a :: l, b :: m => f a b && teall2 f l m
  | _, _ => false
theorem teall2_kid {f : Tm → Tm → Bool} {a b : List Tm} {i : Nat} (ha : i < a.length) (hb : i < b.length) : teall2 f (a.drop i) (b.drop i) = (f (teKid a i) (teKid b i) && teall2 f (a.drop (i + 1)) (b.drop (i + 1))) := by
  rw [tedrop_kid ha, tedrop_kid hb]; rfl
theorem teall2_end {f : Tm → Tm → Bool} {a b : List Tm} {i : Nat} (ha : ¬ i < a.length) (hb : a.length = b.length) : teall2 f (a.drop i) (b.drop i) = true := by
  rw [List.drop_eq_nil_of_le (by omega), List.drop_eq_nil_of_le (by omega)]; rfl
theorem teall2_len {f : Tm → Tm → Bool} : ∀ {a b : List Tm}, a.length ≠ b.length → teall2 f a b = false
  | [], [], h => by simp at h
  | [], _ :: _, _ => rfl
  | _ :: _, [], _ => rfl
  | _ :: a, _ :: b, h => by simp only [teall2]; rw [teall2_len (by simpa using h)]; simp
theorem tesames_all2 : ∀ a b : List Tm, Tm.sames a b = teall2 Tm.same a b
  | [], [] => rfl
  | [], _ :: _ => rfl
  | _ :: _, [] => rfl
  | _ :: a, _ :: b => by simp only [Tm.sames, teall2, tesames_all2 a b]
/-- the index of the first one, -1 for none -/
def teidx (p : Tm → Bool) : Nat → List Tm → Int
  | _, [] => -1
  | k, t :: l => if p t then (k : Nat) else teidx p (k + 1) l
theorem teidx_any (p : Tm → Bool) : ∀ (l : List Tm) (k : Nat), decide (0 ≤ teidx p k l) = l.any p
  | [], k => by simp [teidx]
  | t :: l, k => by
    simp only [teidx, List.any_cons]
    split
    · rename_i h; simp [h]
    · rename_i h; rw [teidx_any p l (k + 1)]; simp [h]
end Go.Proofs.Sh
namespace Go.Proofs.Ytnaebafafhamjaa
open Go.RowKit Go.Proofs.Sh Go.Proofs.Grad
set_option maxRecDepth 100000
set_option maxHeartbeats 4000000
theorem teEqFunc (g : FuncId) (Q : Tm → Tm → Bool) (l m : List Tm) (hl : l.length < 4611686018427387904)
    (hg : ∀ k, k < l.length → k < m.length → AFn Try.prog g [.agg (teC (teKid l k)), .agg (teC (teKid m k))] (.one (.sc (.bool (Q (teKid l k) (teKid m k)))))) :
    AFn Try.prog 48 [.one (.sl (teR l)), .one (.sl (teR m)), .one (.fn g [])] (.one (.sc (.bool (teall2 Q l m)))) := by
  refine fn_in ?_; refine acl_in Try.func48 rfl isfn_48 (Nat.le_of_ble_eq_true rfl) (fun R hR => ?_); rw [Try.results48] at hR; refine wg_run ?_; (simp only [Try.f48, go_sem])
  repeat' (first | ((first | refine wd_split _ (fun hb => ?_) (fun hb => ?_) | refine wd_nwant _ (fun hb => ?_) (fun hb => ?_) | refine wm_nwant _ (fun hb => ?_) (fun hb => ?_) | refine wd_want _ (fun hb => ?_) (fun hb => ?_) | refine wm_want _ (fun hb => ?_) (fun hb => ?_) | refine wt_nwant _ (fun hb => ?_) (fun hb => ?_) | refine wt_want _ (fun hb => ?_) (fun hb => ?_)) <;> (simp only [go_sem, hb])) | (refine wm_done ?_; (simp only [go_sem])) | (refine wt_done ?_; (simp only [go_sem])) | (refine wg_run ?_; (simp only [go_sem])) | (refine wt_fork (by (simp only [go_sem]); first | done | rfl) ?_ ?_ <;> (simp only [go_sem])))
  · (refine hR _ (ret_at [] (by (simp only [go_sem]); first | done | rfl) (by (simp only [go_sem]); first | done | rfl) ⟨?_, rfl⟩))
    rw [teall2_len]
    intro h; simp [h] at hb
  · have hlm : l.length = m.length := by simp at hb; omega
    clear hb
    refine wd_for [0, 1, 2, 15, 16, 17] (fun k => [.one (.sl (teR l)), .one (.sl (teR m)), .one (.fn g []), .one (.sl (teR l)), .one (.sc (.int .i64 l.length)), .one (.sc (.int .i64 (k : Nat)))]) (fun k => [])
      (fun k => k ≤ l.length ∧ teall2 Q (l.drop k) (m.drop k) = teall2 Q l m) (fun k => l.length - k) 0 ⟨Nat.zero_le _, rfl⟩ (head_at [] (by (simp only [go_sem]); first | done | rfl) (by (simp only [go_sem]); first | done | rfl) ⟨rfl, rfl⟩) ?_
    rintro k ⟨hk, hs⟩ G hG
    refine wg_run ?_
    (simp only [go_sem])
    (first | refine wd_split _ (fun hb => ?_) (fun hb => ?_) | refine wd_nwant _ (fun hb => ?_) (fun hb => ?_) | refine wm_nwant _ (fun hb => ?_) (fun hb => ?_) | refine wd_want _ (fun hb => ?_) (fun hb => ?_) | refine wm_want _ (fun hb => ?_) (fun hb => ?_) | refine wt_nwant _ (fun hb => ?_) (fun hb => ?_) | refine wt_want _ (fun hb => ?_) (fun hb => ?_)) <;> (simp only [go_sem, hb])
    · have hk1 : k < l.length := by have := of_decide_eq_true hb; omega
      have hk2 : decide ((k : Int) < (m.length : Int)) = true := by simp; omega
      rw [teall2_kid hk1 (by omega)] at hs
      have hw1 := wrap_succ hk1 (by omega)
      (simp only [go_sem, hk2])
      (first | refine wd_fn (by (simp only [go_sem]); first | done | rfl) (hg k hk1 (by omega)) ?_ | refine wm_fn (by (simp only [go_sem]); first | done | rfl) (hg k hk1 (by omega)) (by (simp only [go_sem]); first | done | rfl) (by (simp only [go_sem]); first | done | rfl) ?_ | refine wt_fn (by (simp only [go_sem]); first | done | rfl) (hg k hk1 (by omega)) (by (simp only [go_sem]); first | done | rfl) (by (simp only [go_sem]); first | done | rfl) ?_); (simp only [go_sem])
      repeat' (first | (simp only [go_sem, hw1]) | ((first | refine wd_split _ (fun hb => ?_) (fun hb => ?_) | refine wd_nwant _ (fun hb => ?_) (fun hb => ?_) | refine wm_nwant _ (fun hb => ?_) (fun hb => ?_) | refine wd_want _ (fun hb => ?_) (fun hb => ?_) | refine wm_want _ (fun hb => ?_) (fun hb => ?_) | refine wt_nwant _ (fun hb => ?_) (fun hb => ?_) | refine wt_want _ (fun hb => ?_) (fun hb => ?_)) <;> (simp only [go_sem, hb, hw1])) | (refine wm_done ?_; (simp only [go_sem, hw1])) | (refine wt_done ?_; (simp only [go_sem, hw1])) | (refine wg_run ?_; (simp only [go_sem, hw1])) | (refine wt_fork (by (simp only [go_sem]); first | done | rfl) ?_ ?_ <;> (simp only [go_sem, hw1])))
      · exact hG (k + 1) _ _ ⟨by omega, by simpa [hb] using hs⟩ (by omega) (head_at [] (by (simp only [go_sem]); first | done | rfl) (by (simp only [go_sem]); first | done | rfl) ⟨rfl, rfl⟩)
      · (refine hR _ (ret_at [] (by (simp only [go_sem]); first | done | rfl) (by (simp only [go_sem]); first | done | rfl) ⟨?_, rfl⟩))
        simpa [hb] using hs
    · have hk1 : ¬ k < l.length := by have := of_decide_eq_false hb; omega
      rw [teall2_end hk1 hlm] at hs
      (refine hR _ (ret_at [] (by (simp only [go_sem]); first | done | rfl) (by (simp only [go_sem]); first | done | rfl) ⟨?_, rfl⟩))
      simpa using hs
theorem teIndexFunc0 (g : FuncId) (p : Tm → Bool) (l : List Tm) (hl : l.length < 4611686018427387904)
    (hg : ∀ k, k < l.length → ACl Try.prog g [.agg (teC (teKid l k))] [] (fun r H' => r = .one (.sc (.bool (p (teKid l k)))) ∧ H' = [])) :
    ACl Try.prog 158 [.one (.sl (teR l)), .one (.fn g [])] [] (fun r H' => r = .one (.sc (.int .i64 (teidx p 0 l))) ∧ H' = []) := by
  refine acl_in Try.func158 rfl isfn_158 (Nat.le_of_ble_eq_true rfl) (fun R hR => ?_); rw [Try.results158] at hR; refine wg_run ?_; (simp only [Try.f158, go_sem])
  refine wd_for [0, 1, 7, 8] (fun k => [.one (.sl (teR l)), .one (.fn g []), .one (.sc (.int .i64 l.length)), .one (.sc (.int .i64 (k : Nat)))]) (fun k => [])
      (fun k => k ≤ l.length ∧ teidx p k (l.drop k) = teidx p 0 l) (fun k => l.length - k) 0 ⟨Nat.zero_le _, rfl⟩ (head_at [] (by (simp only [go_sem]); first | done | rfl) (by (simp only [go_sem]); first | done | rfl) ⟨rfl, rfl⟩) ?_
  rintro k ⟨hk, hs⟩ G hG
  refine wg_run ?_
  (simp only [go_sem])
  (first | refine wd_split _ (fun hb => ?_) (fun hb => ?_) | refine wd_nwant _ (fun hb => ?_) (fun hb => ?_) | refine wm_nwant _ (fun hb => ?_) (fun hb => ?_) | refine wd_want _ (fun hb => ?_) (fun hb => ?_) | refine wm_want _ (fun hb => ?_) (fun hb => ?_) | refine wt_nwant _ (fun hb => ?_) (fun hb => ?_) | refine wt_want _ (fun hb => ?_) (fun hb => ?_)) <;> (simp only [go_sem, hb])
  · have hk1 : k < l.length := by have := of_decide_eq_true hb; omega
    rw [tedrop_kid hk1, teidx] at hs
    have hw1 := wrap_succ hk1 (by omega)
    (first | refine wd_cl [] (by (simp only [go_sem]); first | done | rfl) (hg k hk1) ?_ | refine wm_cl [] (by (simp only [go_sem]); first | done | rfl) (hg k hk1) (by (simp only [go_sem]); first | done | rfl) (by (simp only [go_sem]); first | done | rfl) ?_ | refine wt_cl [] (by (simp only [go_sem]); first | done | rfl) (hg k hk1) (by (simp only [go_sem]); first | done | rfl) (by (simp only [go_sem]); first | done | rfl) ?_); rintro _ _ ⟨rfl, rfl⟩; (simp only [go_sem])
    repeat' (first | (simp only [go_sem, hw1]) | ((first | refine wd_split _ (fun hb => ?_) (fun hb => ?_) | refine wd_nwant _ (fun hb => ?_) (fun hb => ?_) | refine wm_nwant _ (fun hb => ?_) (fun hb => ?_) | refine wd_want _ (fun hb => ?_) (fun hb => ?_) | refine wm_want _ (fun hb => ?_) (fun hb => ?_) | refine wt_nwant _ (fun hb => ?_) (fun hb => ?_) | refine wt_want _ (fun hb => ?_) (fun hb => ?_)) <;> (simp only [go_sem, hb, hw1])) | (refine wm_done ?_; (simp only [go_sem, hw1])) | (refine wt_done ?_; (simp only [go_sem, hw1])) | (refine wg_run ?_; (simp only [go_sem, hw1])) | (refine wt_fork (by (simp only [go_sem]); first | done | rfl) ?_ ?_ <;> (simp only [go_sem, hw1])))
    · (refine hR _ (ret_at [] (by (simp only [go_sem]); first | done | rfl) (by (simp only [go_sem]); first | done | rfl) ⟨?_, ?_⟩))
      · simpa [hb] using hs
      · rfl
    · exact hG (k + 1) _ _ ⟨by omega, by simpa [hb] using hs⟩ (by omega) (head_at [] (by (simp only [go_sem]); first | done | rfl) (by (simp only [go_sem]); first | done | rfl) ⟨rfl, rfl⟩)
  · have hk1 : ¬ k < l.length := by have := of_decide_eq_false hb; omega
    rw [List.drop_eq_nil_of_le (by omega), teidx] at hs
    (refine hR _ (ret_at [] (by (simp only [go_sem]); first | done | rfl) (by (simp only [go_sem]); first | done | rfl) ⟨?_, ?_⟩))
    · rw [← hs]
    · rfl
theorem teContainsFunc0 (g : FuncId) (p : Tm → Bool) (l : List Tm) (hl : l.length < 4611686018427387904)
    (hg : ∀ k, k < l.length → ACl Try.prog g [.agg (teC (teKid l k))] [] (fun r H' => r = .one (.sc (.bool (p (teKid l k)))) ∧ H' = [])) :
    ACl Try.prog 118 [.one (.sl (teR l)), .one (.fn g [])] [] (fun r H' => r = .one (.sc (.bool (l.any p))) ∧ H' = []) := by
  have hi := teIndexFunc0 g p l hl hg
  refine acl_in Try.func118 rfl isfn_118 (Nat.le_of_ble_eq_true rfl) (fun R hR => ?_); rw [Try.results118] at hR; refine wg_run ?_; (simp only [Try.f118, go_sem])
  (first | refine wd_cl [] (by (simp only [go_sem]); first | done | rfl) (hi) ?_ | refine wm_cl [] (by (simp only [go_sem]); first | done | rfl) (hi) (by (simp only [go_sem]); first | done | rfl) (by (simp only [go_sem]); first | done | rfl) ?_ | refine wt_cl [] (by (simp only [go_sem]); first | done | rfl) (hi) (by (simp only [go_sem]); first | done | rfl) (by (simp only [go_sem]); first | done | rfl) ?_); rintro _ _ ⟨rfl, rfl⟩; (simp only [go_sem])
  (refine hR _ (ret_at [] (by (simp only [go_sem]); first | done | rfl) (by (simp only [go_sem]); first | done | rfl) ⟨?_, ?_⟩))
  · rw [← teidx_any p l 0]
  · rfl
theorem teIndexFunc1 (g : FuncId) (d : Int) (p : Tm → Bool) (l : List Tm) (hl : l.length < 4611686018427387904)
    (hg : ∀ k, k < l.length → ACl Try.prog g [.agg (teC (teKid l k)), .one (.ptr 1 0 0 0)] [⟨1, 3, .mut, [[.sc (.int .i64 d)]]⟩] (fun r H' => r = .one (.sc (.bool (p (teKid l k)))) ∧ H' = [⟨1, 3, .mut, [[.sc (.int .i64 d)]]⟩])) :
    ACl Try.prog 158 [.one (.sl (teR l)), .one (.fn g [.ptr 1 0 0 0])] [⟨1, 3, .mut, [[.sc (.int .i64 d)]]⟩] (fun r H' => r = .one (.sc (.int .i64 (teidx p 0 l))) ∧ H' = [⟨1, 3, .mut, [[.sc (.int .i64 d)]]⟩]) := by
  refine acl_in Try.func158 rfl isfn_158 (Nat.le_of_ble_eq_true rfl) (fun R hR => ?_); rw [Try.results158] at hR; refine wg_run ?_; (simp only [Try.f158, go_sem])
  refine wd_for [0, 1, 7, 8] (fun k => [.one (.sl (teR l)), .one (.fn g [.ptr 1 0 0 0]), .one (.sc (.int .i64 l.length)), .one (.sc (.int .i64 (k : Nat)))]) (fun k => [⟨1, 3, .mut, [[.sc (.int .i64 d)]]⟩])
      (fun k => k ≤ l.length ∧ teidx p k (l.drop k) = teidx p 0 l) (fun k => l.length - k) 0 ⟨Nat.zero_le _, rfl⟩ (head_at [] (by (simp only [go_sem]); first | done | rfl) (by (simp only [go_sem]); first | done | rfl) ⟨rfl, rfl⟩) ?_
  rintro k ⟨hk, hs⟩ G hG
  refine wg_run ?_
  (simp only [go_sem])
  (first | refine wd_split _ (fun hb => ?_) (fun hb => ?_) | refine wd_nwant _ (fun hb => ?_) (fun hb => ?_) | refine wm_nwant _ (fun hb => ?_) (fun hb => ?_) | refine wd_want _ (fun hb => ?_) (fun hb => ?_) | refine wm_want _ (fun hb => ?_) (fun hb => ?_) | refine wt_nwant _ (fun hb => ?_) (fun hb => ?_) | refine wt_want _ (fun hb => ?_) (fun hb => ?_)) <;> (simp only [go_sem, hb])
  · have hk1 : k < l.length := by have := of_decide_eq_true hb; omega
    rw [tedrop_kid hk1, teidx] at hs
    have hw1 := wrap_succ hk1 (by omega)
    (first | refine wd_cl [0] (by (simp only [go_sem]); first | done | rfl) (hg k hk1) ?_ | refine wm_cl [0] (by (simp only [go_sem]); first | done | rfl) (hg k hk1) (by (simp only [go_sem]); first | done | rfl) (by (simp only [go_sem]); first | done | rfl) ?_ | refine wt_cl [0] (by (simp only [go_sem]); first | done | rfl) (hg k hk1) (by (simp only [go_sem]); first | done | rfl) (by (simp only [go_sem]); first | done | rfl) ?_); rintro _ _ ⟨rfl, rfl⟩; (simp only [go_sem])
    repeat' (first | (simp only [go_sem, hw1]) | ((first | refine wd_split _ (fun hb => ?_) (fun hb => ?_) | refine wd_nwant _ (fun hb => ?_) (fun hb => ?_) | refine wm_nwant _ (fun hb => ?_) (fun hb => ?_) | refine wd_want _ (fun hb => ?_) (fun hb => ?_) | refine wm_want _ (fun hb => ?_) (fun hb => ?_) | refine wt_nwant _ (fun hb => ?_) (fun hb => ?_) | refine wt_want _ (fun hb => ?_) (fun hb => ?_)) <;> (simp only [go_sem, hb, hw1])) | (refine wm_done ?_; (simp only [go_sem, hw1])) | (refine wt_done ?_; (simp only [go_sem, hw1])) | (refine wg_run ?_; (simp only [go_sem, hw1])) | (refine wt_fork (by (simp only [go_sem]); first | done | rfl) ?_ ?_ <;> (simp only [go_sem, hw1])))
    · (refine hR _ (ret_at [] (by (simp only [go_sem]); first | done | rfl) (by (simp only [go_sem]); first | done | rfl) ⟨?_, ?_⟩))
      · simpa [hb] using hs
      · rfl
    · exact hG (k + 1) _ _ ⟨by omega, by simpa [hb] using hs⟩ (by omega) (head_at [] (by (simp only [go_sem]); first | done | rfl) (by (simp only [go_sem]); first | done | rfl) ⟨rfl, rfl⟩)
  · have hk1 : ¬ k < l.length := by have := of_decide_eq_false hb; omega
    rw [List.drop_eq_nil_of_le (by omega), teidx] at hs
    (refine hR _ (ret_at [] (by (simp only [go_sem]); first | done | rfl) (by (simp only [go_sem]); first | done | rfl) ⟨?_, ?_⟩))
    · rw [← hs]
    · rfl
theorem teContainsFunc1 (g : FuncId) (d : Int) (p : Tm → Bool) (l : List Tm) (hl : l.length < 4611686018427387904)
    (hg : ∀ k, k < l.length → ACl Try.prog g [.agg (teC (teKid l k)), .one (.ptr 1 0 0 0)] [⟨1, 3, .mut, [[.sc (.int .i64 d)]]⟩] (fun r H' => r = .one (.sc (.bool (p (teKid l k)))) ∧ H' = [⟨1, 3, .mut, [[.sc (.int .i64 d)]]⟩])) :
    ACl Try.prog 118 [.one (.sl (teR l)), .one (.fn g [.ptr 1 0 0 0])] [⟨1, 3, .mut, [[.sc (.int .i64 d)]]⟩] (fun r H' => r = .one (.sc (.bool (l.any p))) ∧ H' = [⟨1, 3, .mut, [[.sc (.int .i64 d)]]⟩]) := by
  have hi := teIndexFunc1 g d p l hl hg
  refine acl_in Try.func118 rfl isfn_118 (Nat.le_of_ble_eq_true rfl) (fun R hR => ?_); rw [Try.results118] at hR; refine wg_run ?_; (simp only [Try.f118, go_sem])
  (first | refine wd_cl [0] (by (simp only [go_sem]); first | done | rfl) (hi) ?_ | refine wm_cl [0] (by (simp only [go_sem]); first | done | rfl) (hi) (by (simp only [go_sem]); first | done | rfl) (by (simp only [go_sem]); first | done | rfl) ?_ | refine wt_cl [0] (by (simp only [go_sem]); first | done | rfl) (hi) (by (simp only [go_sem]); first | done | rfl) (by (simp only [go_sem]); first | done | rfl) ?_); rintro _ _ ⟨rfl, rfl⟩; (simp only [go_sem])
  (refine hR _ (ret_at [] (by (simp only [go_sem]); first | done | rfl) (by (simp only [go_sem]); first | done | rfl) ⟨?_, ?_⟩))
  · rw [← teidx_any p l 0]
  · rfl
end Go.Proofs.Ytnaebafafhamjaa
/- Types: the reference's functions, on shadows. -/
namespace Go.Proofs.Ytnaebafafhamjaa
open Go.RowKit Go.Proofs.Sh Go.Proofs.Grad
set_option maxRecDepth 100000
set_option maxHeartbeats 1000000
@[go_sem] theorem kind_mk (k : Int) (l : List Ty) : (Ty.mk k l).kind = k := rfl
@[go_sem] theorem kids_mk (k : Int) (l : List Ty) : (Ty.mk k l).kids = l := rfl
theorem l1Kids (k : Int) : AFn Try.prog 134 [.one (.sc (.int .i64 k))] (.one (.sc (.int .i64 (kidsN k)))) := by
  refine fn_in ?_; refine acl_in Try.func134 rfl isfn_134 (Nat.le_of_ble_eq_true rfl) (fun R hR => ?_); rw [Try.results134] at hR; refine wg_run ?_; (simp only [Try.f134, go_sem])
  repeat' (first | ((first | refine wd_split _ (fun hb => ?_) (fun hb => ?_) | refine wd_nwant _ (fun hb => ?_) (fun hb => ?_) | refine wm_nwant _ (fun hb => ?_) (fun hb => ?_) | refine wd_want _ (fun hb => ?_) (fun hb => ?_) | refine wm_want _ (fun hb => ?_) (fun hb => ?_) | refine wt_nwant _ (fun hb => ?_) (fun hb => ?_) | refine wt_want _ (fun hb => ?_) (fun hb => ?_)) <;> (simp only [go_sem, hb])) | (refine wm_done ?_; (simp only [go_sem])) | (refine wt_done ?_; (simp only [go_sem])) | (refine wg_run ?_; (simp only [go_sem])) | (refine wt_fork (by (simp only [go_sem]); first | done | rfl) ?_ ?_ <;> (simp only [go_sem])))
  all_goals (refine hR _ (ret_at [] (by (simp only [go_sem]); first | done | rfl) (by (simp only [go_sem]); first | done | rfl) ⟨?_, rfl⟩))
  all_goals simp_all [kidsN]
@[go_sem] theorem kidsN_1 : kidsN 1 = 0 := rfl
@[go_sem] theorem kidsN_2 : kidsN 2 = 0 := rfl
@[go_sem] theorem kidsN_3 : kidsN 3 = 0 := rfl
@[go_sem] theorem kidsN_4 : kidsN 4 = 2 := rfl
@[go_sem] theorem kidsN_5 : kidsN 5 = 2 := rfl
theorem l1Shape (m : Nat) (hm : m ≤ 4) : ∀ t : Ty, AFn Try.prog 138 [.agg (tyC t), .one (.sc (.int .i64 m))] (.one (.sc (.bool (t.shape m)))) := by
  induction m with
  | zero =>
    intro t
    refine fn_in ?_; refine acl_in Try.func138 rfl isfn_138 (Nat.le_of_ble_eq_true rfl) (fun R hR => ?_); rw [Try.results138] at hR; refine wg_run ?_; (simp only [Try.f138, go_sem])
    (refine wd_mix 0 [] follows (by kernel_rfl) (by (simp only [go_sem]); first | done | rfl) ?_; (simp only [go_sem]))
    repeat' (first | ((first | refine wd_split _ (fun hb => ?_) (fun hb => ?_) | refine wd_nwant _ (fun hb => ?_) (fun hb => ?_) | refine wm_nwant _ (fun hb => ?_) (fun hb => ?_) | refine wd_want _ (fun hb => ?_) (fun hb => ?_) | refine wm_want _ (fun hb => ?_) (fun hb => ?_) | refine wt_nwant _ (fun hb => ?_) (fun hb => ?_) | refine wt_want _ (fun hb => ?_) (fun hb => ?_)) <;> (simp only [go_sem, hb])) | (refine wm_done ?_; (simp only [go_sem])) | (refine wt_done ?_; (simp only [go_sem])) | (refine wg_run ?_; (simp only [go_sem])) | (refine wt_fork (by (simp only [go_sem]); first | done | rfl) ?_ ?_ <;> (simp only [go_sem])))
    all_goals (refine hR _ (ret_at [] (by (simp only [go_sem]); first | done | rfl) (by (simp only [go_sem]); first | done | rfl) ⟨?_, rfl⟩))
    all_goals rfl
  | succ m ih =>
    intro t
    have hd : decide ((((m + 1 : Nat) : Int) < 1)) = false := by simp; omega
    have hw : IntKind.i64.wrap (((m + 1 : Nat) : Int) - 1) = (m : Int) := by rw [IntWalk.i64_in _ (by omega)]; omega
    refine fn_in ?_; refine acl_in Try.func138 rfl isfn_138 (Nat.le_of_ble_eq_true rfl) (fun R hR => ?_); rw [Try.results138] at hR; refine wg_run ?_; (simp only [Try.f138, go_sem])
    (refine wd_mix 0 [] follows (by kernel_rfl) (by (simp only [go_sem]); first | done | rfl) ?_; (simp only [go_sem]))
    (simp only [go_sem, hd])
    (first | refine wd_fn (by (simp only [go_sem]); first | done | rfl) (l1Kids _) ?_ | refine wm_fn (by (simp only [go_sem]); first | done | rfl) (l1Kids _) (by (simp only [go_sem]); first | done | rfl) (by (simp only [go_sem]); first | done | rfl) ?_ | refine wt_fn (by (simp only [go_sem]); first | done | rfl) (l1Kids _) (by (simp only [go_sem]); first | done | rfl) (by (simp only [go_sem]); first | done | rfl) ?_); (simp only [go_sem])
    repeat' (first | ((first | refine wd_split _ (fun hb => ?_) (fun hb => ?_) | refine wd_nwant _ (fun hb => ?_) (fun hb => ?_) | refine wm_nwant _ (fun hb => ?_) (fun hb => ?_) | refine wd_want _ (fun hb => ?_) (fun hb => ?_) | refine wm_want _ (fun hb => ?_) (fun hb => ?_) | refine wt_nwant _ (fun hb => ?_) (fun hb => ?_) | refine wt_want _ (fun hb => ?_) (fun hb => ?_)) <;> (simp only [go_sem, hb])) | (refine wm_done ?_; (simp only [go_sem])) | (refine wt_done ?_; (simp only [go_sem])) | (refine wg_run ?_; (simp only [go_sem])) | (refine wt_fork (by (simp only [go_sem]); first | done | rfl) ?_ ?_ <;> (simp only [go_sem])))
    · (refine hR _ (ret_at [] (by (simp only [go_sem]); first | done | rfl) (by (simp only [go_sem]); first | done | rfl) ⟨?_, rfl⟩))
      simp_all [Ty.shape]
    · refine wd_for [1, 2, 5] (fun k => [.one (.sc (.int .i64 ((m + 1 : Nat) : Int))), .one (.ptr 2 0 0 0), .one (.sc (.int .i64 (k : Nat)))]) (fun k => [⟨2, 25, .mut, [tyC t]⟩])
        (fun k => k ≤ t.kids.length ∧ (t.kids.drop k).all (Ty.shape m) = t.shape (m + 1)) (fun k => t.kids.length - k) 0 ⟨Nat.zero_le _, ?_⟩ (head_at [0] (by (simp only [go_sem]); first | done | rfl) (by (simp only [go_sem]); first | done | rfl) ⟨rfl, rfl⟩) ?_
      · clear hR
        simp_all [Ty.shape]
      rintro k ⟨hk, hs⟩ G hG
      refine wg_run ?_
      (simp only [go_sem])
      have hl : t.kids.length < 3 := by simp [kidsN] at hb; split at hb <;> try split at hb
                                        all_goals omega
      (first | refine wd_split _ (fun hb => ?_) (fun hb => ?_) | refine wd_nwant _ (fun hb => ?_) (fun hb => ?_) | refine wm_nwant _ (fun hb => ?_) (fun hb => ?_) | refine wd_want _ (fun hb => ?_) (fun hb => ?_) | refine wm_want _ (fun hb => ?_) (fun hb => ?_) | refine wt_nwant _ (fun hb => ?_) (fun hb => ?_) | refine wt_want _ (fun hb => ?_) (fun hb => ?_)) <;> (simp only [go_sem, hb, hw])
      · have hk1 : k < t.kids.length := by have := of_decide_eq_true hb; omega
        rw [drop_kid hk1, List.all_cons] at hs
        have hw1 := wrap_succ hk1 (by omega)
        (first | refine wd_fn (by (simp only [go_sem]); first | done | rfl) (ih (by omega) _) ?_ | refine wm_fn (by (simp only [go_sem]); first | done | rfl) (ih (by omega) _) (by (simp only [go_sem]); first | done | rfl) (by (simp only [go_sem]); first | done | rfl) ?_ | refine wt_fn (by (simp only [go_sem]); first | done | rfl) (ih (by omega) _) (by (simp only [go_sem]); first | done | rfl) (by (simp only [go_sem]); first | done | rfl) ?_); (simp only [go_sem])
        repeat' (first | (simp only [go_sem, hw1]) | ((first | refine wd_split _ (fun hb => ?_) (fun hb => ?_) | refine wd_nwant _ (fun hb => ?_) (fun hb => ?_) | refine wm_nwant _ (fun hb => ?_) (fun hb => ?_) | refine wd_want _ (fun hb => ?_) (fun hb => ?_) | refine wm_want _ (fun hb => ?_) (fun hb => ?_) | refine wt_nwant _ (fun hb => ?_) (fun hb => ?_) | refine wt_want _ (fun hb => ?_) (fun hb => ?_)) <;> (simp only [go_sem, hb, hw1])) | (refine wm_done ?_; (simp only [go_sem, hw1])) | (refine wt_done ?_; (simp only [go_sem, hw1])) | (refine wg_run ?_; (simp only [go_sem, hw1])) | (refine wt_fork (by (simp only [go_sem]); first | done | rfl) ?_ ?_ <;> (simp only [go_sem, hw1])))
        · exact hG (k + 1) _ _ ⟨by omega, by simpa [hb] using hs⟩ (by omega) (head_at [0] (by (simp only [go_sem]); first | done | rfl) (by (simp only [go_sem]); first | done | rfl) ⟨rfl, rfl⟩)
        · (refine hR _ (ret_at [] (by (simp only [go_sem]); first | done | rfl) (by (simp only [go_sem]); first | done | rfl) ⟨?_, rfl⟩))
          simpa [hb] using hs
      · have hk1 : ¬ k < t.kids.length := by have := of_decide_eq_false hb; omega
        rw [List.drop_eq_nil_of_le (by omega)] at hs
        (refine hR _ (ret_at [] (by (simp only [go_sem]); first | done | rfl) (by (simp only [go_sem]); first | done | rfl) ⟨?_, rfl⟩))
        simpa using hs
theorem sValid (t : Ty) : AFn Try.prog 99 [.agg (tyC t)] (.one (.sc (.bool t.valid))) := by
  refine fn_in ?_; refine acl_in Try.func99 rfl isfn_99 (Nat.le_of_ble_eq_true rfl) (fun R hR => ?_); rw [Try.results99] at hR; refine wg_run ?_; (simp only [Try.f99, go_sem])
  repeat' (first | (first | ((first | refine wd_split _ (fun hb => ?_) (fun hb => ?_) | refine wd_nwant _ (fun hb => ?_) (fun hb => ?_) | refine wm_nwant _ (fun hb => ?_) (fun hb => ?_) | refine wd_want _ (fun hb => ?_) (fun hb => ?_) | refine wm_want _ (fun hb => ?_) (fun hb => ?_) | refine wt_nwant _ (fun hb => ?_) (fun hb => ?_) | refine wt_want _ (fun hb => ?_) (fun hb => ?_)) <;> (simp only [go_sem, hb])) | (refine wm_done ?_; (simp only [go_sem])) | (refine wt_done ?_; (simp only [go_sem])) | (refine wg_run ?_; (simp only [go_sem])) | (refine wt_fork (by (simp only [go_sem]); first | done | rfl) ?_ ?_ <;> (simp only [go_sem]))) | (first | refine wd_fn (by (simp only [go_sem]); first | done | rfl) (l1Shape 4 (by omega) _) ?_ | refine wm_fn (by (simp only [go_sem]); first | done | rfl) (l1Shape 4 (by omega) _) (by (simp only [go_sem]); first | done | rfl) (by (simp only [go_sem]); first | done | rfl) ?_ | refine wt_fn (by (simp only [go_sem]); first | done | rfl) (l1Shape 4 (by omega) _) (by (simp only [go_sem]); first | done | rfl) (by (simp only [go_sem]); first | done | rfl) ?_); (simp only [go_sem]))
  (refine hR _ (ret_at [] (by (simp only [go_sem]); first | done | rfl) (by (simp only [go_sem]); first | done | rfl) ⟨?_, rfl⟩))
  rfl
end Go.Proofs.Ytnaebafafhamjaa
/- Types: the program's checks, on shadows. -/
namespace Go.Proofs.Sh
open Go.Proofs.Grad
theorem all2_kid {f : Ty → Ty → Bool} {a b : List Ty} {i : Nat} (ha : i < a.length) (hb : i < b.length) : all2 f (a.drop i) (b.drop i) = (f (kid a i) (kid b i) && all2 f (a.drop (i + 1)) (b.drop (i + 1))) := by
  rw [all2_drop ha hb, kid_eq ha, kid_eq hb]
theorem all2_end {f : Ty → Ty → Bool} {a b : List Ty} {i : Nat} (ha : ¬ i < a.length) (hb : a.length = b.length) : all2 f (a.drop i) (b.drop i) = true := by
  rw [List.drop_eq_nil_of_le (by omega), List.drop_eq_nil_of_le (by omega)]; rfl
/-- a type of a size that numbers hold -/
def Big : Nat := 4611686018427387904
end Go.Proofs.Sh
namespace Go.Proofs.Ytnaebafafhamjaa
open Go.RowKit Go.Proofs.Sh Go.Proofs.Grad
set_option maxRecDepth 100000
set_option maxHeartbeats 4000000
theorem eqFunc (g : FuncId) (Q : Ty → Ty → Bool) (l m : List Ty) (hl : l.length < 4611686018427387904)
    (hg : ∀ k, k < l.length → k < m.length → AFn Try.prog g [.agg (tyC (kid l k)), .agg (tyC (kid m k))] (.one (.sc (.bool (Q (kid l k) (kid m k)))))) :
    AFn Try.prog 91 [.one (.sl (tyR l)), .one (.sl (tyR m)), .one (.fn g [])] (.one (.sc (.bool (all2 Q l m)))) := by
  refine fn_in ?_; refine acl_in Try.func91 rfl isfn_91 (Nat.le_of_ble_eq_true rfl) (fun R hR => ?_); rw [Try.results91] at hR; refine wg_run ?_; (simp only [Try.f91, go_sem])
  repeat' (first | ((first | refine wd_split _ (fun hb => ?_) (fun hb => ?_) | refine wd_nwant _ (fun hb => ?_) (fun hb => ?_) | refine wm_nwant _ (fun hb => ?_) (fun hb => ?_) | refine wd_want _ (fun hb => ?_) (fun hb => ?_) | refine wm_want _ (fun hb => ?_) (fun hb => ?_) | refine wt_nwant _ (fun hb => ?_) (fun hb => ?_) | refine wt_want _ (fun hb => ?_) (fun hb => ?_)) <;> (simp only [go_sem, hb])) | (refine wm_done ?_; (simp only [go_sem])) | (refine wt_done ?_; (simp only [go_sem])) | (refine wg_run ?_; (simp only [go_sem])) | (refine wt_fork (by (simp only [go_sem]); first | done | rfl) ?_ ?_ <;> (simp only [go_sem])))
  · (refine hR _ (ret_at [] (by (simp only [go_sem]); first | done | rfl) (by (simp only [go_sem]); first | done | rfl) ⟨?_, rfl⟩))
    rw [all2_len]
    intro h; simp [h] at hb
  · have hlm : l.length = m.length := by simp at hb; omega
    clear hb
    refine wd_for [0, 1, 2, 15, 16, 17] (fun k => [.one (.sl (tyR l)), .one (.sl (tyR m)), .one (.fn g []), .one (.sl (tyR l)), .one (.sc (.int .i64 l.length)), .one (.sc (.int .i64 (k : Nat)))]) (fun k => [])
      (fun k => k ≤ l.length ∧ all2 Q (l.drop k) (m.drop k) = all2 Q l m) (fun k => l.length - k) 0 ⟨Nat.zero_le _, rfl⟩ (head_at [] (by (simp only [go_sem]); first | done | rfl) (by (simp only [go_sem]); first | done | rfl) ⟨rfl, rfl⟩) ?_
    rintro k ⟨hk, hs⟩ G hG
    refine wg_run ?_
    (simp only [go_sem])
    (first | refine wd_split _ (fun hb => ?_) (fun hb => ?_) | refine wd_nwant _ (fun hb => ?_) (fun hb => ?_) | refine wm_nwant _ (fun hb => ?_) (fun hb => ?_) | refine wd_want _ (fun hb => ?_) (fun hb => ?_) | refine wm_want _ (fun hb => ?_) (fun hb => ?_) | refine wt_nwant _ (fun hb => ?_) (fun hb => ?_) | refine wt_want _ (fun hb => ?_) (fun hb => ?_)) <;> (simp only [go_sem, hb])
    · have hk1 : k < l.length := by have := of_decide_eq_true hb; omega
      have hk2 : decide ((k : Int) < (m.length : Int)) = true := by simp; omega
      rw [all2_kid hk1 (by omega)] at hs
      have hw1 := wrap_succ hk1 (by omega)
      (simp only [go_sem, hk2])
      (first | refine wd_fn (by (simp only [go_sem]); first | done | rfl) (hg k hk1 (by omega)) ?_ | refine wm_fn (by (simp only [go_sem]); first | done | rfl) (hg k hk1 (by omega)) (by (simp only [go_sem]); first | done | rfl) (by (simp only [go_sem]); first | done | rfl) ?_ | refine wt_fn (by (simp only [go_sem]); first | done | rfl) (hg k hk1 (by omega)) (by (simp only [go_sem]); first | done | rfl) (by (simp only [go_sem]); first | done | rfl) ?_); (simp only [go_sem])
      repeat' (first | (simp only [go_sem, hw1]) | ((first | refine wd_split _ (fun hb => ?_) (fun hb => ?_) | refine wd_nwant _ (fun hb => ?_) (fun hb => ?_) | refine wm_nwant _ (fun hb => ?_) (fun hb => ?_) | refine wd_want _ (fun hb => ?_) (fun hb => ?_) | refine wm_want _ (fun hb => ?_) (fun hb => ?_) | refine wt_nwant _ (fun hb => ?_) (fun hb => ?_) | refine wt_want _ (fun hb => ?_) (fun hb => ?_)) <;> (simp only [go_sem, hb, hw1])) | (refine wm_done ?_; (simp only [go_sem, hw1])) | (refine wt_done ?_; (simp only [go_sem, hw1])) | (refine wg_run ?_; (simp only [go_sem, hw1])) | (refine wt_fork (by (simp only [go_sem]); first | done | rfl) ?_ ?_ <;> (simp only [go_sem, hw1])))
      · exact hG (k + 1) _ _ ⟨by omega, by simpa [hb] using hs⟩ (by omega) (head_at [] (by (simp only [go_sem]); first | done | rfl) (by (simp only [go_sem]); first | done | rfl) ⟨rfl, rfl⟩)
      · (refine hR _ (ret_at [] (by (simp only [go_sem]); first | done | rfl) (by (simp only [go_sem]); first | done | rfl) ⟨?_, rfl⟩))
        simpa [hb] using hs
    · have hk1 : ¬ k < l.length := by have := of_decide_eq_false hb; omega
      rw [all2_end hk1 hlm] at hs
      (refine hR _ (ret_at [] (by (simp only [go_sem]); first | done | rfl) (by (simp only [go_sem]); first | done | rfl) ⟨?_, rfl⟩))
      simpa using hs
theorem iSame (n : Nat) (hn : n ≤ 4611686018427387904) : ∀ a b : Ty, a.size < n → AFn Try.prog 47 [.agg (tyC a), .agg (tyC b)] (.one (.sc (.bool (a.same b)))) := by
  induction n with
  | zero => intro a b h; omega
  | succ n ih =>
    intro a b h
    have hl : a.kids.length < 4611686018427387904 := by have := Ty.length_le_sizes a.kids; cases a; simp only [Ty.size, Ty.kids] at *; omega
    have hk : ∀ k, k < a.kids.length → k < b.kids.length → AFn Try.prog 47 [.agg (tyC (kid a.kids k)), .agg (tyC (kid b.kids k))] (.one (.sc (.bool ((kid a.kids k).same (kid b.kids k))))) := fun k h1 h2 => ih (by omega) _ _ (by have := kid_lt h1; omega)
    have hf := eqFunc _ Ty.same a.kids b.kids hl hk
    clear hk ih
    rw [Ty.same_eq, Ty.sames_all2]
    refine fn_in ?_; refine acl_in Try.func47 rfl isfn_47 (Nat.le_of_ble_eq_true rfl) (fun R hR => ?_); rw [Try.results47] at hR; refine wg_run ?_; (simp only [Try.f47, go_sem])
    repeat' (first | (first | ((first | refine wd_split _ (fun hb => ?_) (fun hb => ?_) | refine wd_nwant _ (fun hb => ?_) (fun hb => ?_) | refine wm_nwant _ (fun hb => ?_) (fun hb => ?_) | refine wd_want _ (fun hb => ?_) (fun hb => ?_) | refine wm_want _ (fun hb => ?_) (fun hb => ?_) | refine wt_nwant _ (fun hb => ?_) (fun hb => ?_) | refine wt_want _ (fun hb => ?_) (fun hb => ?_)) <;> (simp only [go_sem, hb])) | (refine wm_done ?_; (simp only [go_sem])) | (refine wt_done ?_; (simp only [go_sem])) | (refine wg_run ?_; (simp only [go_sem])) | (refine wt_fork (by (simp only [go_sem]); first | done | rfl) ?_ ?_ <;> (simp only [go_sem]))) | (first | refine wd_fn (by (simp only [go_sem]); first | done | rfl) (hf) ?_ | refine wm_fn (by (simp only [go_sem]); first | done | rfl) (hf) (by (simp only [go_sem]); first | done | rfl) (by (simp only [go_sem]); first | done | rfl) ?_ | refine wt_fn (by (simp only [go_sem]); first | done | rfl) (hf) (by (simp only [go_sem]); first | done | rfl) (by (simp only [go_sem]); first | done | rfl) ?_); (simp only [go_sem]) | ((first | refine wd_mix 6 [] follows (by decide +kernel) (by (simp only [go_sem]); first | done | rfl) ?_ | refine wd_mix 5 [] follows (by decide +kernel) (by (simp only [go_sem]); first | done | rfl) ?_ | refine wd_mix 4 [] follows (by decide +kernel) (by (simp only [go_sem]); first | done | rfl) ?_ | refine wd_mix 3 [] follows (by decide +kernel) (by (simp only [go_sem]); first | done | rfl) ?_ | refine wd_mix 2 [] follows (by decide +kernel) (by (simp only [go_sem]); first | done | rfl) ?_ | refine wd_mix 1 [] follows (by decide +kernel) (by (simp only [go_sem]); first | done | rfl) ?_ | refine wd_mix 0 [] follows (by decide +kernel) (by (simp only [go_sem]); first | done | rfl) ?_ | fail); (simp only [go_sem])))
    all_goals (refine hR _ (ret_at [] (by (simp only [go_sem]); first | done | rfl) (by (simp only [go_sem]); first | done | rfl) ⟨?_, rfl⟩))
    all_goals simp_all
theorem iCons (n : Nat) (hn : n ≤ 4611686018427387904) : ∀ a b : Ty, a.size < n → AFn Try.prog 36 [.agg (tyC a), .agg (tyC b)] (.one (.sc (.bool (a.cons b)))) := by
  induction n with
  | zero => intro a b h; omega
  | succ n ih =>
    intro a b h
    have hl : a.kids.length < 4611686018427387904 := by have := Ty.length_le_sizes a.kids; cases a; simp only [Ty.size, Ty.kids] at *; omega
    have hk : ∀ k, k < a.kids.length → k < b.kids.length → AFn Try.prog 36 [.agg (tyC (kid a.kids k)), .agg (tyC (kid b.kids k))] (.one (.sc (.bool ((kid a.kids k).cons (kid b.kids k))))) := fun k h1 h2 => ih (by omega) _ _ (by have := kid_lt h1; omega)
    have hf := eqFunc _ Ty.cons a.kids b.kids hl hk
    clear hk ih
    rw [Ty.cons_eq]
    refine fn_in ?_; refine acl_in Try.func36 rfl isfn_36 (Nat.le_of_ble_eq_true rfl) (fun R hR => ?_); rw [Try.results36] at hR; refine wg_run ?_; (simp only [Try.f36, go_sem])
    repeat' (first | (first | ((first | refine wd_split _ (fun hb => ?_) (fun hb => ?_) | refine wd_nwant _ (fun hb => ?_) (fun hb => ?_) | refine wm_nwant _ (fun hb => ?_) (fun hb => ?_) | refine wd_want _ (fun hb => ?_) (fun hb => ?_) | refine wm_want _ (fun hb => ?_) (fun hb => ?_) | refine wt_nwant _ (fun hb => ?_) (fun hb => ?_) | refine wt_want _ (fun hb => ?_) (fun hb => ?_)) <;> (simp only [go_sem, hb])) | (refine wm_done ?_; (simp only [go_sem])) | (refine wt_done ?_; (simp only [go_sem])) | (refine wg_run ?_; (simp only [go_sem])) | (refine wt_fork (by (simp only [go_sem]); first | done | rfl) ?_ ?_ <;> (simp only [go_sem]))) | (first | refine wd_fn (by (simp only [go_sem]); first | done | rfl) (hf) ?_ | refine wm_fn (by (simp only [go_sem]); first | done | rfl) (hf) (by (simp only [go_sem]); first | done | rfl) (by (simp only [go_sem]); first | done | rfl) ?_ | refine wt_fn (by (simp only [go_sem]); first | done | rfl) (hf) (by (simp only [go_sem]); first | done | rfl) (by (simp only [go_sem]); first | done | rfl) ?_); (simp only [go_sem]) | ((first | refine wd_mix 6 [] follows (by decide +kernel) (by (simp only [go_sem]); first | done | rfl) ?_ | refine wd_mix 5 [] follows (by decide +kernel) (by (simp only [go_sem]); first | done | rfl) ?_ | refine wd_mix 4 [] follows (by decide +kernel) (by (simp only [go_sem]); first | done | rfl) ?_ | refine wd_mix 3 [] follows (by decide +kernel) (by (simp only [go_sem]); first | done | rfl) ?_ | refine wd_mix 2 [] follows (by decide +kernel) (by (simp only [go_sem]); first | done | rfl) ?_ | refine wd_mix 1 [] follows (by decide +kernel) (by (simp only [go_sem]); first | done | rfl) ?_ | refine wd_mix 0 [] follows (by decide +kernel) (by (simp only [go_sem]); first | done | rfl) ?_ | fail); (simp only [go_sem])))
    all_goals (refine hR _ (ret_at [] (by (simp only [go_sem]); first | done | rfl) (by (simp only [go_sem]); first | done | rfl) ⟨?_, rfl⟩))
    all_goals simp_all
theorem iPrec (n : Nat) (hn : n ≤ 4611686018427387904) : ∀ a b : Ty, a.size < n → AFn Try.prog 49 [.agg (tyC a), .agg (tyC b)] (.one (.sc (.bool (a.prec b)))) := by
  induction n with
  | zero => intro a b h; omega
  | succ n ih =>
    intro a b h
    have hl : a.kids.length < 4611686018427387904 := by have := Ty.length_le_sizes a.kids; cases a; simp only [Ty.size, Ty.kids] at *; omega
    have hk : ∀ k, k < a.kids.length → k < b.kids.length → AFn Try.prog 49 [.agg (tyC (kid a.kids k)), .agg (tyC (kid b.kids k))] (.one (.sc (.bool ((kid a.kids k).prec (kid b.kids k))))) := fun k h1 h2 => ih (by omega) _ _ (by have := kid_lt h1; omega)
    have hf := eqFunc _ Ty.prec a.kids b.kids hl hk
    clear hk ih
    rw [Ty.prec_eq]
    refine fn_in ?_; refine acl_in Try.func49 rfl isfn_49 (Nat.le_of_ble_eq_true rfl) (fun R hR => ?_); rw [Try.results49] at hR; refine wg_run ?_; (simp only [Try.f49, go_sem])
    repeat' (first | (first | ((first | refine wd_split _ (fun hb => ?_) (fun hb => ?_) | refine wd_nwant _ (fun hb => ?_) (fun hb => ?_) | refine wm_nwant _ (fun hb => ?_) (fun hb => ?_) | refine wd_want _ (fun hb => ?_) (fun hb => ?_) | refine wm_want _ (fun hb => ?_) (fun hb => ?_) | refine wt_nwant _ (fun hb => ?_) (fun hb => ?_) | refine wt_want _ (fun hb => ?_) (fun hb => ?_)) <;> (simp only [go_sem, hb])) | (refine wm_done ?_; (simp only [go_sem])) | (refine wt_done ?_; (simp only [go_sem])) | (refine wg_run ?_; (simp only [go_sem])) | (refine wt_fork (by (simp only [go_sem]); first | done | rfl) ?_ ?_ <;> (simp only [go_sem]))) | (first | refine wd_fn (by (simp only [go_sem]); first | done | rfl) (hf) ?_ | refine wm_fn (by (simp only [go_sem]); first | done | rfl) (hf) (by (simp only [go_sem]); first | done | rfl) (by (simp only [go_sem]); first | done | rfl) ?_ | refine wt_fn (by (simp only [go_sem]); first | done | rfl) (hf) (by (simp only [go_sem]); first | done | rfl) (by (simp only [go_sem]); first | done | rfl) ?_); (simp only [go_sem]) | ((first | refine wd_mix 6 [] follows (by decide +kernel) (by (simp only [go_sem]); first | done | rfl) ?_ | refine wd_mix 5 [] follows (by decide +kernel) (by (simp only [go_sem]); first | done | rfl) ?_ | refine wd_mix 4 [] follows (by decide +kernel) (by (simp only [go_sem]); first | done | rfl) ?_ | refine wd_mix 3 [] follows (by decide +kernel) (by (simp only [go_sem]); first | done | rfl) ?_ | refine wd_mix 2 [] follows (by decide +kernel) (by (simp only [go_sem]); first | done | rfl) ?_ | refine wd_mix 1 [] follows (by decide +kernel) (by (simp only [go_sem]); first | done | rfl) ?_ | refine wd_mix 0 [] follows (by decide +kernel) (by (simp only [go_sem]); first | done | rfl) ?_ | fail); (simp only [go_sem])))
    all_goals (refine hR _ (ret_at [] (by (simp only [go_sem]); first | done | rfl) (by (simp only [go_sem]); first | done | rfl) ⟨?_, rfl⟩))
    all_goals simp_all
/-- the index of the first one, -1 for none -/
def idx (p : Ty → Bool) : Nat → List Ty → Int
  | _, [] => -1
  | k, t :: l => if p t then (k : Nat) else idx p (k + 1) l
theorem idx_lt (p : Ty → Bool) : ∀ (l : List Ty) (k : Nat), idx p k l < 0 ∨ (k : Int) ≤ idx p k l
  | [], k => .inl (by simp [idx])
  | t :: l, k => by
    simp only [idx]
    split
    · right; omega
    · rcases idx_lt p l (k + 1) with h | h
      · exact .inl h
      · right; omega
theorem idx_any (p : Ty → Bool) : ∀ (l : List Ty) (k : Nat), decide (0 ≤ idx p k l) = l.any p
  | [], k => by simp [idx]
  | t :: l, k => by
    simp only [idx, List.any_cons]
    split
    · rename_i h; simp [h]
    · rename_i h; rw [idx_any p l (k + 1)]; simp [h]
theorem indexFunc1 (g : FuncId) (d : Int) (p : Ty → Bool) (l : List Ty) (hl : l.length < 4611686018427387904)
    (hg : ∀ k, k < l.length → ACl Try.prog g [.agg (tyC (kid l k)), .one (.ptr 1 0 0 0)] [⟨1, 3, .mut, [[.sc (.int .i64 d)]]⟩] (fun r H' => r = .one (.sc (.bool (p (kid l k)))) ∧ H' = [⟨1, 3, .mut, [[.sc (.int .i64 d)]]⟩])) :
    ACl Try.prog 185 [.one (.sl (tyR l)), .one (.fn g [.ptr 1 0 0 0])] [⟨1, 3, .mut, [[.sc (.int .i64 d)]]⟩] (fun r H' => r = .one (.sc (.int .i64 (idx p 0 l))) ∧ H' = [⟨1, 3, .mut, [[.sc (.int .i64 d)]]⟩]) := by
  refine acl_in Try.func185 rfl isfn_185 (Nat.le_of_ble_eq_true rfl) (fun R hR => ?_); rw [Try.results185] at hR; refine wg_run ?_; (simp only [Try.f185, go_sem])
  refine wd_for [0, 1, 7, 8] (fun k => [.one (.sl (tyR l)), .one (.fn g [.ptr 1 0 0 0]), .one (.sc (.int .i64 l.length)), .one (.sc (.int .i64 (k : Nat)))]) (fun k => [⟨1, 3, .mut, [[.sc (.int .i64 d)]]⟩])
      (fun k => k ≤ l.length ∧ idx p k (l.drop k) = idx p 0 l) (fun k => l.length - k) 0 ⟨Nat.zero_le _, rfl⟩ (head_at [] (by (simp only [go_sem]); first | done | rfl) (by (simp only [go_sem]); first | done | rfl) ⟨rfl, rfl⟩) ?_
  rintro k ⟨hk, hs⟩ G hG
  refine wg_run ?_
  (simp only [go_sem])
  (first | refine wd_split _ (fun hb => ?_) (fun hb => ?_) | refine wd_nwant _ (fun hb => ?_) (fun hb => ?_) | refine wm_nwant _ (fun hb => ?_) (fun hb => ?_) | refine wd_want _ (fun hb => ?_) (fun hb => ?_) | refine wm_want _ (fun hb => ?_) (fun hb => ?_) | refine wt_nwant _ (fun hb => ?_) (fun hb => ?_) | refine wt_want _ (fun hb => ?_) (fun hb => ?_)) <;> (simp only [go_sem, hb])
  · have hk1 : k < l.length := by have := of_decide_eq_true hb; omega
    rw [drop_kid hk1, idx] at hs
    have hw1 := wrap_succ hk1 (by omega)
    (first | refine wd_cl [0] (by (simp only [go_sem]); first | done | rfl) (hg k hk1) ?_ | refine wm_cl [0] (by (simp only [go_sem]); first | done | rfl) (hg k hk1) (by (simp only [go_sem]); first | done | rfl) (by (simp only [go_sem]); first | done | rfl) ?_ | refine wt_cl [0] (by (simp only [go_sem]); first | done | rfl) (hg k hk1) (by (simp only [go_sem]); first | done | rfl) (by (simp only [go_sem]); first | done | rfl) ?_); rintro _ _ ⟨rfl, rfl⟩; (simp only [go_sem])
    repeat' (first | (simp only [go_sem, hw1]) | ((first | refine wd_split _ (fun hb => ?_) (fun hb => ?_) | refine wd_nwant _ (fun hb => ?_) (fun hb => ?_) | refine wm_nwant _ (fun hb => ?_) (fun hb => ?_) | refine wd_want _ (fun hb => ?_) (fun hb => ?_) | refine wm_want _ (fun hb => ?_) (fun hb => ?_) | refine wt_nwant _ (fun hb => ?_) (fun hb => ?_) | refine wt_want _ (fun hb => ?_) (fun hb => ?_)) <;> (simp only [go_sem, hb, hw1])) | (refine wm_done ?_; (simp only [go_sem, hw1])) | (refine wt_done ?_; (simp only [go_sem, hw1])) | (refine wg_run ?_; (simp only [go_sem, hw1])) | (refine wt_fork (by (simp only [go_sem]); first | done | rfl) ?_ ?_ <;> (simp only [go_sem, hw1])))
    · (refine hR _ (ret_at [] (by (simp only [go_sem]); first | done | rfl) (by (simp only [go_sem]); first | done | rfl) ⟨?_, ?_⟩))
      · simpa [hb] using hs
      · rfl
    · exact hG (k + 1) _ _ ⟨by omega, by simpa [hb] using hs⟩ (by omega) (head_at [] (by (simp only [go_sem]); first | done | rfl) (by (simp only [go_sem]); first | done | rfl) ⟨rfl, rfl⟩)
  · have hk1 : ¬ k < l.length := by have := of_decide_eq_false hb; omega
    rw [List.drop_eq_nil_of_le (by omega), idx] at hs
    (refine hR _ (ret_at [] (by (simp only [go_sem]); first | done | rfl) (by (simp only [go_sem]); first | done | rfl) ⟨?_, ?_⟩))
    · rw [← hs]
    · rfl
theorem containsFunc1 (g : FuncId) (d : Int) (p : Ty → Bool) (l : List Ty) (hl : l.length < 4611686018427387904)
    (hg : ∀ k, k < l.length → ACl Try.prog g [.agg (tyC (kid l k)), .one (.ptr 1 0 0 0)] [⟨1, 3, .mut, [[.sc (.int .i64 d)]]⟩] (fun r H' => r = .one (.sc (.bool (p (kid l k)))) ∧ H' = [⟨1, 3, .mut, [[.sc (.int .i64 d)]]⟩])) :
    ACl Try.prog 182 [.one (.sl (tyR l)), .one (.fn g [.ptr 1 0 0 0])] [⟨1, 3, .mut, [[.sc (.int .i64 d)]]⟩] (fun r H' => r = .one (.sc (.bool (l.any p))) ∧ H' = [⟨1, 3, .mut, [[.sc (.int .i64 d)]]⟩]) := by
  have hi := indexFunc1 g d p l hl hg
  refine acl_in Try.func182 rfl isfn_182 (Nat.le_of_ble_eq_true rfl) (fun R hR => ?_); rw [Try.results182] at hR; refine wg_run ?_; (simp only [Try.f182, go_sem])
  (first | refine wd_cl [0] (by (simp only [go_sem]); first | done | rfl) (hi) ?_ | refine wm_cl [0] (by (simp only [go_sem]); first | done | rfl) (hi) (by (simp only [go_sem]); first | done | rfl) (by (simp only [go_sem]); first | done | rfl) ?_ | refine wt_cl [0] (by (simp only [go_sem]); first | done | rfl) (hi) (by (simp only [go_sem]); first | done | rfl) (by (simp only [go_sem]); first | done | rfl) ?_); rintro _ _ ⟨rfl, rfl⟩; (simp only [go_sem])
  (refine hR _ (ret_at [] (by (simp only [go_sem]); first | done | rfl) (by (simp only [go_sem]); first | done | rfl) ⟨?_, ?_⟩))
  · rw [← idx_any p l 0]
  · rfl
end Go.Proofs.Ytnaebafafhamjaa
/- Types: validity in the program; checks behind validity. On shadows. -/
namespace Go.Proofs.Ytnaebafafhamjaa
open Go.RowKit Go.Proofs.Sh Go.Proofs.Grad
set_option maxRecDepth 100000
set_option maxHeartbeats 4000000
theorem kidsN_le (k : Int) : kidsN k ≤ 2 := by unfold kidsN; split <;> (try split) <;> omega
theorem iScan (m : Nat) (hm : m ≤ 4) : ∀ t : Ty, AFn Try.prog 175 [.agg (tyC t), .one (.sc (.int .i64 (5 - (m : Int))))] (.one (.sc (.bool (t.shape m)))) := by
  induction m with
  | zero =>
    intro t
    refine fn_in ?_; refine acl_in Try.func175 rfl isfn_175 (Nat.le_of_ble_eq_true rfl) (fun R hR => ?_); rw [Try.results175] at hR; refine wg_run ?_; (simp only [Try.f175, go_sem])
    repeat' (first | ((first | refine wd_split _ (fun hb => ?_) (fun hb => ?_) | refine wd_nwant _ (fun hb => ?_) (fun hb => ?_) | refine wm_nwant _ (fun hb => ?_) (fun hb => ?_) | refine wd_want _ (fun hb => ?_) (fun hb => ?_) | refine wm_want _ (fun hb => ?_) (fun hb => ?_) | refine wt_nwant _ (fun hb => ?_) (fun hb => ?_) | refine wt_want _ (fun hb => ?_) (fun hb => ?_)) <;> (simp only [go_sem, hb])) | (refine wm_done ?_; (simp only [go_sem])) | (refine wt_done ?_; (simp only [go_sem])) | (refine wg_run ?_; (simp only [go_sem])) | (refine wt_fork (by (simp only [go_sem]); first | done | rfl) ?_ ?_ <;> (simp only [go_sem])))
    all_goals (refine hR _ (ret_at [] (by (simp only [go_sem]); first | done | rfl) (by (simp only [go_sem]); first | done | rfl) ⟨?_, rfl⟩))
    all_goals rfl
  | succ m ih =>
    intro t
    have hd : decide (5 - ((m + 1 : Nat) : Int) ≤ 4) = true := by simp; omega
    have hw : IntKind.i64.wrap (5 - ((m + 1 : Nat) : Int) + 1) = 5 - (m : Int) := by rw [IntWalk.i64_in _ (by omega)]; omega
    have hc : t.kids.length < 3 → ACl Try.prog 182 [.one (.sl (tyR t.kids)), .one (.fn 183 [.ptr 1 0 0 0])] [⟨1, 3, .mut, [[.sc (.int .i64 (5 - ((m + 1 : Nat) : Int)))]]⟩] (fun r H' => r = .one (.sc (.bool (t.kids.any (fun x => !x.shape m)))) ∧ H' = [⟨1, 3, .mut, [[.sc (.int .i64 (5 - ((m + 1 : Nat) : Int)))]]⟩]) := by
      intro hl
      refine containsFunc1 _ _ (fun x => !x.shape m) _ (by omega) ?_
      intro k hk
      refine acl_in Try.func183 rfl isfn_183 (Nat.le_of_ble_eq_true rfl) (fun R hR => ?_); rw [Try.results183] at hR; refine wg_run ?_; (simp only [Try.f183, go_sem])
      (simp only [go_sem, hw])
      (first | refine wd_fn (by (simp only [go_sem]); first | done | rfl) (ih (by omega) _) ?_ | refine wm_fn (by (simp only [go_sem]); first | done | rfl) (ih (by omega) _) (by (simp only [go_sem]); first | done | rfl) (by (simp only [go_sem]); first | done | rfl) ?_ | refine wt_fn (by (simp only [go_sem]); first | done | rfl) (ih (by omega) _) (by (simp only [go_sem]); first | done | rfl) (by (simp only [go_sem]); first | done | rfl) ?_); (simp only [go_sem])
      (refine hR _ (ret_at [] (by (simp only [go_sem]); first | done | rfl) (by (simp only [go_sem]); first | done | rfl) ⟨?_, ?_⟩))
      · rfl
      · rfl
    clear ih
    refine fn_in ?_; refine acl_in Try.func175 rfl isfn_175 (Nat.le_of_ble_eq_true rfl) (fun R hR => ?_); rw [Try.results175] at hR; refine wg_run ?_; (simp only [Try.f175, go_sem])
    repeat' (first | (first | (simp only [go_sem, hd]) | ((first | refine wd_split _ (fun hb => ?_) (fun hb => ?_) | refine wd_nwant _ (fun hb => ?_) (fun hb => ?_) | refine wm_nwant _ (fun hb => ?_) (fun hb => ?_) | refine wd_want _ (fun hb => ?_) (fun hb => ?_) | refine wm_want _ (fun hb => ?_) (fun hb => ?_) | refine wt_nwant _ (fun hb => ?_) (fun hb => ?_) | refine wt_want _ (fun hb => ?_) (fun hb => ?_)) <;> (simp only [go_sem, hb, hd])) | (refine wm_done ?_; (simp only [go_sem, hd])) | (refine wt_done ?_; (simp only [go_sem, hd])) | (refine wg_run ?_; (simp only [go_sem, hd])) | (refine wt_fork (by (simp only [go_sem]); first | done | rfl) ?_ ?_ <;> (simp only [go_sem, hd]))) | (first | refine wd_cl [1] (by (simp only [go_sem]); first | done | rfl) (hc (by have := beq_iff_eq.1 hb; omega)) ?_ | refine wm_cl [1] (by (simp only [go_sem]); first | done | rfl) (hc (by have := beq_iff_eq.1 hb; omega)) (by (simp only [go_sem]); first | done | rfl) (by (simp only [go_sem]); first | done | rfl) ?_ | refine wt_cl [1] (by (simp only [go_sem]); first | done | rfl) (hc (by have := beq_iff_eq.1 hb; omega)) (by (simp only [go_sem]); first | done | rfl) (by (simp only [go_sem]); first | done | rfl) ?_); rintro _ _ ⟨rfl, rfl⟩; (simp only [go_sem]))
    all_goals (refine hR _ (ret_at [] (by (simp only [go_sem]); first | done | rfl) (by (simp only [go_sem]); first | done | rfl) ⟨?_, rfl⟩))
    all_goals clear hR hc
    all_goals simp_all [Ty.shape, kidsN, List.all_eq_not_any_not]
theorem iValid (t : Ty) : AFn Try.prog 148 [.agg (tyC t)] (.one (.sc (.bool t.valid))) := by
  refine fn_in ?_; refine acl_in Try.func148 rfl isfn_148 (Nat.le_of_ble_eq_true rfl) (fun R hR => ?_); rw [Try.results148] at hR; refine wg_run ?_; (simp only [Try.f148, go_sem])
  (first | refine wd_fn (by (simp only [go_sem]); first | done | rfl) (iScan 4 (by omega) _) ?_ | refine wm_fn (by (simp only [go_sem]); first | done | rfl) (iScan 4 (by omega) _) (by (simp only [go_sem]); first | done | rfl) (by (simp only [go_sem]); first | done | rfl) ?_ | refine wt_fn (by (simp only [go_sem]); first | done | rfl) (iScan 4 (by omega) _) (by (simp only [go_sem]); first | done | rfl) (by (simp only [go_sem]); first | done | rfl) ?_); (simp only [go_sem])
  (refine hR _ (ret_at [] (by (simp only [go_sem]); first | done | rfl) (by (simp only [go_sem]); first | done | rfl) ⟨?_, rfl⟩))
  rfl
theorem Ty.valid_16 {t : Ty} (h : t.valid = true) : t.size < 16 := by
  obtain ⟨x, rfl, hx⟩ := (Ty.valid_iff t).1 h
  rw [T.ty_size]
  have : ∀ (x : T) (d : Nat), x.depth ≤ d → d ≤ 4 → x.size < 2 ^ d := by
    intro x
    induction x with
    | any | int | bool => intro d h1 h2; simp only [T.depth, T.size] at *; exact Nat.one_lt_two_pow (by omega)
    | fn a b iha ihb | pr a b iha ihb =>
      intro d h1 h2
      simp only [T.depth, T.size] at *
      obtain ⟨d, rfl⟩ : ∃ e, d = e + 1 := ⟨d - 1, by omega⟩
      have := iha d (by omega) (by omega); have := ihb d (by omega) (by omega)
      rw [Nat.pow_succ]; omega
  have := this x 4 hx (Nat.le_refl _)
  omega
theorem Ty.valid_size {t : Ty} (h : t.valid = true) : t.size < 4611686018427387904 := by have := Ty.valid_16 h; omega
-- written by gen_on.py
theorem iConsistent (a b : Ty) : AFn Try.prog 150 [.agg (tyC a), .agg (tyC b)] (.one (.sc (.bool (onT T.cons a b)))) := by
  have va := iValid a
  have vb := iValid b
  by_cases ha : a.valid = true
  · rw [ha] at va
    by_cases hb' : b.valid = true
    · rw [hb'] at vb
      have hf := fun (x y : T) (e1 : x.ty = a) (e2 : y.ty = b) => by have h := iCons _ (Nat.le_refl _) a b (Ty.valid_size ha); rw [← e1, ← e2, T.cons_ty] at h; exact h
      obtain ⟨x, rfl, hx⟩ := (Ty.valid_iff a).1 ha
      obtain ⟨y, rfl, hy⟩ := (Ty.valid_iff b).1 hb'
      have hf := hf x y rfl rfl
      rw [onT_ty _ hx hy]
      clear ha hb'
      refine fn_in ?_; refine acl_in Try.func150 rfl isfn_150 (Nat.le_of_ble_eq_true rfl) (fun R hR => ?_); rw [Try.results150] at hR; refine wg_run ?_; (simp only [Try.f150, go_sem])
      repeat' (first | (first | ((first | refine wd_split _ (fun hb => ?_) (fun hb => ?_) | refine wd_nwant _ (fun hb => ?_) (fun hb => ?_) | refine wm_nwant _ (fun hb => ?_) (fun hb => ?_) | refine wd_want _ (fun hb => ?_) (fun hb => ?_) | refine wm_want _ (fun hb => ?_) (fun hb => ?_) | refine wt_nwant _ (fun hb => ?_) (fun hb => ?_) | refine wt_want _ (fun hb => ?_) (fun hb => ?_)) <;> (simp only [go_sem, hb])) | (refine wm_done ?_; (simp only [go_sem])) | (refine wt_done ?_; (simp only [go_sem])) | (refine wg_run ?_; (simp only [go_sem])) | (refine wt_fork (by (simp only [go_sem]); first | done | rfl) ?_ ?_ <;> (simp only [go_sem]))) | (first | refine wd_fn (by (simp only [go_sem]); first | done | rfl) (va) ?_ | refine wm_fn (by (simp only [go_sem]); first | done | rfl) (va) (by (simp only [go_sem]); first | done | rfl) (by (simp only [go_sem]); first | done | rfl) ?_ | refine wt_fn (by (simp only [go_sem]); first | done | rfl) (va) (by (simp only [go_sem]); first | done | rfl) (by (simp only [go_sem]); first | done | rfl) ?_); (simp only [go_sem]) | (first | refine wd_fn (by (simp only [go_sem]); first | done | rfl) (vb) ?_ | refine wm_fn (by (simp only [go_sem]); first | done | rfl) (vb) (by (simp only [go_sem]); first | done | rfl) (by (simp only [go_sem]); first | done | rfl) ?_ | refine wt_fn (by (simp only [go_sem]); first | done | rfl) (vb) (by (simp only [go_sem]); first | done | rfl) (by (simp only [go_sem]); first | done | rfl) ?_); (simp only [go_sem]) | (first | refine wd_fn (by (simp only [go_sem]); first | done | rfl) (hf) ?_ | refine wm_fn (by (simp only [go_sem]); first | done | rfl) (hf) (by (simp only [go_sem]); first | done | rfl) (by (simp only [go_sem]); first | done | rfl) ?_ | refine wt_fn (by (simp only [go_sem]); first | done | rfl) (hf) (by (simp only [go_sem]); first | done | rfl) (by (simp only [go_sem]); first | done | rfl) ?_); (simp only [go_sem]) | ((first | refine wd_mix 6 [] follows (by decide +kernel) (by (simp only [go_sem]); first | done | rfl) ?_ | refine wd_mix 5 [] follows (by decide +kernel) (by (simp only [go_sem]); first | done | rfl) ?_ | refine wd_mix 4 [] follows (by decide +kernel) (by (simp only [go_sem]); first | done | rfl) ?_ | refine wd_mix 3 [] follows (by decide +kernel) (by (simp only [go_sem]); first | done | rfl) ?_ | refine wd_mix 2 [] follows (by decide +kernel) (by (simp only [go_sem]); first | done | rfl) ?_ | refine wd_mix 1 [] follows (by decide +kernel) (by (simp only [go_sem]); first | done | rfl) ?_ | refine wd_mix 0 [] follows (by decide +kernel) (by (simp only [go_sem]); first | done | rfl) ?_ | fail); (simp only [go_sem])))
      all_goals (refine hR _ (ret_at [] (by (simp only [go_sem]); first | done | rfl) (by (simp only [go_sem]); first | done | rfl) ⟨rfl, rfl⟩))
    · rw [Bool.not_eq_true] at hb'
      rw [onT_off _ (by simp [hb'])]
      rw [hb'] at vb
      clear ha hb'
      refine fn_in ?_; refine acl_in Try.func150 rfl isfn_150 (Nat.le_of_ble_eq_true rfl) (fun R hR => ?_); rw [Try.results150] at hR; refine wg_run ?_; (simp only [Try.f150, go_sem])
      repeat' (first | (first | ((first | refine wd_split _ (fun hb => ?_) (fun hb => ?_) | refine wd_nwant _ (fun hb => ?_) (fun hb => ?_) | refine wm_nwant _ (fun hb => ?_) (fun hb => ?_) | refine wd_want _ (fun hb => ?_) (fun hb => ?_) | refine wm_want _ (fun hb => ?_) (fun hb => ?_) | refine wt_nwant _ (fun hb => ?_) (fun hb => ?_) | refine wt_want _ (fun hb => ?_) (fun hb => ?_)) <;> (simp only [go_sem, hb])) | (refine wm_done ?_; (simp only [go_sem])) | (refine wt_done ?_; (simp only [go_sem])) | (refine wg_run ?_; (simp only [go_sem])) | (refine wt_fork (by (simp only [go_sem]); first | done | rfl) ?_ ?_ <;> (simp only [go_sem]))) | (first | refine wd_fn (by (simp only [go_sem]); first | done | rfl) (va) ?_ | refine wm_fn (by (simp only [go_sem]); first | done | rfl) (va) (by (simp only [go_sem]); first | done | rfl) (by (simp only [go_sem]); first | done | rfl) ?_ | refine wt_fn (by (simp only [go_sem]); first | done | rfl) (va) (by (simp only [go_sem]); first | done | rfl) (by (simp only [go_sem]); first | done | rfl) ?_); (simp only [go_sem]) | (first | refine wd_fn (by (simp only [go_sem]); first | done | rfl) (vb) ?_ | refine wm_fn (by (simp only [go_sem]); first | done | rfl) (vb) (by (simp only [go_sem]); first | done | rfl) (by (simp only [go_sem]); first | done | rfl) ?_ | refine wt_fn (by (simp only [go_sem]); first | done | rfl) (vb) (by (simp only [go_sem]); first | done | rfl) (by (simp only [go_sem]); first | done | rfl) ?_); (simp only [go_sem]) | ((first | refine wd_mix 6 [] follows (by decide +kernel) (by (simp only [go_sem]); first | done | rfl) ?_ | refine wd_mix 5 [] follows (by decide +kernel) (by (simp only [go_sem]); first | done | rfl) ?_ | refine wd_mix 4 [] follows (by decide +kernel) (by (simp only [go_sem]); first | done | rfl) ?_ | refine wd_mix 3 [] follows (by decide +kernel) (by (simp only [go_sem]); first | done | rfl) ?_ | refine wd_mix 2 [] follows (by decide +kernel) (by (simp only [go_sem]); first | done | rfl) ?_ | refine wd_mix 1 [] follows (by decide +kernel) (by (simp only [go_sem]); first | done | rfl) ?_ | refine wd_mix 0 [] follows (by decide +kernel) (by (simp only [go_sem]); first | done | rfl) ?_ | fail); (simp only [go_sem])))
      all_goals (refine hR _ (ret_at [] (by (simp only [go_sem]); first | done | rfl) (by (simp only [go_sem]); first | done | rfl) ⟨rfl, rfl⟩))
  · rw [Bool.not_eq_true] at ha
    rw [onT_off _ (by simp [ha])]
    rw [ha] at va
    clear ha
    refine fn_in ?_; refine acl_in Try.func150 rfl isfn_150 (Nat.le_of_ble_eq_true rfl) (fun R hR => ?_); rw [Try.results150] at hR; refine wg_run ?_; (simp only [Try.f150, go_sem])
    repeat' (first | (first | ((first | refine wd_split _ (fun hb => ?_) (fun hb => ?_) | refine wd_nwant _ (fun hb => ?_) (fun hb => ?_) | refine wm_nwant _ (fun hb => ?_) (fun hb => ?_) | refine wd_want _ (fun hb => ?_) (fun hb => ?_) | refine wm_want _ (fun hb => ?_) (fun hb => ?_) | refine wt_nwant _ (fun hb => ?_) (fun hb => ?_) | refine wt_want _ (fun hb => ?_) (fun hb => ?_)) <;> (simp only [go_sem, hb])) | (refine wm_done ?_; (simp only [go_sem])) | (refine wt_done ?_; (simp only [go_sem])) | (refine wg_run ?_; (simp only [go_sem])) | (refine wt_fork (by (simp only [go_sem]); first | done | rfl) ?_ ?_ <;> (simp only [go_sem]))) | (first | refine wd_fn (by (simp only [go_sem]); first | done | rfl) (va) ?_ | refine wm_fn (by (simp only [go_sem]); first | done | rfl) (va) (by (simp only [go_sem]); first | done | rfl) (by (simp only [go_sem]); first | done | rfl) ?_ | refine wt_fn (by (simp only [go_sem]); first | done | rfl) (va) (by (simp only [go_sem]); first | done | rfl) (by (simp only [go_sem]); first | done | rfl) ?_); (simp only [go_sem]) | ((first | refine wd_mix 6 [] follows (by decide +kernel) (by (simp only [go_sem]); first | done | rfl) ?_ | refine wd_mix 5 [] follows (by decide +kernel) (by (simp only [go_sem]); first | done | rfl) ?_ | refine wd_mix 4 [] follows (by decide +kernel) (by (simp only [go_sem]); first | done | rfl) ?_ | refine wd_mix 3 [] follows (by decide +kernel) (by (simp only [go_sem]); first | done | rfl) ?_ | refine wd_mix 2 [] follows (by decide +kernel) (by (simp only [go_sem]); first | done | rfl) ?_ | refine wd_mix 1 [] follows (by decide +kernel) (by (simp only [go_sem]); first | done | rfl) ?_ | refine wd_mix 0 [] follows (by decide +kernel) (by (simp only [go_sem]); first | done | rfl) ?_ | fail); (simp only [go_sem])))
    all_goals (refine hR _ (ret_at [] (by (simp only [go_sem]); first | done | rfl) (by (simp only [go_sem]); first | done | rfl) ⟨rfl, rfl⟩))
-- end
end Go.Proofs.Ytnaebafafhamjaa
/- Numbers and labels, on shadows. -/
namespace Go.Proofs.Ytnaebafafhamjaa
open Go.RowKit Go.Proofs.Sh Go.Proofs.Grad
set_option maxRecDepth 100000
set_option maxHeartbeats 4000000
theorem within (n lo hi : Int) : AFn Try.prog 103 [.one (.sc (.int .i64 n)), .one (.sc (.int .i64 lo)), .one (.sc (.int .i64 hi))] (.one (.sc (.bool (decide (lo ≤ n) && decide (n ≤ hi))))) := by
  refine fn_in ?_; refine acl_in Try.func103 rfl isfn_103 (Nat.le_of_ble_eq_true rfl) (fun R hR => ?_); rw [Try.results103] at hR; refine wg_run ?_; (simp only [Try.f103, go_sem])
  repeat' (first | ((first | refine wd_split _ (fun hb => ?_) (fun hb => ?_) | refine wd_nwant _ (fun hb => ?_) (fun hb => ?_) | refine wm_nwant _ (fun hb => ?_) (fun hb => ?_) | refine wd_want _ (fun hb => ?_) (fun hb => ?_) | refine wm_want _ (fun hb => ?_) (fun hb => ?_) | refine wt_nwant _ (fun hb => ?_) (fun hb => ?_) | refine wt_want _ (fun hb => ?_) (fun hb => ?_)) <;> (simp only [go_sem, hb])) | (refine wm_done ?_; (simp only [go_sem])) | (refine wt_done ?_; (simp only [go_sem])) | (refine wg_run ?_; (simp only [go_sem])) | (refine wt_fork (by (simp only [go_sem]); first | done | rfl) ?_ ?_ <;> (simp only [go_sem])))
  all_goals (refine hR _ (ret_at [] (by (simp only [go_sem]); first | done | rfl) (by (simp only [go_sem]); first | done | rfl) ⟨?_, rfl⟩))
  all_goals simp [hb]
theorem isLabel (n : Int) : AFn Try.prog 151 [.one (.sc (.int .i64 n))] (.one (.sc (.bool (lab n)))) := by
  refine fn_in ?_; refine acl_in Try.func151 rfl isfn_151 (Nat.le_of_ble_eq_true rfl) (fun R hR => ?_); rw [Try.results151] at hR; refine wg_run ?_; (simp only [Try.f151, go_sem])
  repeat' (first | (first | ((first | refine wd_split _ (fun hb => ?_) (fun hb => ?_) | refine wd_nwant _ (fun hb => ?_) (fun hb => ?_) | refine wm_nwant _ (fun hb => ?_) (fun hb => ?_) | refine wd_want _ (fun hb => ?_) (fun hb => ?_) | refine wm_want _ (fun hb => ?_) (fun hb => ?_) | refine wt_nwant _ (fun hb => ?_) (fun hb => ?_) | refine wt_want _ (fun hb => ?_) (fun hb => ?_)) <;> (simp only [go_sem, hb])) | (refine wm_done ?_; (simp only [go_sem])) | (refine wt_done ?_; (simp only [go_sem])) | (refine wg_run ?_; (simp only [go_sem])) | (refine wt_fork (by (simp only [go_sem]); first | done | rfl) ?_ ?_ <;> (simp only [go_sem]))) | (first | refine wd_fn (by (simp only [go_sem]); first | done | rfl) (within _ _ _) ?_ | refine wm_fn (by (simp only [go_sem]); first | done | rfl) (within _ _ _) (by (simp only [go_sem]); first | done | rfl) (by (simp only [go_sem]); first | done | rfl) ?_ | refine wt_fn (by (simp only [go_sem]); first | done | rfl) (within _ _ _) (by (simp only [go_sem]); first | done | rfl) (by (simp only [go_sem]); first | done | rfl) ?_); (simp only [go_sem]))
  all_goals (refine hR _ (ret_at [] (by (simp only [go_sem]); first | done | rfl) (by (simp only [go_sem]); first | done | rfl) ⟨?_, rfl⟩))
  all_goals simp_all [lab]
  all_goals (intros; omega)
/-- the absolute value of a label, 0 for none -/
def labN (n : Int) : Int := if n < -99 ∨ n > 99 then 0 else if n < 0 then -n else n
theorem l1Abs (n : Int) : AFn Try.prog 169 [.one (.sc (.int .i64 n))] (.one (.sc (.int .i64 (labN n)))) := by
  by_cases h1 : n < -99
  · have d1 : decide (n < -99) = true := by simp; omega
    have e : labN n = 0 := by unfold labN; rw [if_pos (by omega)]
    rw [e]
    refine fn_in ?_; refine acl_in Try.func169 rfl isfn_169 (Nat.le_of_ble_eq_true rfl) (fun R hR => ?_); rw [Try.results169] at hR; refine wg_run ?_; (simp only [Try.f169, go_sem, d1])
    (refine hR _ (ret_at [] (by (simp only [go_sem]); first | done | rfl) (by (simp only [go_sem]); first | done | rfl) ⟨rfl, rfl⟩))
  · have d1 : decide (n < -99) = false := by simp; omega
    by_cases h2 : n > 99
    · have d2 : decide (n > 99) = true := by simp; omega
      have e : labN n = 0 := by unfold labN; rw [if_pos (by omega)]
      rw [e]
      refine fn_in ?_; refine acl_in Try.func169 rfl isfn_169 (Nat.le_of_ble_eq_true rfl) (fun R hR => ?_); rw [Try.results169] at hR; refine wg_run ?_; (simp only [Try.f169, go_sem, d1, d2])
      (refine hR _ (ret_at [] (by (simp only [go_sem]); first | done | rfl) (by (simp only [go_sem]); first | done | rfl) ⟨rfl, rfl⟩))
    · have d2 : decide (n > 99) = false := by simp; omega
      have hw : IntKind.i64.wrap (0 - n) = -n := by rw [IntWalk.i64_in _ (by omega)]; omega
      by_cases h3 : n < 0
      · have d3 : decide (n < 0) = true := by simp; omega
        have e : labN n = -n := by unfold labN; rw [if_neg (by omega), if_pos h3]
        rw [e]
        refine fn_in ?_; refine acl_in Try.func169 rfl isfn_169 (Nat.le_of_ble_eq_true rfl) (fun R hR => ?_); rw [Try.results169] at hR; refine wg_run ?_; (simp only [Try.f169, go_sem, d1, d2, d3, hw])
        (refine hR _ (ret_at [] (by (simp only [go_sem]); first | done | rfl) (by (simp only [go_sem]); first | done | rfl) ⟨rfl, rfl⟩))
      · have d3 : decide (n < 0) = false := by simp; omega
        have e : labN n = n := by unfold labN; rw [if_neg (by omega), if_neg h3]
        rw [e]
        refine fn_in ?_; refine acl_in Try.func169 rfl isfn_169 (Nat.le_of_ble_eq_true rfl) (fun R hR => ?_); rw [Try.results169] at hR; refine wg_run ?_; (simp only [Try.f169, go_sem, d1, d2, d3])
        (refine hR _ (ret_at [] (by (simp only [go_sem]); first | done | rfl) (by (simp only [go_sem]); first | done | rfl) ⟨rfl, rfl⟩))
end Go.Proofs.Ytnaebafafhamjaa
