/- Texts of the proof, one behind another. -/
import Derived.Test.YtkkijdlgmlffoaaProg
import Derived.Test.YtkkijdlgmlffoaaKW7
set_option linter.unusedSimpArgs false
set_option linter.unusedVariables false
/- Rules for walking functions on shadows. -/
namespace Go.Proofs.Sh
open Go.RowKit

section
variable {P : Program} {N : Nat} {R : ASt → Prop}

/-- a function that reads its arguments' trees and yields a value -/
structure AFn (P : Program) (f : FuncId) (args : List AV) (r : AV) : Prop where
  out : ACall P f args [] (fun r' H' => r' = r ∧ H' = [])
/-- a function that ends as K says -/
structure ACl (P : Program) (f : FuncId) (args : List AV) (H : List Blk) (K : AV → List Blk → Prop) : Prop where
  out : ACall P f args H K
/-- a run outside of regions that draw their order; within one; code ahead -/
structure WD (P : Program) (N : Nat) (R : ASt → Prop) (o : Out) : Prop where
  out : ADis P N R o
structure WM (P : Program) (N : Nat) (c : MC) (R : ASt → Prop) (k : List Item) (o : MOut) : Prop where
  out : MDis P N c (AGo P N R k) o
structure WT (P : Program) (N : Nat) (c : MC) (R : ASt → Prop) (k : List Item) (o : TOut) : Prop where
  out : TDis P N c (AGo P N R k) o
structure WG (P : Program) (N : Nat) (R : ASt → Prop) (k : List Item) (s : ASt) : Prop where
  out : AGo P N R k .normal s

theorem wg_run {s : ASt} {k : List Item} (h : WD P N R (arun P 4000 k s)) : WG P N R k s := ⟨arun_sound 4000 _ _ h.out⟩
@[go_sem] theorem wd_ret (s : ASt) : WD P N R (.ret s) = R s := propext ⟨fun h => h.out, fun h => ⟨h⟩⟩
@[go_sem] theorem wd_goal (I : ASt → Prop) (s : ASt) : WD P N R (.goal I s) = I s := propext ⟨fun h => h.out, fun h => ⟨h⟩⟩
theorem wd_split {n : Nat} (b : Bool) {x y : List Item} {s : ASt} (h1 : b = true → WD P N R (arun P n x s)) (h2 : b = false → WD P N R (arun P n y s)) : WD P N R (abr P n b x y s) := by
  cases b
  · rw [abr]; exact h2 rfl
  · rw [abr]; exact h1 rfl
theorem wd_want {n : Nat} (b : Bool) {o : Oper} {l all : List Oper} {k : List Item} {s : ASt} (h1 : b = true → WD P N R (awant P n (some true) o l all k s)) (h2 : b = false → WD P N R (awant P n (some false) o l all k s)) : WD P N R (awant P n (some b) o l all k s) := by
  cases b
  · exact h2 rfl
  · exact h1 rfl
theorem wd_nwant {n : Nat} (b : Bool) {o : Oper} {l all : List Oper} {k : List Item} {s : ASt} (h1 : b = true → WD P N R (awant P n (some false) o l all k s)) (h2 : b = false → WD P N R (awant P n (some true) o l all k s)) : WD P N R (awant P n (some !b) o l all k s) := by
  cases b
  · exact h2 rfl
  · exact h1 rfl
theorem wm_want {c : MC} {k : List Item} (b : Bool) {o : Oper} {l : List Oper} {U : List Nat} {ok : Bool} {s : ASt} (h1 : b = true → WM P N c R k (mwant P c (some true) o l U ok s)) (h2 : b = false → WM P N c R k (mwant P c (some false) o l U ok s)) : WM P N c R k (mwant P c (some b) o l U ok s) := by
  cases b
  · exact h2 rfl
  · exact h1 rfl
theorem wm_nwant {c : MC} {k : List Item} (b : Bool) {o : Oper} {l : List Oper} {U : List Nat} {ok : Bool} {s : ASt} (h1 : b = true → WM P N c R k (mwant P c (some false) o l U ok s)) (h2 : b = false → WM P N c R k (mwant P c (some true) o l U ok s)) : WM P N c R k (mwant P c (some !b) o l U ok s) := by
  cases b
  · exact h2 rfl
  · exact h1 rfl
theorem wt_want {c : MC} {k : List Item} (b : Bool) {o : Oper} {f : Bool} {l : MT} {U : List Nat × List Nat} {ok : Bool} {s : ASt} (h1 : b = true → WT P N c R k (twantT P c (some true) o f l U ok s)) (h2 : b = false → WT P N c R k (twantT P c (some false) o f l U ok s)) : WT P N c R k (twantT P c (some b) o f l U ok s) := by
  cases b
  · exact h2 rfl
  · exact h1 rfl
theorem wt_nwant {c : MC} {k : List Item} (b : Bool) {o : Oper} {f : Bool} {l : MT} {U : List Nat × List Nat} {ok : Bool} {s : ASt} (h1 : b = true → WT P N c R k (twantT P c (some false) o f l U ok s)) (h2 : b = false → WT P N c R k (twantT P c (some true) o f l U ok s)) : WT P N c R k (twantT P c (some !b) o f l U ok s) := by
  cases b
  · exact h2 rfl
  · exact h1 rfl
@[go_sem] theorem abr_not {n : Nat} (b : Bool) {x y : List Item} {s : ASt} : abr P n (!b) x y s = abr P n b y x s := by
  cases b <;> simp [abr]
theorem int_bne (x y : Int) : (x != y) = !(x == y) := rfl
@[go_sem] theorem isEmpty_nil {α : Type} : (#[] : Array α).isEmpty = true := rfl
@[go_sem] theorem wrap_in {n : Int} (h1 : -9223372036854775808 ≤ n) (h2 : n ≤ 9223372036854775807) : IntKind.i64.wrap n = n := IntWalk.i64_in _ (by omega)
attribute [go_sem] Int.cast_ofNat_Int cond_true cond_false beq_true beq_false Bool.not_not Int.natCast_zero List.toList_toArray

/-- A function's contract, from a run of its body; R: what is asked at the end. -/
theorem acl_in {f : FuncId} {fn : Func} {c : Code} {args : List AV} {H : List Blk} {K : AV → List Blk → Prop} (hf : P.funcs[f]? = some fn) (hb : fn.body = some c) (hfn : IsFn P f) (hn : args.length ≤ fn.ntmps)
    (h : ∀ R : ASt → Prop, (∀ s, ARet P fn.results.toList H.length K s → R s) → WG P H.length R [.code c] ⟨fn.ntmps, slots 0 args, H⟩) : ACl P f args H K :=
  ⟨acall_of hf hb hfn hn (h _ (fun _ h => h)).out⟩
theorem fn_in {f : FuncId} {args : List AV} {r : AV} (h : ACl P f args [] (fun r' H' => r' = r ∧ H' = [])) : AFn P f args r := ⟨h.out⟩
theorem AFn.cl {f : FuncId} {args : List AV} {r : AV} (h : AFn P f args r) : ACl P f args [] (fun r' H' => r' = r ∧ H' = []) := ⟨h.out⟩
theorem ACl.mono {f : FuncId} {args : List AV} {H : List Blk} {K K' : AV → List Blk → Prop} (h : ACl P f args H K) (hk : ∀ r H', K r H' → K' r H') : ACl P f args H K' := ⟨h.out.mono hk⟩

/-- a loop: the state at each round's head is (V x, H x), for an x of which I holds -/
theorem wd_for {σ : Type} {c : Code} {n0 : Nat} {t0 : List (Nat × AV)} {b0 : List Blk} {k : List Item} (l : List Nat) (V : σ → List AV) (H : σ → List Blk) (I : σ → Prop) (m : σ → Nat) (x0 : σ) (hI : I x0) (h0 : AHead N l (fun vs h => vs = V x0 ∧ h = H x0) ⟨n0, t0, b0⟩)
    (hr : ∀ x, I x → ∀ G : ASt → Prop, (∀ x' t h, I x' → m x' < m x → AHead N l (fun vs h => vs = V x' ∧ h = H x') ⟨n0, t, h⟩ → G ⟨n0, t, h⟩) → WG P N R (.code c :: .goal G :: k) ⟨n0, zipT l (V x), H x⟩) : WD P N R (.loop c k ⟨n0, t0, b0⟩) := by
  refine ⟨?_⟩
  show AGo P N R (.code (.loop c) :: k) .normal ⟨n0, t0, b0⟩
  intro X μ0 hh0 w0 μ a w hF hT
  refine wp_loop_rel (fun n a w => ∃ μ x, I x ∧ SimF X μ ⟨n0, zipT l (V x), H x⟩ a w ∧ StpN N μ0 hh0 w0 μ (H x) w ∧ m x = n) ?_ ?_
  · obtain ⟨μ', vs, K, ⟨rfl, rfl⟩, q2, q3⟩ := head_sound hF hT h0
    exact ⟨_, μ', x0, hI, q2, q3, rfl⟩
  · intro n a w ⟨μ, x, hI, hF, hT, hm⟩
    refine Code.wp_mono ?_ ((hr x hI (fun s' => s'.n = n0 ∧ ∃ x', I x' ∧ m x' < m x ∧ AHead N l (fun vs h => vs = V x' ∧ h = H x') s') (fun x' t h h2 h3 h4 => ⟨rfl, x', h2, h3, h4⟩)).out X μ0 hh0 w0 μ a w hF hT)
    intro e a' w' ⟨s', μ', q1, q2, q3⟩
    cases e with
    | normal =>
      obtain ⟨hn, x', hI', hlt, hh⟩ := q1
      obtain ⟨μ2, vs', K, ⟨rfl, rfl⟩, r2, r3⟩ := head_sound q2 q3 hh
      exact ⟨_, by rw [← hm]; exact hlt, μ2, x', hI', by rw [← hn]; exact r2, r3, rfl⟩
    | _ => exact ⟨s', μ', q1, q2, q3⟩

/-- a loop of few rounds, one after another -/
structure WL (P : Program) (N : Nat) (R : ASt → Prop) (c : Code) (k : List Item) (n : Nat) (s : ASt) : Prop where
  out : ALoop P N R c k n s
theorem wd_rounds (n : Nat) {c : Code} {k : List Item} {s : ASt} (h : WL P N R c k n s) : WD P N R (.loop c k s) := ⟨go_rounds n h.out⟩
theorem wl_next {n : Nat} {c : Code} {k : List Item} {s : ASt} (h : WG P N R (.code c :: .goal (WL P N R c k n) :: k) s) : WL P N R c k (n + 1) s := by
  refine ⟨?_⟩
  have e : (WL P N R c k n) = ALoop P N R c k n := by funext s'; exact propext ⟨fun h => h.out, fun h => ⟨h⟩⟩
  rw [e] at h
  exact h.out

theorem head_at {l : List Nat} {I : List AV → List Blk → Prop} {s : ASt} (ks : List Nat) {vs vs' : List AV} {K h1 : List Blk} (h : ASt.gets s.t l = some vs) (hp : prep false s.h (List.range N ++ ks) vs = some (vs', K, h1)) (hI : I vs' K) : AHead N l I s := by
  refine .inl ⟨ks, ?_⟩
  simp only [h, hp]
  exact hI
/-- .. all the own blocks are kept -/
theorem head_all {l : List Nat} {I : List AV → List Blk → Prop} {s : ASt} {vs : List AV} (h : ASt.gets s.t l = some vs) (hI : I vs s.h) : AHead N l I s := .inr ⟨vs, h, hI⟩
theorem ret_at {rs : List ResultVar} {K : AV → List Blk → Prop} {s : ASt} (ks : List Nat) {r r' : AV} {H h1 : List Blk} (h : aresult P s rs = some r) (hp : prep true s.h (List.range N ++ ks) [r] = some ([r'], H, h1)) (hK : K r' H) : ARet P rs N K s := by
  refine .inl ⟨ks, true, ?_⟩
  simp only [h, hp]
  exact hK
theorem ret_own {rs : List ResultVar} {K : AV → List Blk → Prop} {s : ASt} (ks : List Nat) {r r' : AV} {H h1 : List Blk} (h : aresult P s rs = some r) (hp : prep false s.h (List.range N ++ ks) [r] = some ([r'], H, h1)) (hK : K r' H) : ARet P rs N K s := by
  refine .inl ⟨ks, false, ?_⟩
  simp only [h, hp]
  exact hK
theorem ret_all {rs : List ResultVar} {K : AV → List Blk → Prop} {s : ASt} {r : AV} (h : aresult P s rs = some r) (hK : K r s.h) : ARet P rs N K s := .inr ⟨r, h, hK⟩
theorem calls_at {f : FuncId} {args : List AV} {h : List Blk} {K : AV → List Blk → Prop} (ks : List Nat) {args' : List AV} {H h1 : List Blk} {K' : AV → List Blk → Prop} (hp : prepC h ks args = some (args', H, h1)) (hc : ACall P f args' H K') (hK : ∀ r H', K' r H' → K (r.ren (back h1.length ks)) (merge h1 ks H')) : ∃ ks, ACalls P f args h ks K := ⟨ks, acalls_at ks hp hc hK⟩
theorem wrap_succ {k n : Nat} (h : k < n) (hn : n < 4611686018427387904) : IntKind.i64.wrap ((k : Int) + 1) = ((k + 1 : Nat) : Int) := by
  rw [IntWalk.i64_in _ (by omega)]; omega
/-- a call of a function that yields a value -/
theorem wd_fn {f : FuncId} {args : List AV} {h : List Blk} {d : Option Tmp} {k : List Item} {s : ASt} {args' : List AV} {h1 : List Blk} {r : AV} (hp : prep true h [] args = some (args', [], h1)) (hc : AFn P f args' r) (hK : WD P N R (arun P 4000 k (ASt.put ⟨s.n, s.t, merge h1 [] []⟩ d (r.ren (back h1.length []))))) : WD P N R (.call f args h d k s) :=
  ⟨calls_at [] (prepC_nil hp) hc.out (fun _ _ ⟨e1, e2⟩ => by subst e1 e2; exact arun_sound 4000 _ _ hK.out)⟩
theorem wm_fn {c : MC} {k : List Item} {f : FuncId} {args : List AV} {o : Oper} {l : List Oper} {U : List Nat} {ok : Bool} {s : ASt} {args' : List AV} {h1 : List Blk} {r : AV} (hp : prep true s.h [] args = some (args', [], h1)) (hc : AFn P f args' r) (hok : (ok || decide (l.length < c.f)) = true)
    (hmut : c.ms.all (fun b => match c.h0[b]? with | some k => k.st.isMut | none => false) = true)
    (hK : WM P N c R k (mrun P c l (addU o.dst U) ok (ASt.put ⟨s.n, s.t, merge h1 [] []⟩ o.dst (r.ren (back h1.length []))))) : WM P N c R k (.call f args o l U ok s) := by
  refine ⟨⟨[], by simpa using hok, ?_⟩⟩
  refine acalls_at [] (prepC_nil hp) hc.out ?_
  rintro _ _ ⟨rfl, rfl⟩
  simp only [List.all_nil, Bool.and_true]
  exact mrun_sound' hmut _ _ _ _ hK.out
/-- a call, in whatever way it ends -/
theorem wd_cl {f : FuncId} {args : List AV} {h : List Blk} {d : Option Tmp} {k : List Item} {s : ASt} (ks : List Nat) {args' : List AV} {H h1 : List Blk} {K' : AV → List Blk → Prop} (hp : prepC h ks args = some (args', H, h1)) (hc : ACl P f args' H K') (hK : ∀ r H', K' r H' → WD P N R (arun P 4000 k (ASt.put ⟨s.n, s.t, merge h1 ks H'⟩ d (r.ren (back h1.length ks))))) : WD P N R (.call f args h d k s) :=
  ⟨calls_at ks hp hc.out (fun r H' e => arun_sound 4000 _ _ (hK r H' e).out)⟩
theorem wm_cl {c : MC} {k : List Item} {f : FuncId} {args : List AV} {o : Oper} {l : List Oper} {U : List Nat} {ok : Bool} {s : ASt} (ks : List Nat) {args' : List AV} {H h1 : List Blk} {K' : AV → List Blk → Prop} (hp : prepC s.h ks args = some (args', H, h1)) (hc : ACl P f args' H K') (hok : ((ok && ks.all c.ms.contains) || decide (l.length < c.f)) = true)
    (hmut : c.ms.all (fun b => match c.h0[b]? with | some k => k.st.isMut | none => false) = true)
    (hK : ∀ r H', K' r H' → WM P N c R k (mrun P c l (addU o.dst U) (ok && ks.all c.ms.contains) (ASt.put ⟨s.n, s.t, merge h1 ks H'⟩ o.dst (r.ren (back h1.length ks))))) : WM P N c R k (.call f args o l U ok s) := by
  refine ⟨⟨ks, hok, ?_⟩⟩
  refine acalls_at ks hp hc.out ?_
  intro r H' e
  exact mrun_sound' hmut _ _ _ _ (hK r H' e).out
theorem wt_fn {c : MC} {k : List Item} {f : FuncId} {args : List AV} {o : Oper} {fin : Bool} {l : MT} {U : List Nat × List Nat} {ok : Bool} {s : ASt} {args' : List AV} {h1 : List Blk} {r : AV} (hp : prep true s.h [] args = some (args', [], h1)) (hc : AFn P f args' r) (hok : (ok || fin) = true)
    (hmut : c.ms.all (fun b => match c.h0[b]? with | some k => k.st.isMut | none => false) = true)
    (hK : WT P N c R k (trun P c l (addU o.dst U.1, U.2) ok (ASt.put ⟨s.n, s.t, merge h1 [] []⟩ o.dst (r.ren (back h1.length []))))) : WT P N c R k (.call f args o fin l U ok s) := by
  refine ⟨⟨[], by simpa using hok, ?_⟩⟩
  refine acalls_at [] (prepC_nil hp) hc.out ?_
  rintro _ _ ⟨rfl, rfl⟩
  simp only [List.all_nil, Bool.and_true]
  exact trun_sound' hmut _ _ _ _ hK.out
theorem wt_cl {c : MC} {k : List Item} {f : FuncId} {args : List AV} {o : Oper} {fin : Bool} {l : MT} {U : List Nat × List Nat} {ok : Bool} {s : ASt} (ks : List Nat) {args' : List AV} {H h1 : List Blk} {K' : AV → List Blk → Prop} (hp : prepC s.h ks args = some (args', H, h1)) (hc : ACl P f args' H K') (hok : ((ok && ks.all c.ms.contains) || fin) = true)
    (hmut : c.ms.all (fun b => match c.h0[b]? with | some k => k.st.isMut | none => false) = true)
    (hK : ∀ r H', K' r H' → WT P N c R k (trun P c l (addU o.dst U.1, U.2) (ok && ks.all c.ms.contains) (ASt.put ⟨s.n, s.t, merge h1 ks H'⟩ o.dst (r.ren (back h1.length ks))))) : WT P N c R k (.call f args o fin l U ok s) := by
  refine ⟨⟨ks, hok, ?_⟩⟩
  refine acalls_at ks hp hc.out ?_
  intro r H' e
  exact trun_sound' hmut _ _ _ _ (hK r H' e).out
/-- a call, by a law of its own of the caller's state -/
theorem wd_any {f : FuncId} {args : List AV} {h : List Blk} {d : Option Tmp} {k : List Item} {s : ASt} {ks : List Nat} {K' : AV → List Blk → Prop} (hc : ACalls P f args h ks K') (hK : ∀ r h', K' r h' → WD P N R (arun P 4000 k (ASt.put ⟨s.n, s.t, h'⟩ d r))) : WD P N R (.call f args h d k s) :=
  ⟨⟨ks, hc.mono fun r h' e => arun_sound 4000 _ _ (hK r h' e).out⟩⟩
theorem wm_any {c : MC} {k : List Item} {f : FuncId} {args : List AV} {o : Oper} {l : List Oper} {U : List Nat} {ok : Bool} {s : ASt} {ks : List Nat} {K' : AV → List Blk → Prop} (hc : ACalls P f args s.h ks K') (hok : ((ok && ks.all c.ms.contains) || decide (l.length < c.f)) = true)
    (hmut : c.ms.all (fun b => match c.h0[b]? with | some k => k.st.isMut | none => false) = true)
    (hK : ∀ r h', K' r h' → WM P N c R k (mrun P c l (addU o.dst U) (ok && ks.all c.ms.contains) (ASt.put ⟨s.n, s.t, h'⟩ o.dst r))) : WM P N c R k (.call f args o l U ok s) :=
  ⟨⟨ks, hok, hc.mono fun r h' e => mrun_sound' hmut _ _ _ _ (hK r h' e).out⟩⟩
theorem wt_fork {c : MC} {k : List Item} {i : Nat} {fin : Bool} {t u : MT} {U : List Nat × List Nat} {ok : Bool} {s : ASt} (hmut : c.ms.all (fun b => match c.h0[b]? with | some k => k.st.isMut | none => false) = true)
    (h1 : WT P N c R k (trun P c (.op i fin t) U ok s)) (h2 : WT P N c R k (trun P c u U ok s)) : WT P N c R k (.fork i fin t u U ok s) :=
  ⟨⟨trun_sound' hmut _ _ _ _ h1.out, trun_sound' hmut _ _ _ _ h2.out⟩⟩
theorem wd_tree {id : Nat} {l : List Oper} {k : List Item} {s : ASt} (T : MT) (ms : List Nat) (hm : P.follows .mixedOrders = true) (hB : treeOK loudOp readOp l.toArray T = true) (hmut : ms.all (fun b => match s.h[b]? with | some k => k.st.isMut | none => false) = true)
    (h : WT P N ⟨0, s.h, ms, l⟩ R k (trun P ⟨0, s.h, ms, l⟩ T ([], []) true s)) : WD P N R (.drawn id l k s) := ⟨go_tree T ms hm hB hmut h.out⟩
theorem wt_done {c : MC} {s : ASt} {k : List Item} (h : WD P N R (arun P 4000 k s)) : WT P N c R k (.done s) := ⟨arun_sound 4000 _ _ h.out⟩
/-- a region that draws its order; behind it -/
theorem wd_mix {id : Nat} {l : List Oper} {k : List Item} {s : ASt} (f : Nat) (ms : List Nat) (hm : P.follows .mixedOrders = true) (hB : mixOK loudOp readOp f l.toArray = true) (hmut : ms.all (fun b => match s.h[b]? with | some k => k.st.isMut | none => false) = true)
    (h : WM P N ⟨f, s.h, ms, l⟩ R k (mrun P ⟨f, s.h, ms, l⟩ l [] true s)) : WD P N R (.drawn id l k s) := ⟨go_mix f ms hm hB hmut h.out⟩
theorem wm_done {c : MC} {s : ASt} {k : List Item} (h : WD P N R (arun P 4000 k s)) : WM P N c R k (.done s) := ⟨arun_sound 4000 _ _ h.out⟩
/-! ### the same, with what a run of simp shows left out -/
theorem sp1 {n : Nat} {b : Bool} {x y : List Item} {s : ASt} (h1 : b = true → WD P N R (arun P n x s)) (h2 : b = false → WD P N R (arun P n y s)) : WD P N R (abr P n b x y s) := wd_split b h1 h2
theorem sp2 {n : Nat} {b : Bool} {o : Oper} {l all : List Oper} {k : List Item} {s : ASt} (h1 : b = true → WD P N R (awant P n (some false) o l all k s)) (h2 : b = false → WD P N R (awant P n (some true) o l all k s)) : WD P N R (awant P n (some !b) o l all k s) := wd_nwant b h1 h2
theorem sp3 {c : MC} {k : List Item} {b : Bool} {o : Oper} {l : List Oper} {U : List Nat} {ok : Bool} {s : ASt} (h1 : b = true → WM P N c R k (mwant P c (some false) o l U ok s)) (h2 : b = false → WM P N c R k (mwant P c (some true) o l U ok s)) : WM P N c R k (mwant P c (some !b) o l U ok s) := wm_nwant b h1 h2
theorem sp4 {n : Nat} {b : Bool} {o : Oper} {l all : List Oper} {k : List Item} {s : ASt} (h1 : b = true → WD P N R (awant P n (some true) o l all k s)) (h2 : b = false → WD P N R (awant P n (some false) o l all k s)) : WD P N R (awant P n (some b) o l all k s) := wd_want b h1 h2
theorem sp5 {c : MC} {k : List Item} {b : Bool} {o : Oper} {l : List Oper} {U : List Nat} {ok : Bool} {s : ASt} (h1 : b = true → WM P N c R k (mwant P c (some true) o l U ok s)) (h2 : b = false → WM P N c R k (mwant P c (some false) o l U ok s)) : WM P N c R k (mwant P c (some b) o l U ok s) := wm_want b h1 h2
theorem sp6 {c : MC} {k : List Item} {b : Bool} {o : Oper} {f : Bool} {l : MT} {U : List Nat × List Nat} {ok : Bool} {s : ASt} (h1 : b = true → WT P N c R k (twantT P c (some false) o f l U ok s)) (h2 : b = false → WT P N c R k (twantT P c (some true) o f l U ok s)) : WT P N c R k (twantT P c (some !b) o f l U ok s) := wt_nwant b h1 h2
theorem sp7 {c : MC} {k : List Item} {b : Bool} {o : Oper} {f : Bool} {l : MT} {U : List Nat × List Nat} {ok : Bool} {s : ASt} (h1 : b = true → WT P N c R k (twantT P c (some true) o f l U ok s)) (h2 : b = false → WT P N c R k (twantT P c (some false) o f l U ok s)) : WT P N c R k (twantT P c (some b) o f l U ok s) := wt_want b h1 h2
theorem fk {c : MC} {k : List Item} {i : Nat} {fin : Bool} {t u : MT} {U : List Nat × List Nat} {ok : Bool} {s : ASt} (h1 : WT P N c R k (trun P c (.op i fin t) U ok s)) (h2 : WT P N c R k (trun P c u U ok s)) (hmut : c.ms.all (fun b => match c.h0[b]? with | some k => k.st.isMut | none => false) = true := by simp only [go_sem]; first | done | rfl) : WT P N c R k (.fork i fin t u U ok s) :=
  wt_fork hmut h1 h2
theorem cd {f : FuncId} {args : List AV} {h : List Blk} {d : Option Tmp} {k : List Item} {s : ASt} {args' : List AV} {h1 : List Blk} {r : AV} (hp : prep true h [] args = some (args', [], h1) := by simp only [go_sem]; first | done | rfl) (hc : AFn P f args' r) (hK : WD P N R (arun P 4000 k (ASt.put ⟨s.n, s.t, merge h1 [] []⟩ d (r.ren (back h1.length []))))) : WD P N R (.call f args h d k s) :=
  wd_fn hp hc hK
theorem cm {c : MC} {k : List Item} {f : FuncId} {args : List AV} {o : Oper} {l : List Oper} {U : List Nat} {ok : Bool} {s : ASt} {args' : List AV} {h1 : List Blk} {r : AV} (hp : prep true s.h [] args = some (args', [], h1) := by simp only [go_sem]; first | done | rfl) (hc : AFn P f args' r) (hok : (ok || decide (l.length < c.f)) = true := by simp only [go_sem]; first | done | rfl) (hmut : c.ms.all (fun b => match c.h0[b]? with | some k => k.st.isMut | none => false) = true := by simp only [go_sem]; first | done | rfl) (hK : WM P N c R k (mrun P c l (addU o.dst U) ok (ASt.put ⟨s.n, s.t, merge h1 [] []⟩ o.dst (r.ren (back h1.length []))))) : WM P N c R k (.call f args o l U ok s) :=
  wm_fn hp hc hok hmut hK
theorem ct {c : MC} {k : List Item} {f : FuncId} {args : List AV} {o : Oper} {fin : Bool} {l : MT} {U : List Nat × List Nat} {ok : Bool} {s : ASt} {args' : List AV} {h1 : List Blk} {r : AV} (hp : prep true s.h [] args = some (args', [], h1) := by simp only [go_sem]; first | done | rfl) (hc : AFn P f args' r) (hok : (ok || fin) = true := by simp only [go_sem]; first | done | rfl) (hmut : c.ms.all (fun b => match c.h0[b]? with | some k => k.st.isMut | none => false) = true := by simp only [go_sem]; first | done | rfl) (hK : WT P N c R k (trun P c l (addU o.dst U.1, U.2) ok (ASt.put ⟨s.n, s.t, merge h1 [] []⟩ o.dst (r.ren (back h1.length []))))) : WT P N c R k (.call f args o fin l U ok s) :=
  wt_fn hp hc hok hmut hK
theorem kd {f : FuncId} {args : List AV} {h : List Blk} {d : Option Tmp} {k : List Item} {s : ASt} (ks : List Nat) {args' : List AV} {H h1 : List Blk} {K' : AV → List Blk → Prop} (hp : prepC h ks args = some (args', H, h1) := by simp only [go_sem]; first | done | rfl) (hc : ACl P f args' H K') (hK : ∀ r H', K' r H' → WD P N R (arun P 4000 k (ASt.put ⟨s.n, s.t, merge h1 ks H'⟩ d (r.ren (back h1.length ks))))) : WD P N R (.call f args h d k s) :=
  wd_cl ks hp hc hK
theorem km {c : MC} {k : List Item} {f : FuncId} {args : List AV} {o : Oper} {l : List Oper} {U : List Nat} {ok : Bool} {s : ASt} (ks : List Nat) {args' : List AV} {H h1 : List Blk} {K' : AV → List Blk → Prop} (hp : prepC s.h ks args = some (args', H, h1) := by simp only [go_sem]; first | done | rfl) (hc : ACl P f args' H K') (hok : ((ok && ks.all c.ms.contains) || decide (l.length < c.f)) = true := by simp only [go_sem]; first | done | rfl) (hmut : c.ms.all (fun b => match c.h0[b]? with | some k => k.st.isMut | none => false) = true := by simp only [go_sem]; first | done | rfl) (hK : ∀ r H', K' r H' → WM P N c R k (mrun P c l (addU o.dst U) (ok && ks.all c.ms.contains) (ASt.put ⟨s.n, s.t, merge h1 ks H'⟩ o.dst (r.ren (back h1.length ks))))) : WM P N c R k (.call f args o l U ok s) :=
  wm_cl ks hp hc hok hmut hK
theorem kt {c : MC} {k : List Item} {f : FuncId} {args : List AV} {o : Oper} {fin : Bool} {l : MT} {U : List Nat × List Nat} {ok : Bool} {s : ASt} (ks : List Nat) {args' : List AV} {H h1 : List Blk} {K' : AV → List Blk → Prop} (hp : prepC s.h ks args = some (args', H, h1) := by simp only [go_sem]; first | done | rfl) (hc : ACl P f args' H K') (hok : ((ok && ks.all c.ms.contains) || fin) = true := by simp only [go_sem]; first | done | rfl) (hmut : c.ms.all (fun b => match c.h0[b]? with | some k => k.st.isMut | none => false) = true := by simp only [go_sem]; first | done | rfl) (hK : ∀ r H', K' r H' → WT P N c R k (trun P c l (addU o.dst U.1, U.2) (ok && ks.all c.ms.contains) (ASt.put ⟨s.n, s.t, merge h1 ks H'⟩ o.dst (r.ren (back h1.length ks))))) : WT P N c R k (.call f args o fin l U ok s) :=
  wt_cl ks hp hc hok hmut hK
theorem mx {id : Nat} {l : List Oper} {k : List Item} {s : ASt} (f : Nat) (ms : List Nat) (hm : P.follows .mixedOrders = true) (h : WM P N ⟨f, s.h, ms, l⟩ R k (mrun P ⟨f, s.h, ms, l⟩ l [] true s)) (hB : mixOK loudOp readOp f l.toArray = true := by decide +kernel) (hmut : ms.all (fun b => match s.h[b]? with | some k => k.st.isMut | none => false) = true := by simp only [go_sem]; first | done | rfl) : WD P N R (.drawn id l k s) :=
  wd_mix f ms hm hB hmut h
theorem tr {id : Nat} {l : List Oper} {k : List Item} {s : ASt} (T : MT) (ms : List Nat) (hm : P.follows .mixedOrders = true) (h : WT P N ⟨0, s.h, ms, l⟩ R k (trun P ⟨0, s.h, ms, l⟩ T ([], []) true s)) (hB : treeOK loudOp readOp l.toArray T = true := by decide +kernel) (hmut : ms.all (fun b => match s.h[b]? with | some k => k.st.isMut | none => false) = true := by simp only [go_sem]; first | done | rfl) : WD P N R (.drawn id l k s) :=
  wd_tree T ms hm hB hmut h
theorem hat {l : List Nat} {I : List AV → List Blk → Prop} {s : ASt} (ks : List Nat) {vs vs' : List AV} {K h1 : List Blk} (h : ASt.gets s.t l = some vs := by simp only [go_sem]; first | done | rfl) (hp : prep false s.h (List.range N ++ ks) vs = some (vs', K, h1) := by simp only [go_sem]; first | done | rfl) (hI : I vs' K) : AHead N l I s :=
  head_at ks h hp hI
theorem rat {rs : List ResultVar} {K : AV → List Blk → Prop} {s : ASt} (ks : List Nat) {r r' : AV} {H h1 : List Blk} (h : aresult P s rs = some r := by simp only [go_sem]; first | done | rfl) (hp : prep true s.h (List.range N ++ ks) [r] = some ([r'], H, h1) := by simp only [go_sem]; first | done | rfl) (hK : K r' H) : ARet P rs N K s :=
  ret_at ks h hp hK
theorem rwn {rs : List ResultVar} {K : AV → List Blk → Prop} {s : ASt} (ks : List Nat) {r r' : AV} {H h1 : List Blk} (h : aresult P s rs = some r := by simp only [go_sem]; first | done | rfl) (hp : prep false s.h (List.range N ++ ks) [r] = some ([r'], H, h1) := by simp only [go_sem]; first | done | rfl) (hK : K r' H) : ARet P rs N K s :=
  ret_own ks h hp hK
end
end Go.Proofs.Sh
namespace Go.Proofs.Sh
open Go.RowKit
section
variable {P : Program} {N : Nat} {R : ASt → Prop}
theorem cdq {f : FuncId} {args : List AV} {h : List Blk} {d : Option Tmp} {k : List Item} {s : ASt} {args' : List AV} {h1 : List Blk} {r : AV} (hK : WD P N R (arun P 4000 k (ASt.put ⟨s.n, s.t, merge h1 [] []⟩ d (r.ren (back h1.length []))))) (hp : prep true h [] args = some (args', [], h1) := by simp only [go_sem]; first | done | rfl) (hc : AFn P f args' r) : WD P N R (.call f args h d k s) :=
  wd_fn hp hc hK
theorem cmq {c : MC} {k : List Item} {f : FuncId} {args : List AV} {o : Oper} {l : List Oper} {U : List Nat} {ok : Bool} {s : ASt} {args' : List AV} {h1 : List Blk} {r : AV} (hK : WM P N c R k (mrun P c l (addU o.dst U) ok (ASt.put ⟨s.n, s.t, merge h1 [] []⟩ o.dst (r.ren (back h1.length []))))) (hp : prep true s.h [] args = some (args', [], h1) := by simp only [go_sem]; first | done | rfl) (hc : AFn P f args' r) (hok : (ok || decide (l.length < c.f)) = true := by simp only [go_sem]; first | done | rfl) (hmut : c.ms.all (fun b => match c.h0[b]? with | some k => k.st.isMut | none => false) = true := by simp only [go_sem]; first | done | rfl) : WM P N c R k (.call f args o l U ok s) :=
  wm_fn hp hc hok hmut hK
theorem ctq {c : MC} {k : List Item} {f : FuncId} {args : List AV} {o : Oper} {fin : Bool} {l : MT} {U : List Nat × List Nat} {ok : Bool} {s : ASt} {args' : List AV} {h1 : List Blk} {r : AV} (hK : WT P N c R k (trun P c l (addU o.dst U.1, U.2) ok (ASt.put ⟨s.n, s.t, merge h1 [] []⟩ o.dst (r.ren (back h1.length []))))) (hp : prep true s.h [] args = some (args', [], h1) := by simp only [go_sem]; first | done | rfl) (hc : AFn P f args' r) (hok : (ok || fin) = true := by simp only [go_sem]; first | done | rfl) (hmut : c.ms.all (fun b => match c.h0[b]? with | some k => k.st.isMut | none => false) = true := by simp only [go_sem]; first | done | rfl) : WT P N c R k (.call f args o fin l U ok s) :=
  wt_fn hp hc hok hmut hK
theorem kdq {f : FuncId} {args : List AV} {h : List Blk} {d : Option Tmp} {k : List Item} {s : ASt} (ks : List Nat) {args' : List AV} {H h1 : List Blk} {K' : AV → List Blk → Prop} (hK : ∀ r H', K' r H' → WD P N R (arun P 4000 k (ASt.put ⟨s.n, s.t, merge h1 ks H'⟩ d (r.ren (back h1.length ks))))) (hp : prepC h ks args = some (args', H, h1) := by simp only [go_sem]; first | done | rfl) (hc : ACl P f args' H K') : WD P N R (.call f args h d k s) :=
  wd_cl ks hp hc hK
theorem kmq {c : MC} {k : List Item} {f : FuncId} {args : List AV} {o : Oper} {l : List Oper} {U : List Nat} {ok : Bool} {s : ASt} (ks : List Nat) {args' : List AV} {H h1 : List Blk} {K' : AV → List Blk → Prop} (hK : ∀ r H', K' r H' → WM P N c R k (mrun P c l (addU o.dst U) (ok && ks.all c.ms.contains) (ASt.put ⟨s.n, s.t, merge h1 ks H'⟩ o.dst (r.ren (back h1.length ks))))) (hp : prepC s.h ks args = some (args', H, h1) := by simp only [go_sem]; first | done | rfl) (hc : ACl P f args' H K') (hok : ((ok && ks.all c.ms.contains) || decide (l.length < c.f)) = true := by simp only [go_sem]; first | done | rfl) (hmut : c.ms.all (fun b => match c.h0[b]? with | some k => k.st.isMut | none => false) = true := by simp only [go_sem]; first | done | rfl) : WM P N c R k (.call f args o l U ok s) :=
  wm_cl ks hp hc hok hmut hK
theorem ktq {c : MC} {k : List Item} {f : FuncId} {args : List AV} {o : Oper} {fin : Bool} {l : MT} {U : List Nat × List Nat} {ok : Bool} {s : ASt} (ks : List Nat) {args' : List AV} {H h1 : List Blk} {K' : AV → List Blk → Prop} (hK : ∀ r H', K' r H' → WT P N c R k (trun P c l (addU o.dst U.1, U.2) (ok && ks.all c.ms.contains) (ASt.put ⟨s.n, s.t, merge h1 ks H'⟩ o.dst (r.ren (back h1.length ks))))) (hp : prepC s.h ks args = some (args', H, h1) := by simp only [go_sem]; first | done | rfl) (hc : ACl P f args' H K') (hok : ((ok && ks.all c.ms.contains) || fin) = true := by simp only [go_sem]; first | done | rfl) (hmut : c.ms.all (fun b => match c.h0[b]? with | some k => k.st.isMut | none => false) = true := by simp only [go_sem]; first | done | rfl) : WT P N c R k (.call f args o fin l U ok s) :=
  wt_cl ks hp hc hok hmut hK
end
end Go.Proofs.Sh
/- What a run on shadows asks of this program's types and functions. -/
namespace Go.Proofs.Ytkkijdlgmlffoaa
open Go.RowKit Go.Proofs.Sh
@[go_sem] theorem ti_3 : tinfo Try.prog 3 = some { size := 1, agg := false, bytes := 8, zero := [Value.int IntKind.i64 0], fields := [], elem := 0, kind := 5 } := by kernel_rfl
@[go_sem] theorem tk_3 : tk Try.prog 3 = 5 := by kernel_rfl
@[go_sem] theorem tint_3 : tint Try.prog 3 = some IntKind.i64 := by kernel_rfl
@[go_sem] theorem ti_4 : tinfo Try.prog 4 = some { size := 1, agg := false, bytes := 1, zero := [Value.bool false], fields := [], elem := 0, kind := 6 } := by kernel_rfl
@[go_sem] theorem tk_4 : tk Try.prog 4 = 6 := by kernel_rfl
@[go_sem] theorem tint_4 : tint Try.prog 4 = none := by kernel_rfl
@[go_sem] theorem ti_5 : tinfo Try.prog 5 = some { size := 1, agg := false, bytes := 1, zero := [Value.int IntKind.u8 0], fields := [], elem := 0, kind := 5 } := by kernel_rfl
@[go_sem] theorem tk_5 : tk Try.prog 5 = 5 := by kernel_rfl
@[go_sem] theorem tint_5 : tint Try.prog 5 = some IntKind.u8 := by kernel_rfl
@[go_sem] theorem ti_22 : tinfo Try.prog 22 = some { size := 1, agg := false, bytes := 24, zero := [Value.slice none 0 0], fields := [], elem := 24, kind := 3 } := by kernel_rfl
@[go_sem] theorem tk_22 : tk Try.prog 22 = 3 := by kernel_rfl
@[go_sem] theorem tint_22 : tint Try.prog 22 = none := by kernel_rfl
@[go_sem] theorem es_22 : aesz Try.prog 22 = 2 := by kernel_rfl
@[go_sem] theorem ti_24 : tinfo Try.prog 24 = some { size := 2, agg := true, bytes := 32, zero := [Value.int IntKind.i64 0, Value.slice none 0 0], fields := [(0, 1, false), (1, 1, false)], elem := 0, kind := 1 } := by kernel_rfl
@[go_sem] theorem tk_24 : tk Try.prog 24 = 1 := by kernel_rfl
@[go_sem] theorem tint_24 : tint Try.prog 24 = none := by kernel_rfl
@[go_sem] theorem ti_26 : tinfo Try.prog 26 = some { size := 1, agg := false, bytes := 8, zero := [Value.nilFunc], fields := [], elem := 0, kind := 0 } := by kernel_rfl
@[go_sem] theorem tk_26 : tk Try.prog 26 = 0 := by kernel_rfl
@[go_sem] theorem tint_26 : tint Try.prog 26 = none := by kernel_rfl
@[go_sem] theorem ti_27 : tinfo Try.prog 27 = some { size := 1, agg := false, bytes := 24, zero := [Value.slice none 0 0], fields := [], elem := 29, kind := 3 } := by kernel_rfl
@[go_sem] theorem tk_27 : tk Try.prog 27 = 3 := by kernel_rfl
@[go_sem] theorem tint_27 : tint Try.prog 27 = none := by kernel_rfl
@[go_sem] theorem es_27 : aesz Try.prog 27 = 2 := by kernel_rfl
@[go_sem] theorem ti_29 : tinfo Try.prog 29 = some { size := 2, agg := true, bytes := 32, zero := [Value.int IntKind.i64 0, Value.slice none 0 0], fields := [(0, 1, false), (1, 1, false)], elem := 0, kind := 1 } := by kernel_rfl
@[go_sem] theorem tk_29 : tk Try.prog 29 = 1 := by kernel_rfl
@[go_sem] theorem tint_29 : tint Try.prog 29 = none := by kernel_rfl
@[go_sem] theorem ti_32 : tinfo Try.prog 32 = some { size := 1, agg := false, bytes := 24, zero := [Value.slice none 0 0], fields := [], elem := 5, kind := 3 } := by kernel_rfl
@[go_sem] theorem tk_32 : tk Try.prog 32 = 3 := by kernel_rfl
@[go_sem] theorem tint_32 : tint Try.prog 32 = none := by kernel_rfl
@[go_sem] theorem es_32 : aesz Try.prog 32 = 1 := by kernel_rfl
@[go_sem] theorem ti_37 : tinfo Try.prog 37 = some { size := 1, agg := false, bytes := 8, zero := [Value.nilFunc], fields := [], elem := 0, kind := 0 } := by kernel_rfl
@[go_sem] theorem tk_37 : tk Try.prog 37 = 0 := by kernel_rfl
@[go_sem] theorem tint_37 : tint Try.prog 37 = none := by kernel_rfl
@[go_sem] theorem ti_47 : tinfo Try.prog 47 = some { size := 1, agg := false, bytes := 8, zero := [Value.pointer none], fields := [], elem := 0, kind := 0 } := by kernel_rfl
@[go_sem] theorem tk_47 : tk Try.prog 47 = 0 := by kernel_rfl
@[go_sem] theorem tint_47 : tint Try.prog 47 = none := by kernel_rfl
@[go_sem] theorem ti_61 : tinfo Try.prog 61 = some { size := 2, agg := true, bytes := 32, zero := [Value.slice none 0 0, Value.int IntKind.i64 0], fields := [(0, 1, false), (1, 1, false)], elem := 0, kind := 1 } := by kernel_rfl
@[go_sem] theorem tk_61 : tk Try.prog 61 = 1 := by kernel_rfl
@[go_sem] theorem tint_61 : tint Try.prog 61 = none := by kernel_rfl
@[go_sem] theorem ti_64 : tinfo Try.prog 64 = some { size := 1, agg := false, bytes := 24, zero := [Value.slice none 0 0], fields := [], elem := 3, kind := 3 } := by kernel_rfl
@[go_sem] theorem tk_64 : tk Try.prog 64 = 3 := by kernel_rfl
@[go_sem] theorem tint_64 : tint Try.prog 64 = none := by kernel_rfl
@[go_sem] theorem es_64 : aesz Try.prog 64 = 1 := by kernel_rfl
theorem follows : Try.prog.follows .mixedOrders = true := by kernel_rfl
theorem isfn_10 : IsFn Try.prog 10 := by intro args w; kernel_rfl
theorem isfn_12 : IsFn Try.prog 12 := by intro args w; kernel_rfl
theorem isfn_14 : IsFn Try.prog 14 := by intro args w; kernel_rfl
theorem isfn_16 : IsFn Try.prog 16 := by intro args w; kernel_rfl
theorem isfn_25 : IsFn Try.prog 25 := by intro args w; kernel_rfl
theorem isfn_28 : IsFn Try.prog 28 := by intro args w; kernel_rfl
theorem isfn_29 : IsFn Try.prog 29 := by intro args w; kernel_rfl
theorem isfn_30 : IsFn Try.prog 30 := by intro args w; kernel_rfl
theorem isfn_31 : IsFn Try.prog 31 := by intro args w; kernel_rfl
theorem isfn_32 : IsFn Try.prog 32 := by intro args w; kernel_rfl
theorem isfn_33 : IsFn Try.prog 33 := by intro args w; kernel_rfl
theorem isfn_36 : IsFn Try.prog 36 := by intro args w; kernel_rfl
theorem isfn_37 : IsFn Try.prog 37 := by intro args w; kernel_rfl
theorem isfn_39 : IsFn Try.prog 39 := by intro args w; kernel_rfl
theorem isfn_52 : IsFn Try.prog 52 := by intro args w; kernel_rfl
theorem isfn_55 : IsFn Try.prog 55 := by intro args w; kernel_rfl
theorem isfn_56 : IsFn Try.prog 56 := by intro args w; kernel_rfl
theorem isfn_57 : IsFn Try.prog 57 := by intro args w; kernel_rfl
theorem isfn_58 : IsFn Try.prog 58 := by intro args w; kernel_rfl
theorem isfn_59 : IsFn Try.prog 59 := by intro args w; kernel_rfl
theorem isfn_61 : IsFn Try.prog 61 := by intro args w; kernel_rfl
theorem isfn_63 : IsFn Try.prog 63 := by intro args w; kernel_rfl
theorem isfn_67 : IsFn Try.prog 67 := by intro args w; kernel_rfl
theorem isfn_68 : IsFn Try.prog 68 := by intro args w; kernel_rfl
theorem isfn_69 : IsFn Try.prog 69 := by intro args w; kernel_rfl
theorem isfn_70 : IsFn Try.prog 70 := by intro args w; kernel_rfl
theorem isfn_71 : IsFn Try.prog 71 := by intro args w; kernel_rfl
theorem isfn_72 : IsFn Try.prog 72 := by intro args w; kernel_rfl
theorem isfn_73 : IsFn Try.prog 73 := by intro args w; kernel_rfl
theorem isfn_74 : IsFn Try.prog 74 := by intro args w; kernel_rfl
theorem isfn_75 : IsFn Try.prog 75 := by intro args w; kernel_rfl
theorem isfn_76 : IsFn Try.prog 76 := by intro args w; kernel_rfl
theorem isfn_77 : IsFn Try.prog 77 := by intro args w; kernel_rfl
theorem isfn_78 : IsFn Try.prog 78 := by intro args w; kernel_rfl
end Go.Proofs.Ytkkijdlgmlffoaa
namespace Go.Proofs.Ytkkijdlgmlffoaa
open Go.RowKit Go.Proofs.Sh
section
variable {N : Nat} {R : ASt → Prop}
theorem mxq0 {id : Nat} {l : List Oper} {k : List Sh.Item} {s : ASt} (ms : List Nat) (h : WM Try.prog N ⟨0, s.h, ms, l⟩ R k (mrun Try.prog ⟨0, s.h, ms, l⟩ l [] true s)) (hB : mixOK loudOp readOp 0 l.toArray = true := by decide +kernel) (hmut : ms.all (fun b => match s.h[b]? with | some k => k.st.isMut | none => false) = true := by simp only [go_sem]; first | done | rfl) : WD Try.prog N R (.drawn id l k s) :=
  wd_mix 0 ms follows hB hmut h
theorem mxq1 {id : Nat} {l : List Oper} {k : List Sh.Item} {s : ASt} (ms : List Nat) (h : WM Try.prog N ⟨1, s.h, ms, l⟩ R k (mrun Try.prog ⟨1, s.h, ms, l⟩ l [] true s)) (hB : mixOK loudOp readOp 1 l.toArray = true := by decide +kernel) (hmut : ms.all (fun b => match s.h[b]? with | some k => k.st.isMut | none => false) = true := by simp only [go_sem]; first | done | rfl) : WD Try.prog N R (.drawn id l k s) :=
  wd_mix 1 ms follows hB hmut h
theorem mxq2 {id : Nat} {l : List Oper} {k : List Sh.Item} {s : ASt} (ms : List Nat) (h : WM Try.prog N ⟨2, s.h, ms, l⟩ R k (mrun Try.prog ⟨2, s.h, ms, l⟩ l [] true s)) (hB : mixOK loudOp readOp 2 l.toArray = true := by decide +kernel) (hmut : ms.all (fun b => match s.h[b]? with | some k => k.st.isMut | none => false) = true := by simp only [go_sem]; first | done | rfl) : WD Try.prog N R (.drawn id l k s) :=
  wd_mix 2 ms follows hB hmut h
theorem mxq3 {id : Nat} {l : List Oper} {k : List Sh.Item} {s : ASt} (ms : List Nat) (h : WM Try.prog N ⟨3, s.h, ms, l⟩ R k (mrun Try.prog ⟨3, s.h, ms, l⟩ l [] true s)) (hB : mixOK loudOp readOp 3 l.toArray = true := by decide +kernel) (hmut : ms.all (fun b => match s.h[b]? with | some k => k.st.isMut | none => false) = true := by simp only [go_sem]; first | done | rfl) : WD Try.prog N R (.drawn id l k s) :=
  wd_mix 3 ms follows hB hmut h
theorem mxq4 {id : Nat} {l : List Oper} {k : List Sh.Item} {s : ASt} (ms : List Nat) (h : WM Try.prog N ⟨4, s.h, ms, l⟩ R k (mrun Try.prog ⟨4, s.h, ms, l⟩ l [] true s)) (hB : mixOK loudOp readOp 4 l.toArray = true := by decide +kernel) (hmut : ms.all (fun b => match s.h[b]? with | some k => k.st.isMut | none => false) = true := by simp only [go_sem]; first | done | rfl) : WD Try.prog N R (.drawn id l k s) :=
  wd_mix 4 ms follows hB hmut h
theorem mxq5 {id : Nat} {l : List Oper} {k : List Sh.Item} {s : ASt} (ms : List Nat) (h : WM Try.prog N ⟨5, s.h, ms, l⟩ R k (mrun Try.prog ⟨5, s.h, ms, l⟩ l [] true s)) (hB : mixOK loudOp readOp 5 l.toArray = true := by decide +kernel) (hmut : ms.all (fun b => match s.h[b]? with | some k => k.st.isMut | none => false) = true := by simp only [go_sem]; first | done | rfl) : WD Try.prog N R (.drawn id l k s) :=
  wd_mix 5 ms follows hB hmut h
theorem mxq6 {id : Nat} {l : List Oper} {k : List Sh.Item} {s : ASt} (ms : List Nat) (h : WM Try.prog N ⟨6, s.h, ms, l⟩ R k (mrun Try.prog ⟨6, s.h, ms, l⟩ l [] true s)) (hB : mixOK loudOp readOp 6 l.toArray = true := by decide +kernel) (hmut : ms.all (fun b => match s.h[b]? with | some k => k.st.isMut | none => false) = true := by simp only [go_sem]; first | done | rfl) : WD Try.prog N R (.drawn id l k s) :=
  wd_mix 6 ms follows hB hmut h
end
end Go.Proofs.Ytkkijdlgmlffoaa
/- Types: the reference's functions, on shadows. -/
namespace Go.Proofs.Ytkkijdlgmlffoaa
open Go.RowKit Go.Proofs.Sh Go.Proofs.Grad
set_option maxRecDepth 100000
set_option maxHeartbeats 1000000
@[go_sem] theorem kind_mk (k : Int) (l : List Ty) : (Ty.mk k l).kind = k := rfl
@[go_sem] theorem kids_mk (k : Int) (l : List Ty) : (Ty.mk k l).kids = l := rfl
theorem l1Kids (k : Int) : AFn Try.prog 77 [.one (.sc (.int .i64 k))] (.one (.sc (.int .i64 (kidsN k)))) := by
  refine fn_in ?_; refine acl_in Try.func77 rfl isfn_77 (Nat.le_of_ble_eq_true rfl) (fun R hR => ?_); rw [Try.results77] at hR; refine wg_run ?_; (simp only [Try.f77, go_sem])
  repeat' (first | (((first | apply sp1 | apply sp2 | apply sp3 | apply sp4 | apply sp5 | apply sp6 | apply sp7) <;> intro hb) <;> (simp only [go_sem, hb])) | ((first | apply wm_done | apply wt_done | apply wg_run | refine fk ?_ ?_) <;> (simp only [go_sem])))
  all_goals (refine hR _ (rat [] (hK := ⟨?_, rfl⟩)))
  all_goals simp_all [kidsN]
@[go_sem] theorem kidsN_1 : kidsN 1 = 0 := rfl
@[go_sem] theorem kidsN_2 : kidsN 2 = 0 := rfl
@[go_sem] theorem kidsN_3 : kidsN 3 = 0 := rfl
@[go_sem] theorem kidsN_4 : kidsN 4 = 2 := rfl
@[go_sem] theorem kidsN_5 : kidsN 5 = 2 := rfl
theorem l1Shape (m : Nat) (hm : m ≤ 4) : ∀ t : Ty, AFn Try.prog 61 [.agg (tyC t), .one (.sc (.int .i64 m))] (.one (.sc (.bool (t.shape m)))) := by
  induction m with
  | zero =>
    intro t
    refine fn_in ?_; refine acl_in Try.func61 rfl isfn_61 (Nat.le_of_ble_eq_true rfl) (fun R hR => ?_); rw [Try.results61] at hR; refine wg_run ?_; (simp only [Try.f61, go_sem])
    (refine wd_mix 0 [] follows (by kernel_rfl) (by (simp only [go_sem]); first | done | rfl) ?_; (simp only [go_sem]))
    repeat' (first | (((first | apply sp1 | apply sp2 | apply sp3 | apply sp4 | apply sp5 | apply sp6 | apply sp7) <;> intro hb) <;> (simp only [go_sem, hb])) | ((first | apply wm_done | apply wt_done | apply wg_run | refine fk ?_ ?_) <;> (simp only [go_sem])))
    all_goals (refine hR _ (rat [] (hK := ⟨?_, rfl⟩)))
    all_goals rfl
  | succ m ih =>
    intro t
    have hd : decide ((((m + 1 : Nat) : Int) < 1)) = false := by simp; omega
    have hw : IntKind.i64.wrap (((m + 1 : Nat) : Int) - 1) = (m : Int) := by rw [IntWalk.i64_in _ (by omega)]; omega
    refine fn_in ?_; refine acl_in Try.func61 rfl isfn_61 (Nat.le_of_ble_eq_true rfl) (fun R hR => ?_); rw [Try.results61] at hR; refine wg_run ?_; (simp only [Try.f61, go_sem])
    (refine wd_mix 0 [] follows (by kernel_rfl) (by (simp only [go_sem]); first | done | rfl) ?_; (simp only [go_sem]))
    (simp only [go_sem, hd])
    (first | refine cdq ?_ (hc := l1Kids _) | refine cmq ?_ (hc := l1Kids _) | refine ctq ?_ (hc := l1Kids _)); (simp only [go_sem])
    repeat' (first | (((first | apply sp1 | apply sp2 | apply sp3 | apply sp4 | apply sp5 | apply sp6 | apply sp7) <;> intro hb) <;> (simp only [go_sem, hb])) | ((first | apply wm_done | apply wt_done | apply wg_run | refine fk ?_ ?_) <;> (simp only [go_sem])))
    · (refine hR _ (rat [] (hK := ⟨?_, rfl⟩)))
      simp_all [Ty.shape]
    · refine wd_for [1, 2, 5] (fun k => [.one (.sc (.int .i64 ((m + 1 : Nat) : Int))), .one (.ptr 2 0 0 0), .one (.sc (.int .i64 (k : Nat)))]) (fun k => [⟨2, 29, .mut, [tyC t]⟩])
        (fun k => k ≤ t.kids.length ∧ (t.kids.drop k).all (Ty.shape m) = t.shape (m + 1)) (fun k => t.kids.length - k) 0 ⟨Nat.zero_le _, ?_⟩ (hat [0] (hI := ⟨rfl, rfl⟩)) ?_
      · clear hR
        simp_all [Ty.shape]
      rintro k ⟨hk, hs⟩ G hG
      refine wg_run ?_
      (simp only [go_sem])
      have hl : t.kids.length < 3 := by simp [kidsN] at hb; split at hb <;> try split at hb
                                        all_goals omega
      ((first | apply sp1 | apply sp2 | apply sp3 | apply sp4 | apply sp5 | apply sp6 | apply sp7) <;> intro hb) <;> (simp only [go_sem, hb, hw])
      · have hk1 : k < t.kids.length := by have := of_decide_eq_true hb; omega
        rw [drop_kid hk1, List.all_cons] at hs
        have hw1 := wrap_succ hk1 (by omega)
        (first | refine cdq ?_ (hc := ih (by omega) _) | refine cmq ?_ (hc := ih (by omega) _) | refine ctq ?_ (hc := ih (by omega) _)); (simp only [go_sem])
        repeat' (first | (simp only [go_sem, hw1]) | (((first | apply sp1 | apply sp2 | apply sp3 | apply sp4 | apply sp5 | apply sp6 | apply sp7) <;> intro hb) <;> (simp only [go_sem, hb, hw1])) | ((first | apply wm_done | apply wt_done | apply wg_run | refine fk ?_ ?_) <;> (simp only [go_sem, hw1])))
        · exact hG (k + 1) _ _ ⟨by omega, by simpa [hb] using hs⟩ (by omega) (hat [0] (hI := ⟨rfl, rfl⟩))
        · (refine hR _ (rat [] (hK := ⟨?_, rfl⟩)))
          simpa [hb] using hs
      · have hk1 : ¬ k < t.kids.length := by have := of_decide_eq_false hb; omega
        rw [List.drop_eq_nil_of_le (by omega)] at hs
        (refine hR _ (rat [] (hK := ⟨?_, rfl⟩)))
        simpa using hs
theorem sValid (t : Ty) : AFn Try.prog 37 [.agg (tyC t)] (.one (.sc (.bool t.valid))) := by
  refine fn_in ?_; refine acl_in Try.func37 rfl isfn_37 (Nat.le_of_ble_eq_true rfl) (fun R hR => ?_); rw [Try.results37] at hR; refine wg_run ?_; (simp only [Try.f37, go_sem])
  repeat' (first | (first | (((first | apply sp1 | apply sp2 | apply sp3 | apply sp4 | apply sp5 | apply sp6 | apply sp7) <;> intro hb) <;> (simp only [go_sem, hb])) | ((first | apply wm_done | apply wt_done | apply wg_run | refine fk ?_ ?_) <;> (simp only [go_sem]))) | (first | refine cdq ?_ (hc := l1Shape 4 (by omega) _) | refine cmq ?_ (hc := l1Shape 4 (by omega) _) | refine ctq ?_ (hc := l1Shape 4 (by omega) _)); (simp only [go_sem]))
  (refine hR _ (rat [] (hK := ⟨?_, rfl⟩)))
  rfl
end Go.Proofs.Ytkkijdlgmlffoaa
/- Types: the relations of subtyping, on shadows. -/
namespace Go.Proofs.Sh
open Go.Proofs.Grad
@[go_sem] theorem ty_any_kind : T.any.ty.kind = 1 := rfl
@[go_sem] theorem ty_int_kind : T.int.ty.kind = 2 := rfl
@[go_sem] theorem ty_bool_kind : T.bool.ty.kind = 3 := rfl
@[go_sem] theorem ty_fn_kind (a b : T) : (T.fn a b).ty.kind = 4 := rfl
@[go_sem] theorem ty_pr_kind (a b : T) : (T.pr a b).ty.kind = 5 := rfl
@[go_sem] theorem ty_any_kids : T.any.ty.kids = [] := rfl
@[go_sem] theorem ty_int_kids : T.int.ty.kids = [] := rfl
@[go_sem] theorem ty_bool_kids : T.bool.ty.kids = [] := rfl
@[go_sem] theorem ty_fn_kids (a b : T) : (T.fn a b).ty.kids = [a.ty, b.ty] := rfl
@[go_sem] theorem ty_pr_kids (a b : T) : (T.pr a b).ty.kids = [a.ty, b.ty] := rfl
attribute [go_sem] T.ground
end Go.Proofs.Sh
namespace Go.Proofs.Ytkkijdlgmlffoaa
open Go.RowKit Go.Proofs.Sh Go.Proofs.Grad
set_option maxRecDepth 100000
set_option maxHeartbeats 4000000
theorem l1Any : AFn Try.prog 68 [] (.agg (tyC T.any.ty)) := by
  refine fn_in ?_; refine acl_in Try.func68 rfl isfn_68 (Nat.le_of_ble_eq_true rfl) (fun R hR => ?_); rw [Try.results68] at hR; refine wg_run ?_; (simp only [Try.f68, go_sem])
  (refine hR _ (rat [] (hK := ⟨rfl, rfl⟩)))
theorem base (k : Int) : AFn Try.prog 75 [.one (.sc (.int .i64 k))] (.agg (tyC (.mk k []))) := by
  refine fn_in ?_; refine acl_in Try.func75 rfl isfn_75 (Nat.le_of_ble_eq_true rfl) (fun R hR => ?_); rw [Try.results75] at hR; refine wg_run ?_; (simp only [Try.f75, go_sem])
  (refine hR _ (rat [] (hK := ⟨rfl, rfl⟩)))
theorem both (k : Int) (a b : Ty) : AFn Try.prog 78 [.one (.sc (.int .i64 k)), .agg (tyC a), .agg (tyC b)] (.agg (tyC (.mk k [a, b]))) := by
  refine fn_in ?_; refine acl_in Try.func78 rfl isfn_78 (Nat.le_of_ble_eq_true rfl) (fun R hR => ?_); rw [Try.results78] at hR; refine wg_run ?_; (simp only [Try.f78, go_sem])
  (refine hR _ (rat [] (hK := ⟨rfl, rfl⟩)))
theorem iGround (a : T) : AFn Try.prog 63 [.one (.sc (.int .i64 a.kind))] (.agg (tyC a.ground.ty)) := by
  rcases a with _ | _ | _ | ⟨a1, a2⟩ | ⟨a1, a2⟩
  all_goals
    simp only [T.kind]
    refine fn_in ?_; refine acl_in Try.func63 rfl isfn_63 (Nat.le_of_ble_eq_true rfl) (fun R hR => ?_); rw [Try.results63] at hR; refine wg_run ?_; (simp only [Try.f63, go_sem])
    repeat' (first | (first | (((first | apply sp1 | apply sp2 | apply sp3 | apply sp4 | apply sp5 | apply sp6 | apply sp7) <;> intro hb) <;> (simp only [go_sem, hb])) | ((first | apply wm_done | apply wt_done | apply wg_run | refine fk ?_ ?_) <;> (simp only [go_sem]))) | (first | refine cdq ?_ (hc := base _) | refine cmq ?_ (hc := base _) | refine ctq ?_ (hc := base _)); (simp only [go_sem]) | (first | refine cdq ?_ (hc := both 4 T.any.ty T.any.ty) | refine cmq ?_ (hc := both 4 T.any.ty T.any.ty) | refine ctq ?_ (hc := both 4 T.any.ty T.any.ty)); (simp only [go_sem]) | (first | refine cdq ?_ (hc := both 5 T.any.ty T.any.ty) | refine cmq ?_ (hc := both 5 T.any.ty T.any.ty) | refine ctq ?_ (hc := both 5 T.any.ty T.any.ty)); (simp only [go_sem]) | ((first | refine mxq6 [] ?_ | refine mxq5 [] ?_ | refine mxq4 [] ?_ | refine mxq3 [] ?_ | refine mxq2 [] ?_ | refine mxq1 [] ?_ | refine mxq0 [] ?_ | fail); (simp only [go_sem])))
  all_goals (refine hR _ (rat [] (hK := ⟨rfl, rfl⟩)))
end Go.Proofs.Ytkkijdlgmlffoaa
