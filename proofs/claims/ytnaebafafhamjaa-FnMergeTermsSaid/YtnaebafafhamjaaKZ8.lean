/- Texts of the proof, one behind another. -/
import Derived.Test.YtnaebafafhamjaaProg
import Derived.IntWalk
import Derived.Laws.BitsAllLaws
import Derived.Test.YtnaebafafhamjaaKZ7
set_option linter.unusedSimpArgs false
set_option linter.unusedVariables false
/- Rules for walking functions on shadows. -/
namespace Go.Proofs.Sh
open Go.RowKit

section
variable {P : Program} {N : Nat} {R : ASt → Prop}

/-- a function that reads its arguments' trees and yields a value -/
structure AFn (P : Program) (f : FuncId) (args : List AV) (r : AV) : Prop where
  out : ACall P f args [] (fun r' H' => r' = r ∧ H' = [])
/-- a function that ends as K says -/
structure ACl (P : Program) (f : FuncId) (args : List AV) (H : List Blk) (K : AV → List Blk → Prop) : Prop where
  out : ACall P f args H K
/-- a run outside of regions that draw their order; within one; code ahead -/
structure WD (P : Program) (N : Nat) (R : ASt → Prop) (o : Out) : Prop where
  out : ADis P N R o
structure WM (P : Program) (N : Nat) (c : MC) (R : ASt → Prop) (k : List Item) (o : MOut) : Prop where
  out : MDis P N c (AGo P N R k) o
structure WT (P : Program) (N : Nat) (c : MC) (R : ASt → Prop) (k : List Item) (o : TOut) : Prop where
  out : TDis P N c (AGo P N R k) o
structure WG (P : Program) (N : Nat) (R : ASt → Prop) (k : List Item) (s : ASt) : Prop where
  out : AGo P N R k .normal s

theorem wg_run {s : ASt} {k : List Item} (h : WD P N R (arun P 4000 k s)) : WG P N R k s := ⟨arun_sound 4000 _ _ h.out⟩
@[go_sem] theorem wd_ret (s : ASt) : WD P N R (.ret s) = R s := propext ⟨fun h => h.out, fun h => ⟨h⟩⟩
@[go_sem] theorem wd_goal (I : ASt → Prop) (s : ASt) : WD P N R (.goal I s) = I s := propext ⟨fun h => h.out, fun h => ⟨h⟩⟩
theorem wd_split {n : Nat} (b : Bool) {x y : List Item} {s : ASt} (h1 : b = true → WD P N R (arun P n x s)) (h2 : b = false → WD P N R (arun P n y s)) : WD P N R (abr P n b x y s) := by
  cases b
  · rw [abr]; exact h2 rfl
  · rw [abr]; exact h1 rfl
theorem wd_want {n : Nat} (b : Bool) {o : Oper} {l all : List Oper} {k : List Item} {s : ASt} (h1 : b = true → WD P N R (awant P n (some true) o l all k s)) (h2 : b = false → WD P N R (awant P n (some false) o l all k s)) : WD P N R (awant P n (some b) o l all k s) := by
  cases b
  · exact h2 rfl
  · exact h1 rfl
theorem wd_nwant {n : Nat} (b : Bool) {o : Oper} {l all : List Oper} {k : List Item} {s : ASt} (h1 : b = true → WD P N R (awant P n (some false) o l all k s)) (h2 : b = false → WD P N R (awant P n (some true) o l all k s)) : WD P N R (awant P n (some !b) o l all k s) := by
  cases b
  · exact h2 rfl
  · exact h1 rfl
theorem wm_want {c : MC} {k : List Item} (b : Bool) {o : Oper} {l : List Oper} {U : List Nat} {ok : Bool} {s : ASt} (h1 : b = true → WM P N c R k (mwant P c (some true) o l U ok s)) (h2 : b = false → WM P N c R k (mwant P c (some false) o l U ok s)) : WM P N c R k (mwant P c (some b) o l U ok s) := by
  cases b
  · exact h2 rfl
  · exact h1 rfl
theorem wm_nwant {c : MC} {k : List Item} (b : Bool) {o : Oper} {l : List Oper} {U : List Nat} {ok : Bool} {s : ASt} (h1 : b = true → WM P N c R k (mwant P c (some false) o l U ok s)) (h2 : b = false → WM P N c R k (mwant P c (some true) o l U ok s)) : WM P N c R k (mwant P c (some !b) o l U ok s) := by
  cases b
  · exact h2 rfl
  · exact h1 rfl
theorem wt_want {c : MC} {k : List Item} (b : Bool) {o : Oper} {f : Bool} {l : MT} {U : List Nat × List Nat} {ok : Bool} {s : ASt} (h1 : b = true → WT P N c R k (twantT P c (some true) o f l U ok s)) (h2 : b = false → WT P N c R k (twantT P c (some false) o f l U ok s)) : WT P N c R k (twantT P c (some b) o f l U ok s) := by
  cases b
  · exact h2 rfl
  · exact h1 rfl
theorem wt_nwant {c : MC} {k : List Item} (b : Bool) {o : Oper} {f : Bool} {l : MT} {U : List Nat × List Nat} {ok : Bool} {s : ASt} (h1 : b = true → WT P N c R k (twantT P c (some false) o f l U ok s)) (h2 : b = false → WT P N c R k (twantT P c (some true) o f l U ok s)) : WT P N c R k (twantT P c (some !b) o f l U ok s) := by
  cases b
  · exact h2 rfl
  · exact h1 rfl
@[go_sem] theorem abr_not {n : Nat} (b : Bool) {x y : List Item} {s : ASt} : abr P n (!b) x y s = abr P n b y x s := by
  cases b <;> simp [abr]
theorem int_bne (x y : Int) : (x != y) = !(x == y) := rfl
@[go_sem] theorem isEmpty_nil {α : Type} : (#[] : Array α).isEmpty = true := rfl
@[go_sem] theorem wrap_in {n : Int} (h1 : -9223372036854775808 ≤ n) (h2 : n ≤ 9223372036854775807) : IntKind.i64.wrap n = n := IntWalk.i64_in _ (by omega)
attribute [go_sem] Int.cast_ofNat_Int cond_true cond_false beq_true beq_false Bool.not_not Int.natCast_zero List.toList_toArray

/-- A function's contract, from a run of its body; R: what is asked at the end. -/
theorem acl_in {f : FuncId} {fn : Func} {c : Code} {args : List AV} {H : List Blk} {K : AV → List Blk → Prop} (hf : P.funcs[f]? = some fn) (hb : fn.body = some c) (hfn : IsFn P f) (hn : args.length ≤ fn.ntmps)
    (h : ∀ R : ASt → Prop, (∀ s, ARet P fn.results.toList H.length K s → R s) → WG P H.length R [.code c] ⟨fn.ntmps, slots 0 args, H⟩) : ACl P f args H K :=
  ⟨acall_of hf hb hfn hn (h _ (fun _ h => h)).out⟩
theorem fn_in {f : FuncId} {args : List AV} {r : AV} (h : ACl P f args [] (fun r' H' => r' = r ∧ H' = [])) : AFn P f args r := ⟨h.out⟩
theorem ACl.mono {f : FuncId} {args : List AV} {H : List Blk} {K K' : AV → List Blk → Prop} (h : ACl P f args H K) (hk : ∀ r H', K r H' → K' r H') : ACl P f args H K' := ⟨h.out.mono hk⟩

/-- a loop: the state at each round's head is (V x, H x), for an x of which I holds -/
theorem wd_for {σ : Type} {c : Code} {n0 : Nat} {t0 : List (Nat × AV)} {b0 : List Blk} {k : List Item} (l : List Nat) (V : σ → List AV) (H : σ → List Blk) (I : σ → Prop) (m : σ → Nat) (x0 : σ) (hI : I x0) (h0 : AHead N l (fun vs h => vs = V x0 ∧ h = H x0) ⟨n0, t0, b0⟩)
    (hr : ∀ x, I x → ∀ G : ASt → Prop, (∀ x' t h, I x' → m x' < m x → AHead N l (fun vs h => vs = V x' ∧ h = H x') ⟨n0, t, h⟩ → G ⟨n0, t, h⟩) → WG P N R (.code c :: .goal G :: k) ⟨n0, zipT l (V x), H x⟩) : WD P N R (.loop c k ⟨n0, t0, b0⟩) := by
  refine ⟨?_⟩
  show AGo P N R (.code (.loop c) :: k) .normal ⟨n0, t0, b0⟩
  intro X μ0 hh0 w0 μ a w hF hT
  refine wp_loop_rel (fun n a w => ∃ μ x, I x ∧ SimF X μ ⟨n0, zipT l (V x), H x⟩ a w ∧ StpN N μ0 hh0 w0 μ (H x) w ∧ m x = n) ?_ ?_
  · obtain ⟨μ', vs, K, ⟨rfl, rfl⟩, q2, q3⟩ := head_sound hF hT h0
    exact ⟨_, μ', x0, hI, q2, q3, rfl⟩
  · intro n a w ⟨μ, x, hI, hF, hT, hm⟩
    refine Code.wp_mono ?_ ((hr x hI (fun s' => s'.n = n0 ∧ ∃ x', I x' ∧ m x' < m x ∧ AHead N l (fun vs h => vs = V x' ∧ h = H x') s') (fun x' t h h2 h3 h4 => ⟨rfl, x', h2, h3, h4⟩)).out X μ0 hh0 w0 μ a w hF hT)
    intro e a' w' ⟨s', μ', q1, q2, q3⟩
    cases e with
    | normal =>
      obtain ⟨hn, x', hI', hlt, hh⟩ := q1
      obtain ⟨μ2, vs', K, ⟨rfl, rfl⟩, r2, r3⟩ := head_sound q2 q3 hh
      exact ⟨_, by rw [← hm]; exact hlt, μ2, x', hI', by rw [← hn]; exact r2, r3, rfl⟩
    | _ => exact ⟨s', μ', q1, q2, q3⟩

/-- a loop of few rounds, one after another -/
structure WL (P : Program) (N : Nat) (R : ASt → Prop) (c : Code) (k : List Item) (n : Nat) (s : ASt) : Prop where
  out : ALoop P N R c k n s
theorem wd_rounds (n : Nat) {c : Code} {k : List Item} {s : ASt} (h : WL P N R c k n s) : WD P N R (.loop c k s) := ⟨go_rounds n h.out⟩
theorem wl_next {n : Nat} {c : Code} {k : List Item} {s : ASt} (h : WG P N R (.code c :: .goal (WL P N R c k n) :: k) s) : WL P N R c k (n + 1) s := by
  refine ⟨?_⟩
  have e : (WL P N R c k n) = ALoop P N R c k n := by funext s'; exact propext ⟨fun h => h.out, fun h => ⟨h⟩⟩
  rw [e] at h
  exact h.out

theorem head_at {l : List Nat} {I : List AV → List Blk → Prop} {s : ASt} (ks : List Nat) {vs vs' : List AV} {K h1 : List Blk} (h : ASt.gets s.t l = some vs) (hp : prep false s.h (List.range N ++ ks) vs = some (vs', K, h1)) (hI : I vs' K) : AHead N l I s := by
  refine .inl ⟨ks, ?_⟩
  simp only [h, hp]
  exact hI
theorem ret_at {rs : List ResultVar} {K : AV → List Blk → Prop} {s : ASt} (ks : List Nat) {r r' : AV} {H h1 : List Blk} (h : aresult P s rs = some r) (hp : prep true s.h (List.range N ++ ks) [r] = some ([r'], H, h1)) (hK : K r' H) : ARet P rs N K s := by
  refine .inl ⟨ks, true, ?_⟩
  simp only [h, hp]
  exact hK
theorem ret_own {rs : List ResultVar} {K : AV → List Blk → Prop} {s : ASt} (ks : List Nat) {r r' : AV} {H h1 : List Blk} (h : aresult P s rs = some r) (hp : prep false s.h (List.range N ++ ks) [r] = some ([r'], H, h1)) (hK : K r' H) : ARet P rs N K s := by
  refine .inl ⟨ks, false, ?_⟩
  simp only [h, hp]
  exact hK
theorem calls_at {f : FuncId} {args : List AV} {h : List Blk} {K : AV → List Blk → Prop} (ks : List Nat) {args' : List AV} {H h1 : List Blk} {K' : AV → List Blk → Prop} (hp : prepC h ks args = some (args', H, h1)) (hc : ACall P f args' H K') (hK : ∀ r H', K' r H' → K (r.ren (back h1.length ks)) (merge h1 ks H')) : ∃ ks, ACalls P f args h ks K := ⟨ks, acalls_at ks hp hc hK⟩
theorem wrap_succ {k n : Nat} (h : k < n) (hn : n < 4611686018427387904) : IntKind.i64.wrap ((k : Int) + 1) = ((k + 1 : Nat) : Int) := by
  rw [IntWalk.i64_in _ (by omega)]; omega
/-- a call of a function that yields a value -/
theorem wd_fn {f : FuncId} {args : List AV} {h : List Blk} {d : Option Tmp} {k : List Item} {s : ASt} {args' : List AV} {h1 : List Blk} {r : AV} (hp : prep true h [] args = some (args', [], h1)) (hc : AFn P f args' r) (hK : WD P N R (arun P 4000 k (ASt.put ⟨s.n, s.t, merge h1 [] []⟩ d (r.ren (back h1.length []))))) : WD P N R (.call f args h d k s) :=
  ⟨calls_at [] (prepC_nil hp) hc.out (fun _ _ ⟨e1, e2⟩ => by subst e1 e2; exact arun_sound 4000 _ _ hK.out)⟩
theorem wm_fn {c : MC} {k : List Item} {f : FuncId} {args : List AV} {o : Oper} {l : List Oper} {U : List Nat} {ok : Bool} {s : ASt} {args' : List AV} {h1 : List Blk} {r : AV} (hp : prep true s.h [] args = some (args', [], h1)) (hc : AFn P f args' r) (hok : (ok || decide (l.length < c.f)) = true)
    (hmut : c.ms.all (fun b => match c.h0[b]? with | some k => k.st.isMut | none => false) = true)
    (hK : WM P N c R k (mrun P c l (addU o.dst U) ok (ASt.put ⟨s.n, s.t, merge h1 [] []⟩ o.dst (r.ren (back h1.length []))))) : WM P N c R k (.call f args o l U ok s) := by
  refine ⟨⟨[], by simpa using hok, ?_⟩⟩
  refine acalls_at [] (prepC_nil hp) hc.out ?_
  rintro _ _ ⟨rfl, rfl⟩
  simp only [List.all_nil, Bool.and_true]
  exact mrun_sound' hmut _ _ _ _ hK.out
/-- a call, in whatever way it ends -/
theorem wd_cl {f : FuncId} {args : List AV} {h : List Blk} {d : Option Tmp} {k : List Item} {s : ASt} (ks : List Nat) {args' : List AV} {H h1 : List Blk} {K' : AV → List Blk → Prop} (hp : prepC h ks args = some (args', H, h1)) (hc : ACl P f args' H K') (hK : ∀ r H', K' r H' → WD P N R (arun P 4000 k (ASt.put ⟨s.n, s.t, merge h1 ks H'⟩ d (r.ren (back h1.length ks))))) : WD P N R (.call f args h d k s) :=
  ⟨calls_at ks hp hc.out (fun r H' e => arun_sound 4000 _ _ (hK r H' e).out)⟩
theorem wm_cl {c : MC} {k : List Item} {f : FuncId} {args : List AV} {o : Oper} {l : List Oper} {U : List Nat} {ok : Bool} {s : ASt} (ks : List Nat) {args' : List AV} {H h1 : List Blk} {K' : AV → List Blk → Prop} (hp : prepC s.h ks args = some (args', H, h1)) (hc : ACl P f args' H K') (hok : ((ok && ks.all c.ms.contains) || decide (l.length < c.f)) = true)
    (hmut : c.ms.all (fun b => match c.h0[b]? with | some k => k.st.isMut | none => false) = true)
    (hK : ∀ r H', K' r H' → WM P N c R k (mrun P c l (addU o.dst U) (ok && ks.all c.ms.contains) (ASt.put ⟨s.n, s.t, merge h1 ks H'⟩ o.dst (r.ren (back h1.length ks))))) : WM P N c R k (.call f args o l U ok s) := by
  refine ⟨⟨ks, hok, ?_⟩⟩
  refine acalls_at ks hp hc.out ?_
  intro r H' e
  exact mrun_sound' hmut _ _ _ _ (hK r H' e).out
theorem wt_fn {c : MC} {k : List Item} {f : FuncId} {args : List AV} {o : Oper} {fin : Bool} {l : MT} {U : List Nat × List Nat} {ok : Bool} {s : ASt} {args' : List AV} {h1 : List Blk} {r : AV} (hp : prep true s.h [] args = some (args', [], h1)) (hc : AFn P f args' r) (hok : (ok || fin) = true)
    (hmut : c.ms.all (fun b => match c.h0[b]? with | some k => k.st.isMut | none => false) = true)
    (hK : WT P N c R k (trun P c l (addU o.dst U.1, U.2) ok (ASt.put ⟨s.n, s.t, merge h1 [] []⟩ o.dst (r.ren (back h1.length []))))) : WT P N c R k (.call f args o fin l U ok s) := by
  refine ⟨⟨[], by simpa using hok, ?_⟩⟩
  refine acalls_at [] (prepC_nil hp) hc.out ?_
  rintro _ _ ⟨rfl, rfl⟩
  simp only [List.all_nil, Bool.and_true]
  exact trun_sound' hmut _ _ _ _ hK.out
theorem wt_cl {c : MC} {k : List Item} {f : FuncId} {args : List AV} {o : Oper} {fin : Bool} {l : MT} {U : List Nat × List Nat} {ok : Bool} {s : ASt} (ks : List Nat) {args' : List AV} {H h1 : List Blk} {K' : AV → List Blk → Prop} (hp : prepC s.h ks args = some (args', H, h1)) (hc : ACl P f args' H K') (hok : ((ok && ks.all c.ms.contains) || fin) = true)
    (hmut : c.ms.all (fun b => match c.h0[b]? with | some k => k.st.isMut | none => false) = true)
    (hK : ∀ r H', K' r H' → WT P N c R k (trun P c l (addU o.dst U.1, U.2) (ok && ks.all c.ms.contains) (ASt.put ⟨s.n, s.t, merge h1 ks H'⟩ o.dst (r.ren (back h1.length ks))))) : WT P N c R k (.call f args o fin l U ok s) := by
  refine ⟨⟨ks, hok, ?_⟩⟩
  refine acalls_at ks hp hc.out ?_
  intro r H' e
  exact trun_sound' hmut _ _ _ _ (hK r H' e).out
theorem wt_any {c : MC} {k : List Item} {f : FuncId} {args : List AV} {o : Oper} {fin : Bool} {l : MT} {U : List Nat × List Nat} {ok : Bool} {s : ASt} {ks : List Nat} {K' : AV → List Blk → Prop} (hc : ACalls P f args s.h ks K') (hok : ((ok && ks.all c.ms.contains) || fin) = true)
    (hmut : c.ms.all (fun b => match c.h0[b]? with | some k => k.st.isMut | none => false) = true)
    (hK : ∀ r h', K' r h' → WT P N c R k (trun P c l (addU o.dst U.1, U.2) (ok && ks.all c.ms.contains) (ASt.put ⟨s.n, s.t, h'⟩ o.dst r))) : WT P N c R k (.call f args o fin l U ok s) :=
  ⟨⟨ks, hok, hc.mono fun r h' e => trun_sound' hmut _ _ _ _ (hK r h' e).out⟩⟩
theorem wt_fork {c : MC} {k : List Item} {i : Nat} {fin : Bool} {t u : MT} {U : List Nat × List Nat} {ok : Bool} {s : ASt} (hmut : c.ms.all (fun b => match c.h0[b]? with | some k => k.st.isMut | none => false) = true)
    (h1 : WT P N c R k (trun P c (.op i fin t) U ok s)) (h2 : WT P N c R k (trun P c u U ok s)) : WT P N c R k (.fork i fin t u U ok s) :=
  ⟨⟨trun_sound' hmut _ _ _ _ h1.out, trun_sound' hmut _ _ _ _ h2.out⟩⟩
theorem wd_tree {id : Nat} {l : List Oper} {k : List Item} {s : ASt} (T : MT) (ms : List Nat) (hm : P.follows .mixedOrders = true) (hB : treeOK loudOp readOp l.toArray T = true) (hmut : ms.all (fun b => match s.h[b]? with | some k => k.st.isMut | none => false) = true)
    (h : WT P N ⟨0, s.h, ms, l⟩ R k (trun P ⟨0, s.h, ms, l⟩ T ([], []) true s)) : WD P N R (.drawn id l k s) := ⟨go_tree T ms hm hB hmut h.out⟩
theorem wt_done {c : MC} {s : ASt} {k : List Item} (h : WD P N R (arun P 4000 k s)) : WT P N c R k (.done s) := ⟨arun_sound 4000 _ _ h.out⟩
/-- a region that draws its order; behind it -/
theorem wd_mix {id : Nat} {l : List Oper} {k : List Item} {s : ASt} (f : Nat) (ms : List Nat) (hm : P.follows .mixedOrders = true) (hB : mixOK loudOp readOp f l.toArray = true) (hmut : ms.all (fun b => match s.h[b]? with | some k => k.st.isMut | none => false) = true)
    (h : WM P N ⟨f, s.h, ms, l⟩ R k (mrun P ⟨f, s.h, ms, l⟩ l [] true s)) : WD P N R (.drawn id l k s) := ⟨go_mix f ms hm hB hmut h.out⟩
theorem wm_done {c : MC} {s : ASt} {k : List Item} (h : WD P N R (arun P 4000 k s)) : WM P N c R k (.done s) := ⟨arun_sound 4000 _ _ h.out⟩
/-! ### the same, with what a run of simp shows left out -/
theorem sp1 {n : Nat} {b : Bool} {x y : List Item} {s : ASt} (h1 : b = true → WD P N R (arun P n x s)) (h2 : b = false → WD P N R (arun P n y s)) : WD P N R (abr P n b x y s) := wd_split b h1 h2
theorem sp2 {n : Nat} {b : Bool} {o : Oper} {l all : List Oper} {k : List Item} {s : ASt} (h1 : b = true → WD P N R (awant P n (some false) o l all k s)) (h2 : b = false → WD P N R (awant P n (some true) o l all k s)) : WD P N R (awant P n (some !b) o l all k s) := wd_nwant b h1 h2
theorem sp3 {c : MC} {k : List Item} {b : Bool} {o : Oper} {l : List Oper} {U : List Nat} {ok : Bool} {s : ASt} (h1 : b = true → WM P N c R k (mwant P c (some false) o l U ok s)) (h2 : b = false → WM P N c R k (mwant P c (some true) o l U ok s)) : WM P N c R k (mwant P c (some !b) o l U ok s) := wm_nwant b h1 h2
theorem sp4 {n : Nat} {b : Bool} {o : Oper} {l all : List Oper} {k : List Item} {s : ASt} (h1 : b = true → WD P N R (awant P n (some true) o l all k s)) (h2 : b = false → WD P N R (awant P n (some false) o l all k s)) : WD P N R (awant P n (some b) o l all k s) := wd_want b h1 h2
theorem sp5 {c : MC} {k : List Item} {b : Bool} {o : Oper} {l : List Oper} {U : List Nat} {ok : Bool} {s : ASt} (h1 : b = true → WM P N c R k (mwant P c (some true) o l U ok s)) (h2 : b = false → WM P N c R k (mwant P c (some false) o l U ok s)) : WM P N c R k (mwant P c (some b) o l U ok s) := wm_want b h1 h2
theorem sp6 {c : MC} {k : List Item} {b : Bool} {o : Oper} {f : Bool} {l : MT} {U : List Nat × List Nat} {ok : Bool} {s : ASt} (h1 : b = true → WT P N c R k (twantT P c (some false) o f l U ok s)) (h2 : b = false → WT P N c R k (twantT P c (some true) o f l U ok s)) : WT P N c R k (twantT P c (some !b) o f l U ok s) := wt_nwant b h1 h2
theorem sp7 {c : MC} {k : List Item} {b : Bool} {o : Oper} {f : Bool} {l : MT} {U : List Nat × List Nat} {ok : Bool} {s : ASt} (h1 : b = true → WT P N c R k (twantT P c (some true) o f l U ok s)) (h2 : b = false → WT P N c R k (twantT P c (some false) o f l U ok s)) : WT P N c R k (twantT P c (some b) o f l U ok s) := wt_want b h1 h2
theorem fk {c : MC} {k : List Item} {i : Nat} {fin : Bool} {t u : MT} {U : List Nat × List Nat} {ok : Bool} {s : ASt} (h1 : WT P N c R k (trun P c (.op i fin t) U ok s)) (h2 : WT P N c R k (trun P c u U ok s)) (hmut : c.ms.all (fun b => match c.h0[b]? with | some k => k.st.isMut | none => false) = true := by simp only [go_sem]; first | done | rfl) : WT P N c R k (.fork i fin t u U ok s) :=
  wt_fork hmut h1 h2
theorem cd {f : FuncId} {args : List AV} {h : List Blk} {d : Option Tmp} {k : List Item} {s : ASt} {args' : List AV} {h1 : List Blk} {r : AV} (hp : prep true h [] args = some (args', [], h1) := by simp only [go_sem]; first | done | rfl) (hc : AFn P f args' r) (hK : WD P N R (arun P 4000 k (ASt.put ⟨s.n, s.t, merge h1 [] []⟩ d (r.ren (back h1.length []))))) : WD P N R (.call f args h d k s) :=
  wd_fn hp hc hK
theorem cm {c : MC} {k : List Item} {f : FuncId} {args : List AV} {o : Oper} {l : List Oper} {U : List Nat} {ok : Bool} {s : ASt} {args' : List AV} {h1 : List Blk} {r : AV} (hp : prep true s.h [] args = some (args', [], h1) := by simp only [go_sem]; first | done | rfl) (hc : AFn P f args' r) (hok : (ok || decide (l.length < c.f)) = true := by simp only [go_sem]; first | done | rfl) (hmut : c.ms.all (fun b => match c.h0[b]? with | some k => k.st.isMut | none => false) = true := by simp only [go_sem]; first | done | rfl) (hK : WM P N c R k (mrun P c l (addU o.dst U) ok (ASt.put ⟨s.n, s.t, merge h1 [] []⟩ o.dst (r.ren (back h1.length []))))) : WM P N c R k (.call f args o l U ok s) :=
  wm_fn hp hc hok hmut hK
theorem ct {c : MC} {k : List Item} {f : FuncId} {args : List AV} {o : Oper} {fin : Bool} {l : MT} {U : List Nat × List Nat} {ok : Bool} {s : ASt} {args' : List AV} {h1 : List Blk} {r : AV} (hp : prep true s.h [] args = some (args', [], h1) := by simp only [go_sem]; first | done | rfl) (hc : AFn P f args' r) (hok : (ok || fin) = true := by simp only [go_sem]; first | done | rfl) (hmut : c.ms.all (fun b => match c.h0[b]? with | some k => k.st.isMut | none => false) = true := by simp only [go_sem]; first | done | rfl) (hK : WT P N c R k (trun P c l (addU o.dst U.1, U.2) ok (ASt.put ⟨s.n, s.t, merge h1 [] []⟩ o.dst (r.ren (back h1.length []))))) : WT P N c R k (.call f args o fin l U ok s) :=
  wt_fn hp hc hok hmut hK
theorem kd {f : FuncId} {args : List AV} {h : List Blk} {d : Option Tmp} {k : List Item} {s : ASt} (ks : List Nat) {args' : List AV} {H h1 : List Blk} {K' : AV → List Blk → Prop} (hp : prepC h ks args = some (args', H, h1) := by simp only [go_sem]; first | done | rfl) (hc : ACl P f args' H K') (hK : ∀ r H', K' r H' → WD P N R (arun P 4000 k (ASt.put ⟨s.n, s.t, merge h1 ks H'⟩ d (r.ren (back h1.length ks))))) : WD P N R (.call f args h d k s) :=
  wd_cl ks hp hc hK
theorem km {c : MC} {k : List Item} {f : FuncId} {args : List AV} {o : Oper} {l : List Oper} {U : List Nat} {ok : Bool} {s : ASt} (ks : List Nat) {args' : List AV} {H h1 : List Blk} {K' : AV → List Blk → Prop} (hp : prepC s.h ks args = some (args', H, h1) := by simp only [go_sem]; first | done | rfl) (hc : ACl P f args' H K') (hok : ((ok && ks.all c.ms.contains) || decide (l.length < c.f)) = true := by simp only [go_sem]; first | done | rfl) (hmut : c.ms.all (fun b => match c.h0[b]? with | some k => k.st.isMut | none => false) = true := by simp only [go_sem]; first | done | rfl) (hK : ∀ r H', K' r H' → WM P N c R k (mrun P c l (addU o.dst U) (ok && ks.all c.ms.contains) (ASt.put ⟨s.n, s.t, merge h1 ks H'⟩ o.dst (r.ren (back h1.length ks))))) : WM P N c R k (.call f args o l U ok s) :=
  wm_cl ks hp hc hok hmut hK
theorem kt {c : MC} {k : List Item} {f : FuncId} {args : List AV} {o : Oper} {fin : Bool} {l : MT} {U : List Nat × List Nat} {ok : Bool} {s : ASt} (ks : List Nat) {args' : List AV} {H h1 : List Blk} {K' : AV → List Blk → Prop} (hp : prepC s.h ks args = some (args', H, h1) := by simp only [go_sem]; first | done | rfl) (hc : ACl P f args' H K') (hok : ((ok && ks.all c.ms.contains) || fin) = true := by simp only [go_sem]; first | done | rfl) (hmut : c.ms.all (fun b => match c.h0[b]? with | some k => k.st.isMut | none => false) = true := by simp only [go_sem]; first | done | rfl) (hK : ∀ r H', K' r H' → WT P N c R k (trun P c l (addU o.dst U.1, U.2) (ok && ks.all c.ms.contains) (ASt.put ⟨s.n, s.t, merge h1 ks H'⟩ o.dst (r.ren (back h1.length ks))))) : WT P N c R k (.call f args o fin l U ok s) :=
  wt_cl ks hp hc hok hmut hK
theorem mx {id : Nat} {l : List Oper} {k : List Item} {s : ASt} (f : Nat) (ms : List Nat) (hm : P.follows .mixedOrders = true) (h : WM P N ⟨f, s.h, ms, l⟩ R k (mrun P ⟨f, s.h, ms, l⟩ l [] true s)) (hB : mixOK loudOp readOp f l.toArray = true := by decide +kernel) (hmut : ms.all (fun b => match s.h[b]? with | some k => k.st.isMut | none => false) = true := by simp only [go_sem]; first | done | rfl) : WD P N R (.drawn id l k s) :=
  wd_mix f ms hm hB hmut h
theorem tr {id : Nat} {l : List Oper} {k : List Item} {s : ASt} (T : MT) (ms : List Nat) (hm : P.follows .mixedOrders = true) (h : WT P N ⟨0, s.h, ms, l⟩ R k (trun P ⟨0, s.h, ms, l⟩ T ([], []) true s)) (hB : treeOK loudOp readOp l.toArray T = true := by decide +kernel) (hmut : ms.all (fun b => match s.h[b]? with | some k => k.st.isMut | none => false) = true := by simp only [go_sem]; first | done | rfl) : WD P N R (.drawn id l k s) :=
  wd_tree T ms hm hB hmut h
theorem hat {l : List Nat} {I : List AV → List Blk → Prop} {s : ASt} (ks : List Nat) {vs vs' : List AV} {K h1 : List Blk} (h : ASt.gets s.t l = some vs := by simp only [go_sem]; first | done | rfl) (hp : prep false s.h (List.range N ++ ks) vs = some (vs', K, h1) := by simp only [go_sem]; first | done | rfl) (hI : I vs' K) : AHead N l I s :=
  head_at ks h hp hI
theorem rat {rs : List ResultVar} {K : AV → List Blk → Prop} {s : ASt} (ks : List Nat) {r r' : AV} {H h1 : List Blk} (h : aresult P s rs = some r := by simp only [go_sem]; first | done | rfl) (hp : prep true s.h (List.range N ++ ks) [r] = some ([r'], H, h1) := by simp only [go_sem]; first | done | rfl) (hK : K r' H) : ARet P rs N K s :=
  ret_at ks h hp hK
theorem rwn {rs : List ResultVar} {K : AV → List Blk → Prop} {s : ASt} (ks : List Nat) {r r' : AV} {H h1 : List Blk} (h : aresult P s rs = some r := by simp only [go_sem]; first | done | rfl) (hp : prep false s.h (List.range N ++ ks) [r] = some ([r'], H, h1) := by simp only [go_sem]; first | done | rfl) (hK : K r' H) : ARet P rs N K s :=
  ret_own ks h hp hK
end
end Go.Proofs.Sh
namespace Go.Proofs.Sh
open Go.RowKit
section
variable {P : Program} {N : Nat} {R : ASt → Prop}
theorem cdq {f : FuncId} {args : List AV} {h : List Blk} {d : Option Tmp} {k : List Item} {s : ASt} {args' : List AV} {h1 : List Blk} {r : AV} (hK : WD P N R (arun P 4000 k (ASt.put ⟨s.n, s.t, merge h1 [] []⟩ d (r.ren (back h1.length []))))) (hp : prep true h [] args = some (args', [], h1) := by simp only [go_sem]; first | done | rfl) (hc : AFn P f args' r) : WD P N R (.call f args h d k s) :=
  wd_fn hp hc hK
theorem cmq {c : MC} {k : List Item} {f : FuncId} {args : List AV} {o : Oper} {l : List Oper} {U : List Nat} {ok : Bool} {s : ASt} {args' : List AV} {h1 : List Blk} {r : AV} (hK : WM P N c R k (mrun P c l (addU o.dst U) ok (ASt.put ⟨s.n, s.t, merge h1 [] []⟩ o.dst (r.ren (back h1.length []))))) (hp : prep true s.h [] args = some (args', [], h1) := by simp only [go_sem]; first | done | rfl) (hc : AFn P f args' r) (hok : (ok || decide (l.length < c.f)) = true := by simp only [go_sem]; first | done | rfl) (hmut : c.ms.all (fun b => match c.h0[b]? with | some k => k.st.isMut | none => false) = true := by simp only [go_sem]; first | done | rfl) : WM P N c R k (.call f args o l U ok s) :=
  wm_fn hp hc hok hmut hK
theorem ctq {c : MC} {k : List Item} {f : FuncId} {args : List AV} {o : Oper} {fin : Bool} {l : MT} {U : List Nat × List Nat} {ok : Bool} {s : ASt} {args' : List AV} {h1 : List Blk} {r : AV} (hK : WT P N c R k (trun P c l (addU o.dst U.1, U.2) ok (ASt.put ⟨s.n, s.t, merge h1 [] []⟩ o.dst (r.ren (back h1.length []))))) (hp : prep true s.h [] args = some (args', [], h1) := by simp only [go_sem]; first | done | rfl) (hc : AFn P f args' r) (hok : (ok || fin) = true := by simp only [go_sem]; first | done | rfl) (hmut : c.ms.all (fun b => match c.h0[b]? with | some k => k.st.isMut | none => false) = true := by simp only [go_sem]; first | done | rfl) : WT P N c R k (.call f args o fin l U ok s) :=
  wt_fn hp hc hok hmut hK
theorem kdq {f : FuncId} {args : List AV} {h : List Blk} {d : Option Tmp} {k : List Item} {s : ASt} (ks : List Nat) {args' : List AV} {H h1 : List Blk} {K' : AV → List Blk → Prop} (hK : ∀ r H', K' r H' → WD P N R (arun P 4000 k (ASt.put ⟨s.n, s.t, merge h1 ks H'⟩ d (r.ren (back h1.length ks))))) (hp : prepC h ks args = some (args', H, h1) := by simp only [go_sem]; first | done | rfl) (hc : ACl P f args' H K') : WD P N R (.call f args h d k s) :=
  wd_cl ks hp hc hK
theorem kmq {c : MC} {k : List Item} {f : FuncId} {args : List AV} {o : Oper} {l : List Oper} {U : List Nat} {ok : Bool} {s : ASt} (ks : List Nat) {args' : List AV} {H h1 : List Blk} {K' : AV → List Blk → Prop} (hK : ∀ r H', K' r H' → WM P N c R k (mrun P c l (addU o.dst U) (ok && ks.all c.ms.contains) (ASt.put ⟨s.n, s.t, merge h1 ks H'⟩ o.dst (r.ren (back h1.length ks))))) (hp : prepC s.h ks args = some (args', H, h1) := by simp only [go_sem]; first | done | rfl) (hc : ACl P f args' H K') (hok : ((ok && ks.all c.ms.contains) || decide (l.length < c.f)) = true := by simp only [go_sem]; first | done | rfl) (hmut : c.ms.all (fun b => match c.h0[b]? with | some k => k.st.isMut | none => false) = true := by simp only [go_sem]; first | done | rfl) : WM P N c R k (.call f args o l U ok s) :=
  wm_cl ks hp hc hok hmut hK
theorem ktq {c : MC} {k : List Item} {f : FuncId} {args : List AV} {o : Oper} {fin : Bool} {l : MT} {U : List Nat × List Nat} {ok : Bool} {s : ASt} (ks : List Nat) {args' : List AV} {H h1 : List Blk} {K' : AV → List Blk → Prop} (hK : ∀ r H', K' r H' → WT P N c R k (trun P c l (addU o.dst U.1, U.2) (ok && ks.all c.ms.contains) (ASt.put ⟨s.n, s.t, merge h1 ks H'⟩ o.dst (r.ren (back h1.length ks))))) (hp : prepC s.h ks args = some (args', H, h1) := by simp only [go_sem]; first | done | rfl) (hc : ACl P f args' H K') (hok : ((ok && ks.all c.ms.contains) || fin) = true := by simp only [go_sem]; first | done | rfl) (hmut : c.ms.all (fun b => match c.h0[b]? with | some k => k.st.isMut | none => false) = true := by simp only [go_sem]; first | done | rfl) : WT P N c R k (.call f args o fin l U ok s) :=
  wt_cl ks hp hc hok hmut hK
end
end Go.Proofs.Sh
/- What a run on shadows asks of this program's types and functions. -/
namespace Go.Proofs.Ytnaebafafhamjaa
open Go.RowKit Go.Proofs.Sh
@[go_sem] theorem ti_3 : tinfo Try.prog 3 = some { size := 1, agg := false, bytes := 8, zero := [Value.int IntKind.i64 0], fields := [], elem := 0, kind := 5 } := by kernel_rfl
@[go_sem] theorem tk_3 : tk Try.prog 3 = 5 := by kernel_rfl
@[go_sem] theorem tint_3 : tint Try.prog 3 = some IntKind.i64 := by kernel_rfl
@[go_sem] theorem ti_4 : tinfo Try.prog 4 = some { size := 1, agg := false, bytes := 1, zero := [Value.bool false], fields := [], elem := 0, kind := 6 } := by kernel_rfl
@[go_sem] theorem tk_4 : tk Try.prog 4 = 6 := by kernel_rfl
@[go_sem] theorem tint_4 : tint Try.prog 4 = none := by kernel_rfl
@[go_sem] theorem ti_5 : tinfo Try.prog 5 = some { size := 1, agg := false, bytes := 1, zero := [Value.int IntKind.u8 0], fields := [], elem := 0, kind := 5 } := by kernel_rfl
@[go_sem] theorem tk_5 : tk Try.prog 5 = 5 := by kernel_rfl
@[go_sem] theorem tint_5 : tint Try.prog 5 = some IntKind.u8 := by kernel_rfl
@[go_sem] theorem ti_9 : tinfo Try.prog 9 = some { size := 1, agg := false, bytes := 16, zero := [Value.string { data := { toList := [] } }], fields := [], elem := 0, kind := 4 } := by kernel_rfl
@[go_sem] theorem tk_9 : tk Try.prog 9 = 4 := by kernel_rfl
@[go_sem] theorem tint_9 : tint Try.prog 9 = none := by kernel_rfl
@[go_sem] theorem ti_22 : tinfo Try.prog 22 = some { size := 1, agg := false, bytes := 24, zero := [Value.slice none 0 0], fields := [], elem := 5, kind := 3 } := by kernel_rfl
@[go_sem] theorem tk_22 : tk Try.prog 22 = 3 := by kernel_rfl
@[go_sem] theorem tint_22 : tint Try.prog 22 = none := by kernel_rfl
@[go_sem] theorem es_22 : aesz Try.prog 22 = 1 := by kernel_rfl
@[go_sem] theorem ti_23 : tinfo Try.prog 23 = some { size := 1, agg := false, bytes := 24, zero := [Value.slice none 0 0], fields := [], elem := 25, kind := 3 } := by kernel_rfl
@[go_sem] theorem tk_23 : tk Try.prog 23 = 3 := by kernel_rfl
@[go_sem] theorem tint_23 : tint Try.prog 23 = none := by kernel_rfl
@[go_sem] theorem es_23 : aesz Try.prog 23 = 2 := by kernel_rfl
@[go_sem] theorem ti_25 : tinfo Try.prog 25 = some { size := 2, agg := true, bytes := 32, zero := [Value.int IntKind.i64 0, Value.slice none 0 0], fields := [(0, 1, false), (1, 1, false)], elem := 0, kind := 1 } := by kernel_rfl
@[go_sem] theorem tk_25 : tk Try.prog 25 = 1 := by kernel_rfl
@[go_sem] theorem tint_25 : tint Try.prog 25 = none := by kernel_rfl
@[go_sem] theorem ar_25 : aarr Try.prog 25 = none := by kernel_rfl
@[go_sem] theorem ti_26 : tinfo Try.prog 26 = some { size := 1, agg := false, bytes := 24, zero := [Value.slice none 0 0], fields := [], elem := 28, kind := 3 } := by kernel_rfl
@[go_sem] theorem tk_26 : tk Try.prog 26 = 3 := by kernel_rfl
@[go_sem] theorem tint_26 : tint Try.prog 26 = none := by kernel_rfl
@[go_sem] theorem es_26 : aesz Try.prog 26 = 9 := by kernel_rfl
@[go_sem] theorem ti_28 : tinfo Try.prog 28 = some { size := 9, agg := true, bytes := 128, zero := [Value.int IntKind.i64 0, Value.string { data := { toList := [] } }, Value.int IntKind.i64 0, Value.int IntKind.i64 0, Value.slice none 0 0, Value.int IntKind.i64 0, Value.slice none 0 0, Value.int IntKind.i64 0, Value.slice none 0 0], fields := [(0, 1, false), (1, 1, false), (2, 1, false), (3, 2, true), (5, 2, true), (7, 1, false), (8, 1, false)], elem := 0, kind := 1 } := by kernel_rfl
@[go_sem] theorem tk_28 : tk Try.prog 28 = 1 := by kernel_rfl
@[go_sem] theorem tint_28 : tint Try.prog 28 = none := by kernel_rfl
@[go_sem] theorem ar_28 : aarr Try.prog 28 = none := by kernel_rfl
@[go_sem] theorem ti_33 : tinfo Try.prog 33 = some { size := 1, agg := false, bytes := 8, zero := [Value.nilFunc], fields := [], elem := 0, kind := 0 } := by kernel_rfl
@[go_sem] theorem tk_33 : tk Try.prog 33 = 0 := by kernel_rfl
@[go_sem] theorem tint_33 : tint Try.prog 33 = none := by kernel_rfl
@[go_sem] theorem ti_35 : tinfo Try.prog 35 = some { size := 1, agg := false, bytes := 24, zero := [Value.slice none 0 0], fields := [], elem := 37, kind := 3 } := by kernel_rfl
@[go_sem] theorem tk_35 : tk Try.prog 35 = 3 := by kernel_rfl
@[go_sem] theorem tint_35 : tint Try.prog 35 = none := by kernel_rfl
@[go_sem] theorem es_35 : aesz Try.prog 35 = 2 := by kernel_rfl
@[go_sem] theorem ti_37 : tinfo Try.prog 37 = some { size := 2, agg := true, bytes := 32, zero := [Value.int IntKind.i64 0, Value.slice none 0 0], fields := [(0, 1, false), (1, 1, false)], elem := 0, kind := 1 } := by kernel_rfl
@[go_sem] theorem tk_37 : tk Try.prog 37 = 1 := by kernel_rfl
@[go_sem] theorem tint_37 : tint Try.prog 37 = none := by kernel_rfl
@[go_sem] theorem ar_37 : aarr Try.prog 37 = none := by kernel_rfl
@[go_sem] theorem ti_38 : tinfo Try.prog 38 = some { size := 1, agg := false, bytes := 24, zero := [Value.slice none 0 0], fields := [], elem := 40, kind := 3 } := by kernel_rfl
@[go_sem] theorem tk_38 : tk Try.prog 38 = 3 := by kernel_rfl
@[go_sem] theorem tint_38 : tint Try.prog 38 = none := by kernel_rfl
@[go_sem] theorem es_38 : aesz Try.prog 38 = 9 := by kernel_rfl
@[go_sem] theorem ti_40 : tinfo Try.prog 40 = some { size := 9, agg := true, bytes := 128, zero := [Value.int IntKind.i64 0, Value.string { data := { toList := [] } }, Value.int IntKind.i64 0, Value.int IntKind.i64 0, Value.slice none 0 0, Value.int IntKind.i64 0, Value.slice none 0 0, Value.int IntKind.i64 0, Value.slice none 0 0], fields := [(0, 1, false), (1, 1, false), (2, 1, false), (3, 2, true), (5, 2, true), (7, 1, false), (8, 1, false)], elem := 0, kind := 1 } := by kernel_rfl
@[go_sem] theorem tk_40 : tk Try.prog 40 = 1 := by kernel_rfl
@[go_sem] theorem tint_40 : tint Try.prog 40 = none := by kernel_rfl
@[go_sem] theorem ar_40 : aarr Try.prog 40 = none := by kernel_rfl
@[go_sem] theorem ti_48 : tinfo Try.prog 48 = some { size := 1, agg := false, bytes := 8, zero := [Value.nilFunc], fields := [], elem := 0, kind := 0 } := by kernel_rfl
@[go_sem] theorem tk_48 : tk Try.prog 48 = 0 := by kernel_rfl
@[go_sem] theorem tint_48 : tint Try.prog 48 = none := by kernel_rfl
@[go_sem] theorem ti_52 : tinfo Try.prog 52 = some { size := 1, agg := false, bytes := 8, zero := [Value.pointer none], fields := [], elem := 0, kind := 0 } := by kernel_rfl
@[go_sem] theorem tk_52 : tk Try.prog 52 = 0 := by kernel_rfl
@[go_sem] theorem tint_52 : tint Try.prog 52 = none := by kernel_rfl
@[go_sem] theorem ti_58 : tinfo Try.prog 58 = some { size := 1, agg := false, bytes := 8, zero := [Value.nilFunc], fields := [], elem := 0, kind := 0 } := by kernel_rfl
@[go_sem] theorem tk_58 : tk Try.prog 58 = 0 := by kernel_rfl
@[go_sem] theorem tint_58 : tint Try.prog 58 = none := by kernel_rfl
@[go_sem] theorem ti_63 : tinfo Try.prog 63 = some { size := 1, agg := false, bytes := 8, zero := [Value.nilFunc], fields := [], elem := 0, kind := 0 } := by kernel_rfl
@[go_sem] theorem tk_63 : tk Try.prog 63 = 0 := by kernel_rfl
@[go_sem] theorem tint_63 : tint Try.prog 63 = none := by kernel_rfl
@[go_sem] theorem ti_74 : tinfo Try.prog 74 = some { size := 1, agg := false, bytes := 8, zero := [Value.nilFunc], fields := [], elem := 0, kind := 0 } := by kernel_rfl
@[go_sem] theorem tk_74 : tk Try.prog 74 = 0 := by kernel_rfl
@[go_sem] theorem tint_74 : tint Try.prog 74 = none := by kernel_rfl
@[go_sem] theorem ti_79 : tinfo Try.prog 79 = some { size := 1, agg := false, bytes := 8, zero := [Value.pointer none], fields := [], elem := 0, kind := 0 } := by kernel_rfl
@[go_sem] theorem tk_79 : tk Try.prog 79 = 0 := by kernel_rfl
@[go_sem] theorem tint_79 : tint Try.prog 79 = none := by kernel_rfl
@[go_sem] theorem ti_83 : tinfo Try.prog 83 = some { size := 2, agg := true, bytes := 32, zero := [Value.slice none 0 0, Value.int IntKind.i64 0], fields := [(0, 1, false), (1, 1, false)], elem := 0, kind := 1 } := by kernel_rfl
@[go_sem] theorem tk_83 : tk Try.prog 83 = 1 := by kernel_rfl
@[go_sem] theorem tint_83 : tint Try.prog 83 = none := by kernel_rfl
@[go_sem] theorem ar_83 : aarr Try.prog 83 = none := by kernel_rfl
@[go_sem] theorem ti_87 : tinfo Try.prog 87 = some { size := 1, agg := false, bytes := 24, zero := [Value.slice none 0 0], fields := [], elem := 3, kind := 3 } := by kernel_rfl
@[go_sem] theorem tk_87 : tk Try.prog 87 = 3 := by kernel_rfl
@[go_sem] theorem tint_87 : tint Try.prog 87 = none := by kernel_rfl
@[go_sem] theorem es_87 : aesz Try.prog 87 = 1 := by kernel_rfl
@[go_sem] theorem ti_91 : tinfo Try.prog 91 = some { size := 1, agg := false, bytes := 24, zero := [Value.slice none 0 0], fields := [], elem := 9, kind := 3 } := by kernel_rfl
@[go_sem] theorem tk_91 : tk Try.prog 91 = 3 := by kernel_rfl
@[go_sem] theorem tint_91 : tint Try.prog 91 = none := by kernel_rfl
@[go_sem] theorem es_91 : aesz Try.prog 91 = 1 := by kernel_rfl
@[go_sem] theorem ti_99 : tinfo Try.prog 99 = some { size := 1, agg := false, bytes := 8, zero := [Value.nilFunc], fields := [], elem := 0, kind := 0 } := by kernel_rfl
@[go_sem] theorem tk_99 : tk Try.prog 99 = 0 := by kernel_rfl
@[go_sem] theorem tint_99 : tint Try.prog 99 = none := by kernel_rfl
@[go_sem] theorem ti_113 : tinfo Try.prog 113 = some { size := 1, agg := false, bytes := 24, zero := [Value.slice none 0 0], fields := [], elem := 116, kind := 3 } := by kernel_rfl
@[go_sem] theorem tk_113 : tk Try.prog 113 = 3 := by kernel_rfl
@[go_sem] theorem tint_113 : tint Try.prog 113 = none := by kernel_rfl
@[go_sem] theorem es_113 : aesz Try.prog 113 = 3 := by kernel_rfl
@[go_sem] theorem ti_116 : tinfo Try.prog 116 = some { size := 3, agg := true, bytes := 48, zero := [Value.string { data := { toList := [] } }, Value.int IntKind.i64 0, Value.slice none 0 0], fields := [(0, 1, false), (1, 2, true)], elem := 0, kind := 1 } := by kernel_rfl
@[go_sem] theorem tk_116 : tk Try.prog 116 = 1 := by kernel_rfl
@[go_sem] theorem tint_116 : tint Try.prog 116 = none := by kernel_rfl
@[go_sem] theorem ar_116 : aarr Try.prog 116 = none := by kernel_rfl
theorem follows : Try.prog.follows .mixedOrders = true := by kernel_rfl
theorem isfn_3 : IsFn Try.prog 3 := by intro args w; kernel_rfl
theorem isfn_8 : IsFn Try.prog 8 := by intro args w; kernel_rfl
theorem isfn_9 : IsFn Try.prog 9 := by intro args w; kernel_rfl
theorem isfn_10 : IsFn Try.prog 10 := by intro args w; kernel_rfl
theorem isfn_11 : IsFn Try.prog 11 := by intro args w; kernel_rfl
theorem isfn_12 : IsFn Try.prog 12 := by intro args w; kernel_rfl
theorem isfn_29 : IsFn Try.prog 29 := by intro args w; kernel_rfl
theorem isfn_30 : IsFn Try.prog 30 := by intro args w; kernel_rfl
theorem isfn_31 : IsFn Try.prog 31 := by intro args w; kernel_rfl
theorem isfn_32 : IsFn Try.prog 32 := by intro args w; kernel_rfl
theorem isfn_33 : IsFn Try.prog 33 := by intro args w; kernel_rfl
theorem isfn_34 : IsFn Try.prog 34 := by intro args w; kernel_rfl
theorem isfn_35 : IsFn Try.prog 35 := by intro args w; kernel_rfl
theorem isfn_36 : IsFn Try.prog 36 := by intro args w; kernel_rfl
theorem isfn_37 : IsFn Try.prog 37 := by intro args w; kernel_rfl
theorem isfn_38 : IsFn Try.prog 38 := by intro args w; kernel_rfl
theorem isfn_39 : IsFn Try.prog 39 := by intro args w; kernel_rfl
theorem isfn_40 : IsFn Try.prog 40 := by intro args w; kernel_rfl
theorem isfn_41 : IsFn Try.prog 41 := by intro args w; kernel_rfl
theorem isfn_42 : IsFn Try.prog 42 := by intro args w; kernel_rfl
theorem isfn_43 : IsFn Try.prog 43 := by intro args w; kernel_rfl
theorem isfn_44 : IsFn Try.prog 44 := by intro args w; kernel_rfl
theorem isfn_45 : IsFn Try.prog 45 := by intro args w; kernel_rfl
theorem isfn_46 : IsFn Try.prog 46 := by intro args w; kernel_rfl
theorem isfn_47 : IsFn Try.prog 47 := by intro args w; kernel_rfl
theorem isfn_48 : IsFn Try.prog 48 := by intro args w; kernel_rfl
theorem isfn_49 : IsFn Try.prog 49 := by intro args w; kernel_rfl
theorem isfn_65 : IsFn Try.prog 65 := by intro args w; kernel_rfl
theorem isfn_69 : IsFn Try.prog 69 := by intro args w; kernel_rfl
theorem isfn_71 : IsFn Try.prog 71 := by intro args w; kernel_rfl
theorem isfn_79 : IsFn Try.prog 79 := by intro args w; kernel_rfl
theorem isfn_80 : IsFn Try.prog 80 := by intro args w; kernel_rfl
theorem isfn_81 : IsFn Try.prog 81 := by intro args w; kernel_rfl
theorem isfn_82 : IsFn Try.prog 82 := by intro args w; kernel_rfl
theorem isfn_83 : IsFn Try.prog 83 := by intro args w; kernel_rfl
theorem isfn_84 : IsFn Try.prog 84 := by intro args w; kernel_rfl
theorem isfn_85 : IsFn Try.prog 85 := by intro args w; kernel_rfl
theorem isfn_86 : IsFn Try.prog 86 := by intro args w; kernel_rfl
theorem isfn_87 : IsFn Try.prog 87 := by intro args w; kernel_rfl
theorem isfn_88 : IsFn Try.prog 88 := by intro args w; kernel_rfl
theorem isfn_89 : IsFn Try.prog 89 := by intro args w; kernel_rfl
theorem isfn_90 : IsFn Try.prog 90 := by intro args w; kernel_rfl
theorem isfn_91 : IsFn Try.prog 91 := by intro args w; kernel_rfl
theorem isfn_92 : IsFn Try.prog 92 := by intro args w; kernel_rfl
theorem isfn_93 : IsFn Try.prog 93 := by intro args w; kernel_rfl
theorem isfn_94 : IsFn Try.prog 94 := by intro args w; kernel_rfl
theorem isfn_95 : IsFn Try.prog 95 := by intro args w; kernel_rfl
theorem isfn_96 : IsFn Try.prog 96 := by intro args w; kernel_rfl
theorem isfn_97 : IsFn Try.prog 97 := by intro args w; kernel_rfl
theorem isfn_98 : IsFn Try.prog 98 := by intro args w; kernel_rfl
theorem isfn_99 : IsFn Try.prog 99 := by intro args w; kernel_rfl
theorem isfn_100 : IsFn Try.prog 100 := by intro args w; kernel_rfl
theorem isfn_103 : IsFn Try.prog 103 := by intro args w; kernel_rfl
theorem isfn_106 : IsFn Try.prog 106 := by intro args w; kernel_rfl
theorem isfn_112 : IsFn Try.prog 112 := by intro args w; kernel_rfl
theorem isfn_128 : IsFn Try.prog 128 := by intro args w; kernel_rfl
theorem isfn_129 : IsFn Try.prog 129 := by intro args w; kernel_rfl
theorem isfn_130 : IsFn Try.prog 130 := by intro args w; kernel_rfl
theorem isfn_131 : IsFn Try.prog 131 := by intro args w; kernel_rfl
theorem isfn_132 : IsFn Try.prog 132 := by intro args w; kernel_rfl
theorem isfn_133 : IsFn Try.prog 133 := by intro args w; kernel_rfl
theorem isfn_134 : IsFn Try.prog 134 := by intro args w; kernel_rfl
theorem isfn_135 : IsFn Try.prog 135 := by intro args w; kernel_rfl
theorem isfn_136 : IsFn Try.prog 136 := by intro args w; kernel_rfl
theorem isfn_137 : IsFn Try.prog 137 := by intro args w; kernel_rfl
theorem isfn_138 : IsFn Try.prog 138 := by intro args w; kernel_rfl
theorem isfn_139 : IsFn Try.prog 139 := by intro args w; kernel_rfl
theorem isfn_141 : IsFn Try.prog 141 := by intro args w; kernel_rfl
theorem isfn_144 : IsFn Try.prog 144 := by intro args w; kernel_rfl
theorem isfn_146 : IsFn Try.prog 146 := by intro args w; kernel_rfl
theorem isfn_147 : IsFn Try.prog 147 := by intro args w; kernel_rfl
theorem isfn_148 : IsFn Try.prog 148 := by intro args w; kernel_rfl
theorem isfn_149 : IsFn Try.prog 149 := by intro args w; kernel_rfl
theorem isfn_150 : IsFn Try.prog 150 := by intro args w; kernel_rfl
theorem isfn_151 : IsFn Try.prog 151 := by intro args w; kernel_rfl
theorem isfn_164 : IsFn Try.prog 164 := by intro args w; kernel_rfl
theorem isfn_165 : IsFn Try.prog 165 := by intro args w; kernel_rfl
theorem isfn_166 : IsFn Try.prog 166 := by intro args w; kernel_rfl
theorem isfn_167 : IsFn Try.prog 167 := by intro args w; kernel_rfl
theorem isfn_168 : IsFn Try.prog 168 := by intro args w; kernel_rfl
theorem isfn_170 : IsFn Try.prog 170 := by intro args w; kernel_rfl
theorem isfn_171 : IsFn Try.prog 171 := by intro args w; kernel_rfl
theorem isfn_173 : IsFn Try.prog 173 := by intro args w; kernel_rfl
theorem isfn_175 : IsFn Try.prog 175 := by intro args w; kernel_rfl
theorem isfn_179 : IsFn Try.prog 179 := by intro args w; kernel_rfl
theorem isfn_180 : IsFn Try.prog 180 := by intro args w; kernel_rfl
theorem isfn_182 : IsFn Try.prog 182 := by intro args w; kernel_rfl
theorem isfn_183 : IsFn Try.prog 183 := by intro args w; kernel_rfl
theorem isfn_184 : IsFn Try.prog 184 := by intro args w; kernel_rfl
theorem isfn_185 : IsFn Try.prog 185 := by intro args w; kernel_rfl
end Go.Proofs.Ytnaebafafhamjaa
namespace Go.Proofs.Ytnaebafafhamjaa
open Go.RowKit Go.Proofs.Sh
section
variable {N : Nat} {R : ASt → Prop}
theorem mxq0 {id : Nat} {l : List Oper} {k : List Sh.Item} {s : ASt} (ms : List Nat) (h : WM Try.prog N ⟨0, s.h, ms, l⟩ R k (mrun Try.prog ⟨0, s.h, ms, l⟩ l [] true s)) (hB : mixOK loudOp readOp 0 l.toArray = true := by decide +kernel) (hmut : ms.all (fun b => match s.h[b]? with | some k => k.st.isMut | none => false) = true := by simp only [go_sem]; first | done | rfl) : WD Try.prog N R (.drawn id l k s) :=
  wd_mix 0 ms follows hB hmut h
theorem mxq1 {id : Nat} {l : List Oper} {k : List Sh.Item} {s : ASt} (ms : List Nat) (h : WM Try.prog N ⟨1, s.h, ms, l⟩ R k (mrun Try.prog ⟨1, s.h, ms, l⟩ l [] true s)) (hB : mixOK loudOp readOp 1 l.toArray = true := by decide +kernel) (hmut : ms.all (fun b => match s.h[b]? with | some k => k.st.isMut | none => false) = true := by simp only [go_sem]; first | done | rfl) : WD Try.prog N R (.drawn id l k s) :=
  wd_mix 1 ms follows hB hmut h
theorem mxq2 {id : Nat} {l : List Oper} {k : List Sh.Item} {s : ASt} (ms : List Nat) (h : WM Try.prog N ⟨2, s.h, ms, l⟩ R k (mrun Try.prog ⟨2, s.h, ms, l⟩ l [] true s)) (hB : mixOK loudOp readOp 2 l.toArray = true := by decide +kernel) (hmut : ms.all (fun b => match s.h[b]? with | some k => k.st.isMut | none => false) = true := by simp only [go_sem]; first | done | rfl) : WD Try.prog N R (.drawn id l k s) :=
  wd_mix 2 ms follows hB hmut h
theorem mxq3 {id : Nat} {l : List Oper} {k : List Sh.Item} {s : ASt} (ms : List Nat) (h : WM Try.prog N ⟨3, s.h, ms, l⟩ R k (mrun Try.prog ⟨3, s.h, ms, l⟩ l [] true s)) (hB : mixOK loudOp readOp 3 l.toArray = true := by decide +kernel) (hmut : ms.all (fun b => match s.h[b]? with | some k => k.st.isMut | none => false) = true := by simp only [go_sem]; first | done | rfl) : WD Try.prog N R (.drawn id l k s) :=
  wd_mix 3 ms follows hB hmut h
theorem mxq4 {id : Nat} {l : List Oper} {k : List Sh.Item} {s : ASt} (ms : List Nat) (h : WM Try.prog N ⟨4, s.h, ms, l⟩ R k (mrun Try.prog ⟨4, s.h, ms, l⟩ l [] true s)) (hB : mixOK loudOp readOp 4 l.toArray = true := by decide +kernel) (hmut : ms.all (fun b => match s.h[b]? with | some k => k.st.isMut | none => false) = true := by simp only [go_sem]; first | done | rfl) : WD Try.prog N R (.drawn id l k s) :=
  wd_mix 4 ms follows hB hmut h
theorem mxq5 {id : Nat} {l : List Oper} {k : List Sh.Item} {s : ASt} (ms : List Nat) (h : WM Try.prog N ⟨5, s.h, ms, l⟩ R k (mrun Try.prog ⟨5, s.h, ms, l⟩ l [] true s)) (hB : mixOK loudOp readOp 5 l.toArray = true := by decide +kernel) (hmut : ms.all (fun b => match s.h[b]? with | some k => k.st.isMut | none => false) = true := by simp only [go_sem]; first | done | rfl) : WD Try.prog N R (.drawn id l k s) :=
  wd_mix 5 ms follows hB hmut h
theorem mxq6 {id : Nat} {l : List Oper} {k : List Sh.Item} {s : ASt} (ms : List Nat) (h : WM Try.prog N ⟨6, s.h, ms, l⟩ R k (mrun Try.prog ⟨6, s.h, ms, l⟩ l [] true s)) (hB : mixOK loudOp readOp 6 l.toArray = true := by decide +kernel) (hmut : ms.all (fun b => match s.h[b]? with | some k => k.st.isMut | none => false) = true := by simp only [go_sem]; first | done | rfl) : WD Try.prog N R (.drawn id l k s) :=
  wd_mix 6 ms follows hB hmut h
end
end Go.Proofs.Ytnaebafafhamjaa
/- The reference's reader, on shadows. -/
namespace Go.Proofs.Sh
open Go.RowKit
def byC (x : Int) : List C := [.sc (.int .u8 x)]
def byR (l : List Int) : List (List C) := l.map byC
def byte (l : List Int) (k : Nat) : Int := l.getD k 0
@[go_sem] theorem byC_length (x : Int) : (byC x).length = 1 := rfl
@[go_sem] theorem byC_0 (x : Int) : (byC x)[0]? = some (.sc (.int .u8 x)) := rfl
@[go_sem] theorem byR_length (l : List Int) : (byR l).length = l.length := by simp [byR]
@[go_sem] theorem byR_at (l : List Int) (i : Nat) : (byR l)[i]? = match decide ((i : Int) < (l.length : Int)) with | true => some (byC (byte l i)) | false => none := by
  by_cases h : i < l.length
  · have h' : (i : Int) < (l.length : Int) := by omega
    simp [byR, byte, h, h']
  · have h' : ¬ (i : Int) < (l.length : Int) := by omega
    simp [byR, h, h']
@[go_sem] theorem byR_tree (l : List Int) : treeRows (byR l) = true := by
  simp [byR, treeRows, treeL, byC, C.tree]
@[go_sem] theorem byR_len (l : List Int) : rowsLen 1 (byR l) = true := by
  simp [byR, rowsLen, byC]
theorem byR_take (l : List Int) (n : Nat) : (byR l).take n = byR (l.take n) := by simp [byR, List.map_take]
/-- bytes -/
structure Bs (l : List Int) : Prop where
  len : l.length ≤ 2000
  all : ∀ k, 0 ≤ byte l k ∧ byte l k < 256
theorem i64_xor' (a b : Nat) (ha : a < 9223372036854775808) (hb : b < 9223372036854775808) : IntKind.i64.wrap ((BitVec.ofInt 64 (a : Int) ^^^ BitVec.ofInt 64 (b : Int)).toNat : Int) = ((a ^^^ b : Nat) : Int) := by
  have hx : a ^^^ b < 2 ^ 63 := Nat.xor_lt_two_pow (by omega) (by omega)
  rw [BitVec.toNat_xor, ofInt_u64 a (by omega), ofInt_u64 b (by omega), IntKind.wrap_i64]
  omega
end Go.Proofs.Sh
namespace Go.Proofs.Ytnaebafafhamjaa
open Go.RowKit Go.Proofs.Sh
set_option maxRecDepth 100000
set_option maxHeartbeats 4000000
theorem pick (bs : List Int) (hB : Bs bs) (p : Nat) (hp : p < 1099511627776) (n : Int) (hn1 : -1099511627776 ≤ n) (hn2 : n ≤ 1099511627776) :
    ACl Try.prog 31 [.one (.ptr 2 0 0 0), .one (.sc (.int .i64 n))] [(⟨2, 83, .mut, [[.sl (byR bs), .sc (.int .i64 ((p : Nat) : Int))]]⟩ : Blk)] (fun r H' => ∃ z : Int, r = .one (.sc (.int .i64 z)) ∧ 0 ≤ z ∧ (z < n ∨ z = 0) ∧ H' = [(⟨2, 83, .mut, [[.sl (byR bs), .sc (.int .i64 ((p + 1 : Nat) : Int))]]⟩ : Blk)]) := by
  have wq : IntKind.i64.wrap ((p : Int) + 1) = ((p + 1 : Nat) : Int) := by rw [IntWalk.i64_in _ (by omega)]; omega
  have wr : IntKind.i64.wrap (((p + 1 : Nat) : Int) - 1) = (p : Int) := by rw [IntWalk.i64_in _ (by omega)]; omega
  by_cases hz : n < 1
  · have hd : decide (n < 1) = true := by simp [hz]
    refine acl_in Try.func31 rfl isfn_31 (Nat.le_of_ble_eq_true rfl) (fun R hR => ?_); rw [Try.results31] at hR; refine wg_run ?_; (simp only [Try.f31, go_sem, hd, wq])
    exact hR _ (rat [] (hK := ⟨0, rfl, Int.le_refl _, .inr rfl, rfl⟩))
  · have hd : decide (n < 1) = false := by simp; omega
    have hl := hB.len
    by_cases hm : bs.length = 0
    · have hm1 : (((bs.length : Nat) : Int) == 0) = true := by simp [hm]
      refine acl_in Try.func31 rfl isfn_31 (Nat.le_of_ble_eq_true rfl) (fun R hR => ?_); rw [Try.results31] at hR; refine wg_run ?_; (simp only [Try.f31, go_sem, hd, wq, hm1])
      exact hR _ (rat [] (hK := ⟨0, rfl, Int.le_refl _, .inr rfl, rfl⟩))
    · have hm1 : (((bs.length : Nat) : Int) == 0) = false := by rw [beq_eq_false_iff_ne]; omega
      have hn0 : decide (n = 0) = false := by simp; omega
      have hn00 : (n == 0) = false := by simp; omega
      by_cases hpl : p < bs.length
      · have hpp : decide ((p : Int) < (bs.length : Int)) = true := by simp; omega
        have hb := hB.all p
        have wx : IntKind.i64.wrap (byte bs p) = byte bs p := IntWalk.i64_in _ (by omega)
        have hrem : 0 ≤ (byte bs p).tmod n ∧ (byte bs p).tmod n < n := ⟨Int.tmod_nonneg _ hb.1, Int.tmod_lt_of_pos _ (by omega)⟩
        refine acl_in Try.func31 rfl isfn_31 (Nat.le_of_ble_eq_true rfl) (fun R hR => ?_); rw [Try.results31] at hR; refine wg_run ?_; (simp only [Try.f31, go_sem, hd, wq, hm1, wr, hpp, wx, hn0])
        exact hR _ (rat [] (hK := ⟨_, rfl, hrem.1, .inl hrem.2, rfl⟩))
      · have hpp : decide ((p : Int) < (bs.length : Int)) = false := by simp; omega
        have hm0 : decide (((bs.length : Nat) : Int) = 0) = false := by rw [decide_eq_false_iff_not]; omega
        have hx := hB.all (p % bs.length)
        have hy := hB.all ((p * 7 + 3) % bs.length)
        have t1 : (p : Int).tmod (bs.length : Int) = ((p % bs.length : Nat) : Int) := by rw [Int.tmod_eq_emod_of_nonneg (by omega)]; simp
        have t2 : ((p : Int) * 7 + 3).tmod (bs.length : Int) = (((p * 7 + 3) % bs.length : Nat) : Int) := by rw [Int.tmod_eq_emod_of_nonneg (by omega)]; simp
        have t3 : (p : Int).tdiv (bs.length : Int) = ((p / bs.length : Nat) : Int) := by rw [Int.tdiv_eq_ediv_of_nonneg (by omega)]; simp
        have g1 : decide (((p % bs.length : Nat) : Int) < (bs.length : Int)) = true := by have := Nat.mod_lt p (show 0 < bs.length by omega); simp only [decide_eq_true_eq]; omega
        have g2 : decide ((((p * 7 + 3) % bs.length : Nat) : Int) < (bs.length : Int)) = true := by have := Nat.mod_lt (p * 7 + 3) (show 0 < bs.length by omega); simp only [decide_eq_true_eq]; omega
        have hdv : p / bs.length ≤ p := Nat.div_le_self _ _
        generalize hxe : byte bs (p % bs.length) = x at *
        generalize hye : byte bs ((p * 7 + 3) % bs.length) = y at *
        generalize hdd : p / bs.length = dd at *
        have w1 : IntKind.i64.wrap ((p : Int) * 7) = (p : Int) * 7 := IntWalk.i64_in _ (by omega)
        have w2 : IntKind.i64.wrap ((p : Int) * 7 + 3) = (p : Int) * 7 + 3 := IntWalk.i64_in _ (by omega)
        have w3 : IntKind.i64.wrap (x * 131) = x * 131 := IntWalk.i64_in _ (by omega)
        have w4 : IntKind.i64.wrap (y * 1117) = y * 1117 := IntWalk.i64_in _ (by omega)
        have w5 : IntKind.i64.wrap (x * 131 + y * 1117) = x * 131 + y * 1117 := IntWalk.i64_in _ (by omega)
        have w6 : IntKind.i64.wrap ((p : Int) * 29) = (p : Int) * 29 := IntWalk.i64_in _ (by omega)
        have w7 : IntKind.i64.wrap (x * 131 + y * 1117 + (p : Int) * 29) = x * 131 + y * 1117 + (p : Int) * 29 := IntWalk.i64_in _ (by omega)
        have w8 : IntKind.i64.wrap ((dd : Int) * 53) = (dd : Int) * 53 := IntWalk.i64_in _ (by omega)
        have w9 : IntKind.i64.wrap (x * 131 + y * 1117 + (p : Int) * 29 + (dd : Int) * 53) = x * 131 + y * 1117 + (p : Int) * 29 + (dd : Int) * 53 := IntWalk.i64_in _ (by omega)
        have wx : IntKind.i64.wrap x = x := IntWalk.i64_in _ (by omega)
        have wy : IntKind.i64.wrap y = y := IntWalk.i64_in _ (by omega)
        have wd : IntKind.i64.wrap (dd : Int) = (dd : Int) := IntWalk.i64_in _ (by omega)
        obtain ⟨s, hs, hs2⟩ : ∃ s : Nat, x * 131 + y * 1117 + (p : Int) * 29 + (dd : Int) * 53 = (s : Int) ∧ s < 4611686018427387904 := ⟨(x * 131 + y * 1117 + (p : Int) * 29 + (dd : Int) * 53).toNat, by omega, by omega⟩
        have t4 : (s : Int).tdiv 64 = ((s / 64 : Nat) : Int) := by rw [Int.tdiv_eq_ediv_of_nonneg (by omega)]; simp
        have w10 : IntKind.i64.wrap ((s / 64 : Nat) : Int) = ((s / 64 : Nat) : Int) := IntWalk.i64_in _ (by omega)
        have w11 : IntKind.i64.wrap (s : Int) = (s : Int) := IntWalk.i64_in _ (by omega)
        have hxo : IntKind.i64.wrap ((BitVec.ofInt 64 (s : Int) ^^^ BitVec.ofInt 64 ((s / 64 : Nat) : Int)).toNat : Int) = ((s ^^^ (s / 64) : Nat) : Int) := i64_xor' s (s / 64) (by omega) (by omega)
        generalize hze : s ^^^ (s / 64) = z at *
        have hrem : 0 ≤ (z : Int).tmod n ∧ (z : Int).tmod n < n := ⟨Int.tmod_nonneg _ (by omega), Int.tmod_lt_of_pos _ (by omega)⟩
        refine acl_in Try.func31 rfl isfn_31 (Nat.le_of_ble_eq_true rfl) (fun R hR => ?_); rw [Try.results31] at hR; refine wg_run ?_; (simp only [Try.f31, go_sem, hd, wq, hm1, wr, hpp])
        refine wd_mix 0 [] follows (by kernel_rfl) (by (simp only [go_sem]); first | done | rfl) ?_
        (simp only [go_sem, hm0, hxe, hye, t1, t2, t3, g1, g2, w1, w2, w3, w4, w5, w6, w7, w8, w9, wx, wy, wd, hs])
        refine wm_done ?_
        (simp only [go_sem, hn0, t4, w10, w11, hxo])
        refine hR _ (rat [] (hK := ⟨_, rfl, ?_, .inl ?_, rfl⟩))
        · have h := hrem.1; rw [← hxo] at h; exact h
        · have h := hrem.2; rw [← hxo] at h; exact h
/-- whole numbers as rows of a slice -/
theorem num (bs : List Int) (hB : Bs bs) (p : Nat) (hp : p < 1099511627776) (l : List Int) (h1 : 0 < l.length) (h2 : l.length < 1000) :
    ACl Try.prog 81 [.one (.ptr 2 0 0 0), .one (.sl (l.map fun x => [.sc (.int .i64 x)]))] [(⟨2, 83, .mut, [[.sl (byR bs), .sc (.int .i64 ((p : Nat) : Int))]]⟩ : Blk)] (fun r H' => ∃ z : Int, r = .one (.sc (.int .i64 z)) ∧ z ∈ l ∧ H' = [(⟨2, 83, .mut, [[.sl (byR bs), .sc (.int .i64 ((p + 1 : Nat) : Int))]]⟩ : Blk)]) := by
  have hk := pick bs hB p hp (l.length : Nat) (by omega) (by omega)
  refine acl_in Try.func81 rfl isfn_81 (Nat.le_of_ble_eq_true rfl) (fun R hR => ?_); rw [Try.results81] at hR; refine wg_run ?_; (simp only [Try.f81, go_sem, List.length_map])
  refine wd_cl [0] (by (simp only [go_sem]); first | done | rfl) hk ?_
  rintro _ _ ⟨z, rfl, hz0, hz1, rfl⟩
  obtain ⟨z, rfl⟩ := Int.eq_ofNat_of_zero_le hz0
  have hz : z < l.length := by omega
  have hm : (l.map fun x => [C.sc (.int .i64 x)])[z]? = some [C.sc (.int .i64 l[z])] := by simp [hz]
  have hz2 : decide ((0 : Int) ≤ (z : Int)) = true := by simp
  (simp only [go_sem, hm, hz2])
  exact hR _ (rat [] (hK := ⟨_, rfl, List.getElem_mem hz, rfl⟩))
theorem ofs (bs : List Int) (hB : Bs bs) (p : Nat) (hp : p < 1099511627776) (l : List ByteArray) (h1 : 0 < l.length) (h2 : l.length < 1000) :
    ACl Try.prog 84 [.one (.ptr 2 0 0 0), .one (.sl (l.map fun x => [.sc (.string x)]))] [(⟨2, 83, .mut, [[.sl (byR bs), .sc (.int .i64 ((p : Nat) : Int))]]⟩ : Blk)] (fun r H' => ∃ z : ByteArray, r = .one (.sc (.string z)) ∧ z ∈ l ∧ H' = [(⟨2, 83, .mut, [[.sl (byR bs), .sc (.int .i64 ((p + 1 : Nat) : Int))]]⟩ : Blk)]) := by
  have hk := pick bs hB p hp (l.length : Nat) (by omega) (by omega)
  refine acl_in Try.func84 rfl isfn_84 (Nat.le_of_ble_eq_true rfl) (fun R hR => ?_); rw [Try.results84] at hR; refine wg_run ?_; (simp only [Try.f84, go_sem, List.length_map])
  refine wd_cl [0] (by (simp only [go_sem]); first | done | rfl) hk ?_
  rintro _ _ ⟨z, rfl, hz0, hz1, rfl⟩
  obtain ⟨z, rfl⟩ := Int.eq_ofNat_of_zero_le hz0
  have hz : z < l.length := by omega
  have hm : (l.map fun x => [C.sc (.string x)])[z]? = some [C.sc (.string l[z])] := by simp [hz]
  have hz2 : decide ((0 : Int) ≤ (z : Int)) = true := by simp
  (simp only [go_sem, hm, hz2])
  exact hR _ (rat [] (hK := ⟨_, rfl, List.getElem_mem hz, rfl⟩))
theorem byte_take (l : List Int) (n k : Nat) : byte (l.take n) k = byte l k ∨ byte (l.take n) k = 0 := by
  unfold byte
  by_cases h : k < n
  · left; simp [List.getD_eq_getElem?_getD, List.getElem?_take, h]
  · right; simp [List.getD_eq_getElem?_getD, List.getElem?_take, h]
theorem opn (l : List Int) (hl : l.length < 4611686018427387904) (hb : ∀ k, 0 ≤ byte l k ∧ byte l k < 256) :
    ACl Try.prog 29 [.one (.sl (byR l))] [] (fun r H' => ∃ bs : List Int, Bs bs ∧ r = .one (.ptr 2 0 0 0) ∧ H' = [(⟨2, 83, .mut, [[.sl (byR bs), .sc (.int .i64 ((0 : Nat) : Int))]]⟩ : Blk)]) := by
  by_cases h : 2000 < l.length
  · have hd : decide (((l.length : Nat) : Int) > 2000) = true := by simp; omega
    have hd2 : decide (2000 ≤ l.length) = true := by simp; omega
    refine acl_in Try.func29 rfl isfn_29 (Nat.le_of_ble_eq_true rfl) (fun R hR => ?_); rw [Try.results29] at hR; refine wg_run ?_; (simp only [Try.f29, go_sem, hd, hd2, byR_take])
    refine hR _ (rat [0] (hK := ⟨l.take 2000, ⟨by simp; omega, fun k => ?_⟩, rfl, ?_⟩))
    · rcases byte_take l 2000 k with h | h <;> rw [h]
      · exact hb k
      · omega
    · simp
  · have hd : decide (((l.length : Nat) : Int) > 2000) = false := by simp; omega
    refine acl_in Try.func29 rfl isfn_29 (Nat.le_of_ble_eq_true rfl) (fun R hR => ?_); rw [Try.results29] at hR; refine wg_run ?_; (simp only [Try.f29, go_sem, hd])
    exact hR _ (rat [0] (hK := ⟨l, ⟨by omega, hb⟩, rfl, rfl⟩))
end Go.Proofs.Ytnaebafafhamjaa
