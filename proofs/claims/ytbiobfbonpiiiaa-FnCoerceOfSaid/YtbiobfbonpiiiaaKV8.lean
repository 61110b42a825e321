/- Texts of the proof, one behind another. -/
import Derived.Test.YtbiobfbonpiiiaaProg
import Derived.Shelf.Sort.Plain
import Derived.Shelf.Slices.CompactI
import Derived.Shelf.Slices.In.SortNone
import Derived.Test.YtbiobfbonpiiiaaKV7
set_option linter.unusedSimpArgs false
set_option linter.unusedVariables false
/- Rules for walking functions on shadows. -/
namespace Go.Proofs.Sh
open Go.RowKit

section
variable {P : Program} {N : Nat} {R : ASt → Prop}

/-- a function that reads its arguments' trees and yields a value -/
structure AFn (P : Program) (f : FuncId) (args : List AV) (r : AV) : Prop where
  out : ACall P f args [] (fun r' H' => r' = r ∧ H' = [])
/-- a function that ends as K says -/
structure ACl (P : Program) (f : FuncId) (args : List AV) (H : List Blk) (K : AV → List Blk → Prop) : Prop where
  out : ACall P f args H K
/-- a run outside of regions that draw their order; within one; code ahead -/
structure WD (P : Program) (N : Nat) (R : ASt → Prop) (o : Out) : Prop where
  out : ADis P N R o
structure WM (P : Program) (N : Nat) (c : MC) (R : ASt → Prop) (k : List Item) (o : MOut) : Prop where
  out : MDis P N c (AGo P N R k) o
structure WT (P : Program) (N : Nat) (c : MC) (R : ASt → Prop) (k : List Item) (o : TOut) : Prop where
  out : TDis P N c (AGo P N R k) o
structure WG (P : Program) (N : Nat) (R : ASt → Prop) (k : List Item) (s : ASt) : Prop where
  out : AGo P N R k .normal s

theorem wg_run {s : ASt} {k : List Item} (h : WD P N R (arun P 4000 k s)) : WG P N R k s := ⟨arun_sound 4000 _ _ h.out⟩
@[go_sem] theorem wd_ret (s : ASt) : WD P N R (.ret s) = R s := propext ⟨fun h => h.out, fun h => ⟨h⟩⟩
@[go_sem] theorem wd_goal (I : ASt → Prop) (s : ASt) : WD P N R (.goal I s) = I s := propext ⟨fun h => h.out, fun h => ⟨h⟩⟩
theorem wd_split {n : Nat} (b : Bool) {x y : List Item} {s : ASt} (h1 : b = true → WD P N R (arun P n x s)) (h2 : b = false → WD P N R (arun P n y s)) : WD P N R (abr P n b x y s) := by
  cases b
  · rw [abr]; exact h2 rfl
  · rw [abr]; exact h1 rfl
theorem wd_want {n : Nat} (b : Bool) {o : Oper} {l all : List Oper} {k : List Item} {s : ASt} (h1 : b = true → WD P N R (awant P n (some true) o l all k s)) (h2 : b = false → WD P N R (awant P n (some false) o l all k s)) : WD P N R (awant P n (some b) o l all k s) := by
  cases b
  · exact h2 rfl
  · exact h1 rfl
theorem wd_nwant {n : Nat} (b : Bool) {o : Oper} {l all : List Oper} {k : List Item} {s : ASt} (h1 : b = true → WD P N R (awant P n (some false) o l all k s)) (h2 : b = false → WD P N R (awant P n (some true) o l all k s)) : WD P N R (awant P n (some !b) o l all k s) := by
  cases b
  · exact h2 rfl
  · exact h1 rfl
theorem wm_want {c : MC} {k : List Item} (b : Bool) {o : Oper} {l : List Oper} {U : List Nat} {ok : Bool} {s : ASt} (h1 : b = true → WM P N c R k (mwant P c (some true) o l U ok s)) (h2 : b = false → WM P N c R k (mwant P c (some false) o l U ok s)) : WM P N c R k (mwant P c (some b) o l U ok s) := by
  cases b
  · exact h2 rfl
  · exact h1 rfl
theorem wm_nwant {c : MC} {k : List Item} (b : Bool) {o : Oper} {l : List Oper} {U : List Nat} {ok : Bool} {s : ASt} (h1 : b = true → WM P N c R k (mwant P c (some false) o l U ok s)) (h2 : b = false → WM P N c R k (mwant P c (some true) o l U ok s)) : WM P N c R k (mwant P c (some !b) o l U ok s) := by
  cases b
  · exact h2 rfl
  · exact h1 rfl
theorem wt_want {c : MC} {k : List Item} (b : Bool) {o : Oper} {f : Bool} {l : MT} {U : List Nat × List Nat} {ok : Bool} {s : ASt} (h1 : b = true → WT P N c R k (twantT P c (some true) o f l U ok s)) (h2 : b = false → WT P N c R k (twantT P c (some false) o f l U ok s)) : WT P N c R k (twantT P c (some b) o f l U ok s) := by
  cases b
  · exact h2 rfl
  · exact h1 rfl
theorem wt_nwant {c : MC} {k : List Item} (b : Bool) {o : Oper} {f : Bool} {l : MT} {U : List Nat × List Nat} {ok : Bool} {s : ASt} (h1 : b = true → WT P N c R k (twantT P c (some false) o f l U ok s)) (h2 : b = false → WT P N c R k (twantT P c (some true) o f l U ok s)) : WT P N c R k (twantT P c (some !b) o f l U ok s) := by
  cases b
  · exact h2 rfl
  · exact h1 rfl
@[go_sem] theorem abr_not {n : Nat} (b : Bool) {x y : List Item} {s : ASt} : abr P n (!b) x y s = abr P n b y x s := by
  cases b <;> simp [abr]
theorem int_bne (x y : Int) : (x != y) = !(x == y) := rfl
@[go_sem] theorem isEmpty_nil {α : Type} : (#[] : Array α).isEmpty = true := rfl
@[go_sem] theorem wrap_in {n : Int} (h1 : -9223372036854775808 ≤ n) (h2 : n ≤ 9223372036854775807) : IntKind.i64.wrap n = n := IntWalk.i64_in _ (by omega)
attribute [go_sem] Int.cast_ofNat_Int cond_true cond_false beq_true beq_false Bool.not_not Int.natCast_zero List.toList_toArray

/-- A function's contract, from a run of its body; R: what is asked at the end. -/
theorem acl_in {f : FuncId} {fn : Func} {c : Code} {args : List AV} {H : List Blk} {K : AV → List Blk → Prop} (hf : P.funcs[f]? = some fn) (hb : fn.body = some c) (hfn : IsFn P f) (hn : args.length ≤ fn.ntmps)
    (h : ∀ R : ASt → Prop, (∀ s, ARet P fn.results.toList H.length K s → R s) → WG P H.length R [.code c] ⟨fn.ntmps, slots 0 args, H⟩) : ACl P f args H K :=
  ⟨acall_of hf hb hfn hn (h _ (fun _ h => h)).out⟩
theorem fn_in {f : FuncId} {args : List AV} {r : AV} (h : ACl P f args [] (fun r' H' => r' = r ∧ H' = [])) : AFn P f args r := ⟨h.out⟩
theorem ACl.mono {f : FuncId} {args : List AV} {H : List Blk} {K K' : AV → List Blk → Prop} (h : ACl P f args H K) (hk : ∀ r H', K r H' → K' r H') : ACl P f args H K' := ⟨h.out.mono hk⟩

/-- a loop: the state at each round's head is (V x, H x), for an x of which I holds -/
theorem wd_for {σ : Type} {c : Code} {n0 : Nat} {t0 : List (Nat × AV)} {b0 : List Blk} {k : List Item} (l : List Nat) (V : σ → List AV) (H : σ → List Blk) (I : σ → Prop) (m : σ → Nat) (x0 : σ) (hI : I x0) (h0 : AHead N l (fun vs h => vs = V x0 ∧ h = H x0) ⟨n0, t0, b0⟩)
    (hr : ∀ x, I x → ∀ G : ASt → Prop, (∀ x' t h, I x' → m x' < m x → AHead N l (fun vs h => vs = V x' ∧ h = H x') ⟨n0, t, h⟩ → G ⟨n0, t, h⟩) → WG P N R (.code c :: .goal G :: k) ⟨n0, zipT l (V x), H x⟩) : WD P N R (.loop c k ⟨n0, t0, b0⟩) := by
  refine ⟨?_⟩
  show AGo P N R (.code (.loop c) :: k) .normal ⟨n0, t0, b0⟩
  intro X μ0 hh0 w0 μ a w hF hT
  refine wp_loop_rel (fun n a w => ∃ μ x, I x ∧ SimF X μ ⟨n0, zipT l (V x), H x⟩ a w ∧ StpN N μ0 hh0 w0 μ (H x) w ∧ m x = n) ?_ ?_
  · obtain ⟨μ', vs, K, ⟨rfl, rfl⟩, q2, q3⟩ := head_sound hF hT h0
    exact ⟨_, μ', x0, hI, q2, q3, rfl⟩
  · intro n a w ⟨μ, x, hI, hF, hT, hm⟩
    refine Code.wp_mono ?_ ((hr x hI (fun s' => s'.n = n0 ∧ ∃ x', I x' ∧ m x' < m x ∧ AHead N l (fun vs h => vs = V x' ∧ h = H x') s') (fun x' t h h2 h3 h4 => ⟨rfl, x', h2, h3, h4⟩)).out X μ0 hh0 w0 μ a w hF hT)
    intro e a' w' ⟨s', μ', q1, q2, q3⟩
    cases e with
    | normal =>
      obtain ⟨hn, x', hI', hlt, hh⟩ := q1
      obtain ⟨μ2, vs', K, ⟨rfl, rfl⟩, r2, r3⟩ := head_sound q2 q3 hh
      exact ⟨_, by rw [← hm]; exact hlt, μ2, x', hI', by rw [← hn]; exact r2, r3, rfl⟩
    | _ => exact ⟨s', μ', q1, q2, q3⟩

/-- a loop of few rounds, one after another -/
structure WL (P : Program) (N : Nat) (R : ASt → Prop) (c : Code) (k : List Item) (n : Nat) (s : ASt) : Prop where
  out : ALoop P N R c k n s
theorem wd_rounds (n : Nat) {c : Code} {k : List Item} {s : ASt} (h : WL P N R c k n s) : WD P N R (.loop c k s) := ⟨go_rounds n h.out⟩
theorem wl_next {n : Nat} {c : Code} {k : List Item} {s : ASt} (h : WG P N R (.code c :: .goal (WL P N R c k n) :: k) s) : WL P N R c k (n + 1) s := by
  refine ⟨?_⟩
  have e : (WL P N R c k n) = ALoop P N R c k n := by funext s'; exact propext ⟨fun h => h.out, fun h => ⟨h⟩⟩
  rw [e] at h
  exact h.out

theorem head_at {l : List Nat} {I : List AV → List Blk → Prop} {s : ASt} (ks : List Nat) {vs vs' : List AV} {K h1 : List Blk} (h : ASt.gets s.t l = some vs) (hp : prep false s.h (List.range N ++ ks) vs = some (vs', K, h1)) (hI : I vs' K) : AHead N l I s := by
  refine .inl ⟨ks, ?_⟩
  simp only [h, hp]
  exact hI
theorem ret_at {rs : List ResultVar} {K : AV → List Blk → Prop} {s : ASt} (ks : List Nat) {r r' : AV} {H h1 : List Blk} (h : aresult P s rs = some r) (hp : prep true s.h (List.range N ++ ks) [r] = some ([r'], H, h1)) (hK : K r' H) : ARet P rs N K s := by
  refine .inl ⟨ks, true, ?_⟩
  simp only [h, hp]
  exact hK
theorem ret_own {rs : List ResultVar} {K : AV → List Blk → Prop} {s : ASt} (ks : List Nat) {r r' : AV} {H h1 : List Blk} (h : aresult P s rs = some r) (hp : prep false s.h (List.range N ++ ks) [r] = some ([r'], H, h1)) (hK : K r' H) : ARet P rs N K s := by
  refine .inl ⟨ks, false, ?_⟩
  simp only [h, hp]
  exact hK
theorem calls_at {f : FuncId} {args : List AV} {h : List Blk} {K : AV → List Blk → Prop} (ks : List Nat) {args' : List AV} {H h1 : List Blk} {K' : AV → List Blk → Prop} (hp : prepC h ks args = some (args', H, h1)) (hc : ACall P f args' H K') (hK : ∀ r H', K' r H' → K (r.ren (back h1.length ks)) (merge h1 ks H')) : ∃ ks, ACalls P f args h ks K := ⟨ks, acalls_at ks hp hc hK⟩
theorem wrap_succ {k n : Nat} (h : k < n) (hn : n < 4611686018427387904) : IntKind.i64.wrap ((k : Int) + 1) = ((k + 1 : Nat) : Int) := by
  rw [IntWalk.i64_in _ (by omega)]; omega
/-- a call of a function that yields a value -/
theorem wd_fn {f : FuncId} {args : List AV} {h : List Blk} {d : Option Tmp} {k : List Item} {s : ASt} {args' : List AV} {h1 : List Blk} {r : AV} (hp : prep true h [] args = some (args', [], h1)) (hc : AFn P f args' r) (hK : WD P N R (arun P 4000 k (ASt.put ⟨s.n, s.t, merge h1 [] []⟩ d (r.ren (back h1.length []))))) : WD P N R (.call f args h d k s) :=
  ⟨calls_at [] (prepC_nil hp) hc.out (fun _ _ ⟨e1, e2⟩ => by subst e1 e2; exact arun_sound 4000 _ _ hK.out)⟩
theorem wm_fn {c : MC} {k : List Item} {f : FuncId} {args : List AV} {o : Oper} {l : List Oper} {U : List Nat} {ok : Bool} {s : ASt} {args' : List AV} {h1 : List Blk} {r : AV} (hp : prep true s.h [] args = some (args', [], h1)) (hc : AFn P f args' r) (hok : (ok || decide (l.length < c.f)) = true)
    (hmut : c.ms.all (fun b => match c.h0[b]? with | some k => k.st.isMut | none => false) = true)
    (hK : WM P N c R k (mrun P c l (addU o.dst U) ok (ASt.put ⟨s.n, s.t, merge h1 [] []⟩ o.dst (r.ren (back h1.length []))))) : WM P N c R k (.call f args o l U ok s) := by
  refine ⟨⟨[], by simpa using hok, ?_⟩⟩
  refine acalls_at [] (prepC_nil hp) hc.out ?_
  rintro _ _ ⟨rfl, rfl⟩
  simp only [List.all_nil, Bool.and_true]
  exact mrun_sound' hmut _ _ _ _ hK.out
/-- a call, in whatever way it ends -/
theorem wd_cl {f : FuncId} {args : List AV} {h : List Blk} {d : Option Tmp} {k : List Item} {s : ASt} (ks : List Nat) {args' : List AV} {H h1 : List Blk} {K' : AV → List Blk → Prop} (hp : prepC h ks args = some (args', H, h1)) (hc : ACl P f args' H K') (hK : ∀ r H', K' r H' → WD P N R (arun P 4000 k (ASt.put ⟨s.n, s.t, merge h1 ks H'⟩ d (r.ren (back h1.length ks))))) : WD P N R (.call f args h d k s) :=
  ⟨calls_at ks hp hc.out (fun r H' e => arun_sound 4000 _ _ (hK r H' e).out)⟩
theorem wm_cl {c : MC} {k : List Item} {f : FuncId} {args : List AV} {o : Oper} {l : List Oper} {U : List Nat} {ok : Bool} {s : ASt} (ks : List Nat) {args' : List AV} {H h1 : List Blk} {K' : AV → List Blk → Prop} (hp : prepC s.h ks args = some (args', H, h1)) (hc : ACl P f args' H K') (hok : ((ok && ks.all c.ms.contains) || decide (l.length < c.f)) = true)
    (hmut : c.ms.all (fun b => match c.h0[b]? with | some k => k.st.isMut | none => false) = true)
    (hK : ∀ r H', K' r H' → WM P N c R k (mrun P c l (addU o.dst U) (ok && ks.all c.ms.contains) (ASt.put ⟨s.n, s.t, merge h1 ks H'⟩ o.dst (r.ren (back h1.length ks))))) : WM P N c R k (.call f args o l U ok s) := by
  refine ⟨⟨ks, hok, ?_⟩⟩
  refine acalls_at ks hp hc.out ?_
  intro r H' e
  exact mrun_sound' hmut _ _ _ _ (hK r H' e).out
theorem wt_fn {c : MC} {k : List Item} {f : FuncId} {args : List AV} {o : Oper} {fin : Bool} {l : MT} {U : List Nat × List Nat} {ok : Bool} {s : ASt} {args' : List AV} {h1 : List Blk} {r : AV} (hp : prep true s.h [] args = some (args', [], h1)) (hc : AFn P f args' r) (hok : (ok || fin) = true)
    (hmut : c.ms.all (fun b => match c.h0[b]? with | some k => k.st.isMut | none => false) = true)
    (hK : WT P N c R k (trun P c l (addU o.dst U.1, U.2) ok (ASt.put ⟨s.n, s.t, merge h1 [] []⟩ o.dst (r.ren (back h1.length []))))) : WT P N c R k (.call f args o fin l U ok s) := by
  refine ⟨⟨[], by simpa using hok, ?_⟩⟩
  refine acalls_at [] (prepC_nil hp) hc.out ?_
  rintro _ _ ⟨rfl, rfl⟩
  simp only [List.all_nil, Bool.and_true]
  exact trun_sound' hmut _ _ _ _ hK.out
theorem wt_cl {c : MC} {k : List Item} {f : FuncId} {args : List AV} {o : Oper} {fin : Bool} {l : MT} {U : List Nat × List Nat} {ok : Bool} {s : ASt} (ks : List Nat) {args' : List AV} {H h1 : List Blk} {K' : AV → List Blk → Prop} (hp : prepC s.h ks args = some (args', H, h1)) (hc : ACl P f args' H K') (hok : ((ok && ks.all c.ms.contains) || fin) = true)
    (hmut : c.ms.all (fun b => match c.h0[b]? with | some k => k.st.isMut | none => false) = true)
    (hK : ∀ r H', K' r H' → WT P N c R k (trun P c l (addU o.dst U.1, U.2) (ok && ks.all c.ms.contains) (ASt.put ⟨s.n, s.t, merge h1 ks H'⟩ o.dst (r.ren (back h1.length ks))))) : WT P N c R k (.call f args o fin l U ok s) := by
  refine ⟨⟨ks, hok, ?_⟩⟩
  refine acalls_at ks hp hc.out ?_
  intro r H' e
  exact trun_sound' hmut _ _ _ _ (hK r H' e).out
theorem wt_fork {c : MC} {k : List Item} {i : Nat} {fin : Bool} {t u : MT} {U : List Nat × List Nat} {ok : Bool} {s : ASt} (hmut : c.ms.all (fun b => match c.h0[b]? with | some k => k.st.isMut | none => false) = true)
    (h1 : WT P N c R k (trun P c (.op i fin t) U ok s)) (h2 : WT P N c R k (trun P c u U ok s)) : WT P N c R k (.fork i fin t u U ok s) :=
  ⟨⟨trun_sound' hmut _ _ _ _ h1.out, trun_sound' hmut _ _ _ _ h2.out⟩⟩
theorem wt_done {c : MC} {s : ASt} {k : List Item} (h : WD P N R (arun P 4000 k s)) : WT P N c R k (.done s) := ⟨arun_sound 4000 _ _ h.out⟩
/-- a region that draws its order; behind it -/
theorem wd_mix {id : Nat} {l : List Oper} {k : List Item} {s : ASt} (f : Nat) (ms : List Nat) (hm : P.follows .mixedOrders = true) (hB : mixOK loudOp readOp f l.toArray = true) (hmut : ms.all (fun b => match s.h[b]? with | some k => k.st.isMut | none => false) = true)
    (h : WM P N ⟨f, s.h, ms, l⟩ R k (mrun P ⟨f, s.h, ms, l⟩ l [] true s)) : WD P N R (.drawn id l k s) := ⟨go_mix f ms hm hB hmut h.out⟩
theorem wm_done {c : MC} {s : ASt} {k : List Item} (h : WD P N R (arun P 4000 k s)) : WM P N c R k (.done s) := ⟨arun_sound 4000 _ _ h.out⟩
/-! ### the same, with what a run of simp shows left out -/
theorem sp1 {n : Nat} {b : Bool} {x y : List Item} {s : ASt} (h1 : b = true → WD P N R (arun P n x s)) (h2 : b = false → WD P N R (arun P n y s)) : WD P N R (abr P n b x y s) := wd_split b h1 h2
theorem sp2 {n : Nat} {b : Bool} {o : Oper} {l all : List Oper} {k : List Item} {s : ASt} (h1 : b = true → WD P N R (awant P n (some false) o l all k s)) (h2 : b = false → WD P N R (awant P n (some true) o l all k s)) : WD P N R (awant P n (some !b) o l all k s) := wd_nwant b h1 h2
theorem sp3 {c : MC} {k : List Item} {b : Bool} {o : Oper} {l : List Oper} {U : List Nat} {ok : Bool} {s : ASt} (h1 : b = true → WM P N c R k (mwant P c (some false) o l U ok s)) (h2 : b = false → WM P N c R k (mwant P c (some true) o l U ok s)) : WM P N c R k (mwant P c (some !b) o l U ok s) := wm_nwant b h1 h2
theorem sp4 {n : Nat} {b : Bool} {o : Oper} {l all : List Oper} {k : List Item} {s : ASt} (h1 : b = true → WD P N R (awant P n (some true) o l all k s)) (h2 : b = false → WD P N R (awant P n (some false) o l all k s)) : WD P N R (awant P n (some b) o l all k s) := wd_want b h1 h2
theorem sp5 {c : MC} {k : List Item} {b : Bool} {o : Oper} {l : List Oper} {U : List Nat} {ok : Bool} {s : ASt} (h1 : b = true → WM P N c R k (mwant P c (some true) o l U ok s)) (h2 : b = false → WM P N c R k (mwant P c (some false) o l U ok s)) : WM P N c R k (mwant P c (some b) o l U ok s) := wm_want b h1 h2
theorem sp6 {c : MC} {k : List Item} {b : Bool} {o : Oper} {f : Bool} {l : MT} {U : List Nat × List Nat} {ok : Bool} {s : ASt} (h1 : b = true → WT P N c R k (twantT P c (some false) o f l U ok s)) (h2 : b = false → WT P N c R k (twantT P c (some true) o f l U ok s)) : WT P N c R k (twantT P c (some !b) o f l U ok s) := wt_nwant b h1 h2
theorem sp7 {c : MC} {k : List Item} {b : Bool} {o : Oper} {f : Bool} {l : MT} {U : List Nat × List Nat} {ok : Bool} {s : ASt} (h1 : b = true → WT P N c R k (twantT P c (some true) o f l U ok s)) (h2 : b = false → WT P N c R k (twantT P c (some false) o f l U ok s)) : WT P N c R k (twantT P c (some b) o f l U ok s) := wt_want b h1 h2
theorem fk {c : MC} {k : List Item} {i : Nat} {fin : Bool} {t u : MT} {U : List Nat × List Nat} {ok : Bool} {s : ASt} (h1 : WT P N c R k (trun P c (.op i fin t) U ok s)) (h2 : WT P N c R k (trun P c u U ok s)) (hmut : c.ms.all (fun b => match c.h0[b]? with | some k => k.st.isMut | none => false) = true := by simp only [go_sem]; first | done | rfl) : WT P N c R k (.fork i fin t u U ok s) :=
  wt_fork hmut h1 h2
theorem cd {f : FuncId} {args : List AV} {h : List Blk} {d : Option Tmp} {k : List Item} {s : ASt} {args' : List AV} {h1 : List Blk} {r : AV} (hp : prep true h [] args = some (args', [], h1) := by simp only [go_sem]; first | done | rfl) (hc : AFn P f args' r) (hK : WD P N R (arun P 4000 k (ASt.put ⟨s.n, s.t, merge h1 [] []⟩ d (r.ren (back h1.length []))))) : WD P N R (.call f args h d k s) :=
  wd_fn hp hc hK
theorem cm {c : MC} {k : List Item} {f : FuncId} {args : List AV} {o : Oper} {l : List Oper} {U : List Nat} {ok : Bool} {s : ASt} {args' : List AV} {h1 : List Blk} {r : AV} (hp : prep true s.h [] args = some (args', [], h1) := by simp only [go_sem]; first | done | rfl) (hc : AFn P f args' r) (hok : (ok || decide (l.length < c.f)) = true := by simp only [go_sem]; first | done | rfl) (hmut : c.ms.all (fun b => match c.h0[b]? with | some k => k.st.isMut | none => false) = true := by simp only [go_sem]; first | done | rfl) (hK : WM P N c R k (mrun P c l (addU o.dst U) ok (ASt.put ⟨s.n, s.t, merge h1 [] []⟩ o.dst (r.ren (back h1.length []))))) : WM P N c R k (.call f args o l U ok s) :=
  wm_fn hp hc hok hmut hK
theorem ct {c : MC} {k : List Item} {f : FuncId} {args : List AV} {o : Oper} {fin : Bool} {l : MT} {U : List Nat × List Nat} {ok : Bool} {s : ASt} {args' : List AV} {h1 : List Blk} {r : AV} (hp : prep true s.h [] args = some (args', [], h1) := by simp only [go_sem]; first | done | rfl) (hc : AFn P f args' r) (hok : (ok || fin) = true := by simp only [go_sem]; first | done | rfl) (hmut : c.ms.all (fun b => match c.h0[b]? with | some k => k.st.isMut | none => false) = true := by simp only [go_sem]; first | done | rfl) (hK : WT P N c R k (trun P c l (addU o.dst U.1, U.2) ok (ASt.put ⟨s.n, s.t, merge h1 [] []⟩ o.dst (r.ren (back h1.length []))))) : WT P N c R k (.call f args o fin l U ok s) :=
  wt_fn hp hc hok hmut hK
theorem kd {f : FuncId} {args : List AV} {h : List Blk} {d : Option Tmp} {k : List Item} {s : ASt} (ks : List Nat) {args' : List AV} {H h1 : List Blk} {K' : AV → List Blk → Prop} (hp : prepC h ks args = some (args', H, h1) := by simp only [go_sem]; first | done | rfl) (hc : ACl P f args' H K') (hK : ∀ r H', K' r H' → WD P N R (arun P 4000 k (ASt.put ⟨s.n, s.t, merge h1 ks H'⟩ d (r.ren (back h1.length ks))))) : WD P N R (.call f args h d k s) :=
  wd_cl ks hp hc hK
theorem km {c : MC} {k : List Item} {f : FuncId} {args : List AV} {o : Oper} {l : List Oper} {U : List Nat} {ok : Bool} {s : ASt} (ks : List Nat) {args' : List AV} {H h1 : List Blk} {K' : AV → List Blk → Prop} (hp : prepC s.h ks args = some (args', H, h1) := by simp only [go_sem]; first | done | rfl) (hc : ACl P f args' H K') (hok : ((ok && ks.all c.ms.contains) || decide (l.length < c.f)) = true := by simp only [go_sem]; first | done | rfl) (hmut : c.ms.all (fun b => match c.h0[b]? with | some k => k.st.isMut | none => false) = true := by simp only [go_sem]; first | done | rfl) (hK : ∀ r H', K' r H' → WM P N c R k (mrun P c l (addU o.dst U) (ok && ks.all c.ms.contains) (ASt.put ⟨s.n, s.t, merge h1 ks H'⟩ o.dst (r.ren (back h1.length ks))))) : WM P N c R k (.call f args o l U ok s) :=
  wm_cl ks hp hc hok hmut hK
theorem kt {c : MC} {k : List Item} {f : FuncId} {args : List AV} {o : Oper} {fin : Bool} {l : MT} {U : List Nat × List Nat} {ok : Bool} {s : ASt} (ks : List Nat) {args' : List AV} {H h1 : List Blk} {K' : AV → List Blk → Prop} (hp : prepC s.h ks args = some (args', H, h1) := by simp only [go_sem]; first | done | rfl) (hc : ACl P f args' H K') (hok : ((ok && ks.all c.ms.contains) || fin) = true := by simp only [go_sem]; first | done | rfl) (hmut : c.ms.all (fun b => match c.h0[b]? with | some k => k.st.isMut | none => false) = true := by simp only [go_sem]; first | done | rfl) (hK : ∀ r H', K' r H' → WT P N c R k (trun P c l (addU o.dst U.1, U.2) (ok && ks.all c.ms.contains) (ASt.put ⟨s.n, s.t, merge h1 ks H'⟩ o.dst (r.ren (back h1.length ks))))) : WT P N c R k (.call f args o fin l U ok s) :=
  wt_cl ks hp hc hok hmut hK
theorem mx {id : Nat} {l : List Oper} {k : List Item} {s : ASt} (f : Nat) (ms : List Nat) (hm : P.follows .mixedOrders = true) (h : WM P N ⟨f, s.h, ms, l⟩ R k (mrun P ⟨f, s.h, ms, l⟩ l [] true s)) (hB : mixOK loudOp readOp f l.toArray = true := by decide +kernel) (hmut : ms.all (fun b => match s.h[b]? with | some k => k.st.isMut | none => false) = true := by simp only [go_sem]; first | done | rfl) : WD P N R (.drawn id l k s) :=
  wd_mix f ms hm hB hmut h
theorem hat {l : List Nat} {I : List AV → List Blk → Prop} {s : ASt} (ks : List Nat) {vs vs' : List AV} {K h1 : List Blk} (h : ASt.gets s.t l = some vs := by simp only [go_sem]; first | done | rfl) (hp : prep false s.h (List.range N ++ ks) vs = some (vs', K, h1) := by simp only [go_sem]; first | done | rfl) (hI : I vs' K) : AHead N l I s :=
  head_at ks h hp hI
theorem rat {rs : List ResultVar} {K : AV → List Blk → Prop} {s : ASt} (ks : List Nat) {r r' : AV} {H h1 : List Blk} (h : aresult P s rs = some r := by simp only [go_sem]; first | done | rfl) (hp : prep true s.h (List.range N ++ ks) [r] = some ([r'], H, h1) := by simp only [go_sem]; first | done | rfl) (hK : K r' H) : ARet P rs N K s :=
  ret_at ks h hp hK
theorem rwn {rs : List ResultVar} {K : AV → List Blk → Prop} {s : ASt} (ks : List Nat) {r r' : AV} {H h1 : List Blk} (h : aresult P s rs = some r := by simp only [go_sem]; first | done | rfl) (hp : prep false s.h (List.range N ++ ks) [r] = some ([r'], H, h1) := by simp only [go_sem]; first | done | rfl) (hK : K r' H) : ARet P rs N K s :=
  ret_own ks h hp hK
end
end Go.Proofs.Sh
namespace Go.Proofs.Sh
open Go.RowKit
section
variable {P : Program} {N : Nat} {R : ASt → Prop}
theorem cdq {f : FuncId} {args : List AV} {h : List Blk} {d : Option Tmp} {k : List Item} {s : ASt} {args' : List AV} {h1 : List Blk} {r : AV} (hK : WD P N R (arun P 4000 k (ASt.put ⟨s.n, s.t, merge h1 [] []⟩ d (r.ren (back h1.length []))))) (hp : prep true h [] args = some (args', [], h1) := by simp only [go_sem]; first | done | rfl) (hc : AFn P f args' r) : WD P N R (.call f args h d k s) :=
  wd_fn hp hc hK
theorem cmq {c : MC} {k : List Item} {f : FuncId} {args : List AV} {o : Oper} {l : List Oper} {U : List Nat} {ok : Bool} {s : ASt} {args' : List AV} {h1 : List Blk} {r : AV} (hK : WM P N c R k (mrun P c l (addU o.dst U) ok (ASt.put ⟨s.n, s.t, merge h1 [] []⟩ o.dst (r.ren (back h1.length []))))) (hp : prep true s.h [] args = some (args', [], h1) := by simp only [go_sem]; first | done | rfl) (hc : AFn P f args' r) (hok : (ok || decide (l.length < c.f)) = true := by simp only [go_sem]; first | done | rfl) (hmut : c.ms.all (fun b => match c.h0[b]? with | some k => k.st.isMut | none => false) = true := by simp only [go_sem]; first | done | rfl) : WM P N c R k (.call f args o l U ok s) :=
  wm_fn hp hc hok hmut hK
theorem ctq {c : MC} {k : List Item} {f : FuncId} {args : List AV} {o : Oper} {fin : Bool} {l : MT} {U : List Nat × List Nat} {ok : Bool} {s : ASt} {args' : List AV} {h1 : List Blk} {r : AV} (hK : WT P N c R k (trun P c l (addU o.dst U.1, U.2) ok (ASt.put ⟨s.n, s.t, merge h1 [] []⟩ o.dst (r.ren (back h1.length []))))) (hp : prep true s.h [] args = some (args', [], h1) := by simp only [go_sem]; first | done | rfl) (hc : AFn P f args' r) (hok : (ok || fin) = true := by simp only [go_sem]; first | done | rfl) (hmut : c.ms.all (fun b => match c.h0[b]? with | some k => k.st.isMut | none => false) = true := by simp only [go_sem]; first | done | rfl) : WT P N c R k (.call f args o fin l U ok s) :=
  wt_fn hp hc hok hmut hK
theorem kdq {f : FuncId} {args : List AV} {h : List Blk} {d : Option Tmp} {k : List Item} {s : ASt} (ks : List Nat) {args' : List AV} {H h1 : List Blk} {K' : AV → List Blk → Prop} (hK : ∀ r H', K' r H' → WD P N R (arun P 4000 k (ASt.put ⟨s.n, s.t, merge h1 ks H'⟩ d (r.ren (back h1.length ks))))) (hp : prepC h ks args = some (args', H, h1) := by simp only [go_sem]; first | done | rfl) (hc : ACl P f args' H K') : WD P N R (.call f args h d k s) :=
  wd_cl ks hp hc hK
theorem kmq {c : MC} {k : List Item} {f : FuncId} {args : List AV} {o : Oper} {l : List Oper} {U : List Nat} {ok : Bool} {s : ASt} (ks : List Nat) {args' : List AV} {H h1 : List Blk} {K' : AV → List Blk → Prop} (hK : ∀ r H', K' r H' → WM P N c R k (mrun P c l (addU o.dst U) (ok && ks.all c.ms.contains) (ASt.put ⟨s.n, s.t, merge h1 ks H'⟩ o.dst (r.ren (back h1.length ks))))) (hp : prepC s.h ks args = some (args', H, h1) := by simp only [go_sem]; first | done | rfl) (hc : ACl P f args' H K') (hok : ((ok && ks.all c.ms.contains) || decide (l.length < c.f)) = true := by simp only [go_sem]; first | done | rfl) (hmut : c.ms.all (fun b => match c.h0[b]? with | some k => k.st.isMut | none => false) = true := by simp only [go_sem]; first | done | rfl) : WM P N c R k (.call f args o l U ok s) :=
  wm_cl ks hp hc hok hmut hK
theorem ktq {c : MC} {k : List Item} {f : FuncId} {args : List AV} {o : Oper} {fin : Bool} {l : MT} {U : List Nat × List Nat} {ok : Bool} {s : ASt} (ks : List Nat) {args' : List AV} {H h1 : List Blk} {K' : AV → List Blk → Prop} (hK : ∀ r H', K' r H' → WT P N c R k (trun P c l (addU o.dst U.1, U.2) (ok && ks.all c.ms.contains) (ASt.put ⟨s.n, s.t, merge h1 ks H'⟩ o.dst (r.ren (back h1.length ks))))) (hp : prepC s.h ks args = some (args', H, h1) := by simp only [go_sem]; first | done | rfl) (hc : ACl P f args' H K') (hok : ((ok && ks.all c.ms.contains) || fin) = true := by simp only [go_sem]; first | done | rfl) (hmut : c.ms.all (fun b => match c.h0[b]? with | some k => k.st.isMut | none => false) = true := by simp only [go_sem]; first | done | rfl) : WT P N c R k (.call f args o fin l U ok s) :=
  wt_cl ks hp hc hok hmut hK
end
end Go.Proofs.Sh
/- What a run on shadows asks of this program's types and functions. -/
namespace Go.Proofs.Ytbiobfbonpiiiaa
open Go.RowKit Go.Proofs.Sh
@[go_sem] theorem ti_3 : tinfo Try.prog 3 = some { size := 1, agg := false, bytes := 8, zero := [Value.int IntKind.i64 0], fields := [], elem := 0, kind := 5 } := by kernel_rfl
@[go_sem] theorem tk_3 : tk Try.prog 3 = 5 := by kernel_rfl
@[go_sem] theorem tint_3 : tint Try.prog 3 = some IntKind.i64 := by kernel_rfl
@[go_sem] theorem ti_4 : tinfo Try.prog 4 = some { size := 1, agg := false, bytes := 1, zero := [Value.bool false], fields := [], elem := 0, kind := 6 } := by kernel_rfl
@[go_sem] theorem tk_4 : tk Try.prog 4 = 6 := by kernel_rfl
@[go_sem] theorem tint_4 : tint Try.prog 4 = none := by kernel_rfl
@[go_sem] theorem ti_5 : tinfo Try.prog 5 = some { size := 1, agg := false, bytes := 1, zero := [Value.int IntKind.u8 0], fields := [], elem := 0, kind := 5 } := by kernel_rfl
@[go_sem] theorem tk_5 : tk Try.prog 5 = 5 := by kernel_rfl
@[go_sem] theorem tint_5 : tint Try.prog 5 = some IntKind.u8 := by kernel_rfl
@[go_sem] theorem ti_9 : tinfo Try.prog 9 = some { size := 1, agg := false, bytes := 16, zero := [Value.string { data := { toList := [] } }], fields := [], elem := 0, kind := 4 } := by kernel_rfl
@[go_sem] theorem tk_9 : tk Try.prog 9 = 4 := by kernel_rfl
@[go_sem] theorem tint_9 : tint Try.prog 9 = none := by kernel_rfl
@[go_sem] theorem ti_22 : tinfo Try.prog 22 = some { size := 1, agg := false, bytes := 24, zero := [Value.slice none 0 0], fields := [], elem := 5, kind := 3 } := by kernel_rfl
@[go_sem] theorem tk_22 : tk Try.prog 22 = 3 := by kernel_rfl
@[go_sem] theorem tint_22 : tint Try.prog 22 = none := by kernel_rfl
@[go_sem] theorem es_22 : aesz Try.prog 22 = 1 := by kernel_rfl
@[go_sem] theorem ti_23 : tinfo Try.prog 23 = some { size := 1, agg := false, bytes := 24, zero := [Value.slice none 0 0], fields := [], elem := 25, kind := 3 } := by kernel_rfl
@[go_sem] theorem tk_23 : tk Try.prog 23 = 3 := by kernel_rfl
@[go_sem] theorem tint_23 : tint Try.prog 23 = none := by kernel_rfl
@[go_sem] theorem es_23 : aesz Try.prog 23 = 2 := by kernel_rfl
@[go_sem] theorem ti_25 : tinfo Try.prog 25 = some { size := 2, agg := true, bytes := 32, zero := [Value.int IntKind.i64 0, Value.slice none 0 0], fields := [(0, 1, false), (1, 1, false)], elem := 0, kind := 1 } := by kernel_rfl
@[go_sem] theorem tk_25 : tk Try.prog 25 = 1 := by kernel_rfl
@[go_sem] theorem tint_25 : tint Try.prog 25 = none := by kernel_rfl
@[go_sem] theorem ti_28 : tinfo Try.prog 28 = some { size := 1, agg := false, bytes := 24, zero := [Value.slice none 0 0], fields := [], elem := 30, kind := 3 } := by kernel_rfl
@[go_sem] theorem tk_28 : tk Try.prog 28 = 3 := by kernel_rfl
@[go_sem] theorem tint_28 : tint Try.prog 28 = none := by kernel_rfl
@[go_sem] theorem es_28 : aesz Try.prog 28 = 4 := by kernel_rfl
@[go_sem] theorem ti_30 : tinfo Try.prog 30 = some { size := 4, agg := true, bytes := 48, zero := [Value.int IntKind.i64 0, Value.int IntKind.i64 0, Value.int IntKind.i64 0, Value.slice none 0 0], fields := [(0, 1, false), (1, 1, false), (2, 1, false), (3, 1, false)], elem := 0, kind := 1 } := by kernel_rfl
@[go_sem] theorem tk_30 : tk Try.prog 30 = 1 := by kernel_rfl
@[go_sem] theorem tint_30 : tint Try.prog 30 = none := by kernel_rfl
@[go_sem] theorem ti_33 : tinfo Try.prog 33 = some { size := 1, agg := false, bytes := 8, zero := [Value.nilFunc], fields := [], elem := 0, kind := 0 } := by kernel_rfl
@[go_sem] theorem tk_33 : tk Try.prog 33 = 0 := by kernel_rfl
@[go_sem] theorem tint_33 : tint Try.prog 33 = none := by kernel_rfl
@[go_sem] theorem ti_42 : tinfo Try.prog 42 = some { size := 1, agg := false, bytes := 8, zero := [Value.nilFunc], fields := [], elem := 0, kind := 0 } := by kernel_rfl
@[go_sem] theorem tk_42 : tk Try.prog 42 = 0 := by kernel_rfl
@[go_sem] theorem tint_42 : tint Try.prog 42 = none := by kernel_rfl
@[go_sem] theorem ti_43 : tinfo Try.prog 43 = some { size := 1, agg := false, bytes := 24, zero := [Value.slice none 0 0], fields := [], elem := 3, kind := 3 } := by kernel_rfl
@[go_sem] theorem tk_43 : tk Try.prog 43 = 3 := by kernel_rfl
@[go_sem] theorem tint_43 : tint Try.prog 43 = none := by kernel_rfl
@[go_sem] theorem es_43 : aesz Try.prog 43 = 1 := by kernel_rfl
@[go_sem] theorem ti_48 : tinfo Try.prog 48 = some { size := 1, agg := false, bytes := 24, zero := [Value.slice none 0 0], fields := [], elem := 50, kind := 3 } := by kernel_rfl
@[go_sem] theorem tk_48 : tk Try.prog 48 = 3 := by kernel_rfl
@[go_sem] theorem tint_48 : tint Try.prog 48 = none := by kernel_rfl
@[go_sem] theorem es_48 : aesz Try.prog 48 = 4 := by kernel_rfl
@[go_sem] theorem ti_50 : tinfo Try.prog 50 = some { size := 4, agg := true, bytes := 48, zero := [Value.int IntKind.i64 0, Value.int IntKind.i64 0, Value.int IntKind.i64 0, Value.slice none 0 0], fields := [(0, 1, false), (1, 1, false), (2, 1, false), (3, 1, false)], elem := 0, kind := 1 } := by kernel_rfl
@[go_sem] theorem tk_50 : tk Try.prog 50 = 1 := by kernel_rfl
@[go_sem] theorem tint_50 : tint Try.prog 50 = none := by kernel_rfl
@[go_sem] theorem ti_60 : tinfo Try.prog 60 = some { size := 1, agg := false, bytes := 8, zero := [Value.nilFunc], fields := [], elem := 0, kind := 0 } := by kernel_rfl
@[go_sem] theorem tk_60 : tk Try.prog 60 = 0 := by kernel_rfl
@[go_sem] theorem tint_60 : tint Try.prog 60 = none := by kernel_rfl
@[go_sem] theorem ti_61 : tinfo Try.prog 61 = some { size := 1, agg := false, bytes := 8, zero := [Value.pointer none], fields := [], elem := 0, kind := 0 } := by kernel_rfl
@[go_sem] theorem tk_61 : tk Try.prog 61 = 0 := by kernel_rfl
@[go_sem] theorem tint_61 : tint Try.prog 61 = none := by kernel_rfl
@[go_sem] theorem ti_70 : tinfo Try.prog 70 = some { size := 1, agg := false, bytes := 8, zero := [Value.nilFunc], fields := [], elem := 0, kind := 0 } := by kernel_rfl
@[go_sem] theorem tk_70 : tk Try.prog 70 = 0 := by kernel_rfl
@[go_sem] theorem tint_70 : tint Try.prog 70 = none := by kernel_rfl
@[go_sem] theorem ti_88 : tinfo Try.prog 88 = some { size := 2, agg := true, bytes := 32, zero := [Value.slice none 0 0, Value.int IntKind.i64 0], fields := [(0, 1, false), (1, 1, false)], elem := 0, kind := 1 } := by kernel_rfl
@[go_sem] theorem tk_88 : tk Try.prog 88 = 1 := by kernel_rfl
@[go_sem] theorem tint_88 : tint Try.prog 88 = none := by kernel_rfl
@[go_sem] theorem ti_103 : tinfo Try.prog 103 = some { size := 1, agg := false, bytes := 8, zero := [Value.int IntKind.u64 0], fields := [], elem := 0, kind := 5 } := by kernel_rfl
@[go_sem] theorem tk_103 : tk Try.prog 103 = 5 := by kernel_rfl
@[go_sem] theorem tint_103 : tint Try.prog 103 = some IntKind.u64 := by kernel_rfl
@[go_sem] theorem ti_108 : tinfo Try.prog 108 = some { size := 1, agg := false, bytes := 8, zero := [Value.int IntKind.i64 0], fields := [], elem := 0, kind := 5 } := by kernel_rfl
@[go_sem] theorem tk_108 : tk Try.prog 108 = 5 := by kernel_rfl
@[go_sem] theorem tint_108 : tint Try.prog 108 = some IntKind.i64 := by kernel_rfl
@[go_sem] theorem ti_117 : tinfo Try.prog 117 = some { size := 1, agg := false, bytes := 4, zero := [Value.int IntKind.u32 0], fields := [], elem := 0, kind := 5 } := by kernel_rfl
@[go_sem] theorem tk_117 : tk Try.prog 117 = 5 := by kernel_rfl
@[go_sem] theorem tint_117 : tint Try.prog 117 = some IntKind.u32 := by kernel_rfl
@[go_sem] theorem ti_119 : tinfo Try.prog 119 = some { size := 1, agg := false, bytes := 8, zero := [Value.int IntKind.u64 0], fields := [], elem := 0, kind := 5 } := by kernel_rfl
@[go_sem] theorem tk_119 : tk Try.prog 119 = 5 := by kernel_rfl
@[go_sem] theorem tint_119 : tint Try.prog 119 = some IntKind.u64 := by kernel_rfl
@[go_sem] theorem ti_121 : tinfo Try.prog 121 = some { size := 1, agg := false, bytes := 8, zero := [Value.int IntKind.u64 0], fields := [], elem := 0, kind := 5 } := by kernel_rfl
@[go_sem] theorem tk_121 : tk Try.prog 121 = 5 := by kernel_rfl
@[go_sem] theorem tint_121 : tint Try.prog 121 = some IntKind.u64 := by kernel_rfl
@[go_sem] theorem ti_125 : tinfo Try.prog 125 = some { size := 1, agg := false, bytes := 8, zero := [Value.pointer none], fields := [], elem := 0, kind := 0 } := by kernel_rfl
@[go_sem] theorem tk_125 : tk Try.prog 125 = 0 := by kernel_rfl
@[go_sem] theorem tint_125 : tint Try.prog 125 = none := by kernel_rfl
theorem follows : Try.prog.follows .mixedOrders = true := by kernel_rfl
theorem isfn_10 : IsFn Try.prog 10 := by intro args w; kernel_rfl
theorem isfn_13 : IsFn Try.prog 13 := by intro args w; kernel_rfl
theorem isfn_14 : IsFn Try.prog 14 := by intro args w; kernel_rfl
theorem isfn_15 : IsFn Try.prog 15 := by intro args w; kernel_rfl
theorem isfn_16 : IsFn Try.prog 16 := by intro args w; kernel_rfl
theorem isfn_18 : IsFn Try.prog 18 := by intro args w; kernel_rfl
theorem isfn_23 : IsFn Try.prog 23 := by intro args w; kernel_rfl
theorem isfn_29 : IsFn Try.prog 29 := by intro args w; kernel_rfl
theorem isfn_33 : IsFn Try.prog 33 := by intro args w; kernel_rfl
theorem isfn_39 : IsFn Try.prog 39 := by intro args w; kernel_rfl
theorem isfn_40 : IsFn Try.prog 40 := by intro args w; kernel_rfl
theorem isfn_44 : IsFn Try.prog 44 := by intro args w; kernel_rfl
theorem isfn_45 : IsFn Try.prog 45 := by intro args w; kernel_rfl
theorem isfn_46 : IsFn Try.prog 46 := by intro args w; kernel_rfl
theorem isfn_47 : IsFn Try.prog 47 := by intro args w; kernel_rfl
theorem isfn_48 : IsFn Try.prog 48 := by intro args w; kernel_rfl
theorem isfn_49 : IsFn Try.prog 49 := by intro args w; kernel_rfl
theorem isfn_50 : IsFn Try.prog 50 := by intro args w; kernel_rfl
theorem isfn_51 : IsFn Try.prog 51 := by intro args w; kernel_rfl
theorem isfn_52 : IsFn Try.prog 52 := by intro args w; kernel_rfl
theorem isfn_53 : IsFn Try.prog 53 := by intro args w; kernel_rfl
theorem isfn_54 : IsFn Try.prog 54 := by intro args w; kernel_rfl
theorem isfn_55 : IsFn Try.prog 55 := by intro args w; kernel_rfl
theorem isfn_58 : IsFn Try.prog 58 := by intro args w; kernel_rfl
theorem isfn_59 : IsFn Try.prog 59 := by intro args w; kernel_rfl
theorem isfn_65 : IsFn Try.prog 65 := by intro args w; kernel_rfl
theorem isfn_69 : IsFn Try.prog 69 := by intro args w; kernel_rfl
theorem isfn_71 : IsFn Try.prog 71 := by intro args w; kernel_rfl
theorem isfn_75 : IsFn Try.prog 75 := by intro args w; kernel_rfl
theorem isfn_76 : IsFn Try.prog 76 := by intro args w; kernel_rfl
theorem isfn_77 : IsFn Try.prog 77 := by intro args w; kernel_rfl
theorem isfn_80 : IsFn Try.prog 80 := by intro args w; kernel_rfl
theorem isfn_81 : IsFn Try.prog 81 := by intro args w; kernel_rfl
theorem isfn_82 : IsFn Try.prog 82 := by intro args w; kernel_rfl
theorem isfn_83 : IsFn Try.prog 83 := by intro args w; kernel_rfl
theorem isfn_84 : IsFn Try.prog 84 := by intro args w; kernel_rfl
theorem isfn_85 : IsFn Try.prog 85 := by intro args w; kernel_rfl
theorem isfn_86 : IsFn Try.prog 86 := by intro args w; kernel_rfl
theorem isfn_87 : IsFn Try.prog 87 := by intro args w; kernel_rfl
theorem isfn_88 : IsFn Try.prog 88 := by intro args w; kernel_rfl
theorem isfn_89 : IsFn Try.prog 89 := by intro args w; kernel_rfl
theorem isfn_90 : IsFn Try.prog 90 := by intro args w; kernel_rfl
theorem isfn_91 : IsFn Try.prog 91 := by intro args w; kernel_rfl
theorem isfn_92 : IsFn Try.prog 92 := by intro args w; kernel_rfl
theorem isfn_94 : IsFn Try.prog 94 := by intro args w; kernel_rfl
theorem isfn_95 : IsFn Try.prog 95 := by intro args w; kernel_rfl
theorem isfn_99 : IsFn Try.prog 99 := by intro args w; kernel_rfl
theorem isfn_100 : IsFn Try.prog 100 := by intro args w; kernel_rfl
theorem isfn_101 : IsFn Try.prog 101 := by intro args w; kernel_rfl
theorem isfn_102 : IsFn Try.prog 102 := by intro args w; kernel_rfl
theorem isfn_104 : IsFn Try.prog 104 := by intro args w; kernel_rfl
theorem isfn_105 : IsFn Try.prog 105 := by intro args w; kernel_rfl
theorem isfn_106 : IsFn Try.prog 106 := by intro args w; kernel_rfl
theorem isfn_110 : IsFn Try.prog 110 := by intro args w; kernel_rfl
theorem isfn_111 : IsFn Try.prog 111 := by intro args w; kernel_rfl
theorem isfn_112 : IsFn Try.prog 112 := by intro args w; kernel_rfl
theorem isfn_113 : IsFn Try.prog 113 := by intro args w; kernel_rfl
theorem isfn_114 : IsFn Try.prog 114 := by intro args w; kernel_rfl
theorem isfn_126 : IsFn Try.prog 126 := by intro args w; kernel_rfl
end Go.Proofs.Ytbiobfbonpiiiaa
namespace Go.Proofs.Ytbiobfbonpiiiaa
open Go.RowKit Go.Proofs.Sh
section
variable {N : Nat} {R : ASt → Prop}
theorem mxq0 {id : Nat} {l : List Oper} {k : List Sh.Item} {s : ASt} (ms : List Nat) (h : WM Try.prog N ⟨0, s.h, ms, l⟩ R k (mrun Try.prog ⟨0, s.h, ms, l⟩ l [] true s)) (hB : mixOK loudOp readOp 0 l.toArray = true := by decide +kernel) (hmut : ms.all (fun b => match s.h[b]? with | some k => k.st.isMut | none => false) = true := by simp only [go_sem]; first | done | rfl) : WD Try.prog N R (.drawn id l k s) :=
  wd_mix 0 ms follows hB hmut h
theorem mxq1 {id : Nat} {l : List Oper} {k : List Sh.Item} {s : ASt} (ms : List Nat) (h : WM Try.prog N ⟨1, s.h, ms, l⟩ R k (mrun Try.prog ⟨1, s.h, ms, l⟩ l [] true s)) (hB : mixOK loudOp readOp 1 l.toArray = true := by decide +kernel) (hmut : ms.all (fun b => match s.h[b]? with | some k => k.st.isMut | none => false) = true := by simp only [go_sem]; first | done | rfl) : WD Try.prog N R (.drawn id l k s) :=
  wd_mix 1 ms follows hB hmut h
theorem mxq2 {id : Nat} {l : List Oper} {k : List Sh.Item} {s : ASt} (ms : List Nat) (h : WM Try.prog N ⟨2, s.h, ms, l⟩ R k (mrun Try.prog ⟨2, s.h, ms, l⟩ l [] true s)) (hB : mixOK loudOp readOp 2 l.toArray = true := by decide +kernel) (hmut : ms.all (fun b => match s.h[b]? with | some k => k.st.isMut | none => false) = true := by simp only [go_sem]; first | done | rfl) : WD Try.prog N R (.drawn id l k s) :=
  wd_mix 2 ms follows hB hmut h
theorem mxq3 {id : Nat} {l : List Oper} {k : List Sh.Item} {s : ASt} (ms : List Nat) (h : WM Try.prog N ⟨3, s.h, ms, l⟩ R k (mrun Try.prog ⟨3, s.h, ms, l⟩ l [] true s)) (hB : mixOK loudOp readOp 3 l.toArray = true := by decide +kernel) (hmut : ms.all (fun b => match s.h[b]? with | some k => k.st.isMut | none => false) = true := by simp only [go_sem]; first | done | rfl) : WD Try.prog N R (.drawn id l k s) :=
  wd_mix 3 ms follows hB hmut h
theorem mxq4 {id : Nat} {l : List Oper} {k : List Sh.Item} {s : ASt} (ms : List Nat) (h : WM Try.prog N ⟨4, s.h, ms, l⟩ R k (mrun Try.prog ⟨4, s.h, ms, l⟩ l [] true s)) (hB : mixOK loudOp readOp 4 l.toArray = true := by decide +kernel) (hmut : ms.all (fun b => match s.h[b]? with | some k => k.st.isMut | none => false) = true := by simp only [go_sem]; first | done | rfl) : WD Try.prog N R (.drawn id l k s) :=
  wd_mix 4 ms follows hB hmut h
theorem mxq5 {id : Nat} {l : List Oper} {k : List Sh.Item} {s : ASt} (ms : List Nat) (h : WM Try.prog N ⟨5, s.h, ms, l⟩ R k (mrun Try.prog ⟨5, s.h, ms, l⟩ l [] true s)) (hB : mixOK loudOp readOp 5 l.toArray = true := by decide +kernel) (hmut : ms.all (fun b => match s.h[b]? with | some k => k.st.isMut | none => false) = true := by simp only [go_sem]; first | done | rfl) : WD Try.prog N R (.drawn id l k s) :=
  wd_mix 5 ms follows hB hmut h
theorem mxq6 {id : Nat} {l : List Oper} {k : List Sh.Item} {s : ASt} (ms : List Nat) (h : WM Try.prog N ⟨6, s.h, ms, l⟩ R k (mrun Try.prog ⟨6, s.h, ms, l⟩ l [] true s)) (hB : mixOK loudOp readOp 6 l.toArray = true := by decide +kernel) (hmut : ms.all (fun b => match s.h[b]? with | some k => k.st.isMut | none => false) = true := by simp only [go_sem]; first | done | rfl) : WD Try.prog N R (.drawn id l k s) :=
  wd_mix 6 ms follows hB hmut h
end
end Go.Proofs.Ytbiobfbonpiiiaa
/- Lists of numbers sorted and made compact by the library: its contracts, as contracts on shadows. -/
namespace Go.Proofs.Sh
open Go.RowKit
def intR : List Int → List (List C) | [] => [] | z :: l => [.sc (.int .i64 z)] :: intR l
@[go_sem] theorem intR_length (l : List Int) : (intR l).length = l.length := by
  induction l with
  | nil => rfl
  | cons t l ih => simp [intR, ih]
theorem intR_get (l : List Int) (i : Nat) : (intR l)[i]? = (l[i]?).map fun z => [C.sc (.int .i64 z)] := by
  induction l generalizing i with
  | nil => simp [intR]
  | cons t l ih => cases i <;> simp [intR, ih]
/-- the k-th number -/
def num (l : List Int) (k : Nat) : Int := l.getD k 0
@[go_sem] theorem intR_at (l : List Int) (i : Nat) : (intR l)[i]? = match decide ((i : Int) < (l.length : Int)) with | true => some [C.sc (.int .i64 (num l i))] | false => none := by
  rw [intR_get]
  by_cases h : i < l.length
  · have h' : (i : Int) < (l.length : Int) := by omega
    simp [h, h', num]
  · have h' : ¬ (i : Int) < (l.length : Int) := by omega
    simp [h, h']
theorem num_eq {l : List Int} {k : Nat} (h : k < l.length) : num l k = l[k] := by simp [num, h]
theorem intR_append (l m : List Int) : intR (l ++ m) = intR l ++ intR m := by
  induction l with
  | nil => rfl
  | cons t l ih => simp [intR, ih]
@[go_sem] theorem intR_tree (l : List Int) : treeRows (intR l) = true := by
  induction l with
  | nil => rfl
  | cons t l ih => simp only [intR, treeRows_cons, treeL_cons, treeL_nil, C.tree, Bool.true_and]; exact ih
@[go_sem] theorem intR_len (l : List Int) : rowsLen 1 (intR l) = true := by
  induction l with
  | nil => rfl
  | cons t l ih => simp only [intR, rowsLen_cons, List.length_cons, List.length_nil]; exact ih
attribute [go_sem] intR
/-! ### a row of numbers written by the library -/
section
variable {X : List Nat} {g : Nat} {ty : TypeId} {zs : List Int} {w : World}
theorem sim_cells (hS : Sim X [g] [⟨1, ty, .mut, intR zs⟩] w) : ∃ cur, w.heap[g]? = some (.cells cur ty (0, 0)) ∧ ∀ j (h : j < zs.length), cur[j]? = some (.int .i64 zs[j]) := by
  obtain ⟨cur, h1, h2⟩ := hS.blk 0 _ g rfl rfl rfl
  refine ⟨cur, h1, fun j h => ?_⟩
  have h3 : (intR zs)[j]? = some [C.sc (.int .i64 zs[j])] := by rw [intR_get]; simp [h]
  obtain ⟨_, h4⟩ := h2 j _ h3
  obtain ⟨u, h5, h6⟩ := h4 0 _ rfl
  simp only [C.rep] at h6
  simpa [h6.1] using h5
theorem sim_holds (hS : Sim X [g] [⟨1, ty, .mut, intR zs⟩] w) : Go.Sort.Holds (Value.int .i64) w g 0 zs.toArray := by
  obtain ⟨cur, h1, h2⟩ := sim_cells hS
  intro j hj
  have hj : j < zs.length := by simpa using hj
  have h3 := h2 j hj
  have hlt := (Array.getElem?_eq_some_iff.1 h3).1
  refine ⟨?_, ?_⟩
  · simp only [World.cell?, h1, Nat.zero_add, h3]
    simp [hj]
  · simp [World.frozen?, h1]
theorem put_heap {d : Array Int} {os : Array Obj} {n : Nat} {cur : Array Value} (hg : w.heap[g]? = some (.cells cur ty (0, 0))) : ∀ b, b < w.heap.size → (Go.Sort.grow (Go.Sort.putRow (Value.int .i64) (Go.Sort.ahead w n) g 0 d) os).heap[b]? = if b = g then some (.cells (Go.Sort.putCells (Value.int .i64) 0 d cur) ty (0, 0)) else w.heap[b]? := by
  intro b hb
  have : (Go.Sort.grow (Go.Sort.putRow (Value.int .i64) (Go.Sort.ahead w n) g 0 d) os).heap[b]? = (Go.Sort.putRow (Value.int .i64) (Go.Sort.ahead w n) g 0 d).heap[b]? := by
    rw [Go.Sort.heap_grow_old]; simpa using hb
  rw [this]
  show (w.heap.modify g _)[b]? = _
  rw [Array.getElem?_modify]
  by_cases h : b = g
  · subst h; simp [hg, Go.Sort.onCells]
  · rw [if_neg h, if_neg (fun e => h e.symm)]
theorem put_sim (hS : Sim X [g] [⟨1, ty, .mut, intR zs⟩] w) {d : List Int} {os : Array Obj} {n : Nat} {l : List Int} (hd : d.length = zs.length) (hl : l.length ≤ d.length) (hp : ∀ j (h : j < l.length), d[j]? = some l[j]) :
    Sim X [g] [⟨1, ty, .mut, intR l⟩] (Go.Sort.grow (Go.Sort.putRow (Value.int .i64) (Go.Sort.ahead w n) g 0 d.toArray) os) ∧ Stp [g] [⟨1, ty, .mut, intR zs⟩] w [g] [⟨1, ty, .mut, intR l⟩] (Go.Sort.grow (Go.Sort.putRow (Value.int .i64) (Go.Sort.ahead w n) g 0 d.toArray) os) := by
  obtain ⟨cur, hg, hc⟩ := sim_cells hS
  have hh := put_heap (w := w) (d := d.toArray) (os := os) (n := n) hg
  have hsz : w.heap.size ≤ (Go.Sort.grow (Go.Sort.putRow (Value.int .i64) (Go.Sort.ahead w n) g 0 d.toArray) os).heap.size := by simp
  have hgs : g < w.heap.size := (Array.getElem?_eq_some_iff.1 hg).1
  refine ⟨⟨rfl, fun x hx => ?_, fun x hx => Nat.lt_of_lt_of_le (hS.xlt x hx) hsz, ?_, ?_, ?_⟩, ⟨⟨rfl, rfl, rfl, hsz, ?_, ?_⟩, fun _ _ h => h, fun x hx _ => hx⟩⟩
  · simp at hx; subst hx; omega
  · intro i b x hi hk hx
    cases i with
    | zero => simp at hx; subst hx; exact hS.out 0 _ g rfl rfl rfl
    | succ i => simp at hi
  · intro i j b b' x hij hi hj
    cases i with
    | zero => cases j with
      | zero => exact absurd rfl hij
      | succ j => simp at hj
    | succ i => simp at hi
  · intro i b x hi hk hx
    cases i with
    | zero =>
      simp at hi hx; subst hi hx
      refine ⟨_, by rw [hh g hgs, if_pos rfl], fun i r hr => ?_⟩
      rw [intR_get] at hr
      by_cases hil : i < l.length
      · rw [List.getElem?_eq_getElem hil] at hr
        simp only [Option.map_some, Option.some.injEq] at hr
        subst hr
        refine ⟨rfl, fun j c hj => ?_⟩
        cases j with
        | zero =>
          simp at hj; subst hj
          have hci := hc i (by omega)
          refine ⟨.int .i64 l[i], ?_, ?_⟩
          · simp only [Go.Sort.putCells, Nat.mul_one, Nat.add_zero, Array.getElem?_mapIdx, hci, Option.map_some]
            have : d.toArray[i]! = l[i] := by
              have := hp i hil
              simp [this]
            rw [if_pos ⟨Nat.zero_le _, by simp; omega⟩, Nat.sub_zero, this]
          · simp only [C.rep]; exact ⟨trivial, rfl⟩
        | succ j => simp at hj
      · rw [List.getElem?_eq_none (by omega)] at hr; simp at hr
    | succ i => simp at hi
  · intro b hb hbl
    have : b ≠ g := fun e => hb (by simp [alive, St.isMut, e])
    rw [hh b hbl, if_neg this]
  · intro b c t hb
    have hbl : b < w.heap.size := (Array.getElem?_eq_some_iff.1 hb).1
    rw [hh b hbl]
    by_cases e : b = g
    · subst e
      rw [hg] at hb
      simp only [Option.some.injEq, Obj.cells.injEq] at hb
      obtain ⟨rfl, rfl, _⟩ := hb
      exact ⟨_, by rw [if_pos rfl], by simp [Go.Sort.putCells]⟩
    · exact ⟨c, by rw [if_neg e]; exact hb, rfl⟩
end
end Go.Proofs.Sh
/- Under which numbers the library's sort and its removal of neighbours stand in this program. -/
namespace Go.Proofs.Ytbiobfbonpiiiaa
set_option maxRecDepth 1000000
set_option maxHeartbeats 40000000
def sortRen : Go.Shelf.Ren := ⟨fun | 189 => 76 | 125 => 109 | 257 => 108 | 128 => 124 | 129 => 125 | 294 => 115 | 295 => 116 | 296 => 117 | 297 => 118 | 298 => 119 | 299 => 120 | 216 => 121 | 300 => 122 | 301 => 123 | 328 => 127 | 329 => 128 | 330 => 129 | 331 => 130 | 332 => 131 | 215 => 132 | 343 => 133 | n => n, fun | 28 => 43 | 3 => 3 | 46 => 103 | 0 => 0 | 51 => 117 | 53 => 119 | 4 => 4 | 183 => 109 | 182 => 108 | 131 => 114 | 5 => 5 | 9 => 9 | 218 => 121 | 222 => 125 | 228 => 127 | 229 => 128 | n => n, fun n => n⟩
theorem sortLays : Lays.n189 Try.prog sortRen where
  mixed := by kernel_rfl
  f125 := Try.func109.trans (congrArg some (by kernel_rfl))
  f128 := Try.func124.trans (congrArg some (by kernel_rfl))
  f129 := Try.func125.trans (congrArg some (by kernel_rfl))
  f189 := Try.func76.trans (congrArg some (by kernel_rfl))
  f215 := Try.func132.trans (congrArg some (by kernel_rfl))
  f216 := Try.func121.trans (congrArg some (by kernel_rfl))
  f257 := Try.func108.trans (congrArg some (by kernel_rfl))
  f294 := Try.func115.trans (congrArg some (by kernel_rfl))
  f295 := Try.func116.trans (congrArg some (by kernel_rfl))
  f296 := Try.func117.trans (congrArg some (by kernel_rfl))
  f297 := Try.func118.trans (congrArg some (by kernel_rfl))
  f298 := Try.func119.trans (congrArg some (by kernel_rfl))
  f299 := Try.func120.trans (congrArg some (by kernel_rfl))
  f300 := Try.func122.trans (congrArg some (by kernel_rfl))
  f301 := Try.func123.trans (congrArg some (by kernel_rfl))
  f328 := Try.func127.trans (congrArg some (by kernel_rfl))
  f329 := Try.func128.trans (congrArg some (by kernel_rfl))
  f330 := Try.func129.trans (congrArg some (by kernel_rfl))
  f331 := Try.func130.trans (congrArg some (by kernel_rfl))
  f332 := Try.func131.trans (congrArg some (by kernel_rfl))
  f343 := Try.func133.trans (congrArg some (by kernel_rfl))
  t0 := Try.underlying0
  a0 := Try.isAgg0
  z0 := Try.sizeOf0
  v0 := Try.zeroValue0
  t3 := Try.underlying3
  a3 := Try.isAgg3
  z3 := Try.sizeOf3
  v3 := Try.zeroValue3
  t4 := Try.underlying4
  a4 := Try.isAgg4
  z4 := Try.sizeOf4
  v4 := Try.zeroValue4
  t5 := Try.underlying5
  a5 := Try.isAgg5
  z5 := Try.sizeOf5
  v5 := Try.zeroValue5
  t9 := Try.underlying9
  a9 := Try.isAgg9
  z9 := Try.sizeOf9
  v9 := Try.zeroValue9
  t28 := Try.underlying43
  a28 := Try.isAgg43
  z28 := Try.sizeOf43
  v28 := Try.zeroValue43
  t46 := Try.underlying103
  a46 := Try.isAgg103
  z46 := Try.sizeOf103
  v46 := Try.zeroValue103
  t51 := Try.underlying117
  a51 := Try.isAgg117
  z51 := Try.sizeOf117
  v51 := Try.zeroValue117
  t53 := Try.underlying119
  a53 := Try.isAgg119
  z53 := Try.sizeOf119
  v53 := Try.zeroValue119
  t131 := Try.underlying114
  a131 := Try.isAgg114
  z131 := Try.sizeOf114
  v131 := Try.zeroValue114
  t182 := Try.underlying108
  a182 := Try.isAgg108
  z182 := Try.sizeOf108
  v182 := Try.zeroValue108
  t183 := Try.underlying109
  a183 := Try.isAgg109
  z183 := Try.sizeOf109
  v183 := Try.zeroValue109
  t218 := Try.underlying121
  a218 := Try.isAgg121
  z218 := Try.sizeOf121
  v218 := Try.zeroValue121
  t222 := Try.underlying125
  a222 := Try.isAgg125
  z222 := Try.sizeOf125
  v222 := Try.zeroValue125
  t228 := Try.underlying127
  a228 := Try.isAgg127
  z228 := Try.sizeOf127
  v228 := Try.zeroValue127
  t229 := Try.underlying128
  a229 := Try.isAgg128
  z229 := Try.sizeOf128
  v229 := Try.zeroValue128
def compRen : Go.Shelf.Ren := ⟨fun | 20 => 77 | n => n, fun | 22 => 43 | 3 => 3 | 4 => 4 | 0 => 0 | n => n, fun n => n⟩
theorem compLays : Lays2.n20 Try.prog compRen where
  mixed := by kernel_rfl
  f20 := Try.func77.trans (congrArg some (by kernel_rfl))
  t0 := Try.underlying0
  a0 := Try.isAgg0
  z0 := Try.sizeOf0
  v0 := Try.zeroValue0
  t3 := Try.underlying3
  a3 := Try.isAgg3
  z3 := Try.sizeOf3
  v3 := Try.zeroValue3
  t4 := Try.underlying4
  a4 := Try.isAgg4
  z4 := Try.sizeOf4
  v4 := Try.zeroValue4
  t22 := Try.underlying43
  a22 := Try.isAgg43
  z22 := Try.sizeOf43
  v22 := Try.zeroValue43
  i3 := by kernel_rfl
end Go.Proofs.Ytbiobfbonpiiiaa
