/- Rules for walking functions on shadows. -/
import Derived.Test.YtkkijdlgmlffoaaShAx
namespace Go.Proofs.Sh
open Go.RowKit

section
variable {P : Program} {N : Nat} {R : ASt → Prop}

/-- a function that reads its arguments' trees and yields a value -/
structure AFn (P : Program) (f : FuncId) (args : List AV) (r : AV) : Prop where
  out : ACall P f args [] (fun r' H' => r' = r ∧ H' = [])
/-- a function that ends as K says -/
structure ACl (P : Program) (f : FuncId) (args : List AV) (H : List Blk) (K : AV → List Blk → Prop) : Prop where
  out : ACall P f args H K
/-- a run outside of regions that draw their order; within one; code ahead -/
structure WD (P : Program) (N : Nat) (R : ASt → Prop) (o : Out) : Prop where
  out : ADis P N R o
structure WM (P : Program) (N : Nat) (c : MC) (R : ASt → Prop) (k : List Item) (o : MOut) : Prop where
  out : MDis P N c (AGo P N R k) o
structure WG (P : Program) (N : Nat) (R : ASt → Prop) (k : List Item) (s : ASt) : Prop where
  out : AGo P N R k .normal s

theorem wg_run {s : ASt} {k : List Item} (h : WD P N R (arun P 4000 k s)) : WG P N R k s := ⟨arun_sound 4000 _ _ h.out⟩
@[go_sem] theorem wd_ret (s : ASt) : WD P N R (.ret s) = R s := propext ⟨fun h => h.out, fun h => ⟨h⟩⟩
@[go_sem] theorem wd_goal (I : ASt → Prop) (s : ASt) : WD P N R (.goal I s) = I s := propext ⟨fun h => h.out, fun h => ⟨h⟩⟩
theorem wd_split {n : Nat} (b : Bool) {x y : List Item} {s : ASt} (h1 : b = true → WD P N R (arun P n x s)) (h2 : b = false → WD P N R (arun P n y s)) : WD P N R (abr P n b x y s) := by
  cases b
  · rw [abr]; exact h2 rfl
  · rw [abr]; exact h1 rfl
theorem wd_want {n : Nat} (b : Bool) {o : Oper} {l all : List Oper} {k : List Item} {s : ASt} (h1 : b = true → WD P N R (awant P n (some true) o l all k s)) (h2 : b = false → WD P N R (awant P n (some false) o l all k s)) : WD P N R (awant P n (some b) o l all k s) := by
  cases b
  · exact h2 rfl
  · exact h1 rfl
theorem wd_nwant {n : Nat} (b : Bool) {o : Oper} {l all : List Oper} {k : List Item} {s : ASt} (h1 : b = true → WD P N R (awant P n (some false) o l all k s)) (h2 : b = false → WD P N R (awant P n (some true) o l all k s)) : WD P N R (awant P n (some !b) o l all k s) := by
  cases b
  · exact h2 rfl
  · exact h1 rfl
theorem wm_want {c : MC} {k : List Item} (b : Bool) {o : Oper} {l : List Oper} {U : List Nat} {ok : Bool} {s : ASt} (h1 : b = true → WM P N c R k (mwant P c (some true) o l U ok s)) (h2 : b = false → WM P N c R k (mwant P c (some false) o l U ok s)) : WM P N c R k (mwant P c (some b) o l U ok s) := by
  cases b
  · exact h2 rfl
  · exact h1 rfl
theorem wm_nwant {c : MC} {k : List Item} (b : Bool) {o : Oper} {l : List Oper} {U : List Nat} {ok : Bool} {s : ASt} (h1 : b = true → WM P N c R k (mwant P c (some false) o l U ok s)) (h2 : b = false → WM P N c R k (mwant P c (some true) o l U ok s)) : WM P N c R k (mwant P c (some !b) o l U ok s) := by
  cases b
  · exact h2 rfl
  · exact h1 rfl
@[go_sem] theorem abr_not {n : Nat} (b : Bool) {x y : List Item} {s : ASt} : abr P n (!b) x y s = abr P n b y x s := by
  cases b <;> simp [abr]
@[go_sem] theorem isEmpty_nil {α : Type} : (#[] : Array α).isEmpty = true := rfl
@[go_sem] theorem wrap_in {n : Int} (h1 : -9223372036854775808 ≤ n) (h2 : n ≤ 9223372036854775807) : IntKind.i64.wrap n = n := IntWalk.i64_in _ (by omega)
attribute [go_sem] Int.cast_ofNat_Int cond_true cond_false beq_true beq_false Bool.not_not Int.natCast_zero List.toList_toArray

/-- A function's contract, from a run of its body; R: what is asked at the end. -/
theorem acl_in {f : FuncId} {fn : Func} {c : Code} {args : List AV} {H : List Blk} {K : AV → List Blk → Prop} (hf : P.funcs[f]? = some fn) (hb : fn.body = some c) (hfn : IsFn P f) (hn : args.length ≤ fn.ntmps)
    (h : ∀ R : ASt → Prop, (∀ s, ARet P fn.results.toList H.length K s → R s) → WG P H.length R [.code c] ⟨fn.ntmps, slots 0 args, H⟩) : ACl P f args H K :=
  ⟨acall_of hf hb hfn hn (h _ (fun _ h => h)).out⟩
theorem fn_in {f : FuncId} {args : List AV} {r : AV} (h : ACl P f args [] (fun r' H' => r' = r ∧ H' = [])) : AFn P f args r := ⟨h.out⟩
theorem AFn.cl {f : FuncId} {args : List AV} {r : AV} (h : AFn P f args r) : ACl P f args [] (fun r' H' => r' = r ∧ H' = []) := ⟨h.out⟩
theorem ACl.mono {f : FuncId} {args : List AV} {H : List Blk} {K K' : AV → List Blk → Prop} (h : ACl P f args H K) (hk : ∀ r H', K r H' → K' r H') : ACl P f args H K' := ⟨h.out.mono hk⟩

/-- a loop: the state at each round's head is (V x, H x), for an x of which I holds -/
theorem wd_for {σ : Type} {c : Code} {n0 : Nat} {t0 : List (Nat × AV)} {b0 : List Blk} {k : List Item} (l : List Nat) (V : σ → List AV) (H : σ → List Blk) (I : σ → Prop) (m : σ → Nat) (x0 : σ) (hI : I x0) (h0 : AHead N l (fun vs h => vs = V x0 ∧ h = H x0) ⟨n0, t0, b0⟩)
    (hr : ∀ x, I x → ∀ G : ASt → Prop, (∀ x' t h, I x' → m x' < m x → AHead N l (fun vs h => vs = V x' ∧ h = H x') ⟨n0, t, h⟩ → G ⟨n0, t, h⟩) → WG P N R (.code c :: .goal G :: k) ⟨n0, zipT l (V x), H x⟩) : WD P N R (.loop c k ⟨n0, t0, b0⟩) := by
  refine ⟨?_⟩
  show AGo P N R (.code (.loop c) :: k) .normal ⟨n0, t0, b0⟩
  intro X μ0 hh0 w0 μ a w hF hT
  refine wp_loop_rel (fun n a w => ∃ μ x, I x ∧ SimF X μ ⟨n0, zipT l (V x), H x⟩ a w ∧ StpN N μ0 hh0 w0 μ (H x) w ∧ m x = n) ?_ ?_
  · obtain ⟨μ', vs, K, ⟨rfl, rfl⟩, q2, q3⟩ := head_sound hF hT h0
    exact ⟨_, μ', x0, hI, q2, q3, rfl⟩
  · intro n a w ⟨μ, x, hI, hF, hT, hm⟩
    refine Code.wp_mono ?_ ((hr x hI (fun s' => s'.n = n0 ∧ ∃ x', I x' ∧ m x' < m x ∧ AHead N l (fun vs h => vs = V x' ∧ h = H x') s') (fun x' t h h2 h3 h4 => ⟨rfl, x', h2, h3, h4⟩)).out X μ0 hh0 w0 μ a w hF hT)
    intro e a' w' ⟨s', μ', q1, q2, q3⟩
    cases e with
    | normal =>
      obtain ⟨hn, x', hI', hlt, hh⟩ := q1
      obtain ⟨μ2, vs', K, ⟨rfl, rfl⟩, r2, r3⟩ := head_sound q2 q3 hh
      exact ⟨_, by rw [← hm]; exact hlt, μ2, x', hI', by rw [← hn]; exact r2, r3, rfl⟩
    | _ => exact ⟨s', μ', q1, q2, q3⟩

/-- a loop of few rounds, one after another -/
structure WL (P : Program) (N : Nat) (R : ASt → Prop) (c : Code) (k : List Item) (n : Nat) (s : ASt) : Prop where
  out : ALoop P N R c k n s
theorem wd_rounds (n : Nat) {c : Code} {k : List Item} {s : ASt} (h : WL P N R c k n s) : WD P N R (.loop c k s) := ⟨go_rounds n h.out⟩
theorem wl_next {n : Nat} {c : Code} {k : List Item} {s : ASt} (h : WG P N R (.code c :: .goal (WL P N R c k n) :: k) s) : WL P N R c k (n + 1) s := by
  refine ⟨?_⟩
  have e : (WL P N R c k n) = ALoop P N R c k n := by funext s'; exact propext ⟨fun h => h.out, fun h => ⟨h⟩⟩
  rw [e] at h
  exact h.out

theorem head_at {l : List Nat} {I : List AV → List Blk → Prop} {s : ASt} (ks : List Nat) {vs vs' : List AV} {K h1 : List Blk} (h : ASt.gets s.t l = some vs) (hp : prep false s.h (List.range N ++ ks) vs = some (vs', K, h1)) (hI : I vs' K) : AHead N l I s := by
  refine ⟨ks, ?_⟩
  simp only [h, hp]
  exact hI
theorem ret_at {rs : List ResultVar} {K : AV → List Blk → Prop} {s : ASt} (ks : List Nat) {r r' : AV} {H h1 : List Blk} (h : aresult P s rs = some r) (hp : prep true s.h (List.range N ++ ks) [r] = some ([r'], H, h1)) (hK : K r' H) : ARet P rs N K s := by
  refine ⟨ks, true, ?_⟩
  simp only [h, hp]
  exact hK
theorem ret_own {rs : List ResultVar} {K : AV → List Blk → Prop} {s : ASt} (ks : List Nat) {r r' : AV} {H h1 : List Blk} (h : aresult P s rs = some r) (hp : prep false s.h (List.range N ++ ks) [r] = some ([r'], H, h1)) (hK : K r' H) : ARet P rs N K s := by
  refine ⟨ks, false, ?_⟩
  simp only [h, hp]
  exact hK
theorem calls_at {f : FuncId} {args : List AV} {h : List Blk} {K : AV → List Blk → Prop} (ks : List Nat) {args' : List AV} {H h1 : List Blk} {K' : AV → List Blk → Prop} (hp : prep true h ks args = some (args', H, h1)) (hc : ACall P f args' H K') (hK : ∀ r H', K' r H' → K (r.ren (back h1.length ks)) (merge h1 ks H')) : ∃ ks, ACalls P f args h ks K := by
  refine ⟨ks, ?_⟩
  simp only [ACalls, hp]
  exact hc.mono hK
theorem wrap_succ {k n : Nat} (h : k < n) (hn : n < 4611686018427387904) : IntKind.i64.wrap ((k : Int) + 1) = ((k + 1 : Nat) : Int) := by
  rw [IntWalk.i64_in _ (by omega)]; omega
/-- a call of a function that yields a value -/
theorem wd_fn {f : FuncId} {args : List AV} {h : List Blk} {d : Option Tmp} {k : List Item} {s : ASt} {args' : List AV} {h1 : List Blk} {r : AV} (hp : prep true h [] args = some (args', [], h1)) (hc : AFn P f args' r) (hK : WD P N R (arun P 4000 k (ASt.put ⟨s.n, s.t, merge h1 [] []⟩ d (r.ren (back h1.length []))))) : WD P N R (.call f args h d k s) :=
  ⟨calls_at [] hp hc.out (fun _ _ ⟨e1, e2⟩ => by subst e1 e2; exact arun_sound 4000 _ _ hK.out)⟩
theorem wm_fn {c : MC} {k : List Item} {f : FuncId} {args : List AV} {o : Oper} {l : List Oper} {U : List Nat} {ok : Bool} {s : ASt} {args' : List AV} {h1 : List Blk} {r : AV} (hp : prep true s.h [] args = some (args', [], h1)) (hc : AFn P f args' r) (hok : (ok || decide (l.length < c.f)) = true)
    (hmut : c.ms.all (fun b => match c.h0[b]? with | some k => k.st.isMut | none => false) = true)
    (hK : WM P N c R k (mrun P c l (addU o.dst U) ok (ASt.put ⟨s.n, s.t, merge h1 [] []⟩ o.dst (r.ren (back h1.length []))))) : WM P N c R k (.call f args o l U ok s) := by
  refine ⟨⟨[], by simpa using hok, ?_⟩⟩
  simp only [ACalls, hp]
  refine hc.out.mono ?_
  rintro _ _ ⟨rfl, rfl⟩
  simp only [List.all_nil, Bool.and_true]
  exact mrun_sound' hmut _ _ _ _ hK.out
/-- a call, in whatever way it ends -/
theorem wd_cl {f : FuncId} {args : List AV} {h : List Blk} {d : Option Tmp} {k : List Item} {s : ASt} (ks : List Nat) {args' : List AV} {H h1 : List Blk} {K' : AV → List Blk → Prop} (hp : prep true h ks args = some (args', H, h1)) (hc : ACl P f args' H K') (hK : ∀ r H', K' r H' → WD P N R (arun P 4000 k (ASt.put ⟨s.n, s.t, merge h1 ks H'⟩ d (r.ren (back h1.length ks))))) : WD P N R (.call f args h d k s) :=
  ⟨calls_at ks hp hc.out (fun r H' e => arun_sound 4000 _ _ (hK r H' e).out)⟩
theorem wm_cl {c : MC} {k : List Item} {f : FuncId} {args : List AV} {o : Oper} {l : List Oper} {U : List Nat} {ok : Bool} {s : ASt} (ks : List Nat) {args' : List AV} {H h1 : List Blk} {K' : AV → List Blk → Prop} (hp : prep true s.h ks args = some (args', H, h1)) (hc : ACl P f args' H K') (hok : ((ok && ks.all c.ms.contains) || decide (l.length < c.f)) = true)
    (hmut : c.ms.all (fun b => match c.h0[b]? with | some k => k.st.isMut | none => false) = true)
    (hK : ∀ r H', K' r H' → WM P N c R k (mrun P c l (addU o.dst U) (ok && ks.all c.ms.contains) (ASt.put ⟨s.n, s.t, merge h1 ks H'⟩ o.dst (r.ren (back h1.length ks))))) : WM P N c R k (.call f args o l U ok s) := by
  refine ⟨⟨ks, hok, ?_⟩⟩
  simp only [ACalls, hp]
  refine hc.out.mono ?_
  intro r H' e
  exact mrun_sound' hmut _ _ _ _ (hK r H' e).out
/-- a region that draws its order; behind it -/
theorem wd_mix {id : Nat} {l : List Oper} {k : List Item} {s : ASt} (f : Nat) (ms : List Nat) (hm : P.follows .mixedOrders = true) (hB : mixOK loudOp readOp f l.toArray = true) (hmut : ms.all (fun b => match s.h[b]? with | some k => k.st.isMut | none => false) = true)
    (h : WM P N ⟨f, s.h, ms, l⟩ R k (mrun P ⟨f, s.h, ms, l⟩ l [] true s)) : WD P N R (.drawn id l k s) := ⟨go_mix f ms hm hB hmut h.out⟩
theorem wm_done {c : MC} {s : ASt} {k : List Item} (h : WD P N R (arun P 4000 k s)) : WM P N c R k (.done s) := ⟨arun_sound 4000 _ _ h.out⟩
end
end Go.Proofs.Sh
