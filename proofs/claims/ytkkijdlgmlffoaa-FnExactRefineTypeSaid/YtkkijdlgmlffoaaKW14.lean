/- Texts of the proof, one behind another. -/
import Derived.Test.YtkkijdlgmlffoaaKW12
import Derived.Test.YtkkijdlgmlffoaaKW13
set_option linter.unusedSimpArgs false
set_option linter.unusedVariables false
/- Owned trees behind known blocks: calls that make, read and mark them. -/
namespace Go.Proofs.Sh
open Go.RowKit Go.Proofs.Grad

/-- a struct's cells, a tree owned in T, which lies behind p blocks -/
structure OwnT (p : Nat) (T : List Blk) (cs enc : List C) (ids : List Nat) : Prop where
  nodup : ids.Nodup
  ge : ∀ b ∈ ids, p ≤ b
  own : ∃ d, ∀ pre : List Blk, pre.length = p → fzL (ow (pre ++ T) d) cs = some (enc, ids)
theorem OwnT.lt {p : Nat} {T : List Blk} {cs enc : List C} {ids : List Nat} (h : OwnT p T cs enc ids) : ∀ b ∈ ids, b < T.length + p := fun b hb => by
  obtain ⟨d, hd⟩ := h.own
  have := (owL_mut (hd (List.replicate p ⟨0, 0, .dead, []⟩) (by simp)) b hb).lt
  simp only [List.length_append, List.length_replicate] at this; omega
theorem OwnT.len {p : Nat} {T : List Blk} {cs enc : List C} {ids : List Nat} (h : OwnT p T cs enc ids) : cs.length = enc.length := by
  obtain ⟨d, hd⟩ := h.own
  exact (fzL_len (hd (List.replicate p ⟨0, 0, .dead, []⟩) (by simp))).symm
theorem OwnT.ext {p : Nat} {T T' : List Blk} {cs enc : List C} {ids : List Nat} (h : OwnT p T cs enc ids) (hf : ∀ i, i < T.length → i + p ∈ ids → T'[i]? = T[i]?) : OwnT p T' cs enc ids := by
  refine ⟨h.nodup, h.ge, ?_⟩
  obtain ⟨d, hd⟩ := h.own
  refine ⟨d, fun pre hp => owL_frame (hd pre hp) (fun b hb => ?_)⟩
  have h1 := h.ge b hb
  have h2 := h.lt b hb
  rw [List.getElem?_append_right (by omega), List.getElem?_append_right (by omega), hp]
  exact hf _ (by omega) (by rw [Nat.sub_add_cancel h1]; exact hb)
theorem OwnT.app {p : Nat} {T : List Blk} {cs enc : List C} {ids : List Nat} (h : OwnT p T cs enc ids) (X : List Blk) : OwnT p (T ++ X) cs enc ids := h.ext (fun i hi _ => List.getElem?_append_left hi)
theorem OwnT.lent {p : Nat} {T pre : List Blk} {cs enc : List C} {ids : List Nat} (h : OwnT p T cs enc ids) (hp : pre.length = p) : Lent (pre ++ T) (.agg cs) (.agg enc) ids := by
  obtain ⟨d, hd⟩ := h.own
  exact .agg (hd pre hp)

/-- a call that yields an owned tree -/
theorem acalls_ownT {P : Program} {f : FuncId} {args args' : List AV} {p : Nat} {pre T : List Blk} {is : List Nat} {enc : List C} {F : List C → AV} (hp : pre.length = p) (hz : Lents (pre ++ T) args args' is) (hc : ACl P f args' [] (OwnK enc F)) (hF : ∀ cs, cs.all C.flat = true → (F cs).flat = true) (hR : ∀ cs g, (F cs).ren g = F (cs.map (C.ren g))) :
    ACalls P f args (pre ++ T) [] (fun r h' => ∃ cs T' ids, r = F cs ∧ h' = pre ++ T' ∧ T.length ≤ T'.length ∧ (∀ i, i < T.length → T'[i]? = T[i]?) ∧ OwnT p T' cs enc ids ∧ ∀ b ∈ ids, T.length + p ≤ b) := by
  refine (acalls_own hz hc hF hR).mono ?_
  rintro r h' ⟨cs, d, ids, rfl, e1, e2, e3, e4, e5⟩
  obtain ⟨T', rfl, f1, f2⟩ := pre_split pre e4 e5
  have hge : ∀ b ∈ ids, T.length + p ≤ b := fun b hb => by have := (e3 b hb).1; simp only [List.length_append] at this; omega
  refine ⟨cs, T', ids, rfl, rfl, f1, f2, ⟨e2, fun b hb => by have := hge b hb; omega, d, fun pre' hp' => ?_⟩, hge⟩
  exact owL_pre (by omega) (fun _ _ => rfl) e1 (fun b hb => by have := hge b hb; omega)
/-- a call that reads owned trees -/
theorem acalls_readT {P : Program} {f : FuncId} {args args' : List AV} {h : List Blk} {is : List Nat} {v : Value} (hz : Lents h args args' is) (hc : AFn P f args' (.one (.sc v))) : ACalls P f args h [] (fun r' h' => r' = .one (.sc v) ∧ h' = h) :=
  acalls_read hz hc rfl (fun _ => rfl)
/-- a call that changes an owned tree -/
theorem acalls_changeT {P : Program} {f : FuncId} {args : List AV} {p : Nat} {pre T : List Blk} {cs enc : List C} {ids : List Nat} {v : Value} (hp : pre.length = p) (hge : ∀ b ∈ ids, p ≤ b) (hn : ids.Nodup)
    (hc : ∃ d, ACl P f args (pre ++ T) (fun r h' => r = .one (.sc v) ∧ fzL (ow h' d) cs = some (enc, ids) ∧ (pre ++ T).length ≤ h'.length ∧ ∀ b, b < (pre ++ T).length → b ∉ ids → h'[b]? = (pre ++ T)[b]?)) :
    ∃ ks, ACalls P f args (pre ++ T) ks (fun r h' => ∃ T', r = .one (.sc v) ∧ h' = pre ++ T' ∧ T.length ≤ T'.length ∧ (∀ i, i < T.length → i + p ∉ ids → T'[i]? = T[i]?) ∧ OwnT p T' cs enc ids) := by
  obtain ⟨d, hc⟩ := hc
  refine ⟨_, (acalls_full hc).mono ?_⟩
  rintro r h' ⟨rfl, e1, e2, e3⟩
  have hh : h' = pre ++ h'.drop pre.length := by
    apply List.ext_getElem?
    intro i
    by_cases hi : i < pre.length
    · rw [e3 i (by simp only [List.length_append]; omega) (fun hm => by have := hge i hm; omega), List.getElem?_append_left hi, List.getElem?_append_left hi]
    · rw [List.getElem?_append_right (by omega), List.getElem?_drop]; congr 1; omega
  refine ⟨h'.drop pre.length, rfl, hh, by simp only [List.length_append, List.length_drop] at *; omega, fun i hi hm => ?_, hn, hge, d, fun pre' hp' => ?_⟩
  · rw [List.getElem?_drop, e3 _ (by simp only [List.length_append]; omega) (by rw [hp, Nat.add_comm]; exact hm), List.getElem?_append_right (by omega)]
    congr 1; omega
  · rw [hh] at e1
    exact owL_pre (by omega) (fun _ _ => rfl) e1 (fun b hb => by have := hge b hb; omega)
theorem wm_at {P : Program} {N : Nat} {R : ASt → Prop} {c : MC} {k : List Item} {f : FuncId} {args : List AV} {o : Oper} {l : List Oper} {U : List Nat} {ok : Bool} {s : ASt} {ks : List Nat} {K' : AV → List Blk → Prop} {h0 : List Blk} (hc : ACalls P f args h0 ks K') (hok : ((ok && ks.all c.ms.contains) || decide (l.length < c.f)) = true)
    (hmut : c.ms.all (fun b => match c.h0[b]? with | some k => k.st.isMut | none => false) = true) (hs : h0 = s.h)
    (hK : ∀ r h', K' r h' → WM P N c R k (mrun P c l (addU o.dst U) (ok && ks.all c.ms.contains) (ASt.put ⟨s.n, s.t, h'⟩ o.dst r))) : WM P N c R k (.call f args o l U ok s) := by
  subst hs
  exact wm_any hc hok hmut hK
end Go.Proofs.Sh
namespace Go.Proofs.Grad
end Go.Proofs.Grad
/- Owned results, and the same seen as frozen ones. -/
namespace Go.Proofs.Sh
open Go.RowKit Go.Proofs.Grad

@[go_sem] theorem app3a {α : Type} (T : List α) (x y z : α) : (T ++ [x] ++ [y] ++ [z])[T.length]? = some x := by simp
@[go_sem] theorem app3b {α : Type} (T : List α) (x y z : α) : (T ++ [x] ++ [y] ++ [z])[T.length + 1]? = some y := by simp
@[go_sem] theorem app3c {α : Type} (T : List α) (x y z : α) : (T ++ [x] ++ [y] ++ [z])[T.length + 1 + 1]? = some z := by
  rw [List.append_assoc, List.append_assoc, List.getElem?_append_right (by omega), show T.length + 1 + 1 - T.length = 2 from by omega]; rfl
@[go_sem] theorem set3a {α : Type} (T : List α) (x y z u : α) : (T ++ [x] ++ [y] ++ [z]).set T.length u = T ++ [u] ++ [y] ++ [z] := by simp
@[go_sem] theorem set3b {α : Type} (T : List α) (x y z u : α) : (T ++ [x] ++ [y] ++ [z]).set (T.length + 1) u = T ++ [x] ++ [u] ++ [z] := by simp
@[go_sem] theorem set3c {α : Type} (T : List α) (x y z u : α) : (T ++ [x] ++ [y] ++ [z]).set (T.length + 1 + 1) u = T ++ [x] ++ [y] ++ [u] := by
  rw [List.append_assoc, List.append_assoc, List.set_append_right _ _ (by omega), show T.length + 1 + 1 - T.length = 2 from by omega]; simp
/-- what stands about a struct's cells in a result -/
structure WF (F : List C → AV) : Prop where
  flat : ∀ cs, cs.all C.flat = true → (F cs).flat = true
  ren : ∀ cs g, (F cs).ren g = F (cs.map (C.ren g))
  pr : ∀ {h : List Blk} {ids : List Nat} {cs cs' : List C}, prL false h ids cs = some (cs', []) → prVs false h ids [F cs] = some ([F cs'], [])
  frz : ∀ {L L' μ : List Nat} {w : World} {cs enc : List C} {v : Value}, (∀ us, C.repl L μ w cs us → C.repl L' [] w enc us) → AV.rep L μ w (F cs) v → AV.rep L' [] w (F enc) v
theorem WF.agg : WF .agg := ⟨fun _ h => h, ren_agg, prVs_agg, fun h hr => by
  simp only [AV.rep] at hr ⊢
  obtain ⟨arr, rfl, h2⟩ := hr
  exact ⟨arr, rfl, h _ h2⟩⟩
def boolF (b : Bool) (cs : List C) : AV := .tup [.agg cs, .one (.sc (.bool b))]
theorem WF.bool (b : Bool) : WF (boolF b) :=
  ⟨fun cs h => by simp only [boolF, AV.flat, AV.flats, h, C.flat, Bool.and_true], fun cs g => by simp only [boolF, AV.ren, AV.renL, renA_map, C.ren],
   fun e => by simp only [boolF, prVs, prV, e, prC, List.append_nil], fun h hr => by
    simp only [boolF, AV.rep, AV.repl] at hr ⊢
    obtain ⟨arr, rfl, u, us', e1, ⟨a2, rfl, h2⟩, h3⟩ := hr
    exact ⟨arr, rfl, .agg a2, us', e1, ⟨a2, rfl, h _ h2⟩, by simpa only [C.rep] using h3⟩⟩
end Go.Proofs.Sh
/- Terms: validity as a form. No program, no world. -/
namespace Go.Proofs.Grad
end Go.Proofs.Grad
/- Steps of terms with casts. No program, no world. -/
namespace Go.Proofs.Grad
/-- v in place of x -/
def E.subst : E → UInt8 → E → E
  | .var y, x, v => match y == x with | true => v | false => .var y
  | .lam y t a, x, v => match y == x with | true => .lam y t a | false => .lam y t (a.subst x v)
  | .num n, x, v => .num n
  | .tru, x, v => .tru
  | .fls, x, v => .fls
  | .app a b, x, v => .app (a.subst x v) (b.subst x v)
  | .add a b, x, v => .add (a.subst x v) (b.subst x v)
  | .less a b, x, v => .less (a.subst x v) (b.subst x v)
  | .ite a b c, x, v => .ite (a.subst x v) (b.subst x v) (c.subst x v)
  | .pair a b, x, v => .pair (a.subst x v) (b.subst x v)
  | .fst a, x, v => .fst (a.subst x v)
  | .snd a, x, v => .snd (a.subst x v)
  | .asc t a, x, v => .asc t (a.subst x v)
  | .cast s t l a, x, v => .cast s t l (a.subst x v)
def T.isFn : T → Bool | .fn _ _ => true | _ => false
def T.isPr : T → Bool | .pr _ _ => true | _ => false
/-- a ground type -/
def T.isG : T → Bool | .any => false | .fn .any .any => true | .fn _ _ => false | .pr .any .any => true | .pr _ _ => false | _ => true
def proxyT (s t : T) : Bool := (s.isFn && t.isFn) || (s.isPr && t.isPr)
def injT (s t : T) : Bool := (t.ty.kind == 1) && s.isG
def E.val : E → Bool
  | .num _ | .tru | .fls | .lam _ _ _ => true
  | .pair a b => a.val && b.val
  | .cast s t _ a => (proxyT s t || injT s t) && a.val
  | _ => false
/-- what a step makes -/
inductive SR where
  | took (e : E) | blame (l : Int) | stuck
def SR.code : SR → Int | .took _ => 1 | .blame _ => 2 | .stuck => 3
def SR.lab : SR → Int | .blame l => l | _ => 0
def SR.map (f : E → E) : SR → SR | .took e => .took (f e) | .blame l => .blame l | .stuck => .stuck
def ruleApp : E → E → SR
  | .lam x _ b, v => .took (b.subst x v)
  | .cast (.fn s1 s2) (.fn t1 t2) l f, v => .took (.cast s2 t2 l (.app f (.cast t1 s1 (-l) v)))
  | _, _ => .stuck
def ruleAdd : E → E → SR
  | .num n, .num m => .took (.num ((n + m).tmod 1000))
  | _, _ => .stuck
def ruleLess : E → E → SR
  | .num n, .num m => match decide (n < m) with | true => .took .tru | false => .took .fls
  | _, _ => .stuck
def ruleIte : E → E → E → SR
  | .tru, b, _ => .took b
  | .fls, _, c => .took c
  | _, _, _ => .stuck
def ruleFst : E → SR
  | .pair a _ => .took a
  | .cast (.pr s1 _) (.pr t1 _) l v => .took (.cast s1 t1 l (.fst v))
  | _ => .stuck
def ruleSnd : E → SR
  | .pair _ b => .took b
  | .cast (.pr _ s2) (.pr _ t2) l v => .took (.cast s2 t2 l (.snd v))
  | _ => .stuck
/-- the type g, of which there is an injection below, and the type t: the same, or not -/
def ruleOut (t : T) (l : Int) : E → SR
  | .cast s' t' _ w => match injT s' t' with | true => (match s'.ty.kind == t.ty.kind with | true => .took w | false => .blame l) | false => .stuck
  | _ => .stuck
def ruleCast (s t : T) (l : Int) (v : E) : SR :=
  match s.ty.kind == t.ty.kind with
  | true => .took v
  | false => match t.ty.kind == 1 with
    | true => .took (.cast s.ground .any l (.cast s s.ground l v))
    | false => match t.isG with
      | false => .took (.cast t.ground t l (.cast s t.ground l v))
      | true => ruleOut t l v
/-- a step of a term with casts that is no value -/
def E.step : E → SR
  | .app a b => match a.val with | false => a.step.map (.app · b) | true => (match b.val with | false => b.step.map (.app a ·) | true => ruleApp a b)
  | .add a b => match a.val with | false => a.step.map (.add · b) | true => (match b.val with | false => b.step.map (.add a ·) | true => ruleAdd a b)
  | .less a b => match a.val with | false => a.step.map (.less · b) | true => (match b.val with | false => b.step.map (.less a ·) | true => ruleLess a b)
  | .ite a b c => match a.val with | false => a.step.map (.ite · b c) | true => ruleIte a b c
  | .pair a b => match a.val with | false => a.step.map (.pair · b) | true => (match b.val with | false => b.step.map (.pair a ·) | true => .stuck)
  | .fst a => match a.val with | false => a.step.map .fst | true => ruleFst a
  | .snd a => match a.val with | false => a.step.map .snd | true => ruleSnd a
  | .cast s t l a => match a.val with | false => a.step.map (.cast s t l) | true => ruleCast s t l a
  | _ => .stuck
/-! what steps keep -/
def SR.ok : SR → Bool | .took e => e.wf && e.noA | .blame l => Grad.lab l | .stuck => true
/-- the zero term -/
def tm0 : Tm := .mk 0 ByteArray.empty 0 noTy noTy 0 []
def SR.tm : SR → Tm | .took e => e.tm | _ => tm0
end Go.Proofs.Grad
/- Owned results: none at all. -/
namespace Go.Proofs.Sh
open Go.RowKit Go.Proofs.Grad
end Go.Proofs.Sh
/- Calls with frozen arguments that yield an owned tree beside a slice that is not. -/
namespace Go.Proofs.Sh
open Go.RowKit Go.Proofs.Grad
end Go.Proofs.Sh
/- Calls that freeze own rows among their arguments and yield an owned result. -/
namespace Go.Proofs.Sh
open Go.RowKit Go.Proofs.Grad
theorem acalls_ownP {P : Program} {f : FuncId} {args args' : List AV} {h h1 : List Blk} {enc : List C} {F : List C → AV} (hp : prepC h [] args = some (args', [], h1)) (hc : ACl P f args' [] (OwnK enc F)) (hR : ∀ cs g, (F cs).ren g = F (cs.map (C.ren g))) :
    ACalls P f args h [] (fun r h' => ∃ cs d ids, r = F cs ∧ fzL (ow h' d) cs = some (enc, ids) ∧ ids.Nodup ∧ (∀ b ∈ ids, h1.length ≤ b ∧ b < h'.length) ∧ ∃ T, h' = h1 ++ T) := by
  refine acalls_at [] hp hc.out (fun r H' ⟨cs, d, ids, e1, e3, e4, e5⟩ => ?_)
  subst e1
  have hm : merge h1 [] H' = h1 ++ H'.map (Blk.ren (back h1.length [])) := by simp [merge, setAll]
  have hbk : ∀ b, back h1.length [] b = h1.length + b := fun b => by simp [back]
  rw [hm]
  refine ⟨cs.map (C.ren (back h1.length [])), d, ids.map (back h1.length []), hR _ _, owL_ren e3 (fun b hb k hk => ?_), ?_, fun b hb => ?_, _, rfl⟩
  · rw [hbk b, List.getElem?_append_right (by omega), Nat.add_sub_cancel_left, List.getElem?_map, hk]; rfl
  · refine nodup_map (fun x hx y hy hxy => ?_) e4
    rw [hbk x, hbk y] at hxy; omega
  · obtain ⟨x, hx, rfl⟩ := List.mem_map.1 hb
    have := (owL_mut e3 x hx).lt
    rw [hbk x]
    simp only [List.length_append, List.length_map]
    omega
end Go.Proofs.Sh
/- Refined types, owned. On shadows. -/
namespace Go.Proofs.Ytkkijdlgmlffoaa
open Go.RowKit Go.Proofs.Sh Go.Proofs.Grad
set_option maxRecDepth 100000
set_option maxHeartbeats 8000000
theorem iOwnTysO (l : List Ty) (hl : l.length < 1000000) (hz : ∀ k, k < l.length → (kid l k).size < 1000000) : ACl Try.prog 56 [.one (.sl (tyR l))] [] (OwnK [.sl (tyR l)] Sh.one1) := by
  refine acl_in Try.func56 rfl isfn_56 (Nat.le_of_ble_eq_true rfl) (fun R hR => ?_); rw [Try.results56] at hR; refine wg_run ?_; (simp only [Try.f56, go_sem])
  refine wd_for (σ := Nat × C × List Blk) [3, 6, 7, 8] (fun x => [.one x.2.1, .one (.sl (tyR l)), .one (.sc (.int .i64 l.length)), .one (.sc (.int .i64 (x.1 : Nat)))])
    (fun x => x.2.2) (fun x => x.1 ≤ l.length ∧ Grown 2 29 0 (tyR (l.take x.1)) x.2.1 x.2.2) (fun x => l.length - x.1) (0, .sc (.slice none 0 0), []) ⟨Nat.zero_le _, .inl ⟨rfl, rfl⟩⟩ (head_all (by (simp only [go_sem]); first | done | rfl) ⟨rfl, rfl⟩) ?_
  rintro ⟨k, c, T⟩ ⟨hk, hG⟩ G hGo
  simp only at hk hG hGo ⊢
  refine wg_run ?_
  (simp only [go_sem])
  ((first | apply sp1 | apply sp2 | apply sp3 | apply sp4 | apply sp5 | apply sp6 | apply sp7) <;> intro hb) <;> (simp only [go_sem, hb])
  · have hk1 : k < l.length := by have := of_decide_eq_true hb; omega
    have hT := fun (x : Blk) => app_len T x
    repeat' (first | (first | (simp only [go_sem, hb, hT]) | (((first | apply sp1 | apply sp2 | apply sp3 | apply sp4 | apply sp5 | apply sp6 | apply sp7) <;> intro hb) <;> (simp only [go_sem, hb, hb, hT])) | ((first | apply wm_done | apply wt_done | apply wg_run | refine fk ?_ ?_) <;> (simp only [go_sem, hb, hT]))) | fail)
    refine wd_any (acalls_own (.cons (.same (by (simp only [go_sem]); first | done | rfl)) .nil) (iOwnTyO 1000000 (by omega) (kid l k) (hz k hk1)) (fun _ h => h) ren_agg) ?_
    rintro _ h' ⟨cs, d, ids, rfl, e1, e2, e3, e4, e5⟩
    have hcs : cs.length = 2 := by rw [← fzL_len e1]; (simp only [go_sem])
    have hlen : (tyR (l.take k)).length = k := by rw [tyR_length, List.length_take]; omega
    have hlen2 : (l.take k).length = k := by rw [List.length_take]; omega
    have hcap : (k + 1) * 32 ≤ 140737488355328 := by omega
    have hw1 : IntKind.i64.wrap (((k : Nat) : Int) + 1) = ((k + 1 : Nat) : Int) := wrap_succ hk1 (by omega)
    have e4' : (T ++ [(⟨2, 29, .mut, [tyC (kid l k)]⟩ : Blk)]).length ≤ h'.length := e4
    have e5' : ∀ i, i < (T ++ [(⟨2, 29, .mut, [tyC (kid l k)]⟩ : Blk)]).length → h'[i]? = (T ++ [(⟨2, 29, .mut, [tyC (kid l k)]⟩ : Blk)])[i]? := e5
    rw [List.length_append, List.length_cons, List.length_nil] at e4' e5'
    rcases hG.more (pre := []) rfl (T' := h') (by omega) (fun i hi => by rw [e5' i (by omega), List.getElem?_append_left hi]) e1 hcs e2 (fun b hb => by have h9 := (e3 b hb).1; have : (T ++ [(⟨2, 29, .mut, [tyC (kid l k)]⟩ : Blk)]).length ≤ b := h9; rw [List.length_append] at this; simp only [List.length_cons, List.length_nil] at this; omega) with ⟨rfl, h0, hy⟩ | ⟨j, rows, rfl, hpos, hj, hrl, hrs, hy⟩
    · (simp only [go_sem, hcs])
      repeat' (first | (simp only [go_sem, hcs, hw1, hlen, hcap]) | (((first | apply sp1 | apply sp2 | apply sp3 | apply sp4 | apply sp5 | apply sp6 | apply sp7) <;> intro hb) <;> (simp only [go_sem, hb, hcs, hw1, hlen, hcap])) | ((first | apply wm_done | apply wt_done | apply wg_run | refine fk ?_ ?_) <;> (simp only [go_sem, hcs, hw1, hlen, hcap])))
      refine hGo (k + 1, _, _) _ _ ⟨by omega, ?_⟩ (by simp only; omega) (head_all (by (simp only [go_sem]); first | done | rfl) ⟨rfl, rfl⟩)
      simp only [tyR_take hk1]
      exact hy _
    · have hj2 := fun U => get_app hj U
      rw [hlen] at hrl hpos hy
      (simp only [go_sem, hcs, hj2, hlen, hlen2])
      repeat' (first | (simp only [go_sem, hcs, hw1, hlen, hlen2, hcap, hj2, hrl, hrs]) | (((first | apply sp1 | apply sp2 | apply sp3 | apply sp4 | apply sp5 | apply sp6 | apply sp7) <;> intro hb) <;> (simp only [go_sem, hb, hcs, hw1, hlen, hlen2, hcap, hj2, hrl, hrs])) | ((first | apply wm_done | apply wt_done | apply wg_run | refine fk ?_ ?_) <;> (simp only [go_sem, hcs, hw1, hlen, hlen2, hcap, hj2, hrl, hrs])))
      refine hGo (k + 1, _, _) _ _ ⟨by omega, ?_⟩ (by simp only; omega) (head_all (by (simp only [go_sem]); first | done | rfl) ⟨rfl, rfl⟩)
      simp only [tyR_take hk1]
      exact hy _
  · have hk1 : k = l.length := by have := of_decide_eq_false hb; omega
    rw [hk1, List.take_length] at hG
    obtain ⟨d0, js, g1, g2, g3⟩ := hG.ow
    have h1 := g1 [] rfl
    repeat' (first | (first | (simp only [go_sem, hb]) | (((first | apply sp1 | apply sp2 | apply sp3 | apply sp4 | apply sp5 | apply sp6 | apply sp7) <;> intro hb) <;> (simp only [go_sem, hb, hb])) | ((first | apply wm_done | apply wt_done | apply wg_run | refine fk ?_ ?_) <;> (simp only [go_sem, hb]))) | fail)
    exact hR _ (ret_ownK (F := Sh.one1) (cs := [c]) (d := d0) (by (simp only [go_sem]); first | done | rfl) (owL_one h1) g2 (prVs_one1 (owL_one h1)))
end Go.Proofs.Ytkkijdlgmlffoaa
