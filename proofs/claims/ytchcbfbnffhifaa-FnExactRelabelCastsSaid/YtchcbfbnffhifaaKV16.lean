/- Texts of the proof, one behind another. -/
import Derived.Test.YtchcbfbnffhifaaKV11
import Derived.Test.YtchcbfbnffhifaaKV12
import Derived.Test.YtchcbfbnffhifaaKV13
import Derived.Test.YtchcbfbnffhifaaKV15
set_option linter.unusedSimpArgs false
set_option linter.unusedVariables false
/- Steps of terms with casts. No program, no world. -/
namespace Go.Proofs.Grad
/-- v in place of x -/
def E.subst : E → UInt8 → E → E
  | .var y, x, v => match y == x with | true => v | false => .var y
  | .lam y t a, x, v => match y == x with | true => .lam y t a | false => .lam y t (a.subst x v)
  | .num n, x, v => .num n
  | .tru, x, v => .tru
  | .fls, x, v => .fls
  | .app a b, x, v => .app (a.subst x v) (b.subst x v)
  | .add a b, x, v => .add (a.subst x v) (b.subst x v)
  | .less a b, x, v => .less (a.subst x v) (b.subst x v)
  | .ite a b c, x, v => .ite (a.subst x v) (b.subst x v) (c.subst x v)
  | .pair a b, x, v => .pair (a.subst x v) (b.subst x v)
  | .fst a, x, v => .fst (a.subst x v)
  | .snd a, x, v => .snd (a.subst x v)
  | .asc t a, x, v => .asc t (a.subst x v)
  | .cast s t l a, x, v => .cast s t l (a.subst x v)
def T.isFn : T → Bool | .fn _ _ => true | _ => false
def T.isPr : T → Bool | .pr _ _ => true | _ => false
/-- a ground type -/
def T.isG : T → Bool | .any => false | .fn .any .any => true | .fn _ _ => false | .pr .any .any => true | .pr _ _ => false | _ => true
def proxyT (s t : T) : Bool := (s.isFn && t.isFn) || (s.isPr && t.isPr)
def injT (s t : T) : Bool := (t.ty.kind == 1) && s.isG
def E.val : E → Bool
  | .num _ | .tru | .fls | .lam _ _ _ => true
  | .pair a b => a.val && b.val
  | .cast s t _ a => (proxyT s t || injT s t) && a.val
  | _ => false
/-- what a step makes -/
inductive SR where
  | took (e : E) | blame (l : Int) | stuck
def SR.code : SR → Int | .took _ => 1 | .blame _ => 2 | .stuck => 3
def SR.lab : SR → Int | .blame l => l | _ => 0
def SR.map (f : E → E) : SR → SR | .took e => .took (f e) | .blame l => .blame l | .stuck => .stuck
def ruleApp : E → E → SR
  | .lam x _ b, v => .took (b.subst x v)
  | .cast (.fn s1 s2) (.fn t1 t2) l f, v => .took (.cast s2 t2 l (.app f (.cast t1 s1 (-l) v)))
  | _, _ => .stuck
def ruleAdd : E → E → SR
  | .num n, .num m => .took (.num ((n + m).tmod 1000))
  | _, _ => .stuck
def ruleLess : E → E → SR
  | .num n, .num m => match decide (n < m) with | true => .took .tru | false => .took .fls
  | _, _ => .stuck
def ruleIte : E → E → E → SR
  | .tru, b, _ => .took b
  | .fls, _, c => .took c
  | _, _, _ => .stuck
def ruleFst : E → SR
  | .pair a _ => .took a
  | .cast (.pr s1 _) (.pr t1 _) l v => .took (.cast s1 t1 l (.fst v))
  | _ => .stuck
def ruleSnd : E → SR
  | .pair _ b => .took b
  | .cast (.pr _ s2) (.pr _ t2) l v => .took (.cast s2 t2 l (.snd v))
  | _ => .stuck
/-- the type g, of which there is an injection below, and the type t: the same, or not -/
def ruleOut (t : T) (l : Int) : E → SR
  | .cast s' t' _ w => match injT s' t' with | true => (match s'.ty.kind == t.ty.kind with | true => .took w | false => .blame l) | false => .stuck
  | _ => .stuck
def ruleCast (s t : T) (l : Int) (v : E) : SR :=
  match s.ty.kind == t.ty.kind with
  | true => .took v
  | false => match t.ty.kind == 1 with
    | true => .took (.cast s.ground .any l (.cast s s.ground l v))
    | false => match t.isG with
      | false => .took (.cast t.ground t l (.cast s t.ground l v))
      | true => ruleOut t l v
/-- a step of a term with casts that is no value -/
def E.step : E → SR
  | .app a b => match a.val with | false => a.step.map (.app · b) | true => (match b.val with | false => b.step.map (.app a ·) | true => ruleApp a b)
  | .add a b => match a.val with | false => a.step.map (.add · b) | true => (match b.val with | false => b.step.map (.add a ·) | true => ruleAdd a b)
  | .less a b => match a.val with | false => a.step.map (.less · b) | true => (match b.val with | false => b.step.map (.less a ·) | true => ruleLess a b)
  | .ite a b c => match a.val with | false => a.step.map (.ite · b c) | true => ruleIte a b c
  | .pair a b => match a.val with | false => a.step.map (.pair · b) | true => (match b.val with | false => b.step.map (.pair a ·) | true => .stuck)
  | .fst a => match a.val with | false => a.step.map .fst | true => ruleFst a
  | .snd a => match a.val with | false => a.step.map .snd | true => ruleSnd a
  | .cast s t l a => match a.val with | false => a.step.map (.cast s t l) | true => ruleCast s t l a
  | _ => .stuck
/-! what steps keep -/
def SR.ok : SR → Bool | .took e => e.wf && e.noA | .blame l => Grad.lab l | .stuck => true
/-- the zero term -/
def tm0 : Tm := .mk 0 ByteArray.empty 0 noTy noTy 0 []
def SR.tm : SR → Tm | .took e => e.tm | _ => tm0
end Go.Proofs.Grad
/- Owned results: none at all. -/
namespace Go.Proofs.Sh
open Go.RowKit Go.Proofs.Grad
theorem tm0_ow (h : List Blk) (d : Nat) : fzL (ow h d) (teC tm0) = some (teC tm0, []) := by
  simp only [tm0, noTy, teC, tyR, teR, Ty.kind, Ty.kids, fzL, ow_int, ow_str]
  rw [ow_leaf (by simp)]
  rfl
theorem own_none {P : Program} {f : FuncId} {args : List AV} {F : List C → AV} (h : AFn P f args (F (teC tm0))) : ACl P f args [] (OwnK (teC tm0) F) :=
  h.cl.mono fun r H' ⟨e1, e2⟩ => by subst e1 e2; exact ⟨teC tm0, 0, [], rfl, tm0_ow _ _, List.nodup_nil, by simp⟩
end Go.Proofs.Sh
/- Calls with frozen arguments that yield an owned tree beside a slice that is not. -/
namespace Go.Proofs.Sh
open Go.RowKit Go.Proofs.Grad
end Go.Proofs.Sh
/- Calls that change one cell of the caller's and yield an owned tree. -/
namespace Go.Proofs.Sh
open Go.RowKit Go.Proofs.Grad
/-- an owned tree, and a cell that has been changed -/
def OwnC (k : Blk) (enc : List C) (r : AV) (H' : List Blk) : Prop := ∃ cs d ids T, r = .agg cs ∧ H' = k :: T ∧ fzL (ow H' d) cs = some (enc, ids) ∧ ids.Nodup ∧ ∀ b ∈ ids, 1 ≤ b
def cellB (ty : TypeId) (v : Value) : Blk := ⟨1, ty, .mut, [[.sc v]]⟩
theorem cellB_ren (ty : TypeId) (v : Value) (g : Nat → Nat) : (cellB ty v).ren g = cellB ty v := by
  simp [cellB, Blk.ren, renRows, renA, C.renL, C.ren]
/-- what such a call leaves -/
def OwnedC (h : List Blk) (lb : Nat) (k : Blk) (enc : List C) (r : AV) (h' : List Blk) : Prop := ∃ cs d ids T, r = .agg cs ∧ h' = h.set lb k ++ T ∧ fzL (ow h' d) cs = some (enc, ids) ∧ ids.Nodup ∧ ∀ b ∈ ids, h.length ≤ b ∧ b < h'.length
theorem acalls_ownC {P : Program} {f : FuncId} {args args' : List AV} {h h1 : List Blk} {lb : Nat} {ty : TypeId} {v v' : Value} {enc : List C} (hp : prepC h [lb] args = some (args', [cellB ty v], h1)) (hc : ACl P f args' [cellB ty v] (OwnC (cellB ty v') enc)) : ACalls P f args h [lb] (OwnedC h1 lb (cellB ty v') enc) := by
  refine acalls_at [lb] hp hc.out (fun r H' ⟨cs, d, ids, T, e1, e2, e3, e4, e5⟩ => ?_)
  subst e1 e2
  have hm : merge h1 [lb] (cellB ty v' :: T) = h1.set lb (cellB ty v') ++ T.map (Blk.ren (back h1.length [lb])) := by
    simp [merge, setAll, cellB_ren]
  have hbk : ∀ b, 1 ≤ b → back h1.length [lb] b = h1.length + (b - 1) := fun b hb => by
    unfold back; rw [if_neg (by simp; omega)]; rfl
  rw [hm]
  refine ⟨cs.map (C.ren (back h1.length [lb])), d, ids.map (back h1.length [lb]), T.map (Blk.ren (back h1.length [lb])), ren_agg _ _, rfl, owL_ren e3 (fun b hb k hk => ?_), ?_, fun b hb => ?_⟩
  · have h5 := e5 b hb
    rw [hbk b h5, List.getElem?_append_right (by rw [List.length_set]; omega), List.length_set, Nat.add_sub_cancel_left, List.getElem?_map]
    obtain ⟨b, rfl⟩ : ∃ x, b = x + 1 := ⟨b - 1, by omega⟩
    rw [List.getElem?_cons_succ] at hk
    rw [Nat.add_sub_cancel, hk]; rfl
  · refine nodup_map (fun x hx y hy hxy => ?_) e4
    have h5 := e5 x hx; have h6 := e5 y hy
    rw [hbk x h5, hbk y h6] at hxy; omega
  · obtain ⟨x, hx, rfl⟩ := List.mem_map.1 hb
    have h5 := e5 x hx
    have := (owL_mut e3 x hx).lt
    rw [hbk x h5]
    simp only [List.length_append, List.length_map, List.length_set, List.length_cons] at *
    omega
theorem OwnedC.pre {a a0 b c : Blk} {T : List Blk} {enc : List C} {r : AV} {h' : List Blk} (H : OwnedC (a0 :: b :: c :: T) 0 a enc r h') : ∃ cs d ids T', r = .agg cs ∧ h' = a :: b :: c :: T' ∧ T.length ≤ T'.length ∧ (∀ i, i < T.length → T'[i]? = T[i]?) ∧ fzL (ow (a :: b :: c :: T') d) cs = some (enc, ids) ∧ ids.Nodup ∧ ∀ x ∈ ids, 3 + T.length ≤ x ∧ x < 3 + T'.length := by
  obtain ⟨cs, d, ids, T0, rfl, rfl, e1, e2, e3⟩ := H
  refine ⟨cs, d, ids, T ++ T0, rfl, rfl, by simp, fun i hi => List.getElem?_append_left hi, e1, e2, fun x hx => ?_⟩
  have := e3 x hx
  simp only [List.length_cons, List.length_append, List.length_set] at this ⊢
  omega
end Go.Proofs.Sh
/- Terms whose casts are numbered anew, owned. On shadows. -/
namespace Go.Proofs.Grad
mutual
/-- a term whose casts have the labels after v, and the last one -/
def Tm.rel : Tm → Nat → Tm × Nat
  | .mk k n m t f l ks, v => match k == 14 with
    | true => (.mk k n m t f (((Tm.rels ks v).2 + 1 : Nat) : Int) (Tm.rels ks v).1, (Tm.rels ks v).2 + 1)
    | false => (.mk k n m t f l (Tm.rels ks v).1, (Tm.rels ks v).2)
def Tm.rels : List Tm → Nat → List Tm × Nat
  | [], v => ([], v)
  | a :: l, v => ((a.rel v).1 :: (Tm.rels l (a.rel v).2).1, (Tm.rels l (a.rel v).2).2)
end
theorem Tm.rels_append : ∀ (l m : List Tm) (v : Nat), Tm.rels (l ++ m) v = ((Tm.rels l v).1 ++ (Tm.rels m (Tm.rels l v).2).1, (Tm.rels m (Tm.rels l v).2).2)
  | [], m, v => rfl
  | a :: l, m, v => by simp only [List.cons_append, Tm.rels, Tm.rels_append l m]
theorem Tm.rels_take {l : List Tm} {k : Nat} (h : k < l.length) (v : Nat) : Tm.rels (l.take (k + 1)) v = ((Tm.rels (l.take k) v).1 ++ [((Sh.teKid l k).rel (Tm.rels (l.take k) v).2).1], ((Sh.teKid l k).rel (Tm.rels (l.take k) v).2).2) := by
  rw [Sh.tetake_kid h, Tm.rels_append]; rfl
theorem Tm.rels_len : ∀ (l : List Tm) (v : Nat), (Tm.rels l v).1.length = l.length
  | [], v => rfl
  | a :: l, v => by simp only [Tm.rels, List.length_cons, Tm.rels_len l]
mutual
theorem Tm.rel_le : ∀ (t : Tm) (v : Nat), (t.rel v).2 ≤ v + t.nodes
  | .mk k n m t f l ks, v => by
    have := Tm.rels_le ks v
    unfold Tm.rel
    split <;> simp only [Tm.nodes] <;> omega
theorem Tm.rels_le : ∀ (l : List Tm) (v : Nat), (Tm.rels l v).2 ≤ v + Tm.nodess l
  | [], v => Nat.le_refl _
  | a :: l, v => by
    have h1 := Tm.rel_le a v
    have h2 := Tm.rels_le l (a.rel v).2
    simp only [Tm.rels, Tm.nodess]; omega
end
mutual
theorem Tm.rel_size : ∀ (t : Tm) (v : Nat), (t.rel v).1.size = t.size
  | .mk k n m t f l ks, v => by
    have := Tm.rels_size ks v
    unfold Tm.rel
    split <;> simp only [Tm.size] <;> omega
theorem Tm.rels_size : ∀ (l : List Tm) (v : Nat), Tm.sizes (Tm.rels l v).1 = Tm.sizes l
  | [], v => rfl
  | a :: l, v => by
    have h1 := Tm.rel_size a v
    have h2 := Tm.rels_size l (a.rel v).2
    simp only [Tm.rels, Tm.sizes]; omega
end
theorem Tm.rel_u {k : Int} (hk : (k == 14) = false) (n : ByteArray) (m : Int) (t f : Ty) (l : Int) (ks : List Tm) (v : Nat) : (Tm.mk k n m t f l ks).rel v = (.mk k n m t f l (Tm.rels ks v).1, (Tm.rels ks v).2) := by unfold Tm.rel; rw [hk]
theorem Tm.rel_c {k : Int} (hk : (k == 14) = true) (n : ByteArray) (m : Int) (t f : Ty) (l : Int) (ks : List Tm) (v : Nat) : (Tm.mk k n m t f l ks).rel v = (.mk k n m t f (((Tm.rels ks v).2 + 1 : Nat) : Int) (Tm.rels ks v).1, (Tm.rels ks v).2 + 1) := by unfold Tm.rel; rw [hk]
/-- when casts are numbered anew -/
noncomputable def relB (t : Tm) : Bool := t.castV && decide (t.castsL.length ≤ 99)
noncomputable def relT (t : Tm) : Tm := match relB t with | true => (t.rel 0).1 | false => tm0
theorem relT_size (t : Tm) (h : t.size < 100000000) : (relT t).size < 100000000 := by
  unfold relT
  split
  · rw [Tm.rel_size]; exact h
  · simp [tm0, noTy, Tm.size, Ty.size, Ty.sizes, Tm.sizes]
end Go.Proofs.Grad
namespace Go.Proofs.Ytchcbfbnffhifaa
open Go.RowKit Go.Proofs.Sh Go.Proofs.Grad
set_option maxRecDepth 100000
set_option maxHeartbeats 8000000
/-- the counter -/
def cntB (v : Nat) : Blk := cellB 3 (.int .i64 ((v : Nat) : Int))
theorem cntB_eq (v : Nat) : cntB v = ⟨1, 3, .mut, [[.sc (.int .i64 ((v : Nat) : Int))]]⟩ := rfl
theorem iRel1 (k : Int) (n : ByteArray) (m tk fk l : Int) (c1 c2 c3 : C) (v : Nat) (hv : v < 1000000000) (H0 : List Blk) : ACl Try.prog 94 [.agg [.sc (.int .i64 k), .sc (.string n), .sc (.int .i64 m), .sc (.int .i64 tk), c1, .sc (.int .i64 fk), c2, .sc (.int .i64 l), c3], .one (.ptr 1 0 0 0)] (cntB v :: H0)
    (fun r h' => ∃ T, r = .agg [.sc (.int .i64 k), .sc (.string n), .sc (.int .i64 m), .sc (.int .i64 tk), c1, .sc (.int .i64 fk), c2, .sc (.int .i64 (match k == 14 with | true => ((v + 1 : Nat) : Int) | false => l)), c3] ∧ h' = cntB (match k == 14 with | true => v + 1 | false => v) :: (H0 ++ T)) := by
  have hw : IntKind.i64.wrap (((v : Nat) : Int) + 1) = ((v + 1 : Nat) : Int) := by rw [IntWalk.i64_in _ (by omega)]; omega
  rw [cntB_eq]
  cases e : (k == 14)
  all_goals
    refine acl_in Try.func94 rfl isfn_94 (Nat.le_of_ble_eq_true rfl) (fun R hR => ?_); rw [Try.results94] at hR; refine wg_run ?_; (simp only [Try.f94, go_sem, e])
    repeat' (first | (first | (simp only [go_sem, e, hw]) | (((first | apply sp1 | apply sp2 | apply sp3 | apply sp4 | apply sp5 | apply sp6 | apply sp7) <;> intro hb) <;> (simp only [go_sem, hb, e, hw])) | ((first | apply wm_done | apply wt_done | apply wg_run | refine fk ?_ ?_) <;> (simp only [go_sem, e, hw]))) | fail)
    exact hR _ (ret_all (by (simp only [go_sem]); first | done | rfl) ⟨_, rfl, congrArg (List.cons _) (List.append_assoc _ _ _)⟩)
theorem iMapRelO (n : Nat) (hn : n ≤ 100000000) : ∀ t : Tm, t.size < n → ∀ v : Nat, v + t.nodes < 200000000 → ACl Try.prog 66 [.agg (teC t), .one (.fn 94 [.ptr 1 0 0 0])] [cntB v] (OwnC (cntB (t.rel v).2) (teC (t.rel v).1)) := by
  induction n with
  | zero => intro t h; omega
  | succ n ih =>
    intro t h v hv
    have hl : t.kids.length < 100000000 := by have := telen_lt t; omega
    have hty : t.type.size < n + 1 := by cases t; simp only [Tm.size, Tm.type] at *; omega
    have hfr : t.frm.size < n + 1 := by cases t; simp only [Tm.size, Tm.frm] at *; omega
    have hne := t.nodes_eq
    have hrel : t.rel v = (match t.kind == 14 with | true => (.mk t.kind t.name t.num t.type t.frm (((Tm.rels t.kids v).2 + 1 : Nat) : Int) (Tm.rels t.kids v).1, (Tm.rels t.kids v).2 + 1) | false => (.mk t.kind t.name t.num t.type t.frm t.label (Tm.rels t.kids v).1, (Tm.rels t.kids v).2)) := by
      cases t; unfold Tm.rel; rfl
    have hrel1 : (t.rel v).1 = .mk t.kind t.name t.num t.type t.frm (match t.kind == 14 with | true => (((Tm.rels t.kids v).2 + 1 : Nat) : Int) | false => t.label) (Tm.rels t.kids v).1 := by
      rw [hrel]; split <;> rfl
    have hrel2 : (t.rel v).2 = (match t.kind == 14 with | true => (Tm.rels t.kids v).2 + 1 | false => (Tm.rels t.kids v).2) := by
      rw [hrel]; split <;> rfl
    have hnl := Tm.rels_le t.kids v
    rw [cntB_eq]
    refine acl_in Try.func66 rfl isfn_66 (Nat.le_of_ble_eq_true rfl) (fun R hR => ?_); rw [Try.results66] at hR; refine wg_run ?_; (simp only [Try.f66, go_sem])
    refine wd_for (σ := Nat × C × List Blk) [1, 2, 4, 5, 9, 10, 11] (fun x => [.one (.fn 94 [.ptr 1 0 0 0]), .one (.ptr 9 1 0 0), .one (.ptr 9 2 0 0), .one x.2.1, .one (.sl (teR t.kids)), .one (.sc (.int .i64 t.kids.length)), .one (.sc (.int .i64 (x.1 : Nat)))])
      (fun x => cntB (Tm.rels (t.kids.take x.1) v).2 :: ⟨9, 35, .mut, [teC t]⟩ :: ⟨9, 35, .mut, [[.sc (.int .i64 0), .sc (.string ByteArray.empty), .sc (.int .i64 0), .sc (.int .i64 0), .sc (.slice none 0 0), .sc (.int .i64 0), .sc (.slice none 0 0), .sc (.int .i64 0), .sc (.slice none 0 0)]]⟩ :: x.2.2)
      (fun x => x.1 ≤ t.kids.length ∧ Grown 9 35 3 (teR (Tm.rels (t.kids.take x.1) v).1) x.2.1 x.2.2) (fun x => t.kids.length - x.1) (0, .sc (.slice none 0 0), []) ⟨Nat.zero_le _, .inl ⟨rfl, rfl⟩⟩ (head_all (by (simp only [go_sem]); first | done | rfl) ⟨rfl, rfl⟩) ?_
    rintro ⟨k, c, T⟩ ⟨hk, hG⟩ G hGo
    simp only at hk hG hGo ⊢
    have hvk := Tm.rels_le (t.kids.take k) v
    have hnk := Tm.nodess_le_take t.kids k
    refine wg_run ?_
    (simp only [go_sem])
    ((first | apply sp1 | apply sp2 | apply sp3 | apply sp4 | apply sp5 | apply sp6 | apply sp7) <;> intro hb) <;> (simp only [go_sem, hb])
    · have hk1 : k < t.kids.length := by have := of_decide_eq_true hb; omega
      have hnk1 := Tm.nodess_le_take t.kids (k + 1)
      rw [Tm.nodess_take hk1] at hnk1
      have hc := ih (by omega) (teKid t.kids k) (by have := teKid_lt hk1; omega) (Tm.rels (t.kids.take k) v).2 (by omega)
      repeat' (first | (first | (simp only [go_sem, hb]) | (((first | apply sp1 | apply sp2 | apply sp3 | apply sp4 | apply sp5 | apply sp6 | apply sp7) <;> intro hb) <;> (simp only [go_sem, hb, hb])) | ((first | apply wm_done | apply wt_done | apply wg_run | refine fk ?_ ?_) <;> (simp only [go_sem, hb]))) | ((first | refine mxq6 [] ?_ | refine mxq5 [] ?_ | refine mxq4 [] ?_ | refine mxq3 [] ?_ | refine mxq2 [] ?_ | refine mxq1 [] ?_ | refine mxq0 [] ?_ | fail); (simp only [go_sem, hb])))
      refine wd_any (acalls_ownC (lb := 0) (by (simp only [go_sem]); first | done | rfl) hc) ?_
      intro r h' hO
      obtain ⟨cs, d, ids, T', rfl, rfl, f1, f2, e1, e2, e3⟩ := OwnedC.pre hO
      rw [List.length_append, List.length_cons, List.length_nil] at f1 f2 e3
      have hcs : cs.length = 9 := by rw [← fzL_len e1, teC_length]
      have hlen : (Tm.rels (t.kids.take k) v).1.length = k := by rw [Tm.rels_len, List.length_take]; omega
      have hcap : (k + 1) * 128 ≤ 140737488355328 := by omega
      have hw1 : IntKind.i64.wrap (((k : Nat) : Int) + 1) = ((k + 1 : Nat) : Int) := wrap_succ hk1 (by omega)
      have htr := Tm.rels_take hk1 v
      have ht1 : (Tm.rels (t.kids.take (k + 1)) v).1 = (Tm.rels (t.kids.take k) v).1 ++ [((teKid t.kids k).rel (Tm.rels (t.kids.take k) v).2).1] := by rw [htr]
      have ht2 : (Tm.rels (t.kids.take (k + 1)) v).2 = ((teKid t.kids k).rel (Tm.rels (t.kids.take k) v).2).2 := by rw [htr]
      rw [← ht2] at *
      rcases hG.more (pre := [_, _, _]) rfl (by omega) (fun i hi => by rw [f2 i (by omega), List.getElem?_append_left hi]) e1 hcs e2 (fun b hb => by have := (e3 b hb).1; omega) with ⟨rfl, h0, hy⟩ | ⟨j, rows, rfl, hpos, hj, hrl, hrs, hy⟩
      · (simp only [go_sem, hcs])
        repeat' (first | (simp only [go_sem, hcs, hw1, hlen, hcap]) | (((first | apply sp1 | apply sp2 | apply sp3 | apply sp4 | apply sp5 | apply sp6 | apply sp7) <;> intro hb) <;> (simp only [go_sem, hb, hcs, hw1, hlen, hcap])) | ((first | apply wm_done | apply wt_done | apply wg_run | refine fk ?_ ?_) <;> (simp only [go_sem, hcs, hw1, hlen, hcap])))
        refine hGo (k + 1, _, _) _ _ ⟨by omega, ?_⟩ (by simp only; omega) (head_all (by (simp only [go_sem]); first | done | rfl) ⟨rfl, rfl⟩)
        simp only [ht1, teR_append, teR]
        exact hy _
      · have hj2 := fun U => get_app hj U
        rw [teR_length, hlen] at hrl hpos hy
        (simp only [go_sem, hcs, hj2, hlen])
        repeat' (first | (simp only [go_sem, hcs, hw1, hlen, hcap, hj2, hrl, hrs]) | (((first | apply sp1 | apply sp2 | apply sp3 | apply sp4 | apply sp5 | apply sp6 | apply sp7) <;> intro hb) <;> (simp only [go_sem, hb, hcs, hw1, hlen, hcap, hj2, hrl, hrs])) | ((first | apply wm_done | apply wt_done | apply wg_run | refine fk ?_ ?_) <;> (simp only [go_sem, hcs, hw1, hlen, hcap, hj2, hrl, hrs])))
        refine hGo (k + 1, _, _) _ _ ⟨by omega, ?_⟩ (by simp only; omega) (head_all (by (simp only [go_sem]); first | done | rfl) ⟨rfl, rfl⟩)
        simp only [ht1, teR_append, teR]
        exact hy _
    · have hk1 : k = t.kids.length := by have := of_decide_eq_false hb; omega
      rw [hk1, List.take_length] at hG
      rw [hk1, List.take_length]
      obtain ⟨d0, js, g1, g2, g3⟩ := hG.ow
      repeat' (first | (first | (simp only [go_sem, hb]) | (((first | apply sp1 | apply sp2 | apply sp3 | apply sp4 | apply sp5 | apply sp6 | apply sp7) <;> intro hb) <;> (simp only [go_sem, hb, hb])) | ((first | apply wm_done | apply wt_done | apply wg_run | refine fk ?_ ?_) <;> (simp only [go_sem, hb]))) | ((first | refine mxq6 [] ?_ | refine mxq5 [] ?_ | refine mxq4 [] ?_ | refine mxq3 [] ?_ | refine mxq2 [] ?_ | refine mxq1 [] ?_ | refine mxq0 [] ?_ | fail); (simp only [go_sem, hb])))
      refine wm_any (acalls_own (.cons (.same (by (simp only [go_sem]); first | done | rfl)) .nil) (iOwnTyO (n + 1) (by omega) t.type hty) (fun _ h => h) ren_agg) (by (simp only [go_sem]); first | done | rfl) (by (simp only [go_sem]); first | done | rfl) ?_
      rintro _ h' ⟨cs1, d1, ids1, rfl, a1, a2, a3, a4, a5⟩
      obtain ⟨T1, rfl, b1, b2⟩ := pre3 a4 a5
      obtain ⟨x1, rfl, z1⟩ := owL_ty a1
      (simp only [go_sem])
      repeat' (first | (first | (simp only [go_sem, hb]) | (((first | apply sp1 | apply sp2 | apply sp3 | apply sp4 | apply sp5 | apply sp6 | apply sp7) <;> intro hb) <;> (simp only [go_sem, hb, hb])) | ((first | apply wm_done | apply wt_done | apply wg_run | refine fk ?_ ?_) <;> (simp only [go_sem, hb]))) | ((first | refine mxq6 [] ?_ | refine mxq5 [] ?_ | refine mxq4 [] ?_ | refine mxq3 [] ?_ | refine mxq2 [] ?_ | refine mxq1 [] ?_ | refine mxq0 [] ?_ | fail); (simp only [go_sem, hb])))
      refine wm_any (acalls_own (.cons (.same (by (simp only [go_sem]); first | done | rfl)) .nil) (iOwnTyO (n + 1) (by omega) t.frm hfr) (fun _ h => h) ren_agg) (by (simp only [go_sem]); first | done | rfl) (by (simp only [go_sem]); first | done | rfl) ?_
      rintro _ h' ⟨cs2, d2, ids2, rfl, p1, p2, p3, p4, p5⟩
      obtain ⟨T2, rfl, q1, q2⟩ := pre3 p4 p5
      obtain ⟨x2, rfl, z2⟩ := owL_ty p1
      (simp only [go_sem])
      repeat' (first | (first | (simp only [go_sem, hb]) | (((first | apply sp1 | apply sp2 | apply sp3 | apply sp4 | apply sp5 | apply sp6 | apply sp7) <;> intro hb) <;> (simp only [go_sem, hb, hb])) | ((first | apply wm_done | apply wt_done | apply wg_run | refine fk ?_ ?_) <;> (simp only [go_sem, hb]))) | ((first | refine mxq6 [] ?_ | refine mxq5 [] ?_ | refine mxq4 [] ?_ | refine mxq3 [] ?_ | refine mxq2 [] ?_ | refine mxq1 [] ?_ | refine mxq0 [] ?_ | fail); (simp only [go_sem, hb])))
      have hx1 : ∀ b ∈ ids1, T.length + 3 ≤ b ∧ b < T1.length + 3 := fun b hb => by have := a3 b hb; simp at this; omega
      have hx2 : ∀ b ∈ ids2, T1.length + 3 ≤ b ∧ b < T2.length + 3 := fun b hb => by have := p3 b hb; simp at this; omega
      have hjs : ∀ b ∈ js, b < T.length + 3 := fun b hb => by
        have := (ow_mut (g1 [⟨0, 0, .dead, []⟩, ⟨0, 0, .dead, []⟩, ⟨0, 0, .dead, []⟩] rfl) b hb).lt
        simpa only [List.length_append, List.length_cons, List.length_nil, Nat.zero_add, Nat.add_comm] using this
      have hd := fun (pre : List Blk) (hp : pre.length = 3) => owL_te_of (t := (t.rel v).1)
        (by rw [hrel1]; exact ow_pre (pre := [_, _, _]) (pre' := pre) (by rw [hp]; rfl) q2 z1 (fun b hb => by have := hx1 b hb; simp only [List.length_cons, List.length_nil]; omega))
        (by rw [hrel1]; exact ow_pre (pre := [_, _, _]) (pre' := pre) (T' := T2) (by rw [hp]; rfl) (fun _ _ => rfl) z2 (fun b hb => by have := hx2 b hb; simp only [List.length_cons, List.length_nil]; omega))
        (by rw [hrel1]; exact ow_pre (pre := pre) (pre' := pre) (T' := T2) rfl (fun i hi => by rw [q2 i (by omega), b2 i hi]) (g1 pre hp) (fun b hb => by have := g3 b hb; omega))
      refine wd_any (acalls_full (iRel1 t.kind t.name t.num t.type.kind t.frm.kind t.label _ _ _ (Tm.rels t.kids v).2 (by omega) _)) ?_
      rintro _ _ ⟨T3, rfl, rfl⟩
      (simp only [go_sem])
      repeat' (first | (((first | apply sp1 | apply sp2 | apply sp3 | apply sp4 | apply sp5 | apply sp6 | apply sp7) <;> intro hb) <;> (simp only [go_sem, hb])) | ((first | apply wm_done | apply wt_done | apply wg_run | refine fk ?_ ?_) <;> (simp only [go_sem])))
      refine hR _ (ret_all (by (simp only [go_sem]); first | done | rfl) ?_)
      rw [hrel2]
      obtain ⟨d, hd⟩ := hd [⟨0, 0, .dead, []⟩, ⟨0, 0, .dead, []⟩, ⟨0, 0, .dead, []⟩] rfl
      have hte : teO (t.rel v).1 x1 x2 c = teO (.mk t.kind t.name t.num t.type t.frm (match t.kind == 14 with | true => (((Tm.rels t.kids v).2 + 1 : Nat) : Int) | false => t.label) (Tm.rels t.kids v).1) x1 x2 c := by rw [← hrel1]
      rw [hte] at hd
      have hge : ∀ b ∈ ids1 ++ (ids2 ++ js), 3 ≤ b := fun b hb => by
        rcases List.mem_append.1 hb with hb | hb
        · have := hx1 b hb; omega
        · rcases List.mem_append.1 hb with hb | hb
          · have := hx2 b hb; omega
          · exact g3 b hb
      refine ⟨_, d, _, _, rfl, rfl, ?_, nodup3 a2 p2 g2 hjs hx1 hx2 (by omega), ?_⟩
      · refine owL_frame (h := _ :: _ :: _ :: T2) hd (fun b hb => ?_)
        have hb2 : 3 ≤ b := hge b hb
        have hb3 := (owL_mut hd b hb).lt
        obtain ⟨b, rfl⟩ : ∃ x, b = x + 3 := ⟨b - 3, by omega⟩
        exact List.getElem?_append_left (by simpa using hb3)
      · intro b hb
        have := hge b hb
        omega
end Go.Proofs.Ytchcbfbnffhifaa
/- Terms wrapped. On shadows. -/
namespace Go.Proofs.Grad
end Go.Proofs.Grad
namespace Go.Proofs.Ytchcbfbnffhifaa
open Go.RowKit Go.Proofs.Sh Go.Proofs.Grad
set_option maxRecDepth 100000
set_option maxHeartbeats 8000000
end Go.Proofs.Ytchcbfbnffhifaa
