/- A region that draws its order: one walk of the lexical order serves every order, where what writes or calls is ordered and all else yields one value in every world of a class. No program in sight. -/
import Derived.Still
import Derived.Deep.Quiet
import Derived.WalkKit
namespace Go.Proofs.Sh
section
variable {P : Program} {ops : Array Oper} {C : World → Prop} {Q : Exit → Act → World → Prop} {loud : Oper → Bool} {fin : Nat → Bool} {rd : Oper → Bool}

def QF : Exit → Act → World → Prop := fun _ _ _ => False

/-- The operation yields v in every world of the class, and leaves the world. -/
def Cls (C : World → Prop) (b : Bool) : World → Prop := if b then C else fun _ => True

def Calm (P : Program) (C : World → Prop) (o : Oper) (a : Act) (v : Value) : Prop := ∀ w, C w → (execOp a.eval o).run P w = .ok (.value v) w

def mOp (P : Program) (ops : Array Oper) (C : World → Prop) (loud rd : Oper → Bool) (fin : Nat → Bool) (i : Nat) (K : Act → World → Prop) (a : Act) (w : World) : Prop :=
  match ops[i]? with
  | none => K a w
  | some o =>
    if Region.wanted o (yielded ops a.tmps) then
      if loud o then o.wp P a w (fun a' w' => (fin i = true ∨ C w') ∧ K a' w') QF else ∃ v, Calm P (Cls C (rd o)) o a v ∧ K (a.put o.dst v) w
    else K (a.put o.dst undef) w

theorem mOp_mono {i : Nat} {a : Act} {w : World} {K K' : Act → World → Prop} (h : ∀ a w, K a w → K' a w) (hh : mOp P ops C loud rd fin i K a w) : mOp P ops C loud rd fin i K' a w := by
  unfold mOp at *
  split
  · exact h _ _ (by simpa [*] using hh)
  · rename_i o ho
    simp only [ho] at hh
    split
    · rename_i hw
      simp only [hw, if_true] at hh
      split
      · rename_i hl; simp only [hl, if_true] at hh; exact Oper.wp_mono (fun a w hk => ⟨hk.1, h _ _ hk.2⟩) hh
      · rename_i hl; simp only [hl] at hh; exact let ⟨v, h1, h2⟩ := hh; ⟨v, h1, h _ _ h2⟩
    · rename_i hw; simp only [hw] at hh; exact h _ _ hh

theorem Calm.of_same {o : Oper} {v : Value} {a a' : Act} (h : Calm P C o a v) (he : execOp a'.eval o = execOp a.eval o) : Calm P C o a' v := by
  unfold Calm at *; rw [he]; exact h

theorem QF_wp {o : Oper} {a : Act} {w : World} {K : Act → World → Prop} (h : o.wp P a w K QF) : o.wp P a w K Q := by
  unfold Oper.wp at *
  generalize (execOp a.eval o).run P w = r at *
  cases r with
  | ok n w' =>
    cases n <;> simp only [Oper.upon] at h ⊢ <;>
      first
        | exact h
        | exact Calls.mono h (fun e w'' he => by
            cases e with
            | returned v => exact he
            | panicked c => exact (he : False).elim
            | outgrown => exact he.elim (fun _ ⟨_, hf⟩ => (hf : False).elim))
  | halt x w' => cases x <;> simp only [Oper.upon] at h ⊢ <;> first | exact h.elim | exact (h : False).elim

/-- A loud operation has an outcome, and its frame is the old one but for its own slot. -/
theorem wp_some {o : Oper} {a : Act} {w : World} {K : Act → World → Prop} (h : o.wp P a w K QF) : ∃ a' w', K a' w' ∧ ∃ v ds, a' = ({ a with defers := ds } : Act).put o.dst v := by
  unfold Oper.wp at *
  generalize (execOp a.eval o).run P w = r at *
  cases r with
  | ok n w' =>
    cases n <;> simp only [Oper.upon] at h
    case value v => exact ⟨_, _, h, v, a.defers, rfl⟩
    case skip => exact ⟨_, _, h, undef, a.defers, rfl⟩
    case defer d => exact ⟨_, _, h, undef, d :: a.defers, rfl⟩
    case enter f args =>
      obtain ⟨e, w'', fr, hR, _⟩ := h []
      cases e with
      | returned v => exact ⟨_, _, hR, v, a.defers, rfl⟩
      | panicked c => exact (hR : False).elim
      | outgrown => exact hR.elim (fun _ ⟨_, hf⟩ => (hf : False).elim)
    case row row args =>
      obtain ⟨v, w'', hR, _⟩ := h default []
      exact ⟨_, _, hR, v, a.defers, rfl⟩
  | halt x w' => cases x <;> simp only [Oper.upon] at h <;> first | exact h.elim | exact (h : False).elim

theorem Act.put_ds (a : Act) (x : Option Tmp) (v : Value) (ds : List Deferred) : ({ a.put x v with defers := ds } : Act) = ({ a with defers := ds } : Act).put x v := by
  cases x <;> rfl

/-- A loud operation, from a frame in which another slot has been filled before. -/
theorem wp_put {oj : Oper} {d : Option Tmp} {v : Value} (hsj : ∀ cs b, oj.op ≠ .select cs b) (h1 : ∀ t, d = some t → t ∉ oj.looksAt ops) (h2 : ∀ t, d = some t → oj.dst ≠ some t)
    {K : Act → World → Prop} {a : Act} {w : World} (h : oj.wp P (a.put d v) w K QF) : oj.wp P a w (fun a' w' => K (a'.put d v) w' ∧ ∃ u ds, a' = ({ a with defers := ds } : Act).put oj.dst u) QF := by
  unfold Oper.wp at *
  rw [execOp_put oj hsj a d v h1] at h
  generalize (execOp a.eval oj).run P w = r at *
  cases r with
  | ok n w' =>
    cases n <;> simp only [Oper.upon] at h ⊢
    case value u => exact ⟨by rw [← Act.put_comm a v u h2]; exact h, u, a.defers, rfl⟩
    case skip => exact ⟨by rw [← Act.put_comm a v undef h2]; exact h, undef, a.defers, rfl⟩
    case defer dd =>
      refine ⟨?_, undef, dd :: a.defers, rfl⟩
      rw [← Act.put_comm _ v undef h2, ← Act.put_defers]
      exact h
    case enter f args =>
      refine Calls.mono h fun e w'' he => ?_
      cases e with
      | returned u => exact ⟨by rw [← Act.put_comm a v u h2]; exact he, u, a.defers, rfl⟩
      | panicked c => exact he
      | outgrown => exact he
    case row row args => exact Rows.mono h fun u w'' he => ⟨by rw [← Act.put_comm a v u h2]; exact he, u, a.defers, rfl⟩
  | halt x w' => cases x <;> simp only [Oper.upon] at h ⊢ <;> exact h

/-- .. and the other way. -/
theorem wp_unput {oj : Oper} {d : Option Tmp} {v : Value} (hsj : ∀ cs b, oj.op ≠ .select cs b) (h1 : ∀ t, d = some t → t ∉ oj.looksAt ops) (h2 : ∀ t, d = some t → oj.dst ≠ some t)
    {K : Act → World → Prop} {a : Act} {w : World} (h : oj.wp P a w (fun a' w' => (∃ u ds, a' = ({ a with defers := ds } : Act).put oj.dst u) → K (a'.put d v) w') QF) : oj.wp P (a.put d v) w K QF := by
  unfold Oper.wp at *
  rw [execOp_put oj hsj a d v h1]
  generalize (execOp a.eval oj).run P w = r at *
  cases r with
  | ok n w' =>
    cases n <;> simp only [Oper.upon] at h ⊢
    case value u => rw [Act.put_comm a v u h2]; exact h ⟨u, a.defers, rfl⟩
    case skip => rw [Act.put_comm a v undef h2]; exact h ⟨undef, a.defers, rfl⟩
    case defer dd =>
      rw [Act.put_defers, Act.put_comm _ v undef h2]
      exact h ⟨undef, dd :: a.defers, rfl⟩
    case enter f args =>
      refine Calls.mono h fun e w'' he => ?_
      cases e with
      | returned u => simp only at he ⊢; rw [Act.put_comm a v u h2]; exact he ⟨u, a.defers, rfl⟩
      | panicked c => exact he
      | outgrown => exact he
    case row row args => exact Rows.mono h fun u w'' he => by rw [Act.put_comm a v u h2]; exact he ⟨u, a.defers, rfl⟩
  | halt x w' => cases x <;> simp only [Oper.upon] at h ⊢ <;> exact h

theorem Act.eval_ds (a : Act) (ds : List Deferred) : ({ a with defers := ds } : Act).eval = a.eval := funext fun x => by cases x <;> rfl

/-- Two operations that come up now change places. -/
theorem mOp_comm {i j : Nat} {oi oj : Oper} (hi : ops[i]? = some oi) (hj : ops[j]? = some oj) (hap : oi.apart ops oj = true) (hl : (loud oi && loud oj) = false)
    (hsi : ∀ cs b, oi.op ≠ .select cs b) (hsj : ∀ cs b, oj.op ≠ .select cs b) {K : Act → World → Prop} {a : Act} {w : World} (hC : Cls C (rd oj) w)
    (h : mOp P ops C loud rd fin i (mOp P ops C loud rd fin j K) a w) : mOp P ops C loud rd fin j (mOp P ops C loud rd fin i K) a w := by
  obtain ⟨h1, h2, h3⟩ := Oper.apart_spec hap
  have h2' : ∀ d, oj.dst = some d → oi.dst ≠ some d := fun d hd he => h2 d he hd
  have wj : ∀ (a : Act) v, Region.wanted oj (yielded ops (a.put oi.dst v).tmps) = Region.wanted oj (yielded ops a.tmps) := fun a v => wanted_put oj a oi.dst v h1
  have wi : ∀ (a : Act) v, Region.wanted oi (yielded ops (a.put oj.dst v).tmps) = Region.wanted oi (yielded ops a.tmps) := fun a v => wanted_put oi a oj.dst v h3
  have ej : ∀ (a : Act) v, execOp (a.put oi.dst v).eval oj = execOp a.eval oj := fun a v => execOp_put oj hsj a oi.dst v h1
  have ei : ∀ (a : Act) v, execOp (a.put oj.dst v).eval oi = execOp a.eval oi := fun a v => execOp_put oi hsi a oj.dst v h3
  unfold mOp at *
  simp only [hi, hj] at *
  by_cases hwi : Region.wanted oi (yielded ops a.tmps) = true <;> by_cases hwj : Region.wanted oj (yielded ops a.tmps) = true
  · simp only [hwi, hwj, if_true] at h ⊢
    by_cases li : loud oi = true
    · have lj : loud oj = false := by simpa [li] using hl
      simp only [li, lj, if_true, Bool.false_eq_true, if_false] at h ⊢
      obtain ⟨a', w', ⟨_, hK⟩, u, ds, ha'⟩ := wp_some h
      subst ha'
      rw [wj, if_pos hwj] at hK
      obtain ⟨v, hv, _⟩ := hK
      have hv' : Calm P (Cls C (rd oj)) oj a v := hv.of_same (by rw [ej]; rw [Act.eval_ds a ds])
      refine ⟨v, hv', ?_⟩
      rw [wi, if_pos hwi]
      refine wp_unput (ops := ops) hsi h3 h2' (Oper.wp_mono (fun a' w' hk => ?_) h)
      rintro ⟨u, ds, ha'⟩
      subst ha'
      obtain ⟨hf, hk⟩ := hk
      rw [wj, if_pos hwj] at hk
      obtain ⟨v', hv2, hk⟩ := hk
      have e1 := hv' w hC
      have e2 := (hv2.of_same (a' := a) (by rw [ej]; rw [Act.eval_ds a ds])) w hC
      rw [e1] at e2
      simp only [Result.ok.injEq, Next.value.injEq, and_true] at e2
      rw [e2]; exact ⟨hf, hk⟩
    · simp only [li, if_false, Bool.false_eq_true] at h ⊢
      obtain ⟨v, hv, h⟩ := h
      rw [wj, if_pos hwj] at h
      by_cases lj : loud oj = true
      · simp only [lj, if_true] at h ⊢
        refine Oper.wp_mono (fun a' w' hk => ?_) (wp_put (ops := ops) hsj h1 h2 h)
        obtain ⟨⟨hf, hk⟩, u, ds, ha'⟩ := hk
        subst ha'
        refine ⟨hf, ?_⟩
        rw [wi, if_pos (by exact hwi)]
        exact ⟨v, hv.of_same (by rw [ei]; rw [Act.eval_ds a ds]), hk⟩
      · simp only [lj, if_false, Bool.false_eq_true] at h ⊢
        obtain ⟨v', hv', h⟩ := h
        refine ⟨v', hv'.of_same (by rw [ej]), ?_⟩
        rw [wi, if_pos hwi]
        exact ⟨v, hv.of_same (by rw [ei]), by rw [← Act.put_comm a v v' h2]; exact h⟩
  · simp only [hwi, hwj, if_true, if_false, Bool.false_eq_true] at h ⊢
    rw [wi, if_pos hwi]
    by_cases li : loud oi = true
    · simp only [li, if_true] at h ⊢
      refine wp_unput (ops := ops) hsi h3 h2' (Oper.wp_mono (fun a' w' hk => ?_) h)
      rintro ⟨u, ds, ha'⟩
      subst ha'
      obtain ⟨hf, hk⟩ := hk
      rw [wj, if_neg (by exact hwj)] at hk
      exact ⟨hf, hk⟩
    · simp only [li, if_false, Bool.false_eq_true] at h ⊢
      obtain ⟨v, hv, h⟩ := h
      rw [wj, if_neg hwj] at h
      exact ⟨v, hv.of_same (by rw [ei]), by rw [← Act.put_comm a v undef h2]; exact h⟩
  · simp only [hwi, hwj, if_true, if_false, Bool.false_eq_true] at h ⊢
    rw [wj, if_pos hwj] at h
    by_cases lj : loud oj = true
    · simp only [lj, if_true] at h ⊢
      refine Oper.wp_mono (fun a' w' hk => ?_) (wp_put (ops := ops) hsj h1 h2 h)
      obtain ⟨⟨hf, hk⟩, u, ds, ha'⟩ := hk
      subst ha'
      refine ⟨hf, ?_⟩
      rw [wi, if_neg (by exact hwi)]
      exact hk
    · simp only [lj, if_false, Bool.false_eq_true] at h ⊢
      obtain ⟨v, hv, h⟩ := h
      refine ⟨v, hv.of_same (by rw [ej]), ?_⟩
      rw [wi, if_neg hwi, ← Act.put_comm a undef v h2]; exact h
  · simp only [hwi, hwj, if_false, Bool.false_eq_true] at h ⊢
    rw [wj, if_neg hwj] at h
    rw [wi, if_neg hwi, ← Act.put_comm a undef undef h2]
    exact h

/-- Whatever order is picked from here on. -/
def Need (ops : Array Oper) (rd : Oper → Bool) (listed : Array Bool) : Prop := ∃ k ok, ops[k]? = some ok ∧ rd ok = true ∧ listed.getD k true = false

theorem Need.cls {listed : Array Bool} {w : World} (h : Need ops rd listed → C w) {i : Nat} {o : Oper} (hi : ops[i]? = some o) (hu : listed.getD i true = false) : Cls C (rd o) w := by
  unfold Cls
  split
  · rename_i hr; exact h ⟨i, o, hi, hr, hu⟩
  · trivial

def wpAnyM (P : Program) (ops : Array Oper) (C : World → Prop) (loud rd : Oper → Bool) (fin : Nat → Bool) (Q : Exit → Act → World → Prop) : Nat → Array Bool → Act → World → Prop
  | 0, listed, a, w => Region.ready .any ops listed = [] ∧ Q .normal a w
  | fuel + 1, listed, a, w => (Need ops rd listed → C w) ∧ (Region.ready .any ops listed = [] → Q .normal a w) ∧
    ∀ i ∈ Region.ready .any ops listed, mOp P ops C loud rd fin i (wpAnyM P ops C loud rd fin Q fuel (listed.setIfInBounds i true)) a w

theorem wpOp_of_mOp {i : Nat} {a : Act} {w : World} {K : Act → World → Prop} (hC : ∀ o, ops[i]? = some o → Cls C (rd o) w) (h : mOp P ops C loud rd fin i K a w) : wpOp P ops Q i K a w := by
  unfold mOp at h
  unfold wpOp
  split
  · simpa [*] using h
  · rename_i o ho
    simp only [ho] at h
    split
    · rename_i hw
      simp only [hw, if_true] at h
      left
      split at h
      · exact Oper.wp_mono (fun _ _ hk => hk.2) (QF_wp h)
      · obtain ⟨v, hv, h⟩ := h
        simp only [Oper.wp, hv w (hC o ho), Oper.upon]; exact h
    · rename_i hw; simp only [hw] at h; exact h

theorem wpAny_of_M : ∀ (fuel : Nat) (listed : Array Bool) (a : Act) (w : World), wpAnyM P ops C loud rd fin Q fuel listed a w → wpAny P .any ops Q fuel listed a w
  | 0, _, _, _, h => h
  | fuel + 1, listed, a, w, h => ⟨h.2.1, fun i hi => wpOp_mono (fun a w h => wpAny_of_M fuel _ a w h) (wpOp_of_mOp (fun o ho => Need.cls h.1 ho (mem_ready.1 hi).1) (h.2.2 i hi))⟩

/-- j waits for i: a table of bits that the edges bear out. -/
def Waits (ops : Array Oper) (W : Nat → Nat → Bool) : Prop :=
  ∀ j oj, ops[j]? = some oj → (∀ e ∈ oj.after, Region.binds .any e = true → e.on < j) ∧
    ∀ i, W j i = true → ∃ e ∈ oj.after, Region.binds .any e = true ∧ (e.on = i ∨ W e.on i = true)

def Down (ops : Array Oper) (listed : Array Bool) : Prop := ∀ j oj, ops[j]? = some oj → listed.getD j true = true → ∀ e ∈ oj.after, Region.binds .any e = true → listed.getD e.on false = true

theorem getD_ft {listed : Array Bool} {k : Nat} (h : listed.getD k false = true) : listed.getD k true = true := by
  rcases Nat.lt_or_ge k listed.size with h' | h'
  · simp [h'] at h ⊢; exact h
  · simp [Array.getElem?_eq_none h'] at h

theorem not_waits {W : Nat → Nat → Bool} (hW : Waits ops W) {listed : Array Bool} (hD : Down ops listed) {i : Nat} (hi : listed.getD i true = false) :
    ∀ n j oj, j < n → ops[j]? = some oj → (∀ e ∈ oj.after, Region.binds .any e = true → listed.getD e.on false = true) → W j i = false := by
  intro n
  induction n with
  | zero => intro j _ h; omega
  | succ n ih =>
    intro j oj hjn hoj hall
    cases hw : W j i with
    | false => rfl
    | true =>
      obtain ⟨hb, hx⟩ := hW j oj hoj
      obtain ⟨e, he, hbe, hor⟩ := hx i hw
      have hl := hall e he hbe
      rcases hor with h | h
      · rw [h] at hl; have := getD_ft hl; rw [hi] at this; cases this
      · have hlt := hb e he hbe
        have hsz : j < ops.size := (Array.getElem?_eq_some_iff.1 hoj).1
        have hoe : ops[e.on]? = some ops[e.on] := Array.getElem?_eq_getElem (by omega)
        have := ih e.on _ (by omega) hoe (hD e.on _ hoe (getD_ft hl))
        rw [h] at this; cases this

theorem Down.set {listed : Array Bool} (hD : Down ops listed) {j : Nat} (hj : j ∈ Region.ready .any ops listed) : Down ops (listed.setIfInBounds j true) := by
  intro k ok hk hl e he hb
  by_cases hjk : j = k
  · subst hjk
    obtain ⟨_, o, ho, hall⟩ := mem_ready.1 hj
    rw [hk] at ho; cases ho
    exact getD_set_true (hall e he hb)
  · rw [getD_set_ne true hjk] at hl
    exact getD_set_true (hD k ok hk hl e he hb)

/-- Behind an operation the world is one of the class, as long as that is needed. -/
theorem mOp_class {j : Nat} {a : Act} {w : World} {K : Act → World → Prop} {N : Prop} (hC : N → C w) (hf : fin j = true → N → False) (h : mOp P ops C loud rd fin j K a w) : mOp P ops C loud rd fin j (fun a' w' => (N → C w') ∧ K a' w') a w := by
  unfold mOp at *
  split
  · exact ⟨hC, by simpa [*] using h⟩
  · rename_i o ho
    simp only [ho] at h
    split
    · rename_i hw
      simp only [hw, if_true] at h
      split
      · rename_i hl
        simp only [hl, if_true] at h
        exact Oper.wp_mono (fun a w hk => ⟨hk.1, fun hn => hk.1.resolve_left (fun e => hf e hn), hk.2⟩) h
      · rename_i hl
        simp only [hl] at h
        exact let ⟨v, h1, h2⟩ := h; ⟨v, h1, hC, h2⟩
    · rename_i hw; simp only [hw] at h; exact ⟨hC, h⟩

theorem first {W : Nat → Nat → Bool} (hW : Waits ops W) (hfin : ∀ j, fin j = true → ∀ k ok, ops[k]? = some ok → rd ok = true → k ≠ j → W j k = true) {i : Nat} {oi : Oper} (hi : ops[i]? = some oi) (hsel : ∀ (j : Nat) (o : Oper) cs b, ops[j]? = some o → o.op ≠ .select cs b) :
    ∀ (fuel : Nat) (listed : Array Bool) (a : Act) (w : World), (Need ops rd listed → C w) → Down ops listed →
      (∀ j oj, ops[j]? = some oj → j ≠ i → listed.getD j true = false → W j i = false → oi.apart ops oj = true ∧ (loud oi && loud oj) = false) →
      i ∈ Region.ready .any ops listed →
      mOp P ops C loud rd fin i (wpAnyM P ops C loud rd fin Q fuel (listed.setIfInBounds i true)) a w → wpAnyM P ops C loud rd fin Q (fuel + 1) listed a w := by
  intro fuel
  induction fuel with
  | zero =>
    intro listed a w hC hD hfree hr H
    refine ⟨hC, fun h => (by rw [h] at hr; cases hr), fun j hj => ?_⟩
    by_cases hji : j = i
    · subst hji; exact H
    · exfalso
      have hrd := ready_mono hj hji
      -- the only outcome of i leaves nothing ready
      have hno : ∃ a' w', wpAnyM P ops C loud rd fin Q 0 (listed.setIfInBounds i true) a' w' := by
        unfold mOp at H
        simp only [hi] at H
        split at H
        · split at H
          · obtain ⟨a', w', h, _⟩ := wp_some H; exact ⟨a', w', h.2⟩
          · obtain ⟨v, _, h⟩ := H; exact ⟨_, _, h⟩
        · exact ⟨_, _, H⟩
      obtain ⟨a', w', h0, _⟩ := hno
      rw [h0] at hrd; cases hrd
  | succ fuel ih =>
    intro listed a w hC hD hfree hr H
    refine ⟨hC, fun h => (by rw [h] at hr; cases hr), fun j hj => ?_⟩
    by_cases hji : j = i
    · subst hji; exact H
    · obtain ⟨hjun, oj, hoj, hall⟩ := mem_ready.1 hj
      have hjr := ready_mono hj hji
      have hwait := not_waits hW hD (mem_ready.1 hr).1 (j + 1) j oj (by omega) hoj hall
      obtain ⟨hap, hl⟩ := hfree j oj hoj hji hjun hwait
      have h1 : mOp P ops C loud rd fin i (mOp P ops C loud rd fin j (wpAnyM P ops C loud rd fin Q fuel ((listed.setIfInBounds i true).setIfInBounds j true))) a w :=
        mOp_mono (fun a' w' h => h.2.2 j hjr) H
      have h2 := mOp_comm hi hoj hap hl (fun cs b => hsel i oi cs b hi) (fun cs b => hsel j oj cs b hoj) (Need.cls hC hoj hjun) h1
      have hD' := hD.set hj
      have hir := ready_mono hr (Ne.symm hji)
      have hfree' : ∀ k ok, ops[k]? = some ok → k ≠ i → (listed.setIfInBounds j true).getD k true = false → W k i = false → oi.apart ops ok = true ∧ (loud oi && loud ok) = false := fun k ok hk hki hun hno => by
        refine hfree k ok hk hki ?_ hno
        by_cases hjk : j = k
        · subst hjk; exact hjun
        · rw [getD_set_ne true hjk] at hun; exact hun
      rw [Array.setIfInBounds_comm _ _ (Ne.symm hji)] at h2
      have hneed : Need ops rd (listed.setIfInBounds j true) → Need ops rd listed := fun ⟨k, ok, hk, hr, hu⟩ => by
        refine ⟨k, ok, hk, hr, ?_⟩
        by_cases hjk : j = k
        · subst hjk; exact hjun
        · rwa [getD_set_ne true hjk] at hu
      have h3 := mOp_class (N := Need ops rd (listed.setIfInBounds j true)) (fun hn => hC (hneed hn)) (fun hf ⟨k, ok, hk, hr, hu⟩ => by
        by_cases hjk : j = k
        · subst hjk
          rcases Nat.lt_or_ge j listed.size with h' | h'
          · rw [Array.getD_eq_getD_getElem?, Array.getElem?_setIfInBounds_self_of_lt h'] at hu; simp at hu
          · rw [Array.getD_eq_getD_getElem?, Array.getElem?_eq_none (by simpa using h')] at hu; simp at hu
        · have hu' : listed.getD k true = false := by rwa [getD_set_ne true hjk] at hu
          have hw1 := hfin j hf k ok hk hr (Ne.symm hjk)
          have hw2 := not_waits hW hD hu' (j + 1) j oj (by omega) hoj hall
          rw [hw1] at hw2; cases hw2) h2
      exact mOp_mono (fun a' w' h => ih _ a' w' h.1 hD' hfree' hir h.2) h3

/-- The lexical walk. -/
def wpMix (P : Program) (ops : Array Oper) (C : World → Prop) (loud rd : Oper → Bool) (f : Nat) (Q : Exit → Act → World → Prop) : List Oper → Act → World → Prop
  | [], a, w => Q .normal a w
  | o :: rest, a, w =>
    if Region.wanted o (yielded ops a.tmps) then
      if loud o then o.wp P a w (fun a' w' => (rest.length < f ∨ C w') ∧ wpMix P ops C loud rd f Q rest a' w') QF
      else ∃ v, Calm P (Cls C (rd o)) o a v ∧ wpMix P ops C loud rd f Q rest (a.put o.dst v) w
    else wpMix P ops C loud rd f Q rest (a.put o.dst undef) w

def waitsB (n : Nat) (b : Array Nat) (j i : Nat) : Bool := decide (i < n) && (b.getD j 0).testBit i

/-- What is asked of the region's text, by the kernel's own run. -/
def mixOK (loud rd : Oper → Bool) (f : Nat) (ops : Array Oper) : Bool :=
  Region.noSelect ops &&
  (let b := Region.before ops
   (List.range ops.size).all fun j =>
    match ops[j]? with
    | none => false
    | some oj =>
      (oj.after.toList.all fun e => !Region.binds .any e || decide (e.on < j)) &&
      ((List.range ops.size).all fun i =>
        (!waitsB ops.size b j i || (oj.after.toList.any fun e => Region.binds .any e && (e.on == i || waitsB ops.size b e.on i))) &&
        (!decide (i < j) || waitsB ops.size b j i || (match ops[i]? with | none => false | some oi => oi.apart ops oj && !(loud oi && loud oj))) &&
        (!decide (ops.size < f + (j + 1)) || !loud oj || i == j || !(match ops[i]? with | none => false | some oi => rd oi) || waitsB ops.size b j i)))

theorem mix_any {W : Nat → Nat → Bool} (hW : Waits ops W) (hs : Region.noSelect ops = true) {f : Nat} (hback : ∀ i j oi oj, ops[i]? = some oi → ops[j]? = some oj → i < j → W j i = false → oi.apart ops oj = true ∧ (loud oi && loud oj) = false)
    (hfin : ∀ j oj, ops[j]? = some oj → loud oj = true → ops.size < f + (j + 1) → ∀ k ok, ops[k]? = some ok → rd ok = true → k ≠ j → W j k = true) :
    ∀ (l : List Oper) (k : Nat) (listed : Array Bool) (a : Act) (w : World), (∀ j, l[j]? = ops[k + j]?) → k + l.length = ops.size → listed.size = ops.size → (∀ j, j < ops.size → listed.getD j true = decide (j < k)) → (Need ops rd listed → C w) →
      wpMix P ops C loud rd f Q l a w → wpAnyM P ops C loud rd (fun j => decide (ops.size < f + (j + 1)) && ((ops[j]?).map loud).getD false) Q l.length listed a w
  | [], k, listed, a, w, hl, hk, hsz, hls, hC, h => by
    refine ⟨?_, h⟩
    rw [List.eq_nil_iff_forall_not_mem]
    intro j hj
    obtain ⟨hun, o, ho, _⟩ := mem_ready.1 hj
    have := (Array.getElem?_eq_some_iff.1 ho).1
    rw [hls j this] at hun
    simp at hk hun
    omega
  | o :: l, k, listed, a, w, hl, hk, hsz, hls, hC, h => by
    have h0 : ops[k]? = some o := by simpa using (hl 0).symm
    simp only [List.length_cons] at hk ⊢
    have hk' : k < ops.size := by omega
    have hD : Down ops listed := by
      intro j oj hoj hlj e he hb
      have hj := (Array.getElem?_eq_some_iff.1 hoj).1
      rw [hls j hj] at hlj
      have hlt := (hW j oj hoj).1 e he hb
      have h2 := hls e.on (by omega)
      have : listed.getD e.on true = true := by rw [h2]; simp at hlj ⊢; omega
      rw [Array.getD_eq_getD_getElem?] at this ⊢
      rw [Array.getElem?_eq_getElem (by omega)] at this ⊢
      simpa using this
    have hl' : ∀ j, l[j]? = ops[k + 1 + j]? := fun j => by have := hl (j + 1); simpa [Nat.add_assoc, Nat.add_comm 1 j] using this
    have hls' : ∀ j, j < ops.size → (listed.setIfInBounds k true).getD j true = decide (j < k + 1) := by
      intro j hj
      by_cases hjk : k = j
      · subst hjk
        rw [Array.getD_eq_getD_getElem?, Array.getElem?_setIfInBounds_self_of_lt (by omega)]
        simp
      · rw [getD_set_ne true hjk, hls j hj]
        simp; omega
    have hdeps : ∀ e ∈ o.after, Region.binds .any e = true → listed.getD e.on false = true := fun e he hb => by
      have hlt := (hW k o h0).1 e he hb
      have h2 := hls e.on (by omega)
      have : listed.getD e.on true = true := by rw [h2]; simp; omega
      rw [Array.getD_eq_getD_getElem?] at this ⊢
      rw [Array.getElem?_eq_getElem (by omega)] at this ⊢
      simpa using this
    have hneed : Need ops rd (listed.setIfInBounds k true) → Need ops rd listed := fun ⟨m, om, hm, hr, hu⟩ => by
      refine ⟨m, om, hm, hr, ?_⟩
      by_cases hjk : k = m
      · subst hjk; rw [hls k hk']; simp
      · rwa [getD_set_ne true hjk] at hu
    refine first (W := W) hW ?_ h0 (Region.noSelect_spec hs) l.length listed a w hC hD ?_ ?_ ?_
    · intro j hj m om hm hr hij
      simp only [Bool.and_eq_true, decide_eq_true_eq] at hj
      cases hoj : ops[j]? with
      | none => rw [hoj] at hj; simp at hj
      | some oj => rw [hoj] at hj; exact hfin j oj hoj (by simpa using hj.2) hj.1 m om hm hr hij
    · intro j oj hoj hjk hun hw
      have hj := (Array.getElem?_eq_some_iff.1 hoj).1
      rw [hls j hj] at hun
      simp at hun
      exact hback k j o oj h0 hoj (by omega) hw
    · exact mem_ready.2 ⟨by rw [hls k hk']; simp, o, h0, hdeps⟩
    · have ih := fun a w hC h => mix_any hW hs hback hfin l (k + 1) (listed.setIfInBounds k true) a w hl' (by omega) (by simpa using hsz) hls' hC h
      unfold mOp
      simp only [h0]
      unfold wpMix at h
      split
      · rename_i hw
        simp only [hw, if_true] at h
        split
        · rename_i hlo
          simp only [hlo, if_true] at h
          refine Oper.wp_mono (fun a' w' hk2 => ?_) h
          rcases hk2.1 with hr | hC'
          · have hf : ops.size < f + (k + 1) := by omega
            refine ⟨.inl (by simp [hf, hlo]), ih a' w' (fun ⟨m, om, hm, hr, hu⟩ => ?_) hk2.2⟩
            exfalso
            have hmk : m ≠ k := fun e => by
              subst e
              rw [Array.getD_eq_getD_getElem?, Array.getElem?_setIfInBounds_self_of_lt (by omega)] at hu
              simp at hu
            have hu' : listed.getD m true = false := by rwa [getD_set_ne true (Ne.symm hmk)] at hu
            have h1 := hfin k o h0 hlo hf m om hm hr hmk
            have h2 := not_waits hW hD hu' (k + 1) k o (by omega) h0 hdeps
            rw [h1] at h2; cases h2
          · exact ⟨.inr hC', ih a' w' (fun _ => hC') hk2.2⟩
        · rename_i hlo
          simp only [hlo] at h
          obtain ⟨v, hv, h⟩ := h
          exact ⟨v, hv, ih _ _ (fun hn => hC (hneed hn)) h⟩
      · rename_i hw
        simp only [hw] at h
        exact ih _ _ (fun hn => hC (hneed hn)) h

/-- ONE WALK OF THE LEXICAL ORDER SERVES EVERY ORDER. The last f operations come behind all that reads. -/
theorem wp_region_mix {id : Nat} {a : Act} {w : World} (f : Nat) (hm : P.follows .mixedOrders = true) (hB : mixOK loud rd f ops = true) (hC : C { w with drawn := w.drawn + 1 })
    (h : wpMix P ops C loud rd f Q ops.toList a { w with drawn := w.drawn + 1 }) : (Code.region id ops true).wp P Q a w := by
  simp only [mixOK, Bool.and_eq_true, List.all_eq_true, List.mem_range] at hB
  obtain ⟨hs, hB⟩ := hB
  have hW : Waits ops (waitsB ops.size (Region.before ops)) := by
    intro j oj hoj
    have hj := (Array.getElem?_eq_some_iff.1 hoj).1
    have h := hB j hj
    rw [hoj] at h
    simp only [Bool.and_eq_true, List.all_eq_true, List.mem_range] at h
    refine ⟨fun e he hb => ?_, fun i hi => ?_⟩
    · have := h.1 e (by simpa using he)
      simpa [hb] using this
    · have hisz : i < ops.size := by
        simp only [waitsB, Bool.and_eq_true, decide_eq_true_eq] at hi; exact hi.1
      have := (h.2 i hisz).1.1
      rw [hi] at this
      simp only [Bool.not_true, Bool.false_or, List.any_eq_true, Bool.and_eq_true, Bool.or_eq_true, beq_iff_eq] at this
      obtain ⟨e, he, h1, h2⟩ := this
      exact ⟨e, by simpa using he, h1, h2⟩
  refine wp_region_any hm (wpAny_of_M (C := C) (loud := loud) (rd := rd) (fin := fun j => decide (ops.size < f + (j + 1)) && ((ops[j]?).map loud).getD false) _ _ _ _ ?_)
  have := mix_any (P := P) (ops := ops) (C := C) (Q := Q) (loud := loud) (rd := rd) hW hs (f := f) ?_ ?_ ops.toList 0 (Array.replicate ops.size false) a _ (by simp) (by simp) (by simp) (by intro j hj; simp [hj]) (fun _ => hC) h
  · simpa using this
  · intro i j oi oj hi hj hij hw
    have hj' := (Array.getElem?_eq_some_iff.1 hj).1
    have hi' := (Array.getElem?_eq_some_iff.1 hi).1
    have h := hB j hj'
    rw [hj] at h
    simp only [Bool.and_eq_true, List.all_eq_true, List.mem_range] at h
    have := (h.2 i hi').1.2
    rw [hw, hi] at this
    simp only [hij, decide_true, Bool.not_true, Bool.false_or, Bool.and_eq_true, Bool.not_eq_true'] at this
    exact this
  · intro j oj hj hlo hf k ok hk hr hkj
    have hj' := (Array.getElem?_eq_some_iff.1 hj).1
    have hk' := (Array.getElem?_eq_some_iff.1 hk).1
    have h := hB j hj'
    rw [hj] at h
    simp only [Bool.and_eq_true, List.all_eq_true, List.mem_range] at h
    have := (h.2 k hk').2
    rw [hk] at this
    simpa [hf, hlo, hr, hkj] using this
end

/-- What may come up at any time: it reads, or reckons. -/
def loudOp (o : Oper) : Bool := match o.op with
  | .move _ | .assign _ | .pick .. | .load .. | .binOp .. | .unOp .. | .fieldAddr .. | .field .. | .indexAddr .. | .index .. | .extract .. | .build .. | .nilCheck _ | .slice .. | .makeFunc .. | .convert .. => false
  | .call { callee := .builtin .len, .. } | .call { callee := .builtin .max, .. } | .call { callee := .builtin .min, .. } => false
  | _ => true
/-- What reads the world. -/
def readOp (o : Oper) : Bool := match o.op with | .load .. => true | _ => false
end Go.Proofs.Sh
