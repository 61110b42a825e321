/- Texts of the proof, one behind another. -/
import Derived.Still
import Derived.Deep.Quiet
import Derived.WalkKit
import Derived.Test.YtkkijdlgmlffoaaKW5
set_option linter.unusedSimpArgs false
set_option linter.unusedVariables false
/- A region that draws its order: one walk of the lexical order serves every order, where what writes or calls is ordered and all else yields one value in every world of a class. No program in sight. -/
namespace Go.Proofs.Sh
section
variable {P : Program} {ops : Array Oper} {C : World → Prop} {Q : Exit → Act → World → Prop} {loud : Oper → Bool} {fin : Nat → Bool} {rd : Oper → Bool}

def QF : Exit → Act → World → Prop := fun _ _ _ => False

/-- The operation yields v in every world of the class, and leaves the world. -/
def Cls (C : World → Prop) (b : Bool) : World → Prop := if b then C else fun _ => True

def Calm (P : Program) (C : World → Prop) (o : Oper) (a : Act) (v : Value) : Prop := ∀ w, C w → (execOp a.eval o).run P w = .ok (.value v) w

def mOp (P : Program) (ops : Array Oper) (C : World → Prop) (loud rd : Oper → Bool) (fin : Nat → Bool) (i : Nat) (K : Act → World → Prop) (a : Act) (w : World) : Prop :=
  match ops[i]? with
  | none => K a w
  | some o =>
    if Region.wanted o (yielded ops a.tmps) then
      if loud o then o.wp P a w (fun a' w' => (fin i = true ∨ C w') ∧ K a' w') QF else ∃ v, Calm P (Cls C (rd o)) o a v ∧ K (a.put o.dst v) w
    else K (a.put o.dst undef) w

theorem mOp_mono {i : Nat} {a : Act} {w : World} {K K' : Act → World → Prop} (h : ∀ a w, K a w → K' a w) (hh : mOp P ops C loud rd fin i K a w) : mOp P ops C loud rd fin i K' a w := by
  unfold mOp at *
  split
  · exact h _ _ (by simpa [*] using hh)
  · rename_i o ho
    simp only [ho] at hh
    split
    · rename_i hw
      simp only [hw, if_true] at hh
      split
      · rename_i hl; simp only [hl, if_true] at hh; exact Oper.wp_mono (fun a w hk => ⟨hk.1, h _ _ hk.2⟩) hh
      · rename_i hl; simp only [hl] at hh; exact let ⟨v, h1, h2⟩ := hh; ⟨v, h1, h _ _ h2⟩
    · rename_i hw; simp only [hw] at hh; exact h _ _ hh

theorem Calm.of_same {o : Oper} {v : Value} {a a' : Act} (h : Calm P C o a v) (he : execOp a'.eval o = execOp a.eval o) : Calm P C o a' v := by
  unfold Calm at *; rw [he]; exact h

theorem QF_wp {o : Oper} {a : Act} {w : World} {K : Act → World → Prop} (h : o.wp P a w K QF) : o.wp P a w K Q := by
  unfold Oper.wp at *
  generalize (execOp a.eval o).run P w = r at *
  cases r with
  | ok n w' =>
    cases n <;> simp only [Oper.upon] at h ⊢ <;>
      first
        | exact h
        | exact Calls.mono h (fun e w'' he => by
            cases e with
            | returned v => exact he
            | panicked c => exact (he : False).elim
            | outgrown => exact he.elim (fun _ ⟨_, hf⟩ => (hf : False).elim))
  | halt x w' => cases x <;> simp only [Oper.upon] at h ⊢ <;> first | exact h.elim | exact (h : False).elim

/-- A loud operation has an outcome, and its frame is the old one but for its own slot. -/
theorem wp_some {o : Oper} {a : Act} {w : World} {K : Act → World → Prop} (h : o.wp P a w K QF) : ∃ a' w', K a' w' ∧ ∃ v ds, a' = ({ a with defers := ds } : Act).put o.dst v := by
  unfold Oper.wp at *
  generalize (execOp a.eval o).run P w = r at *
  cases r with
  | ok n w' =>
    cases n <;> simp only [Oper.upon] at h
    case value v => exact ⟨_, _, h, v, a.defers, rfl⟩
    case skip => exact ⟨_, _, h, undef, a.defers, rfl⟩
    case defer d => exact ⟨_, _, h, undef, d :: a.defers, rfl⟩
    case enter f args =>
      obtain ⟨e, w'', fr, hR, _⟩ := h []
      cases e with
      | returned v => exact ⟨_, _, hR, v, a.defers, rfl⟩
      | panicked c => exact (hR : False).elim
      | outgrown => exact hR.elim (fun _ ⟨_, hf⟩ => (hf : False).elim)
    case row row args =>
      obtain ⟨v, w'', hR, _⟩ := h default []
      exact ⟨_, _, hR, v, a.defers, rfl⟩
  | halt x w' => cases x <;> simp only [Oper.upon] at h <;> first | exact h.elim | exact (h : False).elim

/-- A loud operation, from a frame in which another slot has been filled before. -/
theorem wp_put {oj : Oper} {d : Option Tmp} {v : Value} (hsj : ∀ cs b, oj.op ≠ .select cs b) (h1 : ∀ t, d = some t → t ∉ oj.looksAt ops) (h2 : ∀ t, d = some t → oj.dst ≠ some t)
    {K : Act → World → Prop} {a : Act} {w : World} (h : oj.wp P (a.put d v) w K QF) : oj.wp P a w (fun a' w' => K (a'.put d v) w' ∧ ∃ u ds, a' = ({ a with defers := ds } : Act).put oj.dst u) QF := by
  unfold Oper.wp at *
  rw [execOp_put oj hsj a d v h1] at h
  generalize (execOp a.eval oj).run P w = r at *
  cases r with
  | ok n w' =>
    cases n <;> simp only [Oper.upon] at h ⊢
    case value u => exact ⟨by rw [← Act.put_comm a v u h2]; exact h, u, a.defers, rfl⟩
    case skip => exact ⟨by rw [← Act.put_comm a v undef h2]; exact h, undef, a.defers, rfl⟩
    case defer dd =>
      refine ⟨?_, undef, dd :: a.defers, rfl⟩
      rw [← Act.put_comm _ v undef h2, ← Act.put_defers]
      exact h
    case enter f args =>
      refine Calls.mono h fun e w'' he => ?_
      cases e with
      | returned u => exact ⟨by rw [← Act.put_comm a v u h2]; exact he, u, a.defers, rfl⟩
      | panicked c => exact he
      | outgrown => exact he
    case row row args => exact Rows.mono h fun u w'' he => ⟨by rw [← Act.put_comm a v u h2]; exact he, u, a.defers, rfl⟩
  | halt x w' => cases x <;> simp only [Oper.upon] at h ⊢ <;> exact h

/-- .. and the other way. -/
theorem wp_unput {oj : Oper} {d : Option Tmp} {v : Value} (hsj : ∀ cs b, oj.op ≠ .select cs b) (h1 : ∀ t, d = some t → t ∉ oj.looksAt ops) (h2 : ∀ t, d = some t → oj.dst ≠ some t)
    {K : Act → World → Prop} {a : Act} {w : World} (h : oj.wp P a w (fun a' w' => (∃ u ds, a' = ({ a with defers := ds } : Act).put oj.dst u) → K (a'.put d v) w') QF) : oj.wp P (a.put d v) w K QF := by
  unfold Oper.wp at *
  rw [execOp_put oj hsj a d v h1]
  generalize (execOp a.eval oj).run P w = r at *
  cases r with
  | ok n w' =>
    cases n <;> simp only [Oper.upon] at h ⊢
    case value u => rw [Act.put_comm a v u h2]; exact h ⟨u, a.defers, rfl⟩
    case skip => rw [Act.put_comm a v undef h2]; exact h ⟨undef, a.defers, rfl⟩
    case defer dd =>
      rw [Act.put_defers, Act.put_comm _ v undef h2]
      exact h ⟨undef, dd :: a.defers, rfl⟩
    case enter f args =>
      refine Calls.mono h fun e w'' he => ?_
      cases e with
      | returned u => simp only at he ⊢; rw [Act.put_comm a v u h2]; exact he ⟨u, a.defers, rfl⟩
      | panicked c => exact he
      | outgrown => exact he
    case row row args => exact Rows.mono h fun u w'' he => by rw [Act.put_comm a v u h2]; exact he ⟨u, a.defers, rfl⟩
  | halt x w' => cases x <;> simp only [Oper.upon] at h ⊢ <;> exact h

theorem Act.eval_ds (a : Act) (ds : List Deferred) : ({ a with defers := ds } : Act).eval = a.eval := funext fun x => by cases x <;> rfl

/-- Two operations that come up now change places. -/
theorem mOp_comm {i j : Nat} {oi oj : Oper} (hi : ops[i]? = some oi) (hj : ops[j]? = some oj) (hap : oi.apart ops oj = true) (hl : (loud oi && loud oj) = false)
    (hsi : ∀ cs b, oi.op ≠ .select cs b) (hsj : ∀ cs b, oj.op ≠ .select cs b) {K : Act → World → Prop} {a : Act} {w : World} (hC : Cls C (rd oj) w)
    (h : mOp P ops C loud rd fin i (mOp P ops C loud rd fin j K) a w) : mOp P ops C loud rd fin j (mOp P ops C loud rd fin i K) a w := by
  obtain ⟨h1, h2, h3⟩ := Oper.apart_spec hap
  have h2' : ∀ d, oj.dst = some d → oi.dst ≠ some d := fun d hd he => h2 d he hd
  have wj : ∀ (a : Act) v, Region.wanted oj (yielded ops (a.put oi.dst v).tmps) = Region.wanted oj (yielded ops a.tmps) := fun a v => wanted_put oj a oi.dst v h1
  have wi : ∀ (a : Act) v, Region.wanted oi (yielded ops (a.put oj.dst v).tmps) = Region.wanted oi (yielded ops a.tmps) := fun a v => wanted_put oi a oj.dst v h3
  have ej : ∀ (a : Act) v, execOp (a.put oi.dst v).eval oj = execOp a.eval oj := fun a v => execOp_put oj hsj a oi.dst v h1
  have ei : ∀ (a : Act) v, execOp (a.put oj.dst v).eval oi = execOp a.eval oi := fun a v => execOp_put oi hsi a oj.dst v h3
  unfold mOp at *
  simp only [hi, hj] at *
  by_cases hwi : Region.wanted oi (yielded ops a.tmps) = true <;> by_cases hwj : Region.wanted oj (yielded ops a.tmps) = true
  · simp only [hwi, hwj, if_true] at h ⊢
    by_cases li : loud oi = true
    · have lj : loud oj = false := by simpa [li] using hl
      simp only [li, lj, if_true, Bool.false_eq_true, if_false] at h ⊢
      obtain ⟨a', w', ⟨_, hK⟩, u, ds, ha'⟩ := wp_some h
      subst ha'
      rw [wj, if_pos hwj] at hK
      obtain ⟨v, hv, _⟩ := hK
      have hv' : Calm P (Cls C (rd oj)) oj a v := hv.of_same (by rw [ej]; rw [Act.eval_ds a ds])
      refine ⟨v, hv', ?_⟩
      rw [wi, if_pos hwi]
      refine wp_unput (ops := ops) hsi h3 h2' (Oper.wp_mono (fun a' w' hk => ?_) h)
      rintro ⟨u, ds, ha'⟩
      subst ha'
      obtain ⟨hf, hk⟩ := hk
      rw [wj, if_pos hwj] at hk
      obtain ⟨v', hv2, hk⟩ := hk
      have e1 := hv' w hC
      have e2 := (hv2.of_same (a' := a) (by rw [ej]; rw [Act.eval_ds a ds])) w hC
      rw [e1] at e2
      simp only [Result.ok.injEq, Next.value.injEq, and_true] at e2
      rw [e2]; exact ⟨hf, hk⟩
    · simp only [li, if_false, Bool.false_eq_true] at h ⊢
      obtain ⟨v, hv, h⟩ := h
      rw [wj, if_pos hwj] at h
      by_cases lj : loud oj = true
      · simp only [lj, if_true] at h ⊢
        refine Oper.wp_mono (fun a' w' hk => ?_) (wp_put (ops := ops) hsj h1 h2 h)
        obtain ⟨⟨hf, hk⟩, u, ds, ha'⟩ := hk
        subst ha'
        refine ⟨hf, ?_⟩
        rw [wi, if_pos (by exact hwi)]
        exact ⟨v, hv.of_same (by rw [ei]; rw [Act.eval_ds a ds]), hk⟩
      · simp only [lj, if_false, Bool.false_eq_true] at h ⊢
        obtain ⟨v', hv', h⟩ := h
        refine ⟨v', hv'.of_same (by rw [ej]), ?_⟩
        rw [wi, if_pos hwi]
        exact ⟨v, hv.of_same (by rw [ei]), by rw [← Act.put_comm a v v' h2]; exact h⟩
  · simp only [hwi, hwj, if_true, if_false, Bool.false_eq_true] at h ⊢
    rw [wi, if_pos hwi]
    by_cases li : loud oi = true
    · simp only [li, if_true] at h ⊢
      refine wp_unput (ops := ops) hsi h3 h2' (Oper.wp_mono (fun a' w' hk => ?_) h)
      rintro ⟨u, ds, ha'⟩
      subst ha'
      obtain ⟨hf, hk⟩ := hk
      rw [wj, if_neg (by exact hwj)] at hk
      exact ⟨hf, hk⟩
    · simp only [li, if_false, Bool.false_eq_true] at h ⊢
      obtain ⟨v, hv, h⟩ := h
      rw [wj, if_neg hwj] at h
      exact ⟨v, hv.of_same (by rw [ei]), by rw [← Act.put_comm a v undef h2]; exact h⟩
  · simp only [hwi, hwj, if_true, if_false, Bool.false_eq_true] at h ⊢
    rw [wj, if_pos hwj] at h
    by_cases lj : loud oj = true
    · simp only [lj, if_true] at h ⊢
      refine Oper.wp_mono (fun a' w' hk => ?_) (wp_put (ops := ops) hsj h1 h2 h)
      obtain ⟨⟨hf, hk⟩, u, ds, ha'⟩ := hk
      subst ha'
      refine ⟨hf, ?_⟩
      rw [wi, if_neg (by exact hwi)]
      exact hk
    · simp only [lj, if_false, Bool.false_eq_true] at h ⊢
      obtain ⟨v, hv, h⟩ := h
      refine ⟨v, hv.of_same (by rw [ej]), ?_⟩
      rw [wi, if_neg hwi, ← Act.put_comm a undef v h2]; exact h
  · simp only [hwi, hwj, if_false, Bool.false_eq_true] at h ⊢
    rw [wj, if_neg hwj] at h
    rw [wi, if_neg hwi, ← Act.put_comm a undef undef h2]
    exact h

/-- Whatever order is picked from here on. -/
def Need (ops : Array Oper) (rd : Oper → Bool) (listed : Array Bool) : Prop := ∃ k ok, ops[k]? = some ok ∧ rd ok = true ∧ listed.getD k true = false

theorem Need.cls {listed : Array Bool} {w : World} (h : Need ops rd listed → C w) {i : Nat} {o : Oper} (hi : ops[i]? = some o) (hu : listed.getD i true = false) : Cls C (rd o) w := by
  unfold Cls
  split
  · rename_i hr; exact h ⟨i, o, hi, hr, hu⟩
  · trivial

def wpAnyM (P : Program) (ops : Array Oper) (C : World → Prop) (loud rd : Oper → Bool) (fin : Nat → Bool) (Q : Exit → Act → World → Prop) : Nat → Array Bool → Act → World → Prop
  | 0, listed, a, w => Region.ready .any ops listed = [] ∧ Q .normal a w
  | fuel + 1, listed, a, w => (Need ops rd listed → C w) ∧ (Region.ready .any ops listed = [] → Q .normal a w) ∧
    ∀ i ∈ Region.ready .any ops listed, mOp P ops C loud rd fin i (wpAnyM P ops C loud rd fin Q fuel (listed.setIfInBounds i true)) a w

theorem wpOp_of_mOp {i : Nat} {a : Act} {w : World} {K : Act → World → Prop} (hC : ∀ o, ops[i]? = some o → Cls C (rd o) w) (h : mOp P ops C loud rd fin i K a w) : wpOp P ops Q i K a w := by
  unfold mOp at h
  unfold wpOp
  split
  · simpa [*] using h
  · rename_i o ho
    simp only [ho] at h
    split
    · rename_i hw
      simp only [hw, if_true] at h
      left
      split at h
      · exact Oper.wp_mono (fun _ _ hk => hk.2) (QF_wp h)
      · obtain ⟨v, hv, h⟩ := h
        simp only [Oper.wp, hv w (hC o ho), Oper.upon]; exact h
    · rename_i hw; simp only [hw] at h; exact h

theorem wpAny_of_M : ∀ (fuel : Nat) (listed : Array Bool) (a : Act) (w : World), wpAnyM P ops C loud rd fin Q fuel listed a w → wpAny P .any ops Q fuel listed a w
  | 0, _, _, _, h => h
  | fuel + 1, listed, a, w, h => ⟨h.2.1, fun i hi => wpOp_mono (fun a w h => wpAny_of_M fuel _ a w h) (wpOp_of_mOp (fun o ho => Need.cls h.1 ho (mem_ready.1 hi).1) (h.2.2 i hi))⟩

/-- j waits for i: a table of bits that the edges bear out. -/
def Waits (ops : Array Oper) (W : Nat → Nat → Bool) : Prop :=
  ∀ j oj, ops[j]? = some oj → (∀ e ∈ oj.after, Region.binds .any e = true → e.on < j) ∧
    ∀ i, W j i = true → ∃ e ∈ oj.after, Region.binds .any e = true ∧ (e.on = i ∨ W e.on i = true)

def Down (ops : Array Oper) (listed : Array Bool) : Prop := ∀ j oj, ops[j]? = some oj → listed.getD j true = true → ∀ e ∈ oj.after, Region.binds .any e = true → listed.getD e.on false = true

theorem getD_ft {listed : Array Bool} {k : Nat} (h : listed.getD k false = true) : listed.getD k true = true := by
  rcases Nat.lt_or_ge k listed.size with h' | h'
  · simp [h'] at h ⊢; exact h
  · simp [Array.getElem?_eq_none h'] at h

theorem not_waits {W : Nat → Nat → Bool} (hW : Waits ops W) {listed : Array Bool} (hD : Down ops listed) {i : Nat} (hi : listed.getD i true = false) :
    ∀ n j oj, j < n → ops[j]? = some oj → (∀ e ∈ oj.after, Region.binds .any e = true → listed.getD e.on false = true) → W j i = false := by
  intro n
  induction n with
  | zero => intro j _ h; omega
  | succ n ih =>
    intro j oj hjn hoj hall
    cases hw : W j i with
    | false => rfl
    | true =>
      obtain ⟨hb, hx⟩ := hW j oj hoj
      obtain ⟨e, he, hbe, hor⟩ := hx i hw
      have hl := hall e he hbe
      rcases hor with h | h
      · rw [h] at hl; have := getD_ft hl; rw [hi] at this; cases this
      · have hlt := hb e he hbe
        have hsz : j < ops.size := (Array.getElem?_eq_some_iff.1 hoj).1
        have hoe : ops[e.on]? = some ops[e.on] := Array.getElem?_eq_getElem (by omega)
        have := ih e.on _ (by omega) hoe (hD e.on _ hoe (getD_ft hl))
        rw [h] at this; cases this

theorem Down.set {listed : Array Bool} (hD : Down ops listed) {j : Nat} (hj : j ∈ Region.ready .any ops listed) : Down ops (listed.setIfInBounds j true) := by
  intro k ok hk hl e he hb
  by_cases hjk : j = k
  · subst hjk
    obtain ⟨_, o, ho, hall⟩ := mem_ready.1 hj
    rw [hk] at ho; cases ho
    exact getD_set_true (hall e he hb)
  · rw [getD_set_ne true hjk] at hl
    exact getD_set_true (hD k ok hk hl e he hb)

/-- Behind an operation the world is one of the class, as long as that is needed. -/
theorem mOp_class {j : Nat} {a : Act} {w : World} {K : Act → World → Prop} {N : Prop} (hC : N → C w) (hf : fin j = true → N → False) (h : mOp P ops C loud rd fin j K a w) : mOp P ops C loud rd fin j (fun a' w' => (N → C w') ∧ K a' w') a w := by
  unfold mOp at *
  split
  · exact ⟨hC, by simpa [*] using h⟩
  · rename_i o ho
    simp only [ho] at h
    split
    · rename_i hw
      simp only [hw, if_true] at h
      split
      · rename_i hl
        simp only [hl, if_true] at h
        exact Oper.wp_mono (fun a w hk => ⟨hk.1, fun hn => hk.1.resolve_left (fun e => hf e hn), hk.2⟩) h
      · rename_i hl
        simp only [hl] at h
        exact let ⟨v, h1, h2⟩ := h; ⟨v, h1, hC, h2⟩
    · rename_i hw; simp only [hw] at h; exact ⟨hC, h⟩

theorem first {W : Nat → Nat → Bool} (hW : Waits ops W) (hfin : ∀ j, fin j = true → ∀ k ok, ops[k]? = some ok → rd ok = true → k ≠ j → W j k = true) {i : Nat} {oi : Oper} (hi : ops[i]? = some oi) (hsel : ∀ (j : Nat) (o : Oper) cs b, ops[j]? = some o → o.op ≠ .select cs b) :
    ∀ (fuel : Nat) (listed : Array Bool) (a : Act) (w : World), (Need ops rd listed → C w) → Down ops listed →
      (∀ j oj, ops[j]? = some oj → j ≠ i → listed.getD j true = false → W j i = false → oi.apart ops oj = true ∧ (loud oi && loud oj) = false) →
      i ∈ Region.ready .any ops listed →
      mOp P ops C loud rd fin i (wpAnyM P ops C loud rd fin Q fuel (listed.setIfInBounds i true)) a w → wpAnyM P ops C loud rd fin Q (fuel + 1) listed a w := by
  intro fuel
  induction fuel with
  | zero =>
    intro listed a w hC hD hfree hr H
    refine ⟨hC, fun h => (by rw [h] at hr; cases hr), fun j hj => ?_⟩
    by_cases hji : j = i
    · subst hji; exact H
    · exfalso
      have hrd := ready_mono hj hji
      -- the only outcome of i leaves nothing ready
      have hno : ∃ a' w', wpAnyM P ops C loud rd fin Q 0 (listed.setIfInBounds i true) a' w' := by
        unfold mOp at H
        simp only [hi] at H
        split at H
        · split at H
          · obtain ⟨a', w', h, _⟩ := wp_some H; exact ⟨a', w', h.2⟩
          · obtain ⟨v, _, h⟩ := H; exact ⟨_, _, h⟩
        · exact ⟨_, _, H⟩
      obtain ⟨a', w', h0, _⟩ := hno
      rw [h0] at hrd; cases hrd
  | succ fuel ih =>
    intro listed a w hC hD hfree hr H
    refine ⟨hC, fun h => (by rw [h] at hr; cases hr), fun j hj => ?_⟩
    by_cases hji : j = i
    · subst hji; exact H
    · obtain ⟨hjun, oj, hoj, hall⟩ := mem_ready.1 hj
      have hjr := ready_mono hj hji
      have hwait := not_waits hW hD (mem_ready.1 hr).1 (j + 1) j oj (by omega) hoj hall
      obtain ⟨hap, hl⟩ := hfree j oj hoj hji hjun hwait
      have h1 : mOp P ops C loud rd fin i (mOp P ops C loud rd fin j (wpAnyM P ops C loud rd fin Q fuel ((listed.setIfInBounds i true).setIfInBounds j true))) a w :=
        mOp_mono (fun a' w' h => h.2.2 j hjr) H
      have h2 := mOp_comm hi hoj hap hl (fun cs b => hsel i oi cs b hi) (fun cs b => hsel j oj cs b hoj) (Need.cls hC hoj hjun) h1
      have hD' := hD.set hj
      have hir := ready_mono hr (Ne.symm hji)
      have hfree' : ∀ k ok, ops[k]? = some ok → k ≠ i → (listed.setIfInBounds j true).getD k true = false → W k i = false → oi.apart ops ok = true ∧ (loud oi && loud ok) = false := fun k ok hk hki hun hno => by
        refine hfree k ok hk hki ?_ hno
        by_cases hjk : j = k
        · subst hjk; exact hjun
        · rw [getD_set_ne true hjk] at hun; exact hun
      rw [Array.setIfInBounds_comm _ _ (Ne.symm hji)] at h2
      have hneed : Need ops rd (listed.setIfInBounds j true) → Need ops rd listed := fun ⟨k, ok, hk, hr, hu⟩ => by
        refine ⟨k, ok, hk, hr, ?_⟩
        by_cases hjk : j = k
        · subst hjk; exact hjun
        · rwa [getD_set_ne true hjk] at hu
      have h3 := mOp_class (N := Need ops rd (listed.setIfInBounds j true)) (fun hn => hC (hneed hn)) (fun hf ⟨k, ok, hk, hr, hu⟩ => by
        by_cases hjk : j = k
        · subst hjk
          rcases Nat.lt_or_ge j listed.size with h' | h'
          · rw [Array.getD_eq_getD_getElem?, Array.getElem?_setIfInBounds_self_of_lt h'] at hu; simp at hu
          · rw [Array.getD_eq_getD_getElem?, Array.getElem?_eq_none (by simpa using h')] at hu; simp at hu
        · have hu' : listed.getD k true = false := by rwa [getD_set_ne true hjk] at hu
          have hw1 := hfin j hf k ok hk hr (Ne.symm hjk)
          have hw2 := not_waits hW hD hu' (j + 1) j oj (by omega) hoj hall
          rw [hw1] at hw2; cases hw2) h2
      exact mOp_mono (fun a' w' h => ih _ a' w' h.1 hD' hfree' hir h.2) h3

/-- The lexical walk. -/
def wpMix (P : Program) (ops : Array Oper) (C : World → Prop) (loud rd : Oper → Bool) (f : Nat) (Q : Exit → Act → World → Prop) : List Oper → Act → World → Prop
  | [], a, w => Q .normal a w
  | o :: rest, a, w =>
    if Region.wanted o (yielded ops a.tmps) then
      if loud o then o.wp P a w (fun a' w' => (rest.length < f ∨ C w') ∧ wpMix P ops C loud rd f Q rest a' w') QF
      else ∃ v, Calm P (Cls C (rd o)) o a v ∧ wpMix P ops C loud rd f Q rest (a.put o.dst v) w
    else wpMix P ops C loud rd f Q rest (a.put o.dst undef) w

def waitsB (n : Nat) (b : Array Nat) (j i : Nat) : Bool := decide (i < n) && (b.getD j 0).testBit i

/-- What is asked of the region's text, by the kernel's own run. -/
def mixOK (loud rd : Oper → Bool) (f : Nat) (ops : Array Oper) : Bool :=
  Region.noSelect ops &&
  (let b := Region.before ops
   (List.range ops.size).all fun j =>
    match ops[j]? with
    | none => false
    | some oj =>
      (oj.after.toList.all fun e => !Region.binds .any e || decide (e.on < j)) &&
      ((List.range ops.size).all fun i =>
        (!waitsB ops.size b j i || (oj.after.toList.any fun e => Region.binds .any e && (e.on == i || waitsB ops.size b e.on i))) &&
        (!decide (i < j) || waitsB ops.size b j i || (match ops[i]? with | none => false | some oi => oi.apart ops oj && !(loud oi && loud oj))) &&
        (!decide (ops.size < f + (j + 1)) || !loud oj || i == j || !(match ops[i]? with | none => false | some oi => rd oi) || waitsB ops.size b j i)))

theorem mix_any {W : Nat → Nat → Bool} (hW : Waits ops W) (hs : Region.noSelect ops = true) {f : Nat} (hback : ∀ i j oi oj, ops[i]? = some oi → ops[j]? = some oj → i < j → W j i = false → oi.apart ops oj = true ∧ (loud oi && loud oj) = false)
    (hfin : ∀ j oj, ops[j]? = some oj → loud oj = true → ops.size < f + (j + 1) → ∀ k ok, ops[k]? = some ok → rd ok = true → k ≠ j → W j k = true) :
    ∀ (l : List Oper) (k : Nat) (listed : Array Bool) (a : Act) (w : World), (∀ j, l[j]? = ops[k + j]?) → k + l.length = ops.size → listed.size = ops.size → (∀ j, j < ops.size → listed.getD j true = decide (j < k)) → (Need ops rd listed → C w) →
      wpMix P ops C loud rd f Q l a w → wpAnyM P ops C loud rd (fun j => decide (ops.size < f + (j + 1)) && ((ops[j]?).map loud).getD false) Q l.length listed a w
  | [], k, listed, a, w, hl, hk, hsz, hls, hC, h => by
    refine ⟨?_, h⟩
    rw [List.eq_nil_iff_forall_not_mem]
    intro j hj
    obtain ⟨hun, o, ho, _⟩ := mem_ready.1 hj
    have := (Array.getElem?_eq_some_iff.1 ho).1
    rw [hls j this] at hun
    simp at hk hun
    omega
  | o :: l, k, listed, a, w, hl, hk, hsz, hls, hC, h => by
    have h0 : ops[k]? = some o := by simpa using (hl 0).symm
    simp only [List.length_cons] at hk ⊢
    have hk' : k < ops.size := by omega
    have hD : Down ops listed := by
      intro j oj hoj hlj e he hb
      have hj := (Array.getElem?_eq_some_iff.1 hoj).1
      rw [hls j hj] at hlj
      have hlt := (hW j oj hoj).1 e he hb
      have h2 := hls e.on (by omega)
      have : listed.getD e.on true = true := by rw [h2]; simp at hlj ⊢; omega
      rw [Array.getD_eq_getD_getElem?] at this ⊢
      rw [Array.getElem?_eq_getElem (by omega)] at this ⊢
      simpa using this
    have hl' : ∀ j, l[j]? = ops[k + 1 + j]? := fun j => by have := hl (j + 1); simpa [Nat.add_assoc, Nat.add_comm 1 j] using this
    have hls' : ∀ j, j < ops.size → (listed.setIfInBounds k true).getD j true = decide (j < k + 1) := by
      intro j hj
      by_cases hjk : k = j
      · subst hjk
        rw [Array.getD_eq_getD_getElem?, Array.getElem?_setIfInBounds_self_of_lt (by omega)]
        simp
      · rw [getD_set_ne true hjk, hls j hj]
        simp; omega
    have hdeps : ∀ e ∈ o.after, Region.binds .any e = true → listed.getD e.on false = true := fun e he hb => by
      have hlt := (hW k o h0).1 e he hb
      have h2 := hls e.on (by omega)
      have : listed.getD e.on true = true := by rw [h2]; simp; omega
      rw [Array.getD_eq_getD_getElem?] at this ⊢
      rw [Array.getElem?_eq_getElem (by omega)] at this ⊢
      simpa using this
    have hneed : Need ops rd (listed.setIfInBounds k true) → Need ops rd listed := fun ⟨m, om, hm, hr, hu⟩ => by
      refine ⟨m, om, hm, hr, ?_⟩
      by_cases hjk : k = m
      · subst hjk; rw [hls k hk']; simp
      · rwa [getD_set_ne true hjk] at hu
    refine first (W := W) hW ?_ h0 (Region.noSelect_spec hs) l.length listed a w hC hD ?_ ?_ ?_
    · intro j hj m om hm hr hij
      simp only [Bool.and_eq_true, decide_eq_true_eq] at hj
      cases hoj : ops[j]? with
      | none => rw [hoj] at hj; simp at hj
      | some oj => rw [hoj] at hj; exact hfin j oj hoj (by simpa using hj.2) hj.1 m om hm hr hij
    · intro j oj hoj hjk hun hw
      have hj := (Array.getElem?_eq_some_iff.1 hoj).1
      rw [hls j hj] at hun
      simp at hun
      exact hback k j o oj h0 hoj (by omega) hw
    · exact mem_ready.2 ⟨by rw [hls k hk']; simp, o, h0, hdeps⟩
    · have ih := fun a w hC h => mix_any hW hs hback hfin l (k + 1) (listed.setIfInBounds k true) a w hl' (by omega) (by simpa using hsz) hls' hC h
      unfold mOp
      simp only [h0]
      unfold wpMix at h
      split
      · rename_i hw
        simp only [hw, if_true] at h
        split
        · rename_i hlo
          simp only [hlo, if_true] at h
          refine Oper.wp_mono (fun a' w' hk2 => ?_) h
          rcases hk2.1 with hr | hC'
          · have hf : ops.size < f + (k + 1) := by omega
            refine ⟨.inl (by simp [hf, hlo]), ih a' w' (fun ⟨m, om, hm, hr, hu⟩ => ?_) hk2.2⟩
            exfalso
            have hmk : m ≠ k := fun e => by
              subst e
              rw [Array.getD_eq_getD_getElem?, Array.getElem?_setIfInBounds_self_of_lt (by omega)] at hu
              simp at hu
            have hu' : listed.getD m true = false := by rwa [getD_set_ne true (Ne.symm hmk)] at hu
            have h1 := hfin k o h0 hlo hf m om hm hr hmk
            have h2 := not_waits hW hD hu' (k + 1) k o (by omega) h0 hdeps
            rw [h1] at h2; cases h2
          · exact ⟨.inr hC', ih a' w' (fun _ => hC') hk2.2⟩
        · rename_i hlo
          simp only [hlo] at h
          obtain ⟨v, hv, h⟩ := h
          exact ⟨v, hv, ih _ _ (fun hn => hC (hneed hn)) h⟩
      · rename_i hw
        simp only [hw] at h
        exact ih _ _ (fun hn => hC (hneed hn)) h

/-- ONE WALK OF THE LEXICAL ORDER SERVES EVERY ORDER. The last f operations come behind all that reads. -/
theorem wp_region_mix {id : Nat} {a : Act} {w : World} (f : Nat) (hm : P.follows .mixedOrders = true) (hB : mixOK loud rd f ops = true) (hC : C { w with drawn := w.drawn + 1 })
    (h : wpMix P ops C loud rd f Q ops.toList a { w with drawn := w.drawn + 1 }) : (Code.region id ops true).wp P Q a w := by
  simp only [mixOK, Bool.and_eq_true, List.all_eq_true, List.mem_range] at hB
  obtain ⟨hs, hB⟩ := hB
  have hW : Waits ops (waitsB ops.size (Region.before ops)) := by
    intro j oj hoj
    have hj := (Array.getElem?_eq_some_iff.1 hoj).1
    have h := hB j hj
    rw [hoj] at h
    simp only [Bool.and_eq_true, List.all_eq_true, List.mem_range] at h
    refine ⟨fun e he hb => ?_, fun i hi => ?_⟩
    · have := h.1 e (by simpa using he)
      simpa [hb] using this
    · have hisz : i < ops.size := by
        simp only [waitsB, Bool.and_eq_true, decide_eq_true_eq] at hi; exact hi.1
      have := (h.2 i hisz).1.1
      rw [hi] at this
      simp only [Bool.not_true, Bool.false_or, List.any_eq_true, Bool.and_eq_true, Bool.or_eq_true, beq_iff_eq] at this
      obtain ⟨e, he, h1, h2⟩ := this
      exact ⟨e, by simpa using he, h1, h2⟩
  refine wp_region_any hm (wpAny_of_M (C := C) (loud := loud) (rd := rd) (fin := fun j => decide (ops.size < f + (j + 1)) && ((ops[j]?).map loud).getD false) _ _ _ _ ?_)
  have := mix_any (P := P) (ops := ops) (C := C) (Q := Q) (loud := loud) (rd := rd) hW hs (f := f) ?_ ?_ ops.toList 0 (Array.replicate ops.size false) a _ (by simp) (by simp) (by simp) (by intro j hj; simp [hj]) (fun _ => hC) h
  · simpa using this
  · intro i j oi oj hi hj hij hw
    have hj' := (Array.getElem?_eq_some_iff.1 hj).1
    have hi' := (Array.getElem?_eq_some_iff.1 hi).1
    have h := hB j hj'
    rw [hj] at h
    simp only [Bool.and_eq_true, List.all_eq_true, List.mem_range] at h
    have := (h.2 i hi').1.2
    rw [hw, hi] at this
    simp only [hij, decide_true, Bool.not_true, Bool.false_or, Bool.and_eq_true, Bool.not_eq_true'] at this
    exact this
  · intro j oj hj hlo hf k ok hk hr hkj
    have hj' := (Array.getElem?_eq_some_iff.1 hj).1
    have hk' := (Array.getElem?_eq_some_iff.1 hk).1
    have h := hB j hj'
    rw [hj] at h
    simp only [Bool.and_eq_true, List.all_eq_true, List.mem_range] at h
    have := (h.2 k hk').2
    rw [hk] at this
    simpa [hf, hlo, hr, hkj] using this
end

/-- What may come up at any time: it reads, or reckons. -/
def loudOp (o : Oper) : Bool := match o.op with
  | .move _ | .assign _ | .pick .. | .load .. | .binOp .. | .unOp .. | .fieldAddr .. | .field .. | .indexAddr .. | .index .. | .extract .. | .build .. | .nilCheck _ | .slice .. | .makeFunc .. | .convert .. => false
  | .call { callee := .builtin .len, .. } | .call { callee := .builtin .max, .. } | .call { callee := .builtin .min, .. } => false
  | _ => true
/-- What reads the world. -/
def readOp (o : Oper) : Bool := match o.op with | .load .. => true | _ => false
end Go.Proofs.Sh
/- Regions that draw their order, on shadows. -/
namespace Go.Proofs.Sh
open Go.RowKit

section
variable {P : Program}

/-- what an operation that only reckons yields depends on its operands alone -/
theorem aop_pure {s : ASt} {o : Oper} {v : AV} {h' : List Blk} (hl : loudOp o = false) (hr : readOp o = false) (e : aop P s o = .val v h') :
    h' = s.h ∧ ∀ (X μ : List Nat) (s0 : ASt) (a : Act) (w : World), SimF X μ s0 a w → (∀ x ∈ o.op.operands.toList, s0.eval x = s.eval x) → ∃ u, PureV P o a u ∧ AV.rep (X ++ alive μ s0.h) μ w v u := by
  unfold aop at e
  split at e
  · rename_i x ho; obtain ⟨e1, rfl⟩ := ares_val e
    exact ⟨rfl, fun X μ s0 a w hF hq => pure_move ho hF ((hq x (by simp [ho, Op.operands])).trans e1)⟩
  · rename_i x ho; obtain ⟨e1, rfl⟩ := ares_val e
    exact ⟨rfl, fun X μ s0 a w hF hq => pure_assign ho hF ((hq x (by simp [ho, Op.operands])).trans e1)⟩
  · rename_i c x y ho
    split at e
    · rename_i b v1 v2 h1 h2 h3
      injection e with e1 e2; subst e1 e2
      exact ⟨rfl, fun X μ s0 a w hF hq => pure_pick ho hF ((hq c (by simp [ho, Op.operands])).trans h1) ((hq x (by simp [ho, Op.operands])).trans h2) ((hq y (by simp [ho, Op.operands])).trans h3)⟩
    · cases e
  · rename_i t ho; simp [loudOp, ho] at hl
  · rename_i t x ho; simp [loudOp, ho] at hl
  · rename_i t parts ho; obtain ⟨e1, rfl⟩ := ares_val e
    refine ⟨rfl, fun X μ s0 a w hF hq => op_build ho hF ?_⟩
    rw [← e1]
    congr 1
    refine List.map_congr_left fun p hp => ?_
    rw [hq p.2 (by simp only [ho, Op.operands]; simp; exact ⟨p.1, by simpa using hp⟩)]
  · rename_i t len parts ho; simp [loudOp, ho] at hl
  · rename_i t x ho; simp [readOp, ho] at hr
  · rename_i t x y ho; simp [loudOp, ho] at hl
  · rename_i x ho
    split at e
    · rename_i hx; injection e with e1 e2; subst e1 e2; exact ⟨rfl, fun X μ s0 a w hF hq => pure_nilCheck ho hF ((hq x (by simp [ho, Op.operands])).trans hx) rfl⟩
    · rename_i hx; injection e with e1 e2; subst e1 e2; exact ⟨rfl, fun X μ s0 a w hF hq => pure_nilCheck ho hF ((hq x (by simp [ho, Op.operands])).trans hx) rfl⟩
    · rename_i hx; injection e with e1 e2; subst e1 e2; exact ⟨rfl, fun X μ s0 a w hF hq => pure_nilCheck ho hF ((hq x (by simp [ho, Op.operands])).trans hx) rfl⟩
    · cases e
  · rename_i op t x y t' ho
    obtain ⟨u1, u2, h1, h2, h3, rfl⟩ := ares2_val e
    exact ⟨rfl, fun X μ s0 a w hF hq => pure_bin ho hF ((hq x (by simp [ho, Op.operands])).trans h1) ((hq y (by simp [ho, Op.operands])).trans h2) h3⟩
  · rename_i op t x ho
    obtain ⟨u1, h1, h3, rfl⟩ := ares1_val e
    exact ⟨rfl, fun X μ s0 a w hF hq => pure_un ho hF ((hq x (by simp [ho, Op.operands])).trans h1) h3⟩
  · rename_i t t' x ho
    split at e
    · rename_i k' n k hx ht'
      split at e
      · rename_i ht; injection e with e1 e2; subst e1 e2; exact ⟨rfl, fun X μ s0 a w hF hq => pure_conv ho hF ((hq x (by simp [ho, Op.operands])).trans hx) ht ht'⟩
      · cases e
    · cases e
  · rename_i f first cs ho
    split at e
    · rename_i hf
      split at e
      · rename_i cc hcc; injection e with e1 e2; subst e1 e2
        refine ⟨rfl, fun X μ s0 a w hF hq => pure_makeFunc ho hF hf ?_⟩
        rw [← hcc]
        congr 1
        refine List.map_congr_left fun p hp => ?_
        rw [hq p (by simp only [ho, Op.operands]; simp; exact .inr (by simpa using hp))]
      · cases e
    · cases e
  · rename_i t l c ho; simp [loudOp, ho] at hl
  · rename_i t x lo hi ho
    obtain ⟨u1, h1, h3, rfl⟩ := ares1_val e
    refine ⟨rfl, fun X μ s0 a w hF hq => pure_slice ho hF ((hq x (by simp [ho, Op.operands])).trans h1) ?_⟩
    rw [← h3]
    congr 1
    · cases lo with
      | none => rfl
      | some o1 => simp only [Option.map_some]; rw [hq o1 (by simp [ho, Op.operands])]
    · cases hi with
      | none => rfl
      | some o1 => simp only [Option.map_some]; rw [hq o1 (by simp [ho, Op.operands])]
  · rename_i t x f ho
    obtain ⟨u1, h1, h3, rfl⟩ := ares1_val e
    exact ⟨rfl, fun X μ s0 a w hF hq => pure_fieldAddr ho hF ((hq x (by simp [ho, Op.operands])).trans h1) h3⟩
  · rename_i t x f ho
    obtain ⟨u1, h1, h3, rfl⟩ := ares1_val e
    exact ⟨rfl, fun X μ s0 a w hF hq => pure_field ho hF ((hq x (by simp [ho, Op.operands])).trans h1) h3⟩
  · rename_i t x i ho
    obtain ⟨u1, u2, h1, h2, h3, rfl⟩ := ares2_val e
    exact ⟨rfl, fun X μ s0 a w hF hq => pure_indexAddr ho hF ((hq x (by simp [ho, Op.operands])).trans h1) ((hq i (by simp [ho, Op.operands])).trans h2) h3⟩
  · rename_i x k ho
    split at e
    · rename_i vs hx; obtain ⟨e1, rfl⟩ := ares_val e
      exact ⟨rfl, fun X μ s0 a w hF hq => pure_extract ho hF ((hq x (by simp [ho, Op.operands])).trans hx) e1⟩
    · cases e
  · rename_i t x i ho
    obtain ⟨u1, u2, h1, h2, h3, rfl⟩ := ares2_val e
    exact ⟨rfl, fun X μ s0 a w hF hq => pure_index ho hF ((hq x (by simp [ho, Op.operands])).trans h1) ((hq i (by simp [ho, Op.operands])).trans h2) h3⟩
  · rename_i b args ts ho
    unfold abuiltin at e
    split at e
    · rename_i x t ha ht
      obtain ⟨u1, h1, h3, rfl⟩ := ares1_val e
      have ha' : args = #[x] := by rw [← Array.toArray_toList (xs := args), ha]
      have ht' : ts = #[t] := by rw [← Array.toArray_toList (xs := ts), ht]
      subst ha' ht'
      exact ⟨rfl, fun X μ s0 a w hF hq => pure_len ho hF ((hq x (by simp [ho, Op.operands, Call.operands])).trans h1) h3⟩
    · rename_i x y t t' ha ht
      obtain ⟨u1, u2, h1, h2, h3, rfl⟩ := ares2_val e
      have ha' : args = #[x, y] := by rw [← Array.toArray_toList (xs := args), ha]
      subst ha'
      exact ⟨rfl, fun X μ s0 a w hF hq => pure_max ho hF ((hq x (by simp [ho, Op.operands, Call.operands])).trans h1) ((hq y (by simp [ho, Op.operands, Call.operands])).trans h2) h3⟩
    · simp [loudOp, ho] at hl
    · cases e
  · exact absurd e call_ne_val
  · cases e
end
end Go.Proofs.Sh
/- A region that draws its order: one walk in the order of the text. -/
namespace Go.Proofs.Sh
open Go.RowKit

def stabX (U : List Nat) : Operand → Bool
  | .tmp t => !U.contains t
  | _ => true
def stab (U : List Nat) (o : Oper) : Bool := o.op.operands.toList.all (stabX U)
def addU (d : Option Tmp) (U : List Nat) : List Nat := match d with | some d => d :: U | none => U
def offMs (ms : List Nat) : C → Bool
  | .ptr _ b _ _ => !ms.contains b
  | _ => true
def isNew (o : Oper) : Bool := match o.op with | .alloc _ | .box .. | .buildSlice .. | .makeSlice .. => true | _ => false

inductive MOut where
  | done (s : ASt)
  | call (f : FuncId) (args : List AV) (o : Oper) (l : List Oper) (U : List Nat) (ok : Bool) (s : ASt)
  | bad (l : List Oper)

/-- the walk: h0 the own blocks at the region's start, of which those of ms may be changed; U the slots whose values came up in the region by calls; ok: nothing else has been changed yet -/
structure MC where
  f : Nat
  h0 : List Blk
  ms : List Nat
  all : List Oper

mutual
def mrun (P : Program) (c : MC) : List Oper → List Nat → Bool → ASt → MOut
  | [], _, _, s => .done s
  | o :: l, U, ok, s => mwant P c (wantedA c.all s.t o.guard) o l U ok s
termination_by l => (l.length, 0)
def mwant (P : Program) (c : MC) (w : Option Bool) (o : Oper) (l : List Oper) (U : List Nat) (ok : Bool) (s : ASt) : MOut :=
  match w with
  | none => .bad (o :: l)
  | some false => mrun P c l U ok (s.put o.dst aundef)
  | some true => mkind P c (readOp o) (loudOp o) o l U ok s
termination_by (l.length, 3)
def mkind (P : Program) (c : MC) (rd ld : Bool) (o : Oper) (l : List Oper) (U : List Nat) (ok : Bool) (s : ASt) : MOut :=
  match rd, ld with
  | true, _ => match o.op with
    | .load t x => if stabX U x then (match s.eval x with | some (.one p) => if offMs c.ms p then mload P c (aload P c.h0 t p) o l U ok s else .bad (o :: l) | _ => .bad (o :: l)) else .bad (o :: l)
    | _ => .bad (o :: l)
  | false, true => mloud P c (aop P s o) o l U ok s
  | false, false => mfree P c (aop P s o) o l U ok s
termination_by (l.length, 2)
def mload (P : Program) (c : MC) (v : Option AV) (o : Oper) (l : List Oper) (U : List Nat) (ok : Bool) (s : ASt) : MOut :=
  match v with
  | some v => mrun P c l U ok (s.put o.dst v)
  | none => .bad (o :: l)
termination_by (l.length, 1)
def mloud (P : Program) (c : MC) (r : Res) (o : Oper) (l : List Oper) (U : List Nat) (ok : Bool) (s : ASt) : MOut :=
  match r with
  | .val v h => if (ok && isNew o) || decide (l.length < c.f) then mrun P c l (addU o.dst U) (ok && isNew o) (ASt.put ⟨s.n, s.t, h⟩ o.dst v) else .bad (o :: l)
  | .skip h => if decide (l.length < c.f) then mrun P c l U false (ASt.put ⟨s.n, s.t, h⟩ o.dst aundef) else .bad (o :: l)
  | .call f args => .call f args o l U ok s
  | .bad => .bad (o :: l)
termination_by (l.length, 1)
def mfree (P : Program) (c : MC) (r : Res) (o : Oper) (l : List Oper) (U : List Nat) (ok : Bool) (s : ASt) : MOut :=
  match r with
  | .val v _ => mrun P c l (if stab U o then U else addU o.dst U) ok (s.put o.dst v)
  | _ => .bad (o :: l)
termination_by (l.length, 1)
end

/-- what is so within the region -/
structure MixF (X μ0 : List Nat) (h0 : List Blk) (w0 : World) (ms U : List Nat) (ok : Bool) (μ : List Nat) (s : ASt) (a : Act) (w : World) : Prop where
  cur : SimF X μ s a w
  stp : Stp μ0 h0 w0 μ s.h w
  base : Sim X μ0 h0 w0
  old : ∀ (t : Nat) (v : AV), U.contains t = false → look t s.t = some v → AV.rep (X ++ alive μ0 h0) μ0 w0 v (a.tmps.getD t undef)
  keep : ok = true → Keep (mapK μ0 ms) w0 w

def AMix (P : Program) (N : Nat) (c : MC) (l : List Oper) (U : List Nat) (ok : Bool) (s : ASt) (K : Exit → ASt → Prop) : Prop :=
  ∀ X μ0 w0 μ a w μs hs ws, MixF X μ0 c.h0 w0 c.ms U ok μ s a w → StpN N μs hs ws μ0 c.h0 w0 → wpMix P c.all.toArray (Keep (mapK μ0 c.ms) w0) loudOp readOp c.f (lift N X μs hs ws K) l a w

def MDis (P : Program) (N : Nat) (c : MC) (K : Exit → ASt → Prop) : MOut → Prop
  | .done s => K .normal s
  | .call f args o l U ok s => ∃ ks, ((ok && ks.all c.ms.contains) || decide (l.length < c.f)) = true ∧ ACalls P f args s.h ks (fun r h' => AMix P N c l (addU o.dst U) (ok && ks.all c.ms.contains) (ASt.put ⟨s.n, s.t, h'⟩ o.dst r) K)
  | .bad _ => False

section
variable {P : Program} {N : Nat} {c : MC} {K : Exit → ASt → Prop} {X μ0 μ : List Nat} {h0 : List Blk} {w0 w : World} {ms U : List Nat} {ok : Bool} {s : ASt} {a : Act}

theorem look_put {d : Option Tmp} {s : ASt} {v u : AV} {t : Nat} (h : look t (s.put d v).t = some u) : (d = some t ∧ u = v) ∨ (d ≠ some t ∧ look t s.t = some u) ∨ look t s.t = some u := by
  cases d with
  | none => exact .inr (.inr h)
  | some d =>
    simp only [ASt.put] at h
    split at h
    · simp only [look] at h
      split at h
      · rename_i e; subst e; cases h; exact .inl ⟨rfl, rfl⟩
      · rename_i e; exact .inr (.inl ⟨by simpa using e, h⟩)
    · exact .inr (.inr h)

theorem getD_put {d : Option Tmp} {u : Value} {t : Nat} (h : d ≠ some t) : (a.put d u).tmps.getD t undef = a.tmps.getD t undef := by
  cases d with
  | none => rfl
  | some d =>
    simp only [Act.put]
    rw [Array.getD_eq_getD_getElem?, Array.getElem?_setIfInBounds_ne (by simpa using h), ← Array.getD_eq_getD_getElem?]

/-- a stable value goes into a slot -/
theorem MixF.put (h : MixF X μ0 h0 w0 ms U ok μ s a w) {d : Option Tmp} {v : AV} {u : Value} (hv : AV.rep (X ++ alive μ0 h0) μ0 w0 v u) : MixF X μ0 h0 w0 ms U ok μ (s.put d v) (a.put d u) w := by
  have hv' := AV.rep.carry h.stp.carry hv
  have hc := h.cur.put (d := d) hv'
  refine ⟨hc, by rw [put_h]; exact h.stp, h.base, fun t v' hU hl => ?_, h.keep⟩
  by_cases hd : d = some t
  · subst hd
    have hlt : t < s.n ∨ ¬ t < s.n := Nat.lt_or_ge t s.n |>.imp id (fun h => Nat.not_lt.2 h)
    rcases hlt with hlt | hlt
    · simp only [ASt.put, if_pos hlt, look, if_true] at hl
      cases hl
      simp only [Act.put]
      rw [Array.getD_eq_getD_getElem?, Array.getElem?_setIfInBounds_self_of_lt (by rw [h.cur.size]; exact hlt)]
      exact hv
    · simp only [ASt.put, if_neg hlt] at hl
      have := h.old t v' hU hl
      have e : a.tmps.setIfInBounds t u = a.tmps := by
        apply Array.ext_getElem?
        intro i
        by_cases hi : t = i
        · subst hi
          have h1 : a.tmps.size ≤ t := by rw [h.cur.size]; exact Nat.le_of_not_lt hlt
          rw [Array.getElem?_eq_none (by simpa using h1), Array.getElem?_eq_none h1]
        · rw [Array.getElem?_setIfInBounds_ne hi]
      simp only [Act.put, e]
      exact this
  · rw [getD_put hd]
    rcases look_put hl with ⟨e, _⟩ | ⟨_, e⟩ | e
    · exact absurd e hd
    · exact h.old t v' hU e
    · exact h.old t v' hU e

/-- a value that came up in the region goes into a slot -/
theorem MixF.putU (h : MixF X μ0 h0 w0 ms U ok μ s a w) {ok' : Bool} {μ' : List Nat} {h' : List Blk} {w' : World} {d : Option Tmp} {v : AV} {u : Value} (hS : Sim X μ' h' w') (hT : Stp μ s.h w μ' h' w') (hv : AV.rep (X ++ alive μ' h') μ' w' v u)
    (hk : ok' = true → Keep (mapK μ0 ms) w0 w') : MixF X μ0 h0 w0 ms (addU d U) ok' μ' (ASt.put ⟨s.n, s.t, h'⟩ d v) (a.put d u) w' := by
  refine ⟨(h.cur.step hT hS).put hv, by rw [put_h]; exact h.stp.trans hT, h.base, fun t v' hU hl => ?_, hk⟩
  cases d with
  | none => exact h.old t v' hU hl
  | some d =>
    simp only [addU, List.contains_cons, Bool.or_eq_false_iff, beq_eq_false_iff_ne, ne_eq] at hU
    have hd : some d ≠ some t := fun e => hU.1 (by simpa using e.symm)
    rw [getD_put hd]
    rcases look_put hl with ⟨e, _⟩ | ⟨_, e⟩ | e
    · exact absurd e hd
    · exact h.old t v' hU.2 e
    · exact h.old t v' hU.2 e

theorem MixF.drop (h : MixF X μ0 h0 w0 ms U ok μ s a w) {ok' : Bool} {h' : List Blk} {w' : World} {d : Option Tmp} (hS : Sim X μ h' w') (hT : Stp μ s.h w μ h' w') (hk : ok' = true → Keep (mapK μ0 ms) w0 w') :
    MixF X μ0 h0 w0 ms U ok' μ (ASt.put ⟨s.n, s.t, h'⟩ d aundef) (a.put d undef) w' :=
  MixF.put (s := ⟨s.n, s.t, h'⟩) ⟨h.cur.step hT hS, h.stp.trans hT, h.base, h.old, hk⟩ (AV.rep_undef _ _ _)

/-- the frame of what does not stem from the region's calls -/
def still (U : List Nat) (t : List (Nat × AV)) : List (Nat × AV) := t.filter fun p => !U.contains p.1
theorem look_still {U : List Nat} {t : Nat} : ∀ {l : List (Nat × AV)}, look t (still U l) = if U.contains t then none else look t l
  | [] => by simp [still, look]
  | (t', v) :: l => by
    have ih := look_still (U := U) (t := t) (l := l)
    simp only [still, List.filter_cons] at ih ⊢
    by_cases hu : U.contains t' = true
    · simp only [hu, Bool.not_true, Bool.false_eq_true, if_false, ih, look]
      by_cases e : t' = t
      · subst e; have hm : t' ∈ U := by simpa using hu
        simp [hm]
      · rw [if_neg e]
    · have hu' : U.contains t' = false := by simpa using hu
      simp only [hu', Bool.not_false, if_true, look]
      by_cases e : t' = t
      · subst e; have hm : t' ∉ U := by simpa using hu'
        simp [hm]
      · rw [if_neg e, if_neg e]; exact ih
theorem MixF.still (h : MixF X μ0 h0 w0 ms U ok μ s a w) : SimF X μ0 ⟨s.n, still U s.t, h0⟩ a w0 := by
  refine ⟨h.cur.size, h.cur.ds, h.base, fun t v hl => ?_⟩
  simp only [look_still] at hl
  split at hl
  · cases hl
  · rename_i hu; exact h.old t v (by simpa using hu) hl
theorem still_eval {x : Operand} (hx : stabX U x = true) : ASt.eval ⟨s.n, still U s.t, h0⟩ x = s.eval x := by
  cases x with
  | tmp t => simp only [ASt.eval, look_still]; simp only [stabX, Bool.not_eq_true'] at hx; rw [hx]; rfl
  | _ => rfl

theorem mix_load {o : Oper} {t : TypeId} {x : Operand} {p : C} {v : AV} {M : List Nat} (h : MixF X μ0 h0 w0 ms U ok μ s a w) (ho : o.op = .load t x) (hx : stabX U x = true) (hp : s.eval x = some (.one p)) (hms : offMs ms p = true) (hmut : ∀ b ∈ ms, ∃ k, h0[b]? = some k ∧ k.st.isMut = true) (hv : aload P h0 t p = some v) :
    ∃ u, (∀ w2, Keep (mapK μ0 ms) w0 w2 → (execOp a.eval o).run P w2 = .ok (.value u) w2) ∧ AV.rep (X ++ alive μ0 h0) μ0 w0 v u := by
  have hF := h.still
  obtain ⟨g, u, h1, h2, h3, h4⟩ := op_load (P := P) ho hF (by rw [still_eval hx]; exact hp) hv
  refine ⟨u, fun w2 hK => h3 w2 (hK.block g (fun hm => ?_) h1), h4⟩
  obtain ⟨i, hi⟩ := List.getElem?_of_mem hm
  simp only [mapK, List.getElem?_map, Option.map_eq_some_iff] at hi
  obtain ⟨b, hb, hg⟩ := hi
  obtain ⟨k, e1, e2⟩ := hmut b (List.mem_of_getElem? hb)
  obtain ⟨g', hg', _⟩ := h.base.get e1
  rw [List.getD_eq_getElem?_getD, hg', Option.getD_some] at hg
  subst hg
  rcases h2 with h2 | ⟨n, b', i', j', k', rfl, q1, q2, q3⟩
  · exact h2 (List.mem_append.2 (.inr (mem_alive.2 ⟨b, k, hg', e1, e2⟩)))
  · have hne : b ≠ b' := fun e => by
      subst e
      simp only [offMs, Bool.not_eq_true', List.contains_eq_mem, decide_eq_false_iff_not] at hms
      exact hms (List.mem_of_getElem? hb)
    exact h.base.inj b b' k k' g' hne e1 q2 e2 q3 hg' q1

theorem mrun_sound (hmut : ∀ b ∈ c.ms, ∃ k, c.h0[b]? = some k ∧ k.st.isMut = true) : ∀ (l : List Oper) (U : List Nat) (ok : Bool) (s : ASt), MDis P N c K (mrun P c l U ok s) → AMix P N c l U ok s K := by
  intro l
  induction l with
  | nil =>
    intro U ok s h X μ0 w0 μ a w μs hs ws hM hT
    rw [mrun] at h
    unfold wpMix
    exact ⟨s, μ, h, hM.cur, hT.trans hM.stp⟩
  | cons o l ih =>
    intro U ok s h X μ0 w0 μ a w μs hs ws hM hT
    rw [mrun] at h
    cases hw : wantedA c.all s.t o.guard with
    | none => rw [hw, mwant] at h; exact h.elim
    | some b =>
      have hwt := wanted_spec hM.cur hw
      unfold wpMix
      rw [hwt]
      cases b with
      | false =>
        rw [hw, mwant] at h
        rw [if_neg (by simp)]
        exact ih U ok _ h X μ0 w0 μ _ w μs hs ws (hM.put (AV.rep_undef _ _ _)) hT
      | true =>
        rw [hw, mwant] at h
        rw [if_pos rfl]
        cases hrd : readOp o with
        | true =>
          have hld : loudOp o = false := by
            cases ho : o.op <;> simp [readOp, ho] at hrd
            simp [loudOp, ho]
          rw [hrd, mkind] at h
          rw [hld, if_neg (by simp)]
          split at h
          · rename_i t x ho
            split at h
            · rename_i hx
              split at h
              · rename_i p hp
                split at h
                · rename_i hms
                  cases hv : aload P c.h0 t p with
                  | none => rw [hv, mload] at h; exact h.elim
                  | some v =>
                    rw [hv, mload] at h
                    obtain ⟨u, h1, h2⟩ := mix_load (M := []) hM ho hx hp hms hmut hv
                    exact ⟨u, by simpa [Calm, Cls] using h1, ih U ok _ h X μ0 w0 μ _ w μs hs ws (hM.put h2) hT⟩
                · exact h.elim
              · exact h.elim
            · exact h.elim
          · exact h.elim
        | false =>
          cases hld : loudOp o with
          | false =>
            rw [hrd, hld, mkind] at h
            rw [if_neg (by simp)]
            cases ho : aop P s o with
            | val v h' =>
              rw [ho, mfree] at h
              obtain ⟨rfl, hp⟩ := aop_pure hld hrd ho
              obtain ⟨u, h1, h2⟩ := hp X μ s a w hM.cur (fun _ _ => rfl)
              refine ⟨u, fun w _ => h1 w, ?_⟩
              by_cases hst : stab U o = true
              · rw [if_pos hst] at h
                obtain ⟨u', h1', h2'⟩ := hp X μ0 ⟨s.n, still U s.t, c.h0⟩ a w0 hM.still (fun x hx => still_eval (List.all_eq_true.1 hst x hx))
                have : u' = u := by
                  have e1 := h1 w; rw [h1' w] at e1; injection e1 with e1; injection e1
                subst this
                exact ih U ok _ h X μ0 w0 μ _ w μs hs ws (hM.put h2') hT
              · rw [if_neg hst] at h
                have := hM.putU (ok' := ok) (d := o.dst) hM.cur.sim (Stp.refl _ _ _) h2 hM.keep
                exact ih _ ok _ h X μ0 w0 μ _ w μs hs ws this hT
            | skip h' => rw [ho, mfree] at h; exact h.elim; all_goals simp
            | call f args => rw [ho, mfree] at h; exact h.elim; all_goals simp
            | bad => rw [ho, mfree] at h; exact h.elim; all_goals simp
          | true =>
            rw [hrd, hld, mkind] at h
            rw [if_pos rfl]
            cases ho : aop P s o with
            | bad => rw [ho, mloud] at h; exact h.elim
            | skip h' =>
              rw [ho, mloud] at h
              split at h
              · rename_i hf
                obtain ⟨w', r1, r2, r3⟩ := aop_skip hM.cur ho
                unfold Oper.wp
                rw [r1]
                exact ⟨.inl (by simpa using hf), ih U false _ h X μ0 w0 μ _ w' μs hs ws (hM.drop r2 r3 (by simp)) hT⟩
              · exact h.elim
            | val v h' =>
              rw [ho, mloud] at h
              split at h
              · rename_i hf
                cases hnew : (ok && isNew o) with
                | false =>
                  rw [hnew] at hf h
                  obtain ⟨u, w', μ', r1, r2, r3, r4⟩ := aop_val hM.cur ho
                  unfold Oper.wp
                  rw [r1]
                  exact ⟨.inl (by simpa using hf), ih _ false _ h X μ0 w0 μ' _ w' μs hs ws (hM.putU r2 r3 r4 (by simp)) hT⟩
                | true =>
                  rw [hnew] at h
                  simp only [Bool.and_eq_true] at hnew
                  obtain ⟨hok, hnw⟩ := hnew
                  have hN : OpNew P X μ s a w o v h' := by
                    unfold aop at ho
                    unfold isNew at hnw
                    split at hnw
                    · rename_i t hop
                      rw [hop] at ho
                      simp only at ho
                      split at ho
                      · rename_i ti hti
                        split at ho
                        · injection ho with e1 e2; subst e1 e2; exact op_alloc hop hM.cur hti
                        · cases ho
                      · cases ho
                    · rename_i t x hop
                      rw [hop] at ho
                      simp only at ho
                      split at ho
                      · rename_i cs hx; injection ho with e1 e2; subst e1 e2; exact op_box hop hM.cur hx
                      · cases ho
                    · rename_i t len parts hop
                      rw [hop] at ho
                      exact op_buildSlice hop hM.cur ho
                    · rename_i t x y hop
                      rw [hop] at ho
                      simp only at ho
                      split at ho
                      · rename_i h1 h2; exact op_makeSlice hop hM.cur h1 h2 ho
                      · cases ho
                    · cases hnw
                  obtain ⟨u, w', μ', r1, r2, r3, r4, r5⟩ := hN
                  have hK : Keep (mapK μ0 c.ms) w0 w' := (hM.keep hok).trans r5 (by simp)
                  unfold Oper.wp
                  rw [r1]
                  exact ⟨.inr hK, ih _ true _ h X μ0 w0 μ' _ w' μs hs ws (hM.putU r2 r3 r4 (fun _ => hK)) hT⟩
              · exact h.elim
            | call f args =>
              rw [ho, mloud] at h
              obtain ⟨ks, hcnd, hc⟩ := h
              obtain ⟨vs, r1, r2⟩ := aop_call hM.cur ho
              obtain ⟨hfn, hcl⟩ := calls_of hM.cur.sim r1 hc
              unfold Oper.wp
              rw [r2 hfn]
              refine Calls.mono hcl fun e w' ⟨r, h', μ', v, he, hk, s1, s2, s3, s4⟩ => ?_
              subst he
              cases hokk : (ok && ks.all c.ms.contains) with
              | false =>
                rw [hokk] at hcnd hk
                exact ⟨.inl (by simpa using hcnd), hk X μ0 w0 μ' _ w' μs hs ws (hM.putU s1 s2 s3 (by simp)) hT⟩
              | true =>
                rw [hokk] at hk
                simp only [Bool.and_eq_true] at hokk
                have hK : Keep (mapK μ0 c.ms) w0 w' := by
                  refine (hM.keep hokk.1).trans s4 (fun x hx hlt => ?_)
                  obtain ⟨i, hi⟩ := List.getElem?_of_mem hx
                  simp only [mapK, List.getElem?_map, Option.map_eq_some_iff] at hi
                  obtain ⟨b, hb, hg⟩ := hi
                  have hbm : b ∈ c.ms := by
                    have := List.all_eq_true.1 hokk.2 b (List.mem_of_getElem? hb)
                    simpa using this
                  obtain ⟨k, e1, e2⟩ := hmut b hbm
                  obtain ⟨g', hg', _⟩ := hM.base.get e1
                  have := hM.stp.map b g' hg'
                  rw [List.getD_eq_getElem?_getD, this, Option.getD_some] at hg
                  subst hg
                  refine List.mem_map.2 ⟨b, hbm, ?_⟩
                  rw [List.getD_eq_getElem?_getD, hg', Option.getD_some]
                exact ⟨.inr hK, hk X μ0 w0 μ' _ w' μs hs ws (hM.putU s1 s2 s3 (fun _ => hK)) hT⟩

theorem mrun_sound' (hmut : c.ms.all (fun b => match c.h0[b]? with | some k => k.st.isMut | none => false) = true) (l : List Oper) (U : List Nat) (ok : Bool) (s : ASt) (h : MDis P N c K (mrun P c l U ok s)) : AMix P N c l U ok s K :=
  mrun_sound (fun b hb => by
    have := List.all_eq_true.1 hmut b hb
    split at this
    · rename_i k hk; exact ⟨k, hk, this⟩
    · cases this) l U ok s h

/-- a region that draws its order -/
theorem go_mix {R : ASt → Prop} {id : Nat} {l : List Oper} {k : List Item} (f : Nat) (ms : List Nat) (hm : P.follows .mixedOrders = true) (hB : mixOK loudOp readOp f l.toArray = true) (hmut : ms.all (fun b => match s.h[b]? with | some k => k.st.isMut | none => false) = true)
    (h : MDis P N ⟨f, s.h, ms, l⟩ (AGo P N R k) (mrun P ⟨f, s.h, ms, l⟩ l [] true s)) : AGo P N R (.code (.region id l.toArray true) :: k) .normal s := by
  intro X μ0 hh0 w0 μ a w hF hT
  have hdr : Stp μ s.h w μ s.h w.drew := ⟨Keep.drew _ _, fun _ _ e => e, fun _ h _ => h⟩
  have hSd : Sim X μ s.h w.drew := by
    have hs := hF.sim
    exact ⟨hs.len, hs.lt, hs.xlt, hs.out, hs.inj, fun i b g h1 h2 h3 => let ⟨cur, q1, q2⟩ := hs.blk i b g h1 h2 h3; ⟨cur, q1, q2.carry hdr.carry⟩⟩
  have hFd : SimF X μ s a w.drew := hF.step hdr hSd
  have hms : ∀ b ∈ ms, ∃ k, s.h[b]? = some k ∧ k.st.isMut = true := fun b hb => by
    have := List.all_eq_true.1 hmut b hb
    split at this
    · rename_i k hk; exact ⟨k, hk, this⟩
    · cases this
  have hA := mrun_sound (c := ⟨f, s.h, ms, l⟩) hms l [] true s h X μ w.drew μ a w.drew μ0 hh0 w0 ⟨hFd, Stp.refl _ _ _, hSd, fun t v _ hl => hFd.reg t v hl, fun _ => Keep.refl _ _⟩ (hT.trans hdr)
  exact wp_region_mix (C := Keep (mapK μ ms) w.drew) f hm hB (Keep.refl _ _) (by simpa using hA)
end
end Go.Proofs.Sh
