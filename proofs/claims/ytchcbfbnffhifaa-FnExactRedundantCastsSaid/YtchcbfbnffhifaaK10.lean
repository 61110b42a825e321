/- Texts of the proof, one behind another. -/
import Derived.Test.YtchcbfbnffhifaaK4
import Derived.Test.YtchcbfbnffhifaaK5
import Derived.Test.YtchcbfbnffhifaaK6
import Derived.Test.YtchcbfbnffhifaaK9
set_option linter.unusedSimpArgs false
set_option linter.unusedVariables false
/- Coercions: the program's checks, on shadows. -/
namespace Go.Proofs.Sh
open Go.Proofs.Grad
@[go_sem] theorem kid_kind (g : Int) : (K.id g).co.kind = 1 := rfl
@[go_sem] theorem kid_tag (g : Int) : (K.id g).co.tag = g := rfl
@[go_sem] theorem kid_label (g : Int) : (K.id g).co.label = 0 := rfl
@[go_sem] theorem kid_kids (g : Int) : (K.id g).co.kids = [] := rfl
@[go_sem] theorem kfn_kind (a : K) (b : K) : (K.fn a b).co.kind = 2 := rfl
@[go_sem] theorem kfn_tag (a : K) (b : K) : (K.fn a b).co.tag = 0 := rfl
@[go_sem] theorem kfn_label (a : K) (b : K) : (K.fn a b).co.label = 0 := rfl
@[go_sem] theorem kfn_kids (a : K) (b : K) : (K.fn a b).co.kids = [a.co, b.co] := rfl
@[go_sem] theorem kpr_kind (a : K) (b : K) : (K.pr a b).co.kind = 3 := rfl
@[go_sem] theorem kpr_tag (a : K) (b : K) : (K.pr a b).co.tag = 0 := rfl
@[go_sem] theorem kpr_label (a : K) (b : K) : (K.pr a b).co.label = 0 := rfl
@[go_sem] theorem kpr_kids (a : K) (b : K) : (K.pr a b).co.kids = [a.co, b.co] := rfl
@[go_sem] theorem kinj_kind (c : K) : (K.inj c).co.kind = 4 := rfl
@[go_sem] theorem kinj_tag (c : K) : (K.inj c).co.tag = 0 := rfl
@[go_sem] theorem kinj_label (c : K) : (K.inj c).co.label = 0 := rfl
@[go_sem] theorem kinj_kids (c : K) : (K.inj c).co.kids = [c.co] := rfl
@[go_sem] theorem kprj_kind (l : Int) (c : K) : (K.prj l c).co.kind = 5 := rfl
@[go_sem] theorem kprj_tag (l : Int) (c : K) : (K.prj l c).co.tag = 0 := rfl
@[go_sem] theorem kprj_label (l : Int) (c : K) : (K.prj l c).co.label = l := rfl
@[go_sem] theorem kprj_kids (l : Int) (c : K) : (K.prj l c).co.kids = [c.co] := rfl
@[go_sem] theorem kfail_kind (l : Int) (g : Int) : (K.fail l g).co.kind = 6 := rfl
@[go_sem] theorem kfail_tag (l : Int) (g : Int) : (K.fail l g).co.tag = g := rfl
@[go_sem] theorem kfail_label (l : Int) (g : Int) : (K.fail l g).co.label = l := rfl
@[go_sem] theorem kfail_kids (l : Int) (g : Int) : (K.fail l g).co.kids = [] := rfl
/-- how many operands -/
def coN (k : Int) : Int := if k = 1 then 0 else if k = 2 then 2 else if k = 3 then 2 else if k = 4 then 1 else if k = 5 then 1 else if k = 6 then 0 else -1
@[go_sem] theorem coN_1 : coN 1 = 0 := rfl
@[go_sem] theorem coN_2 : coN 2 = 2 := rfl
@[go_sem] theorem coN_3 : coN 3 = 2 := rfl
@[go_sem] theorem coN_4 : coN 4 = 1 := rfl
@[go_sem] theorem coN_5 : coN 5 = 1 := rfl
@[go_sem] theorem coN_6 : coN 6 = 0 := rfl
end Go.Proofs.Sh
namespace Go.Proofs.Ytchcbfbnffhifaa
open Go.RowKit Go.Proofs.Sh Go.Proofs.Grad
set_option maxRecDepth 100000
set_option maxHeartbeats 4000000
theorem co_cases (k : Int) : k = 1 ∨ k = 2 ∨ k = 3 ∨ k = 4 ∨ k = 5 ∨ k = 6 ∨ (coN k = -1 ∧ ∀ t l ks, (Co.mk k t l ks).okN = false) := by
  by_cases h : 1 ≤ k ∧ k ≤ 6
  · omega
  · right; right; right; right; right; right
    constructor
    · unfold coN; repeat' (first | rw [if_neg (by omega)])
    · intro t l ks
      unfold Co.okN
      simp only []
      repeat' (first | rw [if_neg (by omega)])
theorem okN_len {k t l : Int} {ks : List Co} (h : coN k ≠ (ks.length : Int)) : (Co.mk k t l ks).okN = false := by
  rcases co_cases k with rfl | rfl | rfl | rfl | rfl | rfl | ⟨_, h⟩
  · simp only [coN_1] at h; simp [Co.okN]; intro h'; subst h'; simp at h
  · simp only [coN_2] at h; simp [Co.okN]; intro h'; omega
  · simp only [coN_3] at h; simp [Co.okN]; intro h'; omega
  · simp only [coN_4] at h; simp only [Co.okN]; match ks, h with | [], _ => rfl | [_], h => simp at h | _ :: _ :: _, _ => rfl
  · simp only [coN_5] at h; simp only [Co.okN]; match ks, h with | [], _ => rfl | [_], h => simp at h | _ :: _ :: _, _ => rfl
  · simp only [coN_6] at h; simp [Co.okN]; intro h'; subst h'; simp at h
  · exact h t l ks
end Go.Proofs.Ytchcbfbnffhifaa
/- Casts as coercions. No program, no world. -/
namespace Go.Proofs.Grad
def castM (a b : T) : Nat := 2 * (a.size + b.size) + (match a, b with | .any, .any => 0 | .any, _ => 5 | _, .any => 5 | _, _ => 0)
/-- the coercion of a cast between types -/
def T.cast (a b : T) (l : Int) : K :=
  match a, b with
  | .any, .any => .id 1
  | .int, .any => .inj (.id 2)
  | .bool, .any => .inj (.id 3)
  | .fn a1 a2, .any => .inj (.fn (T.cast .any a1 (-l)) (T.cast a2 .any l))
  | .pr a1 a2, .any => .inj (.pr (T.cast a1 .any l) (T.cast a2 .any l))
  | .any, .int => .prj l (.id 2)
  | .any, .bool => .prj l (.id 3)
  | .any, .fn b1 b2 => .prj l (.fn (T.cast b1 .any (-l)) (T.cast .any b2 l))
  | .any, .pr b1 b2 => .prj l (.pr (T.cast .any b1 l) (T.cast .any b2 l))
  | .fn a1 a2, .fn b1 b2 => .fn (T.cast b1 a1 (-l)) (T.cast a2 b2 l)
  | .pr a1 a2, .pr b1 b2 => .pr (T.cast a1 b1 l) (T.cast a2 b2 l)
  | .int, _ => .id 2
  | .bool, _ => .id 3
  | _, _ => .id 1
termination_by a.size + b.size
decreasing_by all_goals (simp only [T.size]; omega)
theorem T.cons_any (a : T) : a.cons .any = true := by cases a <;> rfl
theorem lab_neg {l : Int} (h : lab l = true) : lab (-l) = true := by
  simp [lab] at *; omega
theorem T.cast_wf (a b : T) (l : Int) (hl : lab l = true) : (T.cast a b l).wf = true := by
  fun_induction T.cast a b l <;> simp_all [K.wf, K.plain, K.isPrj, K.isAny, lab_neg]
theorem T.cast_size (a b : T) (l : Int) : (T.cast a b l).size + 2 ≤ 2 * (a.size + b.size) := by
  have := T.size_pos a; have := T.size_pos b
  fun_induction T.cast a b l <;> simp_all [K.size, T.size, T.size_pos] <;> (try omega)
  all_goals grind [T.size_pos]
theorem T.depth_pos (a : T) : 1 ≤ a.depth := by cases a <;> simp [T.depth]
theorem T.cast_depth (a b : T) (l : Int) : (T.cast a b l).depth ≤ 2 * max a.depth b.depth := by
  fun_induction T.cast a b l <;> simp only [K.depth, T.depth] at * <;> (try omega)
  all_goals grind [T.depth_pos]
end Go.Proofs.Grad
/- Laws of composition. No program, no world. -/
namespace Go.Proofs.Grad
theorem K.isPrj_id (g : Int) : (K.id g).isPrj = false := rfl
theorem K.isPrj_fn (a b : K) : (K.fn a b).isPrj = false := rfl
theorem K.isPrj_pr (a b : K) : (K.pr a b).isPrj = false := rfl
theorem K.isPrj_inj (c : K) : (K.inj c).isPrj = false := rfl
theorem K.isPrj_prj (l : Int) (c : K) : (K.prj l c).isPrj = true := rfl
theorem K.isPrj_fail (l g : Int) : (K.fail l g).isPrj = false := rfl
theorem K.isAny_id (g : Int) : (K.id g).isAny = (g == 1) := rfl
theorem K.isAny_fn (a b : K) : (K.fn a b).isAny = false := rfl
theorem K.isAny_pr (a b : K) : (K.pr a b).isAny = false := rfl
theorem K.isAny_inj (c : K) : (K.inj c).isAny = false := rfl
theorem K.isAny_prj (l : Int) (c : K) : (K.prj l c).isAny = false := rfl
theorem K.isAny_fail (l g : Int) : (K.fail l g).isAny = false := rfl
theorem K.plain_id (g : Int) : (K.id g).plain = (g != 1) := rfl
theorem K.plain_fn (a b : K) : (K.fn a b).plain = true := rfl
theorem K.plain_pr (a b : K) : (K.pr a b).plain = true := rfl
theorem K.plain_inj (c : K) : (K.inj c).plain = false := rfl
theorem K.plain_prj (l : Int) (c : K) : (K.prj l c).plain = false := rfl
theorem K.plain_fail (l g : Int) : (K.fail l g).plain = false := rfl
theorem K.plain_np {k : K} (h : k.plain = true) : k.isPrj = false ∧ k.isAny = false := by
  cases k <;> simp_all [K.isPrj_id, K.isPrj_fn, K.isPrj_pr, K.isPrj_inj, K.isPrj_prj, K.isPrj_fail, K.isAny_id, K.isAny_fn, K.isAny_pr, K.isAny_inj, K.isAny_prj, K.isAny_fail, K.plain_id, K.plain_fn, K.plain_pr, K.plain_inj, K.plain_prj, K.plain_fail]
theorem K.plain_tag {k : K} (h : k.plain = true) (w : k.wf = true) : 2 ≤ k.tag ∧ k.tag ≤ 5 := by
  cases k <;> simp_all [K.isPrj_id, K.isPrj_fn, K.isPrj_pr, K.isPrj_inj, K.isPrj_prj, K.isPrj_fail, K.isAny_id, K.isAny_fn, K.isAny_pr, K.isAny_inj, K.isAny_prj, K.isAny_fail, K.plain_id, K.plain_fn, K.plain_pr, K.plain_inj, K.plain_prj, K.plain_fail, K.wf, K.tag]
  omega
theorem K.comp_head (a b : K) : ∀ k, a.comp b = some k → a.wf = true → a.isPrj = false → a.isAny = false → k.isPrj = false ∧ k.isAny = false := by
  fun_induction K.comp a b <;> intro k hk h1 h2 h3 <;> (try simp only [Option.map_eq_some_iff] at hk) <;> grind [K.plain_np, K.wf, K.isPrj_id, K.isPrj_fn, K.isPrj_pr, K.isPrj_inj, K.isPrj_prj, K.isPrj_fail, K.isAny_id, K.isAny_fn, K.isAny_pr, K.isAny_inj, K.isAny_prj, K.isAny_fail, K.plain_id, K.plain_fn, K.plain_pr, K.plain_inj, K.plain_prj, K.plain_fail]
theorem K.comp_plain (a b : K) : ∀ k, a.comp b = some k → a.plain = true → b.plain = true → k.plain = true := by
  intro k hk h1 h2
  cases a <;> cases b <;> simp_all [K.comp, K.isPrj_id, K.isPrj_fn, K.isPrj_pr, K.isPrj_inj, K.isPrj_prj, K.isPrj_fail, K.isAny_id, K.isAny_fn, K.isAny_pr, K.isAny_inj, K.isAny_prj, K.isAny_fail, K.plain_id, K.plain_fn, K.plain_pr, K.plain_inj, K.plain_prj, K.plain_fail]
  all_goals (try grind [K.isPrj_id, K.isPrj_fn, K.isPrj_pr, K.isPrj_inj, K.isPrj_prj, K.isPrj_fail, K.isAny_id, K.isAny_fn, K.isAny_pr, K.isAny_inj, K.isAny_prj, K.isAny_fail, K.plain_id, K.plain_fn, K.plain_pr, K.plain_inj, K.plain_prj, K.plain_fail])
theorem K.comp_wf (a b : K) : ∀ k, a.comp b = some k → a.wf = true → b.wf = true → k.wf = true := by
  fun_induction K.comp a b <;> intro k hk h1 h2 <;> (try simp only [Option.map_eq_some_iff] at hk) <;> grind [K.wf, K.comp_plain, K.comp_head, K.plain_np, K.plain_tag, K.isPrj_id, K.isPrj_fn, K.isPrj_pr, K.isPrj_inj, K.isPrj_prj, K.isPrj_fail, K.isAny_id, K.isAny_fn, K.isAny_pr, K.isAny_inj, K.isAny_prj, K.isAny_fail, K.plain_id, K.plain_fn, K.plain_pr, K.plain_inj, K.plain_prj, K.plain_fail]
theorem K.comp_size (a b : K) : ∀ k, a.comp b = some k → k.size ≤ a.size + b.size := by
  fun_induction K.comp a b <;> intro k hk <;> simp_all [K.size]
  all_goals (try grind [K.size])
end Go.Proofs.Grad
/- Coercions: composition in the program, on shadows. -/
namespace Go.Proofs.Grad
theorem K.comp_prj (l : Int) (c b : K) : K.comp (.prj l c) b = (K.comp c b).map (.prj l) := by cases b <;> simp [K.comp]
theorem K.comp_fail (l g : Int) (b : K) : K.comp (.fail l g) b = some (.fail l g) := by cases b <;> simp [K.comp]
theorem K.comp_any (b : K) : K.comp (.id 1) b = if (b.isPrj || b.isAny) then some b else none := by cases b <;> simp [K.comp]
end Go.Proofs.Grad
namespace Go.Proofs.Sh
open Go.Proofs.Grad
/-- what a composition yields: a coercion and whether it is there -/
def CompR (a b : K) (r : AV) (H' : List Blk) : Prop := ∃ c : Co, r = .tup [.agg (coC c), .one (.sc (.bool (a.comp b).isSome))] ∧ (∀ k, a.comp b = some k → c = k.co) ∧ H' = []
theorem compR_mk {a b : K} {cs : List C} {bb : Bool} (c : Co) (h1 : cs = coC c) (h2 : bb = (a.comp b).isSome) (h3 : ∀ k, a.comp b = some k → c = k.co) : CompR a b (.tup [.agg cs, .one (.sc (.bool bb))]) [] :=
  ⟨c, by rw [h1, h2], h3, rfl⟩
end Go.Proofs.Sh
namespace Go.Proofs.Ytchcbfbnffhifaa
open Go.RowKit Go.Proofs.Sh Go.Proofs.Grad
set_option maxRecDepth 100000
set_option maxHeartbeats 4000000
end Go.Proofs.Ytchcbfbnffhifaa
/- Coercions: copies; composition in the program, behind validity. On shadows. -/
namespace Go.Proofs.Grad
theorem K.size_depth (k : K) (d : Nat) (h : k.depth ≤ d) : k.size < 2 ^ d := by
  induction k generalizing d with
  | id g => simp only [K.depth, K.size] at *; exact Nat.one_lt_two_pow (by omega)
  | fail l g => simp only [K.depth, K.size] at *; exact Nat.one_lt_two_pow (by omega)
  | fn a b iha ihb | pr a b iha ihb =>
    simp only [K.depth, K.size] at *
    obtain ⟨d, rfl⟩ : ∃ e, d = e + 1 := ⟨d - 1, by omega⟩
    have := iha d (by omega); have := ihb d (by omega)
    rw [Nat.pow_succ]; omega
  | inj a ih =>
    simp only [K.depth, K.size] at *
    obtain ⟨d, rfl⟩ : ∃ e, d = e + 1 := ⟨d - 1, by omega⟩
    have := ih d (by omega)
    rw [Nat.pow_succ]; omega
  | prj l a ih =>
    simp only [K.depth, K.size] at *
    obtain ⟨d, rfl⟩ : ∃ e, d = e + 1 := ⟨d - 1, by omega⟩
    have := ih d (by omega)
    rw [Nat.pow_succ]; omega
theorem K.co_size (k : K) : k.co.size = k.size := by
  induction k with
  | id g => simp [K.co, Co.size, Co.sizes, K.size]
  | fail l g => simp [K.co, Co.size, Co.sizes, K.size]
  | fn a b iha ihb => simp only [K.co, Co.size, Co.sizes, K.size, iha, ihb]; omega
  | pr a b iha ihb => simp only [K.co, Co.size, Co.sizes, K.size, iha, ihb]; omega
  | inj a ih => simp only [K.co, Co.size, Co.sizes, K.size, ih]; omega
  | prj l a ih => simp only [K.co, Co.size, Co.sizes, K.size, ih]; omega
theorem K.co_inj : ∀ a b : K, a.co = b.co → a = b := by
  intro a
  induction a with
  | id g => intro b h; cases b <;> simp [K.co] at h; rw [h]
  | fail l g => intro b h; cases b <;> simp [K.co] at h; rw [h.1, h.2]
  | fn x y ihx ihy => intro b h; cases b <;> simp [K.co] at h; rw [ihx _ h.1, ihy _ h.2]
  | pr x y ihx ihy => intro b h; cases b <;> simp [K.co] at h; rw [ihx _ h.1, ihy _ h.2]
  | inj x ih => intro b h; cases b <;> simp [K.co] at h; rw [ih _ h]
  | prj l x ih => intro b h; cases b <;> simp [K.co] at h; rw [h.1, ih _ h.2]
/-- no coercion -/
def Co.zero : Co := .mk 0 0 0 []
/-- a valid one, or none -/
def K.ok (k : K) : Bool := k.wf && decide (k.depth ≤ 9)
theorem K.ok_valid (k : K) : k.co.valid = k.ok := K.shape_co k 9
/-- the composition of two valid ones, where it is valid -/
def K.compV (a b : K) : Option K := (a.comp b).bind fun k => if k.ok then some k else none
def K.coO : Option K → Co
  | some k => k.co
  | none => Co.zero
end Go.Proofs.Grad
namespace Go.Proofs.Ytchcbfbnffhifaa
open Go.RowKit Go.Proofs.Sh Go.Proofs.Grad
set_option maxRecDepth 100000
set_option maxHeartbeats 4000000
end Go.Proofs.Ytchcbfbnffhifaa
/- Coercions: the reference's checks, on shadows. -/
namespace Go.Proofs.Ytchcbfbnffhifaa
open Go.RowKit Go.Proofs.Sh Go.Proofs.Grad
set_option maxRecDepth 100000
set_option maxHeartbeats 4000000
end Go.Proofs.Ytchcbfbnffhifaa
/- Coercions: copies and composition in the reference, on shadows. -/
namespace Go.Proofs.Ytchcbfbnffhifaa
open Go.RowKit Go.Proofs.Sh Go.Proofs.Grad
set_option maxRecDepth 100000
set_option maxHeartbeats 4000000
/-- a copy, its uppermost slice its own -/
def OwnCo (c : Co) (r : AV) (H' : List Blk) : Prop := (c.kids = [] ∧ r = .agg [.sc (.int .i64 c.kind), .sc (.int .i64 c.tag), .sc (.int .i64 c.label), .sc (.slice none 0 0)] ∧ H' = []) ∨ (0 < c.kids.length ∧ r = .agg [.sc (.int .i64 c.kind), .sc (.int .i64 c.tag), .sc (.int .i64 c.label), .row 4 0 c.kids.length] ∧ H' = [⟨4, 60, .mut, coR c.kids⟩])
theorem l6Id (g : Int) : AFn Try.prog 146 [.one (.sc (.int .i64 g))] (.agg (coC (K.id g).co)) := by
  refine fn_in ?_; refine acl_in Try.func146 rfl isfn_146 (Nat.le_of_ble_eq_true rfl) (fun R hR => ?_); rw [Try.results146] at hR; refine wg_run ?_; (simp only [Try.f146, go_sem])
  (refine hR _ (ret_at [] (by (simp only [go_sem]); first | done | rfl) (by (simp only [go_sem]); first | done | rfl) ⟨rfl, rfl⟩))
end Go.Proofs.Ytchcbfbnffhifaa
/- Coercions: composition in the reference, on shadows. -/
namespace Go.Proofs.Grad
def K.base : K → Bool
  | .id _ => true | .fn _ _ => true | .pr _ _ => true | .prj _ _ => true | _ => false
theorem K.plain_base {k : K} (h : k.plain = true) : k.base = true := by cases k <;> simp [K.plain, K.base] at *
end Go.Proofs.Grad
namespace Go.Proofs.Ytchcbfbnffhifaa
open Go.RowKit Go.Proofs.Sh Go.Proofs.Grad
set_option maxRecDepth 100000
set_option maxHeartbeats 4000000
end Go.Proofs.Ytchcbfbnffhifaa
/- Coercions: composition in the reference, whole. On shadows. -/
namespace Go.Proofs.Ytchcbfbnffhifaa
open Go.RowKit Go.Proofs.Sh Go.Proofs.Grad
set_option maxRecDepth 100000
set_option maxHeartbeats 8000000
end Go.Proofs.Ytchcbfbnffhifaa
/- Casts as coercions, in the program and in the reference. On shadows. -/
namespace Go.Proofs.Grad
theorem lab_wrap {l : Int} (h : lab l = true) : -99 ≤ l ∧ l ≤ 99 := by simp [lab] at h; omega
end Go.Proofs.Grad
namespace Go.Proofs.Ytchcbfbnffhifaa
open Go.RowKit Go.Proofs.Sh Go.Proofs.Grad
set_option maxRecDepth 100000
set_option maxHeartbeats 8000000
theorem iCoerce (n : Nat) : ∀ (a b : T) (l : Int), castM a b < n → a.cons b = true → -99 ≤ l ∧ l ≤ 99 → AFn Try.prog 121 [.agg (tyC a.ty), .agg (tyC b.ty), .one (.sc (.int .i64 l))] (.agg (coC (T.cast a b l).co)) := by
  induction n with
  | zero => intro a b l h; omega
  | succ n ih =>
    intro a b l h hc hl
    have hw : IntKind.i64.wrap (0 - l) = -l := by rw [IntWalk.i64_in _ (by omega)]; omega
    rcases a with _ | _ | _ | ⟨a1, a2⟩ | ⟨a1, a2⟩ <;> rcases b with _ | _ | _ | ⟨b1, b2⟩ | ⟨b1, b2⟩
    all_goals simp only [T.cons, Bool.false_eq_true, Bool.and_eq_true] at hc
    all_goals
      ((try have p1 := T.size_pos a1); (try have p2 := T.size_pos a2); (try have p3 := T.size_pos b1); (try have p4 := T.size_pos b2))
      simp only [castM, T.size] at h
      refine fn_in ?_; refine acl_in Try.func121 rfl isfn_121 (Nat.le_of_ble_eq_true rfl) (fun R hR => ?_); rw [Try.results121] at hR; refine wg_run ?_; (simp only [Try.f121, go_sem])
      repeat' (first | (first | (simp only [go_sem, hw]) | ((first | refine wd_split _ (fun hb => ?_) (fun hb => ?_) | refine wd_nwant _ (fun hb => ?_) (fun hb => ?_) | refine wm_nwant _ (fun hb => ?_) (fun hb => ?_) | refine wd_want _ (fun hb => ?_) (fun hb => ?_) | refine wm_want _ (fun hb => ?_) (fun hb => ?_) | refine wt_nwant _ (fun hb => ?_) (fun hb => ?_) | refine wt_want _ (fun hb => ?_) (fun hb => ?_)) <;> (simp only [go_sem, hb, hw])) | (refine wm_done ?_; (simp only [go_sem, hw])) | (refine wt_done ?_; (simp only [go_sem, hw])) | (refine wg_run ?_; (simp only [go_sem, hw])) | (refine wt_fork (by (simp only [go_sem]); first | done | rfl) ?_ ?_ <;> (simp only [go_sem, hw]))) | (first | fail) | ((first | refine wd_mix 6 [] follows (by decide +kernel) (by (simp only [go_sem]); first | done | rfl) ?_ | refine wd_mix 5 [] follows (by decide +kernel) (by (simp only [go_sem]); first | done | rfl) ?_ | refine wd_mix 4 [] follows (by decide +kernel) (by (simp only [go_sem]); first | done | rfl) ?_ | refine wd_mix 3 [] follows (by decide +kernel) (by (simp only [go_sem]); first | done | rfl) ?_ | refine wd_mix 2 [] follows (by decide +kernel) (by (simp only [go_sem]); first | done | rfl) ?_ | refine wd_mix 1 [] follows (by decide +kernel) (by (simp only [go_sem]); first | done | rfl) ?_ | refine wd_mix 0 [] follows (by decide +kernel) (by (simp only [go_sem]); first | done | rfl) ?_ | fail); (simp only [go_sem])) | (first | refine wd_fn (by (simp only [go_sem]); first | done | rfl) (iGround T.int) ?_ | refine wm_fn (by (simp only [go_sem]); first | done | rfl) (iGround T.int) (by (simp only [go_sem]); first | done | rfl) (by (simp only [go_sem]); first | done | rfl) ?_ | refine wt_fn (by (simp only [go_sem]); first | done | rfl) (iGround T.int) (by (simp only [go_sem]); first | done | rfl) (by (simp only [go_sem]); first | done | rfl) ?_); (simp only [go_sem]) | (first | refine wd_fn (by (simp only [go_sem]); first | done | rfl) (iGround T.bool) ?_ | refine wm_fn (by (simp only [go_sem]); first | done | rfl) (iGround T.bool) (by (simp only [go_sem]); first | done | rfl) (by (simp only [go_sem]); first | done | rfl) ?_ | refine wt_fn (by (simp only [go_sem]); first | done | rfl) (iGround T.bool) (by (simp only [go_sem]); first | done | rfl) (by (simp only [go_sem]); first | done | rfl) ?_); (simp only [go_sem]) | (first | refine wd_fn (by (simp only [go_sem]); first | done | rfl) (iGround (T.fn T.any T.any)) ?_ | refine wm_fn (by (simp only [go_sem]); first | done | rfl) (iGround (T.fn T.any T.any)) (by (simp only [go_sem]); first | done | rfl) (by (simp only [go_sem]); first | done | rfl) ?_ | refine wt_fn (by (simp only [go_sem]); first | done | rfl) (iGround (T.fn T.any T.any)) (by (simp only [go_sem]); first | done | rfl) (by (simp only [go_sem]); first | done | rfl) ?_); (simp only [go_sem]) | (first | refine wd_fn (by (simp only [go_sem]); first | done | rfl) (iGround (T.pr T.any T.any)) ?_ | refine wm_fn (by (simp only [go_sem]); first | done | rfl) (iGround (T.pr T.any T.any)) (by (simp only [go_sem]); first | done | rfl) (by (simp only [go_sem]); first | done | rfl) ?_ | refine wt_fn (by (simp only [go_sem]); first | done | rfl) (iGround (T.pr T.any T.any)) (by (simp only [go_sem]); first | done | rfl) (by (simp only [go_sem]); first | done | rfl) ?_); (simp only [go_sem]) | (first | refine wd_fn (by (simp only [go_sem]); first | done | rfl) (ih _ _ _ (by simp only [castM, T.size]; (repeat' split) <;> (try simp only [T.size]) <;> omega) (by first | rfl | exact hc.1 | exact hc.2 | (rw [T.cons_symm]; exact hc.1) | simp [T.cons, T.cons_any]) (by omega)) ?_ | refine wm_fn (by (simp only [go_sem]); first | done | rfl) (ih _ _ _ (by simp only [castM, T.size]; (repeat' split) <;> (try simp only [T.size]) <;> omega) (by first | rfl | exact hc.1 | exact hc.2 | (rw [T.cons_symm]; exact hc.1) | simp [T.cons, T.cons_any]) (by omega)) (by (simp only [go_sem]); first | done | rfl) (by (simp only [go_sem]); first | done | rfl) ?_ | refine wt_fn (by (simp only [go_sem]); first | done | rfl) (ih _ _ _ (by simp only [castM, T.size]; (repeat' split) <;> (try simp only [T.size]) <;> omega) (by first | rfl | exact hc.1 | exact hc.2 | (rw [T.cons_symm]; exact hc.1) | simp [T.cons, T.cons_any]) (by omega)) (by (simp only [go_sem]); first | done | rfl) (by (simp only [go_sem]); first | done | rfl) ?_); (simp only [go_sem]))
    all_goals (refine hR _ (ret_at [] (by (simp only [go_sem]); first | done | rfl) (by (simp only [go_sem]); first | done | rfl) ⟨?_, rfl⟩))
    all_goals simp only [T.cast, K.co]
    all_goals rfl
theorem sCast (n : Nat) : ∀ (a b : T) (l : Int), castM a b < n → a.cons b = true → -99 ≤ l ∧ l ≤ 99 → AFn Try.prog 120 [.agg (tyC a.ty), .agg (tyC b.ty), .one (.sc (.int .i64 l))] (.agg (coC (T.cast a b l).co)) := by
  induction n with
  | zero => intro a b l h; omega
  | succ n ih =>
    intro a b l h hc hl
    have hw : IntKind.i64.wrap (0 - l) = -l := by rw [IntWalk.i64_in _ (by omega)]; omega
    rcases a with _ | _ | _ | ⟨a1, a2⟩ | ⟨a1, a2⟩ <;> rcases b with _ | _ | _ | ⟨b1, b2⟩ | ⟨b1, b2⟩
    all_goals simp only [T.cons, Bool.false_eq_true, Bool.and_eq_true] at hc
    all_goals
      ((try have p1 := T.size_pos a1); (try have p2 := T.size_pos a2); (try have p3 := T.size_pos b1); (try have p4 := T.size_pos b2))
      simp only [castM, T.size] at h
      refine fn_in ?_; refine acl_in Try.func120 rfl isfn_120 (Nat.le_of_ble_eq_true rfl) (fun R hR => ?_); rw [Try.results120] at hR; refine wg_run ?_; (simp only [Try.f120, go_sem])
      repeat' (first | (first | (simp only [go_sem, hw]) | ((first | refine wd_split _ (fun hb => ?_) (fun hb => ?_) | refine wd_nwant _ (fun hb => ?_) (fun hb => ?_) | refine wm_nwant _ (fun hb => ?_) (fun hb => ?_) | refine wd_want _ (fun hb => ?_) (fun hb => ?_) | refine wm_want _ (fun hb => ?_) (fun hb => ?_) | refine wt_nwant _ (fun hb => ?_) (fun hb => ?_) | refine wt_want _ (fun hb => ?_) (fun hb => ?_)) <;> (simp only [go_sem, hb, hw])) | (refine wm_done ?_; (simp only [go_sem, hw])) | (refine wt_done ?_; (simp only [go_sem, hw])) | (refine wg_run ?_; (simp only [go_sem, hw])) | (refine wt_fork (by (simp only [go_sem]); first | done | rfl) ?_ ?_ <;> (simp only [go_sem, hw]))) | (first | fail) | ((first | refine wd_mix 6 [] follows (by decide +kernel) (by (simp only [go_sem]); first | done | rfl) ?_ | refine wd_mix 5 [] follows (by decide +kernel) (by (simp only [go_sem]); first | done | rfl) ?_ | refine wd_mix 4 [] follows (by decide +kernel) (by (simp only [go_sem]); first | done | rfl) ?_ | refine wd_mix 3 [] follows (by decide +kernel) (by (simp only [go_sem]); first | done | rfl) ?_ | refine wd_mix 2 [] follows (by decide +kernel) (by (simp only [go_sem]); first | done | rfl) ?_ | refine wd_mix 1 [] follows (by decide +kernel) (by (simp only [go_sem]); first | done | rfl) ?_ | refine wd_mix 0 [] follows (by decide +kernel) (by (simp only [go_sem]); first | done | rfl) ?_ | fail); (simp only [go_sem])) | (first | refine wd_fn (by (simp only [go_sem]); first | done | rfl) (l1Ground _) ?_ | refine wm_fn (by (simp only [go_sem]); first | done | rfl) (l1Ground _) (by (simp only [go_sem]); first | done | rfl) (by (simp only [go_sem]); first | done | rfl) ?_ | refine wt_fn (by (simp only [go_sem]); first | done | rfl) (l1Ground _) (by (simp only [go_sem]); first | done | rfl) (by (simp only [go_sem]); first | done | rfl) ?_); (simp only [go_sem]) | (first | refine wd_fn (by (simp only [go_sem]); first | done | rfl) (l6Id _) ?_ | refine wm_fn (by (simp only [go_sem]); first | done | rfl) (l6Id _) (by (simp only [go_sem]); first | done | rfl) (by (simp only [go_sem]); first | done | rfl) ?_ | refine wt_fn (by (simp only [go_sem]); first | done | rfl) (l6Id _) (by (simp only [go_sem]); first | done | rfl) (by (simp only [go_sem]); first | done | rfl) ?_); (simp only [go_sem]) | (first | refine wd_fn (by (simp only [go_sem]); first | done | rfl) (ih _ _ _ (by simp only [castM, T.size]; (repeat' split) <;> (try simp only [T.size]) <;> omega) (by first | rfl | exact hc.1 | exact hc.2 | (rw [T.cons_symm]; exact hc.1) | simp [T.cons, T.cons_any]) (by omega)) ?_ | refine wm_fn (by (simp only [go_sem]); first | done | rfl) (ih _ _ _ (by simp only [castM, T.size]; (repeat' split) <;> (try simp only [T.size]) <;> omega) (by first | rfl | exact hc.1 | exact hc.2 | (rw [T.cons_symm]; exact hc.1) | simp [T.cons, T.cons_any]) (by omega)) (by (simp only [go_sem]); first | done | rfl) (by (simp only [go_sem]); first | done | rfl) ?_ | refine wt_fn (by (simp only [go_sem]); first | done | rfl) (ih _ _ _ (by simp only [castM, T.size]; (repeat' split) <;> (try simp only [T.size]) <;> omega) (by first | rfl | exact hc.1 | exact hc.2 | (rw [T.cons_symm]; exact hc.1) | simp [T.cons, T.cons_any]) (by omega)) (by (simp only [go_sem]); first | done | rfl) (by (simp only [go_sem]); first | done | rfl) ?_); (simp only [go_sem]))
    all_goals (refine hR _ (ret_at [] (by (simp only [go_sem]); first | done | rfl) (by (simp only [go_sem]); first | done | rfl) ⟨?_, rfl⟩))
    all_goals simp only [T.cast, K.co]
    all_goals rfl
end Go.Proofs.Ytchcbfbnffhifaa
/- Composition is associative. No program, no world. -/
namespace Go.Proofs.Grad
theorem K.comp_tag (a b : K) : ∀ k, a.comp b = some k → a.wf = true → a.isPrj = false → a.isAny = false → k.tag = a.tag := by
  fun_induction K.comp a b <;> intro k hk h1 h2 h3 <;> (try simp only [Option.map_eq_some_iff] at hk) <;> grind [K.plain_np, K.wf, K.tag, K.isPrj_id, K.isPrj_fn, K.isPrj_pr, K.isPrj_inj, K.isPrj_prj, K.isPrj_fail, K.isAny_id, K.isAny_fn, K.isAny_pr, K.isAny_inj, K.isAny_prj, K.isAny_fail, K.plain_id, K.plain_fn, K.plain_pr, K.plain_inj, K.plain_prj, K.plain_fail]
theorem K.ceq_prj (l : Int) (c b : K) : (K.prj l c).comp b = (c.comp b).map (.prj l) := by cases b <;> rw [K.comp]
theorem K.ceq_fail (l g : Int) (b : K) : (K.fail l g).comp b = some (.fail l g) := by cases b <;> rw [K.comp]
theorem K.ceq_any (b : K) : (K.id 1).comp b = if b.isPrj || b.isAny then some b else none := by cases b <;> rw [K.comp] <;> simp
theorem K.ceq_ij (l : Int) (c d : K) : (K.inj c).comp (.prj l d) = if c.tag = d.tag then K.comp c d else some (.fail l c.tag) := by rw [K.comp]
theorem K.ceq_in (c b : K) (h : b.isPrj = false) : (K.inj c).comp b = if b.isAny then some (.inj c) else none := by
  cases b <;> first | (rw [K.comp] <;> simp) | simp [K.isPrj] at h
theorem K.ceq_pi (a c : K) (h : a.plain = true) : a.comp (.inj c) = (a.comp c).map .inj := by
  cases a <;> simp_all [K.plain, K.comp]
theorem K.ceq_pp (a : K) (l : Int) (c : K) (h : a.plain = true) : a.comp (.prj l c) = none := by
  cases a <;> simp_all [K.plain, K.comp]
theorem K.ceq_pa (a : K) (h : a.plain = true) : a.comp (.id 1) = none := by
  cases a <;> simp_all [K.plain, K.comp]
theorem K.cases4 (a : K) : a.plain = true ∨ a = .id 1 ∨ (∃ c, a = .inj c) ∨ (∃ l c, a = .prj l c) ∨ (∃ l g, a = .fail l g) := by
  cases a <;> simp [K.plain]
  rename_i g; by_cases g = 1 <;> simp_all
theorem K.comp_tag2 (a b k : K) (h : a.comp b = some k) (ha : a.plain = true) (hb : b.plain = true) : k.tag = b.tag ∧ a.tag = b.tag := by
  cases a <;> cases b <;> simp_all [K.comp, K.plain, K.tag] <;> grind [K.tag]
theorem K.comp_pp (a b k : K) (h : a.comp b = some k) (ha : a.plain = true) (hb : b.plain = true) : (∃ g, a = .id g ∧ b = .id g ∧ k = .id g) ∨ (∃ a1 a2 b1 b2 x y, a = .fn a1 a2 ∧ b = .fn b1 b2 ∧ b1.comp a1 = some x ∧ a2.comp b2 = some y ∧ k = .fn x y) ∨ (∃ a1 a2 b1 b2 x y, a = .pr a1 a2 ∧ b = .pr b1 b2 ∧ a1.comp b1 = some x ∧ a2.comp b2 = some y ∧ k = .pr x y) := by
  cases a <;> cases b <;> simp_all [K.comp, K.plain] <;> grind
end Go.Proofs.Grad
/- Composition of coercions as they come, in the program and in the reference. On shadows. -/
namespace Go.Proofs.Grad
open Classical in
/-- the form of a valid coercion -/
noncomputable def Co.k? (c : Co) : Option K := if h : c.valid = true then some (Classical.choose ((Co.valid_iff c).1 h)) else none
theorem Co.k?_some {c : Co} {k : K} (h : c.k? = some k) : c = k.co ∧ k.ok = true := by
  unfold Co.k? at h
  split at h
  · rename_i hv
    have hs := Classical.choose_spec ((Co.valid_iff c).1 hv)
    rw [Option.some.inj h] at hs
    exact ⟨hs.1.symm, by simp [K.ok, hs.2.1, hs.2.2]⟩
  · cases h
theorem Co.k?_none {c : Co} (h : c.k? = none) : c.valid = false := by
  unfold Co.k? at h
  split at h
  · cases h
  · rename_i hv; simpa using hv
theorem K.k?_co {k : K} (h : k.ok = true) : k.co.k? = some k := by
  cases e : k.co.k? with
  | none => have := Co.k?_none e; rw [K.ok_valid, h] at this; cases this
  | some x => rw [K.co_inj _ _ (Co.k?_some e).1]
theorem K.k?_co_none {k : K} (h : k.ok = false) : k.co.k? = none := by
  cases e : k.co.k? with
  | none => rfl
  | some x => have h1 := Co.k?_some e; rw [← K.ok_valid, ← h1.1, K.ok_valid, h] at h1; cases h1.2
theorem Co.k?_valid (c : Co) : c.valid = c.k?.isSome := by
  cases e : c.k? with
  | none => exact Co.k?_none e
  | some x => have h := Co.k?_some e; rw [h.1, K.ok_valid, h.2]; rfl
/-- the composition of two coercions as they come -/
noncomputable def Co.compV (a b : Co) : Option K := a.k?.bind fun x => b.k?.bind fun y => x.compV y
theorem Co.compV_zero (a : Co) : a.compV Co.zero = none ∧ Co.zero.compV a = none := by
  have h : Co.zero.k? = none := by
    have := Co.k?_valid Co.zero
    cases e : Co.zero.k? with
    | none => rfl
    | some x => rw [e] at this; exact absurd this (by simp [Co.valid, Co.shape, Co.okN, Co.zero])
  constructor
  · unfold Co.compV; rw [h]; cases a.k? <;> rfl
  · unfold Co.compV; rw [h]; rfl
theorem K.compV_some {a b k : K} (h : a.compV b = some k) : a.comp b = some k ∧ k.ok = true := by
  unfold K.compV at h
  cases e : a.comp b with
  | none => rw [e] at h; cases h
  | some x => rw [e] at h; simp only [Option.bind_some] at h; split at h <;> simp at h; subst h; exact ⟨rfl, by assumption⟩
theorem Co.compV_some {a b : Co} {k : K} (h : a.compV b = some k) : ∃ x y : K, a = x.co ∧ b = y.co ∧ x.ok = true ∧ y.ok = true ∧ x.comp y = some k ∧ k.ok = true := by
  unfold Co.compV at h
  cases e1 : a.k? with
  | none => rw [e1] at h; cases h
  | some x =>
    cases e2 : b.k? with
    | none => rw [e1, e2] at h; cases h
    | some y =>
      rw [e1, e2] at h
      simp only [Option.bind_some] at h
      have := K.compV_some h
      exact ⟨x, y, (Co.k?_some e1).1, (Co.k?_some e2).1, (Co.k?_some e1).2, (Co.k?_some e2).2, this.1, this.2⟩
theorem Co.compV_size (a b : Co) : (K.coO (a.compV b)).size ≤ a.size + b.size + 1 := by
  cases e : a.compV b with
  | none => simp only [K.coO, Co.zero, Co.size, Co.sizes]; omega
  | some k =>
    obtain ⟨x, y, rfl, rfl, _, _, h, _⟩ := Co.compV_some e
    have := K.comp_size x y k h
    simp only [K.coO, K.co_size]; omega
end Go.Proofs.Grad
namespace Go.Proofs.Ytchcbfbnffhifaa
open Go.RowKit Go.Proofs.Sh Go.Proofs.Grad
set_option maxRecDepth 100000
set_option maxHeartbeats 4000000
end Go.Proofs.Ytchcbfbnffhifaa
/- Typing of coercions; identities; heights. No program, no world. -/
namespace Go.Proofs.Grad
/-- the ground type of a kind -/
def gT (k : Int) : T := if k = 2 then .int else if k = 3 then .bool else if k = 4 then .fn .any .any else if k = 5 then .pr .any .any else .any
theorem gT_kind (x : T) : gT x.kind = x.ground := by cases x <;> rfl
def K.typed : K → T → T → Bool
  | .id g, a, b => a.kind == g && b.kind == g
  | .fn c d, .fn a1 a2, .fn b1 b2 => c.typed b1 a1 && d.typed a2 b2
  | .pr c d, .pr a1 a2, .pr b1 b2 => c.typed a1 b1 && d.typed a2 b2
  | .inj c, a, b => b.kind == 1 && (a.kind == c.tag && c.typed a a.ground)
  | .prj _ c, a, b => a.kind == 1 && c.typed (gT c.tag) b
  | .fail _ g, a, _ => a.kind == g
  | _, _, _ => false
theorem T.kind_any {a : T} (h : a.kind = 1) : a = .any := by cases a <;> simp [T.kind] at h; rfl
theorem K.typed_plain {c : K} {a b : T} (h : c.typed a b = true) (hc : c.plain = true) : a.kind = c.tag ∧ b.kind = c.tag := by
  cases c <;> simp only [K.plain, Bool.false_eq_true] at hc <;> cases a <;> cases b <;> simp_all [K.typed, T.kind, K.tag]
theorem T.cast_typed (n : Nat) : ∀ (a b : T) (l : Int), a.size + b.size < n → a.cons b = true → (T.cast a b l).typed a b = true := by
  induction n with
  | zero => intro a b l h; omega
  | succ n ih =>
    intro a b l hs h
    have p1 := T.size_pos
    cases a <;> cases b <;> simp only [T.cons, Bool.false_eq_true, Bool.and_eq_true] at h <;> simp only [T.size] at hs <;> simp only [T.cast, K.typed, T.kind, K.tag, gT, T.ground, BEq.rfl, Bool.true_and, Bool.and_self, Int.reduceEq, if_true, if_false, Bool.and_eq_true]
    all_goals (try exact ⟨ih _ _ _ (by first | omega | (simp only [T.size]; omega)) (by first | rfl | exact T.cons_any _ | exact h.1 | (rw [T.cons_symm]; first | exact T.cons_any _ | exact h.1)), ih _ _ _ (by first | omega | (simp only [T.size]; omega)) (by first | rfl | exact T.cons_any _ | exact h.2)⟩)
    all_goals (first | rfl | skip)
/-- the identity of a type -/
def T.idK : T → K
  | .any => .id 1 | .int => .id 2 | .bool => .id 3
  | .fn a b => .fn a.idK b.idK | .pr a b => .pr a.idK b.idK
theorem T.cast_self (a : T) (l : Int) : T.cast a a l = a.idK := by
  induction a generalizing l with
  | any | int | bool => simp [T.cast, T.idK]
  | fn a b iha ihb | pr a b iha ihb => simp [T.cast, T.idK, iha, ihb]
theorem T.idK_plain (a : T) (h : a.kind ≠ 1) : a.idK.plain = true ∧ a.idK.tag = a.kind := by
  cases a <;> simp_all [T.idK, T.kind, K.plain, K.tag]
theorem K.typed_tag {c : K} {x y : T} (h : c.typed x y = true) (wc : c.wf = true) (h1 : c.isPrj = false) (h2 : c.isAny = false) : x.kind = c.tag := by
  rcases K.cases4 c with pc | rfl | ⟨c', rfl⟩ | ⟨l, c', rfl⟩ | ⟨l, g, rfl⟩
  · exact (K.typed_plain h pc).1
  · cases h2
  · simp only [K.typed, Bool.and_eq_true, beq_iff_eq] at h; simp only [K.tag]; exact h.2.1
  · cases h1
  · simp only [K.typed, beq_iff_eq] at h; exact h
theorem T.idK_ident (a : T) : a.idK.ident = true ∧ a.idK.wf = true ∧ a.idK.depth = a.depth ∧ a.idK.labels = [] := by
  induction a <;> simp_all [T.idK, K.ident, K.wf, K.depth, T.depth, K.labels]
theorem K.ident_comp (c : K) (h : c.ident = true) : c.comp c = some c ∧ c.labels = [] := by
  induction c <;> simp_all [K.ident, K.comp, K.labels, K.isAny, K.isPrj]
theorem K.height_size (k : K) : 1 ≤ k.height ∧ k.height ≤ k.size := by
  induction k <;> simp only [K.height, K.size] <;> omega
theorem K.height_depth (k : K) : k.height ≤ k.depth := by
  induction k <;> simp only [K.height, K.depth] <;> omega
theorem K.comp_height (a b : K) : ∀ k, a.comp b = some k → k.height ≤ max a.height b.height := by
  fun_induction K.comp a b <;> intro k hk <;> simp_all [K.height]
  all_goals (try grind [K.height, K.height_size])
theorem T.cast_height (a b : T) (l : Int) : (T.cast a b l).height ≤ max a.depth b.depth := by
  have h1 := T.depth_pos
  fun_induction T.cast a b l <;> simp only [K.height, T.depth] at * <;> (try omega)
  all_goals grind
end Go.Proofs.Grad
/- Coercions: heights, in the program and in the reference. On shadows. -/
namespace Go.Proofs.Grad
/-- the height of a coercion as it comes -/
noncomputable def Co.height (c : Co) : Nat := match c.k? with | some k => k.height | none => 0
theorem K.co_height {k : K} (h : k.ok = true) : k.co.height = k.height := by simp only [Co.height, K.k?_co h]
theorem Co.height_none {c : Co} (h : c.valid = false) : c.height = 0 := by
  unfold Co.height
  cases e : c.k? with
  | none => rfl
  | some x => rw [Co.k?_valid, e] at h; cases h
end Go.Proofs.Grad
namespace Go.Proofs.Ytchcbfbnffhifaa
open Go.RowKit Go.Proofs.Sh Go.Proofs.Grad
set_option maxRecDepth 100000
set_option maxHeartbeats 4000000
theorem coHeight (n : Nat) (hn : n ≤ 1099511627776) : ∀ k : K, k.size < n → AFn Try.prog 122 [.agg (coC k.co)] (.one (.sc (.int .i64 k.height))) := by
  induction n with
  | zero => intro k h; omega
  | succ n ih =>
    intro k h
    have ih := ih (by omega)
    have hk := K.height_size k
    rcases k with ⟨g⟩ | ⟨a1, a2⟩ | ⟨a1, a2⟩ | ⟨a1⟩ | ⟨l, a1⟩ | ⟨l, g⟩
    · refine fn_in ?_; refine acl_in Try.func122 rfl isfn_122 (Nat.le_of_ble_eq_true rfl) (fun R hR => ?_); rw [Try.results122] at hR; refine wg_run ?_; (simp only [Try.f122, go_sem])
      repeat' (first | (first | ((first | refine wd_split _ (fun hb => ?_) (fun hb => ?_) | refine wd_nwant _ (fun hb => ?_) (fun hb => ?_) | refine wm_nwant _ (fun hb => ?_) (fun hb => ?_) | refine wd_want _ (fun hb => ?_) (fun hb => ?_) | refine wm_want _ (fun hb => ?_) (fun hb => ?_) | refine wt_nwant _ (fun hb => ?_) (fun hb => ?_) | refine wt_want _ (fun hb => ?_) (fun hb => ?_)) <;> (simp only [go_sem, hb])) | (refine wm_done ?_; (simp only [go_sem])) | (refine wt_done ?_; (simp only [go_sem])) | (refine wg_run ?_; (simp only [go_sem])) | (refine wt_fork (by (simp only [go_sem]); first | done | rfl) ?_ ?_ <;> (simp only [go_sem]))) | (first | (refine wl_next (wg_run ?_); (simp only [go_sem])) | refine wd_rounds 6 ?_) | ((first | refine wd_mix 6 [] follows (by decide +kernel) (by (simp only [go_sem]); first | done | rfl) ?_ | refine wd_mix 5 [] follows (by decide +kernel) (by (simp only [go_sem]); first | done | rfl) ?_ | refine wd_mix 4 [] follows (by decide +kernel) (by (simp only [go_sem]); first | done | rfl) ?_ | refine wd_mix 3 [] follows (by decide +kernel) (by (simp only [go_sem]); first | done | rfl) ?_ | refine wd_mix 2 [] follows (by decide +kernel) (by (simp only [go_sem]); first | done | rfl) ?_ | refine wd_mix 1 [] follows (by decide +kernel) (by (simp only [go_sem]); first | done | rfl) ?_ | refine wd_mix 0 [] follows (by decide +kernel) (by (simp only [go_sem]); first | done | rfl) ?_ | fail); (simp only [go_sem])))
      (refine hR _ (ret_at [] (by (simp only [go_sem]); first | done | rfl) (by (simp only [go_sem]); first | done | rfl) ⟨rfl, rfl⟩))
    · simp only [K.size, K.height] at h hk
      have h1 := K.height_size a1; have h2 := K.height_size a2
      have hw : IntKind.i64.wrap (max (max 0 (a1.height : Int)) (a2.height : Int) + 1) = ((max a1.height a2.height + 1 : Nat) : Int) := by rw [IntWalk.i64_in _ (by omega)]; omega
      refine fn_in ?_; refine acl_in Try.func122 rfl isfn_122 (Nat.le_of_ble_eq_true rfl) (fun R hR => ?_); rw [Try.results122] at hR; refine wg_run ?_; (simp only [Try.f122, go_sem])
      repeat' (first | (first | (simp only [go_sem, hw]) | ((first | refine wd_split _ (fun hb => ?_) (fun hb => ?_) | refine wd_nwant _ (fun hb => ?_) (fun hb => ?_) | refine wm_nwant _ (fun hb => ?_) (fun hb => ?_) | refine wd_want _ (fun hb => ?_) (fun hb => ?_) | refine wm_want _ (fun hb => ?_) (fun hb => ?_) | refine wt_nwant _ (fun hb => ?_) (fun hb => ?_) | refine wt_want _ (fun hb => ?_) (fun hb => ?_)) <;> (simp only [go_sem, hb, hw])) | (refine wm_done ?_; (simp only [go_sem, hw])) | (refine wt_done ?_; (simp only [go_sem, hw])) | (refine wg_run ?_; (simp only [go_sem, hw])) | (refine wt_fork (by (simp only [go_sem]); first | done | rfl) ?_ ?_ <;> (simp only [go_sem, hw]))) | (first | (refine wl_next (wg_run ?_); (simp only [go_sem])) | refine wd_rounds 6 ?_) | (first | refine wd_fn (by (simp only [go_sem]); first | done | rfl) (ih a1 (by omega)) ?_ | refine wm_fn (by (simp only [go_sem]); first | done | rfl) (ih a1 (by omega)) (by (simp only [go_sem]); first | done | rfl) (by (simp only [go_sem]); first | done | rfl) ?_ | refine wt_fn (by (simp only [go_sem]); first | done | rfl) (ih a1 (by omega)) (by (simp only [go_sem]); first | done | rfl) (by (simp only [go_sem]); first | done | rfl) ?_); (simp only [go_sem]) | (first | refine wd_fn (by (simp only [go_sem]); first | done | rfl) (ih a2 (by omega)) ?_ | refine wm_fn (by (simp only [go_sem]); first | done | rfl) (ih a2 (by omega)) (by (simp only [go_sem]); first | done | rfl) (by (simp only [go_sem]); first | done | rfl) ?_ | refine wt_fn (by (simp only [go_sem]); first | done | rfl) (ih a2 (by omega)) (by (simp only [go_sem]); first | done | rfl) (by (simp only [go_sem]); first | done | rfl) ?_); (simp only [go_sem]) | ((first | refine wd_mix 6 [] follows (by decide +kernel) (by (simp only [go_sem]); first | done | rfl) ?_ | refine wd_mix 5 [] follows (by decide +kernel) (by (simp only [go_sem]); first | done | rfl) ?_ | refine wd_mix 4 [] follows (by decide +kernel) (by (simp only [go_sem]); first | done | rfl) ?_ | refine wd_mix 3 [] follows (by decide +kernel) (by (simp only [go_sem]); first | done | rfl) ?_ | refine wd_mix 2 [] follows (by decide +kernel) (by (simp only [go_sem]); first | done | rfl) ?_ | refine wd_mix 1 [] follows (by decide +kernel) (by (simp only [go_sem]); first | done | rfl) ?_ | refine wd_mix 0 [] follows (by decide +kernel) (by (simp only [go_sem]); first | done | rfl) ?_ | fail); (simp only [go_sem])))
      (refine hR _ (ret_at [] (by (simp only [go_sem]); first | done | rfl) (by (simp only [go_sem]); first | done | rfl) ⟨?_, rfl⟩))
      rw [K.height]
    · simp only [K.size, K.height] at h hk
      have h1 := K.height_size a1; have h2 := K.height_size a2
      have hw : IntKind.i64.wrap (max (max 0 (a1.height : Int)) (a2.height : Int) + 1) = ((max a1.height a2.height + 1 : Nat) : Int) := by rw [IntWalk.i64_in _ (by omega)]; omega
      refine fn_in ?_; refine acl_in Try.func122 rfl isfn_122 (Nat.le_of_ble_eq_true rfl) (fun R hR => ?_); rw [Try.results122] at hR; refine wg_run ?_; (simp only [Try.f122, go_sem])
      repeat' (first | (first | (simp only [go_sem, hw]) | ((first | refine wd_split _ (fun hb => ?_) (fun hb => ?_) | refine wd_nwant _ (fun hb => ?_) (fun hb => ?_) | refine wm_nwant _ (fun hb => ?_) (fun hb => ?_) | refine wd_want _ (fun hb => ?_) (fun hb => ?_) | refine wm_want _ (fun hb => ?_) (fun hb => ?_) | refine wt_nwant _ (fun hb => ?_) (fun hb => ?_) | refine wt_want _ (fun hb => ?_) (fun hb => ?_)) <;> (simp only [go_sem, hb, hw])) | (refine wm_done ?_; (simp only [go_sem, hw])) | (refine wt_done ?_; (simp only [go_sem, hw])) | (refine wg_run ?_; (simp only [go_sem, hw])) | (refine wt_fork (by (simp only [go_sem]); first | done | rfl) ?_ ?_ <;> (simp only [go_sem, hw]))) | (first | (refine wl_next (wg_run ?_); (simp only [go_sem])) | refine wd_rounds 6 ?_) | (first | refine wd_fn (by (simp only [go_sem]); first | done | rfl) (ih a1 (by omega)) ?_ | refine wm_fn (by (simp only [go_sem]); first | done | rfl) (ih a1 (by omega)) (by (simp only [go_sem]); first | done | rfl) (by (simp only [go_sem]); first | done | rfl) ?_ | refine wt_fn (by (simp only [go_sem]); first | done | rfl) (ih a1 (by omega)) (by (simp only [go_sem]); first | done | rfl) (by (simp only [go_sem]); first | done | rfl) ?_); (simp only [go_sem]) | (first | refine wd_fn (by (simp only [go_sem]); first | done | rfl) (ih a2 (by omega)) ?_ | refine wm_fn (by (simp only [go_sem]); first | done | rfl) (ih a2 (by omega)) (by (simp only [go_sem]); first | done | rfl) (by (simp only [go_sem]); first | done | rfl) ?_ | refine wt_fn (by (simp only [go_sem]); first | done | rfl) (ih a2 (by omega)) (by (simp only [go_sem]); first | done | rfl) (by (simp only [go_sem]); first | done | rfl) ?_); (simp only [go_sem]) | ((first | refine wd_mix 6 [] follows (by decide +kernel) (by (simp only [go_sem]); first | done | rfl) ?_ | refine wd_mix 5 [] follows (by decide +kernel) (by (simp only [go_sem]); first | done | rfl) ?_ | refine wd_mix 4 [] follows (by decide +kernel) (by (simp only [go_sem]); first | done | rfl) ?_ | refine wd_mix 3 [] follows (by decide +kernel) (by (simp only [go_sem]); first | done | rfl) ?_ | refine wd_mix 2 [] follows (by decide +kernel) (by (simp only [go_sem]); first | done | rfl) ?_ | refine wd_mix 1 [] follows (by decide +kernel) (by (simp only [go_sem]); first | done | rfl) ?_ | refine wd_mix 0 [] follows (by decide +kernel) (by (simp only [go_sem]); first | done | rfl) ?_ | fail); (simp only [go_sem])))
      (refine hR _ (ret_at [] (by (simp only [go_sem]); first | done | rfl) (by (simp only [go_sem]); first | done | rfl) ⟨?_, rfl⟩))
      rw [K.height]
    · simp only [K.size, K.height] at h hk
      have hw : max 0 (a1.height : Int) = (a1.height : Int) := by omega
      refine fn_in ?_; refine acl_in Try.func122 rfl isfn_122 (Nat.le_of_ble_eq_true rfl) (fun R hR => ?_); rw [Try.results122] at hR; refine wg_run ?_; (simp only [Try.f122, go_sem])
      repeat' (first | (first | (simp only [go_sem, hw]) | ((first | refine wd_split _ (fun hb => ?_) (fun hb => ?_) | refine wd_nwant _ (fun hb => ?_) (fun hb => ?_) | refine wm_nwant _ (fun hb => ?_) (fun hb => ?_) | refine wd_want _ (fun hb => ?_) (fun hb => ?_) | refine wm_want _ (fun hb => ?_) (fun hb => ?_) | refine wt_nwant _ (fun hb => ?_) (fun hb => ?_) | refine wt_want _ (fun hb => ?_) (fun hb => ?_)) <;> (simp only [go_sem, hb, hw])) | (refine wm_done ?_; (simp only [go_sem, hw])) | (refine wt_done ?_; (simp only [go_sem, hw])) | (refine wg_run ?_; (simp only [go_sem, hw])) | (refine wt_fork (by (simp only [go_sem]); first | done | rfl) ?_ ?_ <;> (simp only [go_sem, hw]))) | (first | (refine wl_next (wg_run ?_); (simp only [go_sem])) | refine wd_rounds 6 ?_) | (first | refine wd_fn (by (simp only [go_sem]); first | done | rfl) (ih a1 (by omega)) ?_ | refine wm_fn (by (simp only [go_sem]); first | done | rfl) (ih a1 (by omega)) (by (simp only [go_sem]); first | done | rfl) (by (simp only [go_sem]); first | done | rfl) ?_ | refine wt_fn (by (simp only [go_sem]); first | done | rfl) (ih a1 (by omega)) (by (simp only [go_sem]); first | done | rfl) (by (simp only [go_sem]); first | done | rfl) ?_); (simp only [go_sem]) | ((first | refine wd_mix 6 [] follows (by decide +kernel) (by (simp only [go_sem]); first | done | rfl) ?_ | refine wd_mix 5 [] follows (by decide +kernel) (by (simp only [go_sem]); first | done | rfl) ?_ | refine wd_mix 4 [] follows (by decide +kernel) (by (simp only [go_sem]); first | done | rfl) ?_ | refine wd_mix 3 [] follows (by decide +kernel) (by (simp only [go_sem]); first | done | rfl) ?_ | refine wd_mix 2 [] follows (by decide +kernel) (by (simp only [go_sem]); first | done | rfl) ?_ | refine wd_mix 1 [] follows (by decide +kernel) (by (simp only [go_sem]); first | done | rfl) ?_ | refine wd_mix 0 [] follows (by decide +kernel) (by (simp only [go_sem]); first | done | rfl) ?_ | fail); (simp only [go_sem])))
      (refine hR _ (ret_at [] (by (simp only [go_sem]); first | done | rfl) (by (simp only [go_sem]); first | done | rfl) ⟨?_, rfl⟩))
      rw [K.height]
    · simp only [K.size, K.height] at h hk
      have hw : max 0 (a1.height : Int) = (a1.height : Int) := by omega
      refine fn_in ?_; refine acl_in Try.func122 rfl isfn_122 (Nat.le_of_ble_eq_true rfl) (fun R hR => ?_); rw [Try.results122] at hR; refine wg_run ?_; (simp only [Try.f122, go_sem])
      repeat' (first | (first | (simp only [go_sem, hw]) | ((first | refine wd_split _ (fun hb => ?_) (fun hb => ?_) | refine wd_nwant _ (fun hb => ?_) (fun hb => ?_) | refine wm_nwant _ (fun hb => ?_) (fun hb => ?_) | refine wd_want _ (fun hb => ?_) (fun hb => ?_) | refine wm_want _ (fun hb => ?_) (fun hb => ?_) | refine wt_nwant _ (fun hb => ?_) (fun hb => ?_) | refine wt_want _ (fun hb => ?_) (fun hb => ?_)) <;> (simp only [go_sem, hb, hw])) | (refine wm_done ?_; (simp only [go_sem, hw])) | (refine wt_done ?_; (simp only [go_sem, hw])) | (refine wg_run ?_; (simp only [go_sem, hw])) | (refine wt_fork (by (simp only [go_sem]); first | done | rfl) ?_ ?_ <;> (simp only [go_sem, hw]))) | (first | (refine wl_next (wg_run ?_); (simp only [go_sem])) | refine wd_rounds 6 ?_) | (first | refine wd_fn (by (simp only [go_sem]); first | done | rfl) (ih a1 (by omega)) ?_ | refine wm_fn (by (simp only [go_sem]); first | done | rfl) (ih a1 (by omega)) (by (simp only [go_sem]); first | done | rfl) (by (simp only [go_sem]); first | done | rfl) ?_ | refine wt_fn (by (simp only [go_sem]); first | done | rfl) (ih a1 (by omega)) (by (simp only [go_sem]); first | done | rfl) (by (simp only [go_sem]); first | done | rfl) ?_); (simp only [go_sem]) | ((first | refine wd_mix 6 [] follows (by decide +kernel) (by (simp only [go_sem]); first | done | rfl) ?_ | refine wd_mix 5 [] follows (by decide +kernel) (by (simp only [go_sem]); first | done | rfl) ?_ | refine wd_mix 4 [] follows (by decide +kernel) (by (simp only [go_sem]); first | done | rfl) ?_ | refine wd_mix 3 [] follows (by decide +kernel) (by (simp only [go_sem]); first | done | rfl) ?_ | refine wd_mix 2 [] follows (by decide +kernel) (by (simp only [go_sem]); first | done | rfl) ?_ | refine wd_mix 1 [] follows (by decide +kernel) (by (simp only [go_sem]); first | done | rfl) ?_ | refine wd_mix 0 [] follows (by decide +kernel) (by (simp only [go_sem]); first | done | rfl) ?_ | fail); (simp only [go_sem])))
      (refine hR _ (ret_at [] (by (simp only [go_sem]); first | done | rfl) (by (simp only [go_sem]); first | done | rfl) ⟨?_, rfl⟩))
      rw [K.height]
    · refine fn_in ?_; refine acl_in Try.func122 rfl isfn_122 (Nat.le_of_ble_eq_true rfl) (fun R hR => ?_); rw [Try.results122] at hR; refine wg_run ?_; (simp only [Try.f122, go_sem])
      repeat' (first | (first | ((first | refine wd_split _ (fun hb => ?_) (fun hb => ?_) | refine wd_nwant _ (fun hb => ?_) (fun hb => ?_) | refine wm_nwant _ (fun hb => ?_) (fun hb => ?_) | refine wd_want _ (fun hb => ?_) (fun hb => ?_) | refine wm_want _ (fun hb => ?_) (fun hb => ?_) | refine wt_nwant _ (fun hb => ?_) (fun hb => ?_) | refine wt_want _ (fun hb => ?_) (fun hb => ?_)) <;> (simp only [go_sem, hb])) | (refine wm_done ?_; (simp only [go_sem])) | (refine wt_done ?_; (simp only [go_sem])) | (refine wg_run ?_; (simp only [go_sem])) | (refine wt_fork (by (simp only [go_sem]); first | done | rfl) ?_ ?_ <;> (simp only [go_sem]))) | (first | (refine wl_next (wg_run ?_); (simp only [go_sem])) | refine wd_rounds 6 ?_) | ((first | refine wd_mix 6 [] follows (by decide +kernel) (by (simp only [go_sem]); first | done | rfl) ?_ | refine wd_mix 5 [] follows (by decide +kernel) (by (simp only [go_sem]); first | done | rfl) ?_ | refine wd_mix 4 [] follows (by decide +kernel) (by (simp only [go_sem]); first | done | rfl) ?_ | refine wd_mix 3 [] follows (by decide +kernel) (by (simp only [go_sem]); first | done | rfl) ?_ | refine wd_mix 2 [] follows (by decide +kernel) (by (simp only [go_sem]); first | done | rfl) ?_ | refine wd_mix 1 [] follows (by decide +kernel) (by (simp only [go_sem]); first | done | rfl) ?_ | refine wd_mix 0 [] follows (by decide +kernel) (by (simp only [go_sem]); first | done | rfl) ?_ | fail); (simp only [go_sem])))
      (refine hR _ (ret_at [] (by (simp only [go_sem]); first | done | rfl) (by (simp only [go_sem]); first | done | rfl) ⟨rfl, rfl⟩))
theorem l6Height (n : Nat) (hn : n ≤ 1099511627776) : ∀ k : K, k.size < n → AFn Try.prog 119 [.agg (coC k.co)] (.one (.sc (.int .i64 k.height))) := by
  induction n with
  | zero => intro k h; omega
  | succ n ih =>
    intro k h
    have ih := ih (by omega)
    have hk := K.height_size k
    rcases k with ⟨g⟩ | ⟨a1, a2⟩ | ⟨a1, a2⟩ | ⟨a1⟩ | ⟨l, a1⟩ | ⟨l, g⟩
    · refine fn_in ?_; refine acl_in Try.func119 rfl isfn_119 (Nat.le_of_ble_eq_true rfl) (fun R hR => ?_); rw [Try.results119] at hR; refine wg_run ?_; (simp only [Try.f119, go_sem])
      repeat' (first | (first | ((first | refine wd_split _ (fun hb => ?_) (fun hb => ?_) | refine wd_nwant _ (fun hb => ?_) (fun hb => ?_) | refine wm_nwant _ (fun hb => ?_) (fun hb => ?_) | refine wd_want _ (fun hb => ?_) (fun hb => ?_) | refine wm_want _ (fun hb => ?_) (fun hb => ?_) | refine wt_nwant _ (fun hb => ?_) (fun hb => ?_) | refine wt_want _ (fun hb => ?_) (fun hb => ?_)) <;> (simp only [go_sem, hb])) | (refine wm_done ?_; (simp only [go_sem])) | (refine wt_done ?_; (simp only [go_sem])) | (refine wg_run ?_; (simp only [go_sem])) | (refine wt_fork (by (simp only [go_sem]); first | done | rfl) ?_ ?_ <;> (simp only [go_sem]))) | (first | (refine wl_next (wg_run ?_); (simp only [go_sem])) | refine wd_rounds 6 ?_) | ((first | refine wd_mix 6 [] follows (by decide +kernel) (by (simp only [go_sem]); first | done | rfl) ?_ | refine wd_mix 5 [] follows (by decide +kernel) (by (simp only [go_sem]); first | done | rfl) ?_ | refine wd_mix 4 [] follows (by decide +kernel) (by (simp only [go_sem]); first | done | rfl) ?_ | refine wd_mix 3 [] follows (by decide +kernel) (by (simp only [go_sem]); first | done | rfl) ?_ | refine wd_mix 2 [] follows (by decide +kernel) (by (simp only [go_sem]); first | done | rfl) ?_ | refine wd_mix 1 [] follows (by decide +kernel) (by (simp only [go_sem]); first | done | rfl) ?_ | refine wd_mix 0 [] follows (by decide +kernel) (by (simp only [go_sem]); first | done | rfl) ?_ | fail); (simp only [go_sem])))
      (refine hR _ (ret_at [] (by (simp only [go_sem]); first | done | rfl) (by (simp only [go_sem]); first | done | rfl) ⟨rfl, rfl⟩))
    · simp only [K.size, K.height] at h hk
      have h1 := K.height_size a1; have h2 := K.height_size a2
      have hd : decide ((a1.height : Int) > 0) = true := by simp; omega
      have hw : IntKind.i64.wrap ((a1.height : Int) + 1) = ((a1.height + 1 : Nat) : Int) := by rw [IntWalk.i64_in _ (by omega)]; omega
      have hw2 : IntKind.i64.wrap ((a2.height : Int) + 1) = ((a2.height + 1 : Nat) : Int) := by rw [IntWalk.i64_in _ (by omega)]; omega
      refine fn_in ?_; refine acl_in Try.func119 rfl isfn_119 (Nat.le_of_ble_eq_true rfl) (fun R hR => ?_); rw [Try.results119] at hR; refine wg_run ?_; (simp only [Try.f119, go_sem])
      repeat' (first | (first | (simp only [go_sem, hd, hw, hw2]) | ((first | refine wd_split _ (fun hb => ?_) (fun hb => ?_) | refine wd_nwant _ (fun hb => ?_) (fun hb => ?_) | refine wm_nwant _ (fun hb => ?_) (fun hb => ?_) | refine wd_want _ (fun hb => ?_) (fun hb => ?_) | refine wm_want _ (fun hb => ?_) (fun hb => ?_) | refine wt_nwant _ (fun hb => ?_) (fun hb => ?_) | refine wt_want _ (fun hb => ?_) (fun hb => ?_)) <;> (simp only [go_sem, hb, hd, hw, hw2])) | (refine wm_done ?_; (simp only [go_sem, hd, hw, hw2])) | (refine wt_done ?_; (simp only [go_sem, hd, hw, hw2])) | (refine wg_run ?_; (simp only [go_sem, hd, hw, hw2])) | (refine wt_fork (by (simp only [go_sem]); first | done | rfl) ?_ ?_ <;> (simp only [go_sem, hd, hw, hw2]))) | (first | (refine wl_next (wg_run ?_); (simp only [go_sem])) | refine wd_rounds 6 ?_) | (first | refine wd_fn (by (simp only [go_sem]); first | done | rfl) (ih a1 (by omega)) ?_ | refine wm_fn (by (simp only [go_sem]); first | done | rfl) (ih a1 (by omega)) (by (simp only [go_sem]); first | done | rfl) (by (simp only [go_sem]); first | done | rfl) ?_ | refine wt_fn (by (simp only [go_sem]); first | done | rfl) (ih a1 (by omega)) (by (simp only [go_sem]); first | done | rfl) (by (simp only [go_sem]); first | done | rfl) ?_); (simp only [go_sem]) | (first | refine wd_fn (by (simp only [go_sem]); first | done | rfl) (ih a2 (by omega)) ?_ | refine wm_fn (by (simp only [go_sem]); first | done | rfl) (ih a2 (by omega)) (by (simp only [go_sem]); first | done | rfl) (by (simp only [go_sem]); first | done | rfl) ?_ | refine wt_fn (by (simp only [go_sem]); first | done | rfl) (ih a2 (by omega)) (by (simp only [go_sem]); first | done | rfl) (by (simp only [go_sem]); first | done | rfl) ?_); (simp only [go_sem]) | ((first | refine wd_mix 6 [] follows (by decide +kernel) (by (simp only [go_sem]); first | done | rfl) ?_ | refine wd_mix 5 [] follows (by decide +kernel) (by (simp only [go_sem]); first | done | rfl) ?_ | refine wd_mix 4 [] follows (by decide +kernel) (by (simp only [go_sem]); first | done | rfl) ?_ | refine wd_mix 3 [] follows (by decide +kernel) (by (simp only [go_sem]); first | done | rfl) ?_ | refine wd_mix 2 [] follows (by decide +kernel) (by (simp only [go_sem]); first | done | rfl) ?_ | refine wd_mix 1 [] follows (by decide +kernel) (by (simp only [go_sem]); first | done | rfl) ?_ | refine wd_mix 0 [] follows (by decide +kernel) (by (simp only [go_sem]); first | done | rfl) ?_ | fail); (simp only [go_sem])))
      all_goals (refine hR _ (ret_at [] (by (simp only [go_sem]); first | done | rfl) (by (simp only [go_sem]); first | done | rfl) ⟨?_, rfl⟩))
      all_goals refine congrArg (fun m : Nat => AV.one (C.sc (Value.int .i64 (m : Int)))) (?_ : _ = _)
      all_goals simp only [K.height]
      all_goals simp only [decide_eq_true_eq, decide_eq_false_iff_not] at hb
      all_goals omega
    · simp only [K.size, K.height] at h hk
      have h1 := K.height_size a1; have h2 := K.height_size a2
      have hd : decide ((a1.height : Int) > 0) = true := by simp; omega
      have hw : IntKind.i64.wrap ((a1.height : Int) + 1) = ((a1.height + 1 : Nat) : Int) := by rw [IntWalk.i64_in _ (by omega)]; omega
      have hw2 : IntKind.i64.wrap ((a2.height : Int) + 1) = ((a2.height + 1 : Nat) : Int) := by rw [IntWalk.i64_in _ (by omega)]; omega
      refine fn_in ?_; refine acl_in Try.func119 rfl isfn_119 (Nat.le_of_ble_eq_true rfl) (fun R hR => ?_); rw [Try.results119] at hR; refine wg_run ?_; (simp only [Try.f119, go_sem])
      repeat' (first | (first | (simp only [go_sem, hd, hw, hw2]) | ((first | refine wd_split _ (fun hb => ?_) (fun hb => ?_) | refine wd_nwant _ (fun hb => ?_) (fun hb => ?_) | refine wm_nwant _ (fun hb => ?_) (fun hb => ?_) | refine wd_want _ (fun hb => ?_) (fun hb => ?_) | refine wm_want _ (fun hb => ?_) (fun hb => ?_) | refine wt_nwant _ (fun hb => ?_) (fun hb => ?_) | refine wt_want _ (fun hb => ?_) (fun hb => ?_)) <;> (simp only [go_sem, hb, hd, hw, hw2])) | (refine wm_done ?_; (simp only [go_sem, hd, hw, hw2])) | (refine wt_done ?_; (simp only [go_sem, hd, hw, hw2])) | (refine wg_run ?_; (simp only [go_sem, hd, hw, hw2])) | (refine wt_fork (by (simp only [go_sem]); first | done | rfl) ?_ ?_ <;> (simp only [go_sem, hd, hw, hw2]))) | (first | (refine wl_next (wg_run ?_); (simp only [go_sem])) | refine wd_rounds 6 ?_) | (first | refine wd_fn (by (simp only [go_sem]); first | done | rfl) (ih a1 (by omega)) ?_ | refine wm_fn (by (simp only [go_sem]); first | done | rfl) (ih a1 (by omega)) (by (simp only [go_sem]); first | done | rfl) (by (simp only [go_sem]); first | done | rfl) ?_ | refine wt_fn (by (simp only [go_sem]); first | done | rfl) (ih a1 (by omega)) (by (simp only [go_sem]); first | done | rfl) (by (simp only [go_sem]); first | done | rfl) ?_); (simp only [go_sem]) | (first | refine wd_fn (by (simp only [go_sem]); first | done | rfl) (ih a2 (by omega)) ?_ | refine wm_fn (by (simp only [go_sem]); first | done | rfl) (ih a2 (by omega)) (by (simp only [go_sem]); first | done | rfl) (by (simp only [go_sem]); first | done | rfl) ?_ | refine wt_fn (by (simp only [go_sem]); first | done | rfl) (ih a2 (by omega)) (by (simp only [go_sem]); first | done | rfl) (by (simp only [go_sem]); first | done | rfl) ?_); (simp only [go_sem]) | ((first | refine wd_mix 6 [] follows (by decide +kernel) (by (simp only [go_sem]); first | done | rfl) ?_ | refine wd_mix 5 [] follows (by decide +kernel) (by (simp only [go_sem]); first | done | rfl) ?_ | refine wd_mix 4 [] follows (by decide +kernel) (by (simp only [go_sem]); first | done | rfl) ?_ | refine wd_mix 3 [] follows (by decide +kernel) (by (simp only [go_sem]); first | done | rfl) ?_ | refine wd_mix 2 [] follows (by decide +kernel) (by (simp only [go_sem]); first | done | rfl) ?_ | refine wd_mix 1 [] follows (by decide +kernel) (by (simp only [go_sem]); first | done | rfl) ?_ | refine wd_mix 0 [] follows (by decide +kernel) (by (simp only [go_sem]); first | done | rfl) ?_ | fail); (simp only [go_sem])))
      all_goals (refine hR _ (ret_at [] (by (simp only [go_sem]); first | done | rfl) (by (simp only [go_sem]); first | done | rfl) ⟨?_, rfl⟩))
      all_goals refine congrArg (fun m : Nat => AV.one (C.sc (Value.int .i64 (m : Int)))) (?_ : _ = _)
      all_goals simp only [K.height]
      all_goals simp only [decide_eq_true_eq, decide_eq_false_iff_not] at hb
      all_goals omega
    · simp only [K.size, K.height] at h hk
      have h1 := K.height_size a1
      have hd : decide ((a1.height : Int) > 0) = true := by simp; omega
      refine fn_in ?_; refine acl_in Try.func119 rfl isfn_119 (Nat.le_of_ble_eq_true rfl) (fun R hR => ?_); rw [Try.results119] at hR; refine wg_run ?_; (simp only [Try.f119, go_sem])
      repeat' (first | (first | (simp only [go_sem, hd]) | ((first | refine wd_split _ (fun hb => ?_) (fun hb => ?_) | refine wd_nwant _ (fun hb => ?_) (fun hb => ?_) | refine wm_nwant _ (fun hb => ?_) (fun hb => ?_) | refine wd_want _ (fun hb => ?_) (fun hb => ?_) | refine wm_want _ (fun hb => ?_) (fun hb => ?_) | refine wt_nwant _ (fun hb => ?_) (fun hb => ?_) | refine wt_want _ (fun hb => ?_) (fun hb => ?_)) <;> (simp only [go_sem, hb, hd])) | (refine wm_done ?_; (simp only [go_sem, hd])) | (refine wt_done ?_; (simp only [go_sem, hd])) | (refine wg_run ?_; (simp only [go_sem, hd])) | (refine wt_fork (by (simp only [go_sem]); first | done | rfl) ?_ ?_ <;> (simp only [go_sem, hd]))) | (first | (refine wl_next (wg_run ?_); (simp only [go_sem])) | refine wd_rounds 6 ?_) | (first | refine wd_fn (by (simp only [go_sem]); first | done | rfl) (ih a1 (by omega)) ?_ | refine wm_fn (by (simp only [go_sem]); first | done | rfl) (ih a1 (by omega)) (by (simp only [go_sem]); first | done | rfl) (by (simp only [go_sem]); first | done | rfl) ?_ | refine wt_fn (by (simp only [go_sem]); first | done | rfl) (ih a1 (by omega)) (by (simp only [go_sem]); first | done | rfl) (by (simp only [go_sem]); first | done | rfl) ?_); (simp only [go_sem]) | ((first | refine wd_mix 6 [] follows (by decide +kernel) (by (simp only [go_sem]); first | done | rfl) ?_ | refine wd_mix 5 [] follows (by decide +kernel) (by (simp only [go_sem]); first | done | rfl) ?_ | refine wd_mix 4 [] follows (by decide +kernel) (by (simp only [go_sem]); first | done | rfl) ?_ | refine wd_mix 3 [] follows (by decide +kernel) (by (simp only [go_sem]); first | done | rfl) ?_ | refine wd_mix 2 [] follows (by decide +kernel) (by (simp only [go_sem]); first | done | rfl) ?_ | refine wd_mix 1 [] follows (by decide +kernel) (by (simp only [go_sem]); first | done | rfl) ?_ | refine wd_mix 0 [] follows (by decide +kernel) (by (simp only [go_sem]); first | done | rfl) ?_ | fail); (simp only [go_sem])))
      (refine hR _ (ret_at [] (by (simp only [go_sem]); first | done | rfl) (by (simp only [go_sem]); first | done | rfl) ⟨?_, rfl⟩))
      rw [K.height]
    · simp only [K.size, K.height] at h hk
      have h1 := K.height_size a1
      have hd : decide ((a1.height : Int) > 0) = true := by simp; omega
      refine fn_in ?_; refine acl_in Try.func119 rfl isfn_119 (Nat.le_of_ble_eq_true rfl) (fun R hR => ?_); rw [Try.results119] at hR; refine wg_run ?_; (simp only [Try.f119, go_sem])
      repeat' (first | (first | (simp only [go_sem, hd]) | ((first | refine wd_split _ (fun hb => ?_) (fun hb => ?_) | refine wd_nwant _ (fun hb => ?_) (fun hb => ?_) | refine wm_nwant _ (fun hb => ?_) (fun hb => ?_) | refine wd_want _ (fun hb => ?_) (fun hb => ?_) | refine wm_want _ (fun hb => ?_) (fun hb => ?_) | refine wt_nwant _ (fun hb => ?_) (fun hb => ?_) | refine wt_want _ (fun hb => ?_) (fun hb => ?_)) <;> (simp only [go_sem, hb, hd])) | (refine wm_done ?_; (simp only [go_sem, hd])) | (refine wt_done ?_; (simp only [go_sem, hd])) | (refine wg_run ?_; (simp only [go_sem, hd])) | (refine wt_fork (by (simp only [go_sem]); first | done | rfl) ?_ ?_ <;> (simp only [go_sem, hd]))) | (first | (refine wl_next (wg_run ?_); (simp only [go_sem])) | refine wd_rounds 6 ?_) | (first | refine wd_fn (by (simp only [go_sem]); first | done | rfl) (ih a1 (by omega)) ?_ | refine wm_fn (by (simp only [go_sem]); first | done | rfl) (ih a1 (by omega)) (by (simp only [go_sem]); first | done | rfl) (by (simp only [go_sem]); first | done | rfl) ?_ | refine wt_fn (by (simp only [go_sem]); first | done | rfl) (ih a1 (by omega)) (by (simp only [go_sem]); first | done | rfl) (by (simp only [go_sem]); first | done | rfl) ?_); (simp only [go_sem]) | ((first | refine wd_mix 6 [] follows (by decide +kernel) (by (simp only [go_sem]); first | done | rfl) ?_ | refine wd_mix 5 [] follows (by decide +kernel) (by (simp only [go_sem]); first | done | rfl) ?_ | refine wd_mix 4 [] follows (by decide +kernel) (by (simp only [go_sem]); first | done | rfl) ?_ | refine wd_mix 3 [] follows (by decide +kernel) (by (simp only [go_sem]); first | done | rfl) ?_ | refine wd_mix 2 [] follows (by decide +kernel) (by (simp only [go_sem]); first | done | rfl) ?_ | refine wd_mix 1 [] follows (by decide +kernel) (by (simp only [go_sem]); first | done | rfl) ?_ | refine wd_mix 0 [] follows (by decide +kernel) (by (simp only [go_sem]); first | done | rfl) ?_ | fail); (simp only [go_sem])))
      (refine hR _ (ret_at [] (by (simp only [go_sem]); first | done | rfl) (by (simp only [go_sem]); first | done | rfl) ⟨?_, rfl⟩))
      rw [K.height]
    · refine fn_in ?_; refine acl_in Try.func119 rfl isfn_119 (Nat.le_of_ble_eq_true rfl) (fun R hR => ?_); rw [Try.results119] at hR; refine wg_run ?_; (simp only [Try.f119, go_sem])
      repeat' (first | (first | ((first | refine wd_split _ (fun hb => ?_) (fun hb => ?_) | refine wd_nwant _ (fun hb => ?_) (fun hb => ?_) | refine wm_nwant _ (fun hb => ?_) (fun hb => ?_) | refine wd_want _ (fun hb => ?_) (fun hb => ?_) | refine wm_want _ (fun hb => ?_) (fun hb => ?_) | refine wt_nwant _ (fun hb => ?_) (fun hb => ?_) | refine wt_want _ (fun hb => ?_) (fun hb => ?_)) <;> (simp only [go_sem, hb])) | (refine wm_done ?_; (simp only [go_sem])) | (refine wt_done ?_; (simp only [go_sem])) | (refine wg_run ?_; (simp only [go_sem])) | (refine wt_fork (by (simp only [go_sem]); first | done | rfl) ?_ ?_ <;> (simp only [go_sem]))) | (first | (refine wl_next (wg_run ?_); (simp only [go_sem])) | refine wd_rounds 6 ?_) | ((first | refine wd_mix 6 [] follows (by decide +kernel) (by (simp only [go_sem]); first | done | rfl) ?_ | refine wd_mix 5 [] follows (by decide +kernel) (by (simp only [go_sem]); first | done | rfl) ?_ | refine wd_mix 4 [] follows (by decide +kernel) (by (simp only [go_sem]); first | done | rfl) ?_ | refine wd_mix 3 [] follows (by decide +kernel) (by (simp only [go_sem]); first | done | rfl) ?_ | refine wd_mix 2 [] follows (by decide +kernel) (by (simp only [go_sem]); first | done | rfl) ?_ | refine wd_mix 1 [] follows (by decide +kernel) (by (simp only [go_sem]); first | done | rfl) ?_ | refine wd_mix 0 [] follows (by decide +kernel) (by (simp only [go_sem]); first | done | rfl) ?_ | fail); (simp only [go_sem])))
      (refine hR _ (ret_at [] (by (simp only [go_sem]); first | done | rfl) (by (simp only [go_sem]); first | done | rfl) ⟨rfl, rfl⟩))
end Go.Proofs.Ytchcbfbnffhifaa
