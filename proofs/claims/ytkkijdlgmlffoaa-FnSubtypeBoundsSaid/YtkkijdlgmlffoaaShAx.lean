/- The rules of a run on shadows, as rewrite rules. -/
import Derived.Test.YtkkijdlgmlffoaaShM
namespace Go.Proofs.Sh
open Go.RowKit

theorem look_at (t t' : Nat) (v : AV) (l : List (Nat × AV)) : look t ((t', v) :: l) = match t' == t with | true => some v | false => look t l := by
  rw [look]
  by_cases h : t' = t
  · simp [h]
  · rw [if_neg h, show (t' == t) = false from by simpa using h]
@[go_sem ↓] theorem ite_match {α : Sort _} (c : Prop) [Decidable c] (a b : α) : (if c then a else b) = (match decide c with | true => a | false => b) := by
  by_cases h : c <;> simp [h]
attribute [go_sem] look_at look.eq_1
@[go_sem] theorem rowsLen_nil (s : Nat) : rowsLen s [] = true := rfl
@[go_sem] theorem rowsLen_cons (s : Nat) (r : List C) (l : List (List C)) : rowsLen s (r :: l) = (r.length == s && rowsLen s l) := rfl
@[go_sem] theorem rowsLen_append (s : Nat) (l m : List (List C)) : rowsLen s (l ++ m) = (rowsLen s l && rowsLen s m) := by simp [rowsLen]
@[go_sem] theorem treeL_nil : treeL [] = true := rfl
@[go_sem] theorem treeL_cons (c : C) (l : List C) : treeL (c :: l) = (c.tree && treeL l) := rfl
@[go_sem] theorem treeL_append (l m : List C) : treeL (l ++ m) = (treeL l && treeL m) := by simp [treeL]
@[go_sem] theorem treeRows_nil : treeRows [] = true := rfl
@[go_sem] theorem treeRows_cons (c : List C) (l : List (List C)) : treeRows (c :: l) = (treeL c && treeRows l) := rfl
@[go_sem] theorem treeRows_append (l m : List (List C)) : treeRows (l ++ m) = (treeRows l && treeRows m) := by simp [treeRows]
attribute [go_sem] Nat.reduceLT Nat.reduceLeDiff Nat.reduceEqDiff Nat.reduceAdd Nat.reduceMul Nat.reduceSub Nat.reduceBEq Int.reduceLT Int.reduceLE Int.reduceGT Int.reduceGE Int.reduceToNat Int.reduceEq Int.reduceBEq Int.reduceBNe Int.reduceAdd Int.reduceSub Int.reduceNeg reduceIte reduceCtorEq decide_true decide_false beq_self_eq_true Int.toNat_natCast Int.natCast_nonneg
attribute [go_sem] Blk.frz Blk.dead ne_eq not_false_eq_true not_true_eq_false
theorem getElem?_app_len {α : Type} (l : List α) (x : α) : (l ++ [x])[l.length]? = some x := by simp

section
variable {P : Program} {N : Nat} {R : ASt → Prop}
@[go_sem] theorem dis_ret (s : ASt) : ADis P N R (.ret s) = R s := rfl
theorem dis_call (f : FuncId) (args : List AV) (h : List Blk) (dst : Option Tmp) (k : List Item) (s : ASt) : ADis P N R (.call f args h dst k s) = ∃ ks, ACalls P f args h ks (fun r h' => AGo P N R k .normal (ASt.put ⟨s.n, s.t, h'⟩ dst r)) := rfl
theorem dis_loop (c : Code) (k : List Item) (s : ASt) : ADis P N R (.loop c k s) = AGo P N R (.code (.loop c) :: k) .normal s := rfl
theorem dis_drawn (id : Nat) (l : List Oper) (k : List Item) (s : ASt) : ADis P N R (.drawn id l k s) = AGo P N R (.code (.region id l.toArray true) :: k) .normal s := rfl
@[go_sem] theorem dis_goal (I : ASt → Prop) (s : ASt) : ADis P N R (.goal I s) = I s := rfl
@[go_sem] theorem dis_bad (k : List Item) : ADis P N R (.bad k) = False := rfl
@[go_sem] theorem dis_fuel (k : List Item) (s : ASt) : ADis P N R (.fuel k s) = AGo P N R k .normal s := rfl
variable {c : MC} {K : Exit → ASt → Prop}
theorem mdis_done (s : ASt) : MDis P N c K (.done s) = K .normal s := rfl
theorem mdis_call (f : FuncId) (args : List AV) (o : Oper) (l : List Oper) (U : List Nat) (ok : Bool) (s : ASt) : MDis P N c K (.call f args o l U ok s) = ∃ ks, ((ok && ks.all c.ms.contains) || decide (l.length < c.f)) = true ∧ ACalls P f args s.h ks (fun r h' => AMix P N c l (addU o.dst U) (ok && ks.all c.ms.contains) (ASt.put ⟨s.n, s.t, h'⟩ o.dst r) K) := rfl
@[go_sem] theorem mdis_bad (k : List Oper) : MDis P N c K (.bad k) = False := rfl
end
attribute [go_sem] Op.operands Call.operands Array.toList_append Option.toArray_some Option.toArray_none List.append_toArray
attribute [go_sem] Bool.false_eq_true List.range_zero List.range_succ
attribute [go_sem] arun.eq_1 arun.eq_2 arun.eq_3 arun.eq_4 arun.eq_5 arun.eq_6 arun.eq_7 arun.eq_8 arun.eq_9 arun.eq_10 arun.eq_11 arun.eq_12 arun.eq_13 arun.eq_14 awant astep acond abr aop ASt.eval ares ared ares1 ares2 ASt.put wantedA AV.cells aload astore acells afield afieldAddr aindexAddr alen abound aslice abuild afill arow abuildSlice amakeSlice arows aappend caps vals acall abuiltin
  C.isConst splice aundef aint astr abin aun exitK aresult ares' slots prep prVs prV prL prC prCs prR prRs prH apart nodupB pos fz fzL fzRows C.tree frzAt AV.ren AV.renL C.ren C.renL renA renRows merge setAll back Blk.ren ASt.gets zipT
  mrun mwant mkind mload mloud mfree stabX stab addU offMs isNew loudOp readOp
  St.isMut St.known
attribute [go_sem] List.length_cons List.length_nil List.map_cons List.map_nil List.append_nil List.cons_append List.nil_append List.getElem?_cons_zero List.getElem?_cons_succ List.getElem?_nil List.set_cons_zero List.set_cons_succ List.drop_zero List.drop_succ_cons List.drop_nil List.take_zero List.take_succ_cons List.take_nil
  List.all_cons List.all_nil List.any_cons List.any_nil List.contains_cons List.contains_nil List.filter_cons List.filter_nil List.replicate_succ List.replicate_zero
  Option.bind_some Option.bind_none Option.getD_some Option.getD_none Option.map_some Option.map_none
  Bool.and_true Bool.true_and Bool.false_and Bool.and_false Bool.or_true Bool.true_or Bool.or_false Bool.false_or Bool.not_true Bool.not_false
  and_true true_and and_false false_and and_self or_true true_or
  Nat.zero_add Nat.add_zero List.length_append List.getElem?_drop
end Go.Proofs.Sh
