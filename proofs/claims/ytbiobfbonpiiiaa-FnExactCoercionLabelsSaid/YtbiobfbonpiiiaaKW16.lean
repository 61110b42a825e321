/- Texts of the proof, one behind another. -/
import Derived.Test.YtbiobfbonpiiiaaKW9
import Derived.Test.YtbiobfbonpiiiaaKW10
import Derived.Test.YtbiobfbonpiiiaaKW14
import Derived.Test.YtbiobfbonpiiiaaKW15
set_option linter.unusedSimpArgs false
set_option linter.unusedVariables false
/- Types: the program's checks, on shadows. -/
namespace Go.Proofs.Sh
open Go.Proofs.Grad
end Go.Proofs.Sh
namespace Go.Proofs.Ytbiobfbonpiiiaa
open Go.RowKit Go.Proofs.Sh Go.Proofs.Grad
set_option maxRecDepth 100000
set_option maxHeartbeats 4000000
end Go.Proofs.Ytbiobfbonpiiiaa
/- Types: validity in the program; checks behind validity. On shadows. -/
namespace Go.Proofs.Ytbiobfbonpiiiaa
open Go.RowKit Go.Proofs.Sh Go.Proofs.Grad
set_option maxRecDepth 100000
set_option maxHeartbeats 4000000
end Go.Proofs.Ytbiobfbonpiiiaa
/- Terms: validity as a form. No program, no world. -/
namespace Go.Proofs.Grad
end Go.Proofs.Grad
/- Terms: the program's checks, on shadows. -/
namespace Go.Proofs.Sh
open Go.Proofs.Grad
@[go_sem] theorem opN_1 : opN 1 = 0 := rfl
@[go_sem] theorem opN_2 : opN 2 = 0 := rfl
@[go_sem] theorem opN_3 : opN 3 = 0 := rfl
@[go_sem] theorem opN_4 : opN 4 = 0 := rfl
@[go_sem] theorem opN_5 : opN 5 = 1 := rfl
@[go_sem] theorem opN_6 : opN 6 = 2 := rfl
@[go_sem] theorem opN_7 : opN 7 = 2 := rfl
@[go_sem] theorem opN_8 : opN 8 = 2 := rfl
@[go_sem] theorem opN_9 : opN 9 = 3 := rfl
@[go_sem] theorem opN_10 : opN 10 = 2 := rfl
@[go_sem] theorem opN_11 : opN 11 = 1 := rfl
@[go_sem] theorem opN_12 : opN 12 = 1 := rfl
@[go_sem] theorem opN_13 : opN 13 = 1 := rfl
@[go_sem] theorem opN_14 : opN 14 = 1 := rfl
end Go.Proofs.Sh
namespace Go.Proofs.Grad
end Go.Proofs.Grad
namespace Go.Proofs.Ytbiobfbonpiiiaa
open Go.RowKit Go.Proofs.Sh Go.Proofs.Grad
set_option maxRecDepth 100000
set_option maxHeartbeats 8000000
end Go.Proofs.Ytbiobfbonpiiiaa
/- Terms: validity in the program, on shadows. -/
namespace Go.Proofs.Grad
end Go.Proofs.Grad
namespace Go.Proofs.Ytbiobfbonpiiiaa
open Go.RowKit Go.Proofs.Sh Go.Proofs.Grad
set_option maxRecDepth 100000
set_option maxHeartbeats 8000000
end Go.Proofs.Ytbiobfbonpiiiaa
/- Types: the relations of subtyping, on shadows. -/
namespace Go.Proofs.Sh
open Go.Proofs.Grad
@[go_sem] theorem ty_any_kind : T.any.ty.kind = 1 := rfl
@[go_sem] theorem ty_int_kind : T.int.ty.kind = 2 := rfl
@[go_sem] theorem ty_bool_kind : T.bool.ty.kind = 3 := rfl
@[go_sem] theorem ty_fn_kind (a b : T) : (T.fn a b).ty.kind = 4 := rfl
@[go_sem] theorem ty_pr_kind (a b : T) : (T.pr a b).ty.kind = 5 := rfl
@[go_sem] theorem ty_any_kids : T.any.ty.kids = [] := rfl
@[go_sem] theorem ty_int_kids : T.int.ty.kids = [] := rfl
@[go_sem] theorem ty_bool_kids : T.bool.ty.kids = [] := rfl
@[go_sem] theorem ty_fn_kids (a b : T) : (T.fn a b).ty.kids = [a.ty, b.ty] := rfl
@[go_sem] theorem ty_pr_kids (a b : T) : (T.pr a b).ty.kids = [a.ty, b.ty] := rfl
attribute [go_sem] T.ground
end Go.Proofs.Sh
namespace Go.Proofs.Ytbiobfbonpiiiaa
open Go.RowKit Go.Proofs.Sh Go.Proofs.Grad
set_option maxRecDepth 100000
set_option maxHeartbeats 4000000
theorem base (k : Int) : AFn Try.prog 111 [.one (.sc (.int .i64 k))] (.agg (tyC (.mk k []))) := by
  refine fn_in ?_; refine acl_in Try.func111 rfl isfn_111 (Nat.le_of_ble_eq_true rfl) (fun R hR => ?_); rw [Try.results111] at hR; refine wg_run ?_; (simp only [Try.f111, go_sem])
  (refine hR _ (rat [] (hK := ⟨rfl, rfl⟩)))
theorem both (k : Int) (a b : Ty) : AFn Try.prog 110 [.one (.sc (.int .i64 k)), .agg (tyC a), .agg (tyC b)] (.agg (tyC (.mk k [a, b]))) := by
  refine fn_in ?_; refine acl_in Try.func110 rfl isfn_110 (Nat.le_of_ble_eq_true rfl) (fun R hR => ?_); rw [Try.results110] at hR; refine wg_run ?_; (simp only [Try.f110, go_sem])
  (refine hR _ (rat [] (hK := ⟨rfl, rfl⟩)))
end Go.Proofs.Ytbiobfbonpiiiaa
/- Terms: the reference's checks, on shadows. -/
namespace Go.Proofs.Ytbiobfbonpiiiaa
open Go.RowKit Go.Proofs.Sh Go.Proofs.Grad
set_option maxRecDepth 100000
set_option maxHeartbeats 8000000
end Go.Proofs.Ytbiobfbonpiiiaa
/- Types: consistency in the reference, on shadows. -/
namespace Go.Proofs.Ytbiobfbonpiiiaa
open Go.RowKit Go.Proofs.Sh Go.Proofs.Grad
set_option maxRecDepth 100000
set_option maxHeartbeats 4000000
end Go.Proofs.Ytbiobfbonpiiiaa
/- Terms: validity in the reference, on shadows. -/
namespace Go.Proofs.Ytbiobfbonpiiiaa
open Go.RowKit Go.Proofs.Sh Go.Proofs.Grad
set_option maxRecDepth 100000
set_option maxHeartbeats 8000000
end Go.Proofs.Ytbiobfbonpiiiaa
/- Terms: the casts of a term, on shadows. -/
namespace Go.Proofs.Grad
def ownCast (t : Tm) : List Tm := match t.kind == 14 with | true => [t] | false => []
mutual
def Tm.castsL : Tm → List Tm | .mk k n m t f b l => ownCast (.mk k n m t f b l) ++ Tm.castsLs l
def Tm.castsLs : List Tm → List Tm | [] => [] | t :: l => t.castsL ++ Tm.castsLs l
end
end Go.Proofs.Grad
namespace Go.Proofs.Sh
attribute [go_sem] List.getD_cons_zero List.getD_cons_succ List.getD_nil
end Go.Proofs.Sh
namespace Go.Proofs.Ytbiobfbonpiiiaa
open Go.RowKit Go.Proofs.Sh Go.Proofs.Grad
set_option maxRecDepth 100000
set_option maxHeartbeats 8000000
end Go.Proofs.Ytbiobfbonpiiiaa
/- Terms: values, on shadows. -/
namespace Go.Proofs.Grad
end Go.Proofs.Grad
namespace Go.Proofs.Ytbiobfbonpiiiaa
open Go.RowKit Go.Proofs.Sh Go.Proofs.Grad
set_option maxRecDepth 100000
set_option maxHeartbeats 8000000
end Go.Proofs.Ytbiobfbonpiiiaa
/- Types: the relations of subtyping, on shadows (the program, SubPositive, SubNegative). -/
namespace Go.Proofs.Ytbiobfbonpiiiaa
open Go.RowKit Go.Proofs.Sh Go.Proofs.Grad
set_option maxRecDepth 100000
set_option maxHeartbeats 4000000
end Go.Proofs.Ytbiobfbonpiiiaa
/- Terms: safety for a label, on shadows. -/
namespace Go.Proofs.Grad
end Go.Proofs.Grad
namespace Go.Proofs.Ytbiobfbonpiiiaa
open Go.RowKit Go.Proofs.Sh Go.Proofs.Grad
set_option maxRecDepth 100000
set_option maxHeartbeats 8000000
end Go.Proofs.Ytbiobfbonpiiiaa
/- The labels of a term's casts. No program, no world. -/
namespace Go.Proofs.Grad
def E.labs : E → List Int
  | .var _ | .num _ | .tru | .fls => []
  | .lam _ _ a | .fst a | .snd a | .asc _ a => a.labs
  | .app a b | .add a b | .less a b | .pair a b => a.labs ++ b.labs
  | .ite a b c => a.labs ++ (b.labs ++ c.labs)
  | .cast _ _ l a => l :: a.labs
end Go.Proofs.Grad
/- The labels of terms' casts, in the program and in the reference. On shadows. -/
namespace Go.Proofs.Grad
/-- the labels of a term's casts -/
def Tm.labs (t : Tm) : List Int := t.castsL.map Tm.label
/-- the labels and their opposites that are not safe -/
def one1 (p : Int → Bool) (l : Int) : List Int := match p l with | true => [] | false => [l]
noncomputable def Tm.labsV (t : Tm) : List Int := match t.castV with | true => setL t.labs | false => []
end Go.Proofs.Grad
namespace Go.Proofs.Ytbiobfbonpiiiaa
open Go.RowKit Go.Proofs.Sh Go.Proofs.Grad
set_option maxRecDepth 100000
set_option maxHeartbeats 8000000
end Go.Proofs.Ytbiobfbonpiiiaa
