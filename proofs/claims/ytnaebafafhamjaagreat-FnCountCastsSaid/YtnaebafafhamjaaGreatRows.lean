/-
  NARROWER THAN 'FOR EVERY INPUT', by the rows' own cells (each row's printed sentence says how): FnExactEvalCast: loops.
  DERIVED. THE GIVEN ROWS OF THIS SEAT. 4 by the template 'for every input the law returns true; each argument reads behind the call as it read before'; 0 by the template 'total and deterministic' (their statements: YtnaebafafhamjaaGreatTotals.lean).
  GIVEN WITH THE SEED: the statements are not yours to turn. If you find one false, say at which input.
  Laid BY PROGRAM, IN A SANDBOX (cutbox-rows.mjs): the forced cells as the released guide's own fill.sh prints them over the translation ea99a53116e6802d… (all of the seat's roots in one cut). By AI agents, Wed Nov 11 2026. No macro, syntax, notation, axiom, sorry.
-/
import Derived.Test.YtnaebafafhamjaaGreatChecked
import GoSem.Claim
import GoSem.ClaimJoined
import GoSem.ClaimMapViews
import Derived.JoinedTies
import Derived.KernelRfl
namespace Go.Proofs.YtnaebafafhamjaaGreat
/- THE CELL 'sum', in the pinned program and in every row, IS THE sha256 OF THE DUMP (.gsa) THAT YtnaebafafhamjaaGreatProg.lean LOADS. Nothing in Lean hashes anything: it is a label: what it is worth is what the hold of that sum in a sandbox is worth. -/
noncomputable def Tryz.pinned : Pinned := { name := "ytnaebafafhamjaagreat", sum := "ea99a53116e6802dc44b2437adddfca85343f8b4190db99a4d09aa3d3a7244be", checked := Tryz.checked }
namespace Rows
def none {H : Type} : Left H := { results := [], args := [] }

/-- 'laws.FnPendingCasts': WHATEVER THE INPUT: true; the input reads as it did. -/
def fnPendingCastsSpec : ChangeSpec := { name := "fnPendingCasts", fn := fun _ => fun
  | [d] => { results := [.lit (.bool true)], args := [d] }
  | _ => none }
def fnPendingCastsRow : OpenClaim := { program := "ytnaebafafhamjaagreat", sum := "ea99a53116e6802dc44b2437adddfca85343f8b4190db99a4d09aa3d3a7244be", func := "loop.example/gradual/laws.FnPendingCasts", spec := "fnPendingCasts", unfollowed := true, recurses := true, apart := false }
def FnPendingCastsSaid : Prop := fnPendingCastsRow.holds Tryz.pinned (OpenSpec.ofChange fnPendingCastsSpec)

/-- ITS FALSE NEIGHBOUR: 'it returns false'. Refute it at one input. -/
def fnPendingCastsWrong : ChangeSpec := { name := "fnPendingCasts", fn := fun _ => fun
  | [d] => { results := [.lit (.bool false)], args := [d] }
  | _ => none }
def FnPendingCastsWrongFalsely : Prop := fnPendingCastsRow.holds Tryz.pinned (OpenSpec.ofChange fnPendingCastsWrong)

/-- 'laws.FnExactEvalCast': WHATEVER THE INPUT: true; the input reads as it did. -/
def fnExactEvalCastSpec : ChangeSpec := { name := "fnExactEvalCast", fn := fun _ => fun
  | [d1, d2] => { results := [.lit (.bool true)], args := [d1, d2] }
  | _ => none }
def fnExactEvalCastRow : OpenClaim := { program := "ytnaebafafhamjaagreat", sum := "ea99a53116e6802dc44b2437adddfca85343f8b4190db99a4d09aa3d3a7244be", func := "loop.example/gradual/laws.FnExactEvalCast", spec := "fnExactEvalCast", unfollowed := true, recurses := true, loops := true, apart := false }
def FnExactEvalCastSaid : Prop := fnExactEvalCastRow.holds Tryz.pinned (OpenSpec.ofChange fnExactEvalCastSpec)

/-- ITS FALSE NEIGHBOUR: 'it returns false'. Refute it at one input. -/
def fnExactEvalCastWrong : ChangeSpec := { name := "fnExactEvalCast", fn := fun _ => fun
  | [d1, d2] => { results := [.lit (.bool false)], args := [d1, d2] }
  | _ => none }
def FnExactEvalCastWrongFalsely : Prop := fnExactEvalCastRow.holds Tryz.pinned (OpenSpec.ofChange fnExactEvalCastWrong)

/-- 'laws.FnTermHeight': WHATEVER THE INPUT: true; the input reads as it did. -/
def fnTermHeightSpec : ChangeSpec := { name := "fnTermHeight", fn := fun _ => fun
  | [d] => { results := [.lit (.bool true)], args := [d] }
  | _ => none }
def fnTermHeightRow : OpenClaim := { program := "ytnaebafafhamjaagreat", sum := "ea99a53116e6802dc44b2437adddfca85343f8b4190db99a4d09aa3d3a7244be", func := "loop.example/gradual/laws.FnTermHeight", spec := "fnTermHeight", unfollowed := true, recurses := true, apart := false }
def FnTermHeightSaid : Prop := fnTermHeightRow.holds Tryz.pinned (OpenSpec.ofChange fnTermHeightSpec)

/-- ITS FALSE NEIGHBOUR: 'it returns false'. Refute it at one input. -/
def fnTermHeightWrong : ChangeSpec := { name := "fnTermHeight", fn := fun _ => fun
  | [d] => { results := [.lit (.bool false)], args := [d] }
  | _ => none }
def FnTermHeightWrongFalsely : Prop := fnTermHeightRow.holds Tryz.pinned (OpenSpec.ofChange fnTermHeightWrong)

/-- 'laws.FnCountCasts': WHATEVER THE INPUT: true; the input reads as it did. -/
def fnCountCastsSpec : ChangeSpec := { name := "fnCountCasts", fn := fun _ => fun
  | [d] => { results := [.lit (.bool true)], args := [d] }
  | _ => none }
def fnCountCastsRow : OpenClaim := { program := "ytnaebafafhamjaagreat", sum := "ea99a53116e6802dc44b2437adddfca85343f8b4190db99a4d09aa3d3a7244be", func := "loop.example/gradual/laws.FnCountCasts", spec := "fnCountCasts", unfollowed := true, recurses := true, apart := false }
def FnCountCastsSaid : Prop := fnCountCastsRow.holds Tryz.pinned (OpenSpec.ofChange fnCountCastsSpec)

/-- ITS FALSE NEIGHBOUR: 'it returns false'. Refute it at one input. -/
def fnCountCastsWrong : ChangeSpec := { name := "fnCountCasts", fn := fun _ => fun
  | [d] => { results := [.lit (.bool false)], args := [d] }
  | _ => none }
def FnCountCastsWrongFalsely : Prop := fnCountCastsRow.holds Tryz.pinned (OpenSpec.ofChange fnCountCastsWrong)

/- THE SECOND FORM. 'bulk': how many values and letters a reading holds, each counted each time it is reached (what is shared counts as often as it is met; a slice's spare places count too). A statement '..UptoSaid' is the law's where the arguments, and the package variables that the reading takes, are together of bulk at most 1048576: NARROWER than '..Said'. Prove '..Said' where nothing that the law and all that it calls make is longer than what came in: it says more and counts as full. Else prove '..UptoSaid'. A law counts once. -/
mutual
def uptoBulk {H : Type} : DataW H → Nat
  | .lit (.string bytes) => bytes.length + 1
  | .lit _ => 1
  | .nil => 1
  | .ptr d => uptoBulk d + 1
  | .slice elems spare => uptoBulkAll elems + uptoBulkAll spare + 1
  | .agg parts => uptoBulkAll parts + 1
  | .iface _ d => uptoBulk d + 1
  | .map entries => uptoBulkEntries entries + 1
  | .held _ => 1
def uptoBulkAll {H : Type} : List (DataW H) → Nat
  | [] => 0
  | d :: r => uptoBulk d + uptoBulkAll r
def uptoBulkEntries {H : Type} : List (Lit × DataW H) → Nat
  | [] => 0
  | x :: r => uptoBulkEntry x + uptoBulkEntries r
def uptoBulkEntry {H : Type} : Lit × DataW H → Nat
  | (.string bytes, d) => bytes.length + uptoBulk d + 1
  | (_, d) => uptoBulk d + 1
 end
def uptoSmall : (H : Type) → List (DataW H) → Bool := fun _ ds => decide (uptoBulkAll ds ≤ 1048576)
def OpenSpec.upto (s : _root_.Go.ChangeSpec) : _root_.Go.OpenSpec := { _root_.Go.OpenSpec.ofChange s with cond := some uptoSmall }

/-- 'laws.FnPendingCasts', WHERE WHAT IT READS IS OF BULK AT MOST 1048576: true; the input reads as it did. -/
def fnPendingCastsUptoRow : OpenClaim := { program := "ytnaebafafhamjaagreat", sum := "ea99a53116e6802dc44b2437adddfca85343f8b4190db99a4d09aa3d3a7244be", func := "loop.example/gradual/laws.FnPendingCasts", spec := "fnPendingCasts", unfollowed := true, recurses := true, apart := false, narrowed := true }
def FnPendingCastsUptoSaid : Prop := fnPendingCastsUptoRow.holds Tryz.pinned (OpenSpec.upto fnPendingCastsSpec)

/-- 'laws.FnExactEvalCast', WHERE WHAT IT READS IS OF BULK AT MOST 1048576: true; the input reads as it did. -/
def fnExactEvalCastUptoRow : OpenClaim := { program := "ytnaebafafhamjaagreat", sum := "ea99a53116e6802dc44b2437adddfca85343f8b4190db99a4d09aa3d3a7244be", func := "loop.example/gradual/laws.FnExactEvalCast", spec := "fnExactEvalCast", unfollowed := true, recurses := true, loops := true, apart := false, narrowed := true }
def FnExactEvalCastUptoSaid : Prop := fnExactEvalCastUptoRow.holds Tryz.pinned (OpenSpec.upto fnExactEvalCastSpec)

/-- 'laws.FnTermHeight', WHERE WHAT IT READS IS OF BULK AT MOST 1048576: true; the input reads as it did. -/
def fnTermHeightUptoRow : OpenClaim := { program := "ytnaebafafhamjaagreat", sum := "ea99a53116e6802dc44b2437adddfca85343f8b4190db99a4d09aa3d3a7244be", func := "loop.example/gradual/laws.FnTermHeight", spec := "fnTermHeight", unfollowed := true, recurses := true, apart := false, narrowed := true }
def FnTermHeightUptoSaid : Prop := fnTermHeightUptoRow.holds Tryz.pinned (OpenSpec.upto fnTermHeightSpec)

/-- 'laws.FnCountCasts', WHERE WHAT IT READS IS OF BULK AT MOST 1048576: true; the input reads as it did. -/
def fnCountCastsUptoRow : OpenClaim := { program := "ytnaebafafhamjaagreat", sum := "ea99a53116e6802dc44b2437adddfca85343f8b4190db99a4d09aa3d3a7244be", func := "loop.example/gradual/laws.FnCountCasts", spec := "fnCountCasts", unfollowed := true, recurses := true, apart := false, narrowed := true }
def FnCountCastsUptoSaid : Prop := fnCountCastsUptoRow.holds Tryz.pinned (OpenSpec.upto fnCountCastsSpec)

end Rows
end Go.Proofs.YtnaebafafhamjaaGreat
