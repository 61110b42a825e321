/-
  NARROWER THAN 'FOR EVERY INPUT', by the rows' own cells (each row's printed sentence says how): FnExactCountSteps: loops · FnExactPendingCasts: loops · FnExactStepCast: loops.
  DERIVED. THE GIVEN ROWS OF THIS SEAT. 5 by the template 'for every input the law returns true; each argument reads behind the call as it read before'; 0 by the template 'total and deterministic' (their statements: YtnaebafafhamjaaTotals.lean).
  GIVEN WITH THE SEED: the statements are not yours to turn. If you find one false, say at which input.
  Laid BY PROGRAM, IN A SANDBOX (cutbox-rows.mjs): the forced cells as the released guide's own fill.sh prints them over the translation 7a99c0ed2be25f80… (all of the seat's roots in one cut). By AI agents, Wed Nov 11 2026. No macro, syntax, notation, axiom, sorry.
-/
import Derived.Test.YtnaebafafhamjaaChecked
import GoSem.Claim
import GoSem.ClaimJoined
import GoSem.ClaimMapViews
import Derived.JoinedTies
import Derived.KernelRfl
namespace Go.Proofs.Ytnaebafafhamjaa
/- THE CELL 'sum', in the pinned program and in every row, IS THE sha256 OF THE DUMP (.gsa) THAT YtnaebafafhamjaaProg.lean LOADS. Nothing in Lean hashes anything: it is a label: what it is worth is what the hold of that sum in a sandbox is worth. -/
noncomputable def Try.pinned : Pinned := { name := "ytnaebafafhamjaa", sum := "7a99c0ed2be25f80182084232e383be46ecaa5c697aaf0c7f4e9d715f7c4182d", checked := Try.checked }
namespace Rows
def none {H : Type} : Left H := { results := [], args := [] }

/-- 'laws.FnMergeTerms': WHATEVER THE INPUT: true; the input reads as it did. -/
def fnMergeTermsSpec : ChangeSpec := { name := "fnMergeTerms", fn := fun _ => fun
  | [d] => { results := [.lit (.bool true)], args := [d] }
  | _ => none }
def fnMergeTermsRow : OpenClaim := { program := "ytnaebafafhamjaa", sum := "7a99c0ed2be25f80182084232e383be46ecaa5c697aaf0c7f4e9d715f7c4182d", func := "loop.example/gradual/laws.FnMergeTerms", spec := "fnMergeTerms", unfollowed := true, recurses := true, apart := false }
def FnMergeTermsSaid : Prop := fnMergeTermsRow.holds Try.pinned (OpenSpec.ofChange fnMergeTermsSpec)

/-- ITS FALSE NEIGHBOUR: 'it returns false'. Refute it at one input. -/
def fnMergeTermsWrong : ChangeSpec := { name := "fnMergeTerms", fn := fun _ => fun
  | [d] => { results := [.lit (.bool false)], args := [d] }
  | _ => none }
def FnMergeTermsWrongFalsely : Prop := fnMergeTermsRow.holds Try.pinned (OpenSpec.ofChange fnMergeTermsWrong)

/-- 'laws.FnExactCountSteps': WHATEVER THE INPUT: true; the input reads as it did. -/
def fnExactCountStepsSpec : ChangeSpec := { name := "fnExactCountSteps", fn := fun _ => fun
  | [d1, d2] => { results := [.lit (.bool true)], args := [d1, d2] }
  | _ => none }
def fnExactCountStepsRow : OpenClaim := { program := "ytnaebafafhamjaa", sum := "7a99c0ed2be25f80182084232e383be46ecaa5c697aaf0c7f4e9d715f7c4182d", func := "loop.example/gradual/laws.FnExactCountSteps", spec := "fnExactCountSteps", unfollowed := true, recurses := true, loops := true, apart := false }
def FnExactCountStepsSaid : Prop := fnExactCountStepsRow.holds Try.pinned (OpenSpec.ofChange fnExactCountStepsSpec)

/-- ITS FALSE NEIGHBOUR: 'it returns false'. Refute it at one input. -/
def fnExactCountStepsWrong : ChangeSpec := { name := "fnExactCountSteps", fn := fun _ => fun
  | [d1, d2] => { results := [.lit (.bool false)], args := [d1, d2] }
  | _ => none }
def FnExactCountStepsWrongFalsely : Prop := fnExactCountStepsRow.holds Try.pinned (OpenSpec.ofChange fnExactCountStepsWrong)

/-- 'laws.FnExactPendingCasts': WHATEVER THE INPUT: true; the input reads as it did. -/
def fnExactPendingCastsSpec : ChangeSpec := { name := "fnExactPendingCasts", fn := fun _ => fun
  | [d1, d2] => { results := [.lit (.bool true)], args := [d1, d2] }
  | _ => none }
def fnExactPendingCastsRow : OpenClaim := { program := "ytnaebafafhamjaa", sum := "7a99c0ed2be25f80182084232e383be46ecaa5c697aaf0c7f4e9d715f7c4182d", func := "loop.example/gradual/laws.FnExactPendingCasts", spec := "fnExactPendingCasts", unfollowed := true, recurses := true, loops := true, apart := false }
def FnExactPendingCastsSaid : Prop := fnExactPendingCastsRow.holds Try.pinned (OpenSpec.ofChange fnExactPendingCastsSpec)

/-- ITS FALSE NEIGHBOUR: 'it returns false'. Refute it at one input. -/
def fnExactPendingCastsWrong : ChangeSpec := { name := "fnExactPendingCasts", fn := fun _ => fun
  | [d1, d2] => { results := [.lit (.bool false)], args := [d1, d2] }
  | _ => none }
def FnExactPendingCastsWrongFalsely : Prop := fnExactPendingCastsRow.holds Try.pinned (OpenSpec.ofChange fnExactPendingCastsWrong)

/-- 'laws.FnSimplifyTwice': WHATEVER THE INPUT: true; the input reads as it did. -/
def fnSimplifyTwiceSpec : ChangeSpec := { name := "fnSimplifyTwice", fn := fun _ => fun
  | [d] => { results := [.lit (.bool true)], args := [d] }
  | _ => none }
def fnSimplifyTwiceRow : OpenClaim := { program := "ytnaebafafhamjaa", sum := "7a99c0ed2be25f80182084232e383be46ecaa5c697aaf0c7f4e9d715f7c4182d", func := "loop.example/gradual/laws.FnSimplifyTwice", spec := "fnSimplifyTwice", unfollowed := true, recurses := true, apart := false }
def FnSimplifyTwiceSaid : Prop := fnSimplifyTwiceRow.holds Try.pinned (OpenSpec.ofChange fnSimplifyTwiceSpec)

/-- ITS FALSE NEIGHBOUR: 'it returns false'. Refute it at one input. -/
def fnSimplifyTwiceWrong : ChangeSpec := { name := "fnSimplifyTwice", fn := fun _ => fun
  | [d] => { results := [.lit (.bool false)], args := [d] }
  | _ => none }
def FnSimplifyTwiceWrongFalsely : Prop := fnSimplifyTwiceRow.holds Try.pinned (OpenSpec.ofChange fnSimplifyTwiceWrong)

/-- 'laws.FnExactStepCast': WHATEVER THE INPUT: true; the input reads as it did. -/
def fnExactStepCastSpec : ChangeSpec := { name := "fnExactStepCast", fn := fun _ => fun
  | [d] => { results := [.lit (.bool true)], args := [d] }
  | _ => none }
def fnExactStepCastRow : OpenClaim := { program := "ytnaebafafhamjaa", sum := "7a99c0ed2be25f80182084232e383be46ecaa5c697aaf0c7f4e9d715f7c4182d", func := "loop.example/gradual/laws.FnExactStepCast", spec := "fnExactStepCast", unfollowed := true, recurses := true, loops := true, apart := false }
def FnExactStepCastSaid : Prop := fnExactStepCastRow.holds Try.pinned (OpenSpec.ofChange fnExactStepCastSpec)

/-- ITS FALSE NEIGHBOUR: 'it returns false'. Refute it at one input. -/
def fnExactStepCastWrong : ChangeSpec := { name := "fnExactStepCast", fn := fun _ => fun
  | [d] => { results := [.lit (.bool false)], args := [d] }
  | _ => none }
def FnExactStepCastWrongFalsely : Prop := fnExactStepCastRow.holds Try.pinned (OpenSpec.ofChange fnExactStepCastWrong)

/- THE SECOND FORM. 'bulk': how many values and letters a reading holds, each counted each time it is reached (what is shared counts as often as it is met; a slice's spare places count too). A statement '..UptoSaid' is the law's where the arguments, and the package variables that the reading takes, are together of bulk at most 1048576: NARROWER than '..Said'. Prove '..Said' where nothing that the law and all that it calls make is longer than what came in: it says more and counts as full. Else prove '..UptoSaid'. A law counts once. -/
mutual
def uptoBulk {H : Type} : DataW H → Nat
  | .lit (.string bytes) => bytes.length + 1
  | .lit _ => 1
  | .nil => 1
  | .ptr d => uptoBulk d + 1
  | .slice elems spare => uptoBulkAll elems + uptoBulkAll spare + 1
  | .agg parts => uptoBulkAll parts + 1
  | .iface _ d => uptoBulk d + 1
  | .map entries => uptoBulkEntries entries + 1
  | .held _ => 1
def uptoBulkAll {H : Type} : List (DataW H) → Nat
  | [] => 0
  | d :: r => uptoBulk d + uptoBulkAll r
def uptoBulkEntries {H : Type} : List (Lit × DataW H) → Nat
  | [] => 0
  | x :: r => uptoBulkEntry x + uptoBulkEntries r
def uptoBulkEntry {H : Type} : Lit × DataW H → Nat
  | (.string bytes, d) => bytes.length + uptoBulk d + 1
  | (_, d) => uptoBulk d + 1
 end
def uptoSmall : (H : Type) → List (DataW H) → Bool := fun _ ds => decide (uptoBulkAll ds ≤ 1048576)
def OpenSpec.upto (s : _root_.Go.ChangeSpec) : _root_.Go.OpenSpec := { _root_.Go.OpenSpec.ofChange s with cond := some uptoSmall }

/-- 'laws.FnMergeTerms', WHERE WHAT IT READS IS OF BULK AT MOST 1048576: true; the input reads as it did. -/
def fnMergeTermsUptoRow : OpenClaim := { program := "ytnaebafafhamjaa", sum := "7a99c0ed2be25f80182084232e383be46ecaa5c697aaf0c7f4e9d715f7c4182d", func := "loop.example/gradual/laws.FnMergeTerms", spec := "fnMergeTerms", unfollowed := true, recurses := true, apart := false, narrowed := true }
def FnMergeTermsUptoSaid : Prop := fnMergeTermsUptoRow.holds Try.pinned (OpenSpec.upto fnMergeTermsSpec)

/-- 'laws.FnExactCountSteps', WHERE WHAT IT READS IS OF BULK AT MOST 1048576: true; the input reads as it did. -/
def fnExactCountStepsUptoRow : OpenClaim := { program := "ytnaebafafhamjaa", sum := "7a99c0ed2be25f80182084232e383be46ecaa5c697aaf0c7f4e9d715f7c4182d", func := "loop.example/gradual/laws.FnExactCountSteps", spec := "fnExactCountSteps", unfollowed := true, recurses := true, loops := true, apart := false, narrowed := true }
def FnExactCountStepsUptoSaid : Prop := fnExactCountStepsUptoRow.holds Try.pinned (OpenSpec.upto fnExactCountStepsSpec)

/-- 'laws.FnExactPendingCasts', WHERE WHAT IT READS IS OF BULK AT MOST 1048576: true; the input reads as it did. -/
def fnExactPendingCastsUptoRow : OpenClaim := { program := "ytnaebafafhamjaa", sum := "7a99c0ed2be25f80182084232e383be46ecaa5c697aaf0c7f4e9d715f7c4182d", func := "loop.example/gradual/laws.FnExactPendingCasts", spec := "fnExactPendingCasts", unfollowed := true, recurses := true, loops := true, apart := false, narrowed := true }
def FnExactPendingCastsUptoSaid : Prop := fnExactPendingCastsUptoRow.holds Try.pinned (OpenSpec.upto fnExactPendingCastsSpec)

/-- 'laws.FnSimplifyTwice', WHERE WHAT IT READS IS OF BULK AT MOST 1048576: true; the input reads as it did. -/
def fnSimplifyTwiceUptoRow : OpenClaim := { program := "ytnaebafafhamjaa", sum := "7a99c0ed2be25f80182084232e383be46ecaa5c697aaf0c7f4e9d715f7c4182d", func := "loop.example/gradual/laws.FnSimplifyTwice", spec := "fnSimplifyTwice", unfollowed := true, recurses := true, apart := false, narrowed := true }
def FnSimplifyTwiceUptoSaid : Prop := fnSimplifyTwiceUptoRow.holds Try.pinned (OpenSpec.upto fnSimplifyTwiceSpec)

/-- 'laws.FnExactStepCast', WHERE WHAT IT READS IS OF BULK AT MOST 1048576: true; the input reads as it did. -/
def fnExactStepCastUptoRow : OpenClaim := { program := "ytnaebafafhamjaa", sum := "7a99c0ed2be25f80182084232e383be46ecaa5c697aaf0c7f4e9d715f7c4182d", func := "loop.example/gradual/laws.FnExactStepCast", spec := "fnExactStepCast", unfollowed := true, recurses := true, loops := true, apart := false, narrowed := true }
def FnExactStepCastUptoSaid : Prop := fnExactStepCastUptoRow.holds Try.pinned (OpenSpec.upto fnExactStepCastSpec)

end Rows
end Go.Proofs.Ytnaebafafhamjaa
