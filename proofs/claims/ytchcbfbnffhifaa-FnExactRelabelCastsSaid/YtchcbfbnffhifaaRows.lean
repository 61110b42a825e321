/-
  NARROWER THAN 'FOR EVERY INPUT', by the rows' own cells (each row's printed sentence says how): FnExactCountSlots: loops · FnExactCountCasts: loops · FnExactPrecisionOf: loops · FnExactIsValue: loops · FnExactSafeFor: loops · FnExactRedundantCasts: loops · FnExactTermHeight: loops · FnExactWrapTerm: loops · FnExactEmbedTerm: loops · FnExactDynamicCasts: loops · FnExactBlurTerm: loops · FnExactRelabelCasts: loops.
  DERIVED. THE GIVEN ROWS OF THIS SEAT. 12 by the template 'for every input the law returns true; each argument reads behind the call as it read before'; 0 by the template 'total and deterministic' (their statements: YtchcbfbnffhifaaTotals.lean).
  GIVEN WITH THE SEED: the statements are not yours to turn. If you find one false, say at which input.
  Laid BY PROGRAM, IN A SANDBOX (cutbox-rows.mjs): the forced cells as the released guide's own fill.sh prints them over the translation 9b7350329b5a1faa… (all of the seat's roots in one cut). By AI agents, Wed Nov 11 2026. No macro, syntax, notation, axiom, sorry.
-/
import Derived.Test.YtchcbfbnffhifaaChecked
import GoSem.Claim
import GoSem.ClaimJoined
import GoSem.ClaimMapViews
import Derived.JoinedTies
import Derived.KernelRfl
namespace Go.Proofs.Ytchcbfbnffhifaa
/- THE CELL 'sum', in the pinned program and in every row, IS THE sha256 OF THE DUMP (.gsa) THAT YtchcbfbnffhifaaProg.lean LOADS. Nothing in Lean hashes anything: it is a label: what it is worth is what the hold of that sum in a sandbox is worth. -/
noncomputable def Try.pinned : Pinned := { name := "ytchcbfbnffhifaa", sum := "9b7350329b5a1faad33a7a2071c13f0f67af7f99f241df2e2e76bc26e4ddb5e1", checked := Try.checked }
namespace Rows
def none {H : Type} : Left H := { results := [], args := [] }

/-- 'laws.FnExactCountSlots': WHATEVER THE INPUT: true; the input reads as it did. -/
def fnExactCountSlotsSpec : ChangeSpec := { name := "fnExactCountSlots", fn := fun _ => fun
  | [d] => { results := [.lit (.bool true)], args := [d] }
  | _ => none }
def fnExactCountSlotsRow : OpenClaim := { program := "ytchcbfbnffhifaa", sum := "9b7350329b5a1faad33a7a2071c13f0f67af7f99f241df2e2e76bc26e4ddb5e1", func := "loop.example/gradual/laws.FnExactCountSlots", spec := "fnExactCountSlots", unfollowed := true, recurses := true, loops := true, apart := false }
def FnExactCountSlotsSaid : Prop := fnExactCountSlotsRow.holds Try.pinned (OpenSpec.ofChange fnExactCountSlotsSpec)

/-- ITS FALSE NEIGHBOUR: 'it returns false'. Refute it at one input. -/
def fnExactCountSlotsWrong : ChangeSpec := { name := "fnExactCountSlots", fn := fun _ => fun
  | [d] => { results := [.lit (.bool false)], args := [d] }
  | _ => none }
def FnExactCountSlotsWrongFalsely : Prop := fnExactCountSlotsRow.holds Try.pinned (OpenSpec.ofChange fnExactCountSlotsWrong)

/-- 'laws.FnExactCountCasts': WHATEVER THE INPUT: true; the input reads as it did. -/
def fnExactCountCastsSpec : ChangeSpec := { name := "fnExactCountCasts", fn := fun _ => fun
  | [d] => { results := [.lit (.bool true)], args := [d] }
  | _ => none }
def fnExactCountCastsRow : OpenClaim := { program := "ytchcbfbnffhifaa", sum := "9b7350329b5a1faad33a7a2071c13f0f67af7f99f241df2e2e76bc26e4ddb5e1", func := "loop.example/gradual/laws.FnExactCountCasts", spec := "fnExactCountCasts", unfollowed := true, recurses := true, loops := true, apart := false }
def FnExactCountCastsSaid : Prop := fnExactCountCastsRow.holds Try.pinned (OpenSpec.ofChange fnExactCountCastsSpec)

/-- ITS FALSE NEIGHBOUR: 'it returns false'. Refute it at one input. -/
def fnExactCountCastsWrong : ChangeSpec := { name := "fnExactCountCasts", fn := fun _ => fun
  | [d] => { results := [.lit (.bool false)], args := [d] }
  | _ => none }
def FnExactCountCastsWrongFalsely : Prop := fnExactCountCastsRow.holds Try.pinned (OpenSpec.ofChange fnExactCountCastsWrong)

/-- 'laws.FnExactPrecisionOf': WHATEVER THE INPUT: true; the input reads as it did. -/
def fnExactPrecisionOfSpec : ChangeSpec := { name := "fnExactPrecisionOf", fn := fun _ => fun
  | [d] => { results := [.lit (.bool true)], args := [d] }
  | _ => none }
def fnExactPrecisionOfRow : OpenClaim := { program := "ytchcbfbnffhifaa", sum := "9b7350329b5a1faad33a7a2071c13f0f67af7f99f241df2e2e76bc26e4ddb5e1", func := "loop.example/gradual/laws.FnExactPrecisionOf", spec := "fnExactPrecisionOf", unfollowed := true, recurses := true, loops := true, apart := false }
def FnExactPrecisionOfSaid : Prop := fnExactPrecisionOfRow.holds Try.pinned (OpenSpec.ofChange fnExactPrecisionOfSpec)

/-- ITS FALSE NEIGHBOUR: 'it returns false'. Refute it at one input. -/
def fnExactPrecisionOfWrong : ChangeSpec := { name := "fnExactPrecisionOf", fn := fun _ => fun
  | [d] => { results := [.lit (.bool false)], args := [d] }
  | _ => none }
def FnExactPrecisionOfWrongFalsely : Prop := fnExactPrecisionOfRow.holds Try.pinned (OpenSpec.ofChange fnExactPrecisionOfWrong)

/-- 'laws.FnExactIsValue': WHATEVER THE INPUT: true; the input reads as it did. -/
def fnExactIsValueSpec : ChangeSpec := { name := "fnExactIsValue", fn := fun _ => fun
  | [d] => { results := [.lit (.bool true)], args := [d] }
  | _ => none }
def fnExactIsValueRow : OpenClaim := { program := "ytchcbfbnffhifaa", sum := "9b7350329b5a1faad33a7a2071c13f0f67af7f99f241df2e2e76bc26e4ddb5e1", func := "loop.example/gradual/laws.FnExactIsValue", spec := "fnExactIsValue", unfollowed := true, recurses := true, loops := true, apart := false }
def FnExactIsValueSaid : Prop := fnExactIsValueRow.holds Try.pinned (OpenSpec.ofChange fnExactIsValueSpec)

/-- ITS FALSE NEIGHBOUR: 'it returns false'. Refute it at one input. -/
def fnExactIsValueWrong : ChangeSpec := { name := "fnExactIsValue", fn := fun _ => fun
  | [d] => { results := [.lit (.bool false)], args := [d] }
  | _ => none }
def FnExactIsValueWrongFalsely : Prop := fnExactIsValueRow.holds Try.pinned (OpenSpec.ofChange fnExactIsValueWrong)

/-- 'laws.FnExactSafeFor': WHATEVER THE INPUT: true; the input reads as it did. -/
def fnExactSafeForSpec : ChangeSpec := { name := "fnExactSafeFor", fn := fun _ => fun
  | [d1, d2] => { results := [.lit (.bool true)], args := [d1, d2] }
  | _ => none }
def fnExactSafeForRow : OpenClaim := { program := "ytchcbfbnffhifaa", sum := "9b7350329b5a1faad33a7a2071c13f0f67af7f99f241df2e2e76bc26e4ddb5e1", func := "loop.example/gradual/laws.FnExactSafeFor", spec := "fnExactSafeFor", unfollowed := true, recurses := true, loops := true, apart := false }
def FnExactSafeForSaid : Prop := fnExactSafeForRow.holds Try.pinned (OpenSpec.ofChange fnExactSafeForSpec)

/-- ITS FALSE NEIGHBOUR: 'it returns false'. Refute it at one input. -/
def fnExactSafeForWrong : ChangeSpec := { name := "fnExactSafeFor", fn := fun _ => fun
  | [d1, d2] => { results := [.lit (.bool false)], args := [d1, d2] }
  | _ => none }
def FnExactSafeForWrongFalsely : Prop := fnExactSafeForRow.holds Try.pinned (OpenSpec.ofChange fnExactSafeForWrong)

/-- 'laws.FnExactRedundantCasts': WHATEVER THE INPUT: true; the input reads as it did. -/
def fnExactRedundantCastsSpec : ChangeSpec := { name := "fnExactRedundantCasts", fn := fun _ => fun
  | [d] => { results := [.lit (.bool true)], args := [d] }
  | _ => none }
def fnExactRedundantCastsRow : OpenClaim := { program := "ytchcbfbnffhifaa", sum := "9b7350329b5a1faad33a7a2071c13f0f67af7f99f241df2e2e76bc26e4ddb5e1", func := "loop.example/gradual/laws.FnExactRedundantCasts", spec := "fnExactRedundantCasts", unfollowed := true, recurses := true, loops := true, apart := false }
def FnExactRedundantCastsSaid : Prop := fnExactRedundantCastsRow.holds Try.pinned (OpenSpec.ofChange fnExactRedundantCastsSpec)

/-- ITS FALSE NEIGHBOUR: 'it returns false'. Refute it at one input. -/
def fnExactRedundantCastsWrong : ChangeSpec := { name := "fnExactRedundantCasts", fn := fun _ => fun
  | [d] => { results := [.lit (.bool false)], args := [d] }
  | _ => none }
def FnExactRedundantCastsWrongFalsely : Prop := fnExactRedundantCastsRow.holds Try.pinned (OpenSpec.ofChange fnExactRedundantCastsWrong)

/-- 'laws.FnExactTermHeight': WHATEVER THE INPUT: true; the input reads as it did. -/
def fnExactTermHeightSpec : ChangeSpec := { name := "fnExactTermHeight", fn := fun _ => fun
  | [d] => { results := [.lit (.bool true)], args := [d] }
  | _ => none }
def fnExactTermHeightRow : OpenClaim := { program := "ytchcbfbnffhifaa", sum := "9b7350329b5a1faad33a7a2071c13f0f67af7f99f241df2e2e76bc26e4ddb5e1", func := "loop.example/gradual/laws.FnExactTermHeight", spec := "fnExactTermHeight", unfollowed := true, recurses := true, loops := true, apart := false }
def FnExactTermHeightSaid : Prop := fnExactTermHeightRow.holds Try.pinned (OpenSpec.ofChange fnExactTermHeightSpec)

/-- ITS FALSE NEIGHBOUR: 'it returns false'. Refute it at one input. -/
def fnExactTermHeightWrong : ChangeSpec := { name := "fnExactTermHeight", fn := fun _ => fun
  | [d] => { results := [.lit (.bool false)], args := [d] }
  | _ => none }
def FnExactTermHeightWrongFalsely : Prop := fnExactTermHeightRow.holds Try.pinned (OpenSpec.ofChange fnExactTermHeightWrong)

/-- 'laws.FnExactWrapTerm': WHATEVER THE INPUT: true; the input reads as it did. -/
def fnExactWrapTermSpec : ChangeSpec := { name := "fnExactWrapTerm", fn := fun _ => fun
  | [d] => { results := [.lit (.bool true)], args := [d] }
  | _ => none }
def fnExactWrapTermRow : OpenClaim := { program := "ytchcbfbnffhifaa", sum := "9b7350329b5a1faad33a7a2071c13f0f67af7f99f241df2e2e76bc26e4ddb5e1", func := "loop.example/gradual/laws.FnExactWrapTerm", spec := "fnExactWrapTerm", unfollowed := true, recurses := true, loops := true, apart := false }
def FnExactWrapTermSaid : Prop := fnExactWrapTermRow.holds Try.pinned (OpenSpec.ofChange fnExactWrapTermSpec)

/-- ITS FALSE NEIGHBOUR: 'it returns false'. Refute it at one input. -/
def fnExactWrapTermWrong : ChangeSpec := { name := "fnExactWrapTerm", fn := fun _ => fun
  | [d] => { results := [.lit (.bool false)], args := [d] }
  | _ => none }
def FnExactWrapTermWrongFalsely : Prop := fnExactWrapTermRow.holds Try.pinned (OpenSpec.ofChange fnExactWrapTermWrong)

/-- 'laws.FnExactEmbedTerm': WHATEVER THE INPUT: true; the input reads as it did. -/
def fnExactEmbedTermSpec : ChangeSpec := { name := "fnExactEmbedTerm", fn := fun _ => fun
  | [d] => { results := [.lit (.bool true)], args := [d] }
  | _ => none }
def fnExactEmbedTermRow : OpenClaim := { program := "ytchcbfbnffhifaa", sum := "9b7350329b5a1faad33a7a2071c13f0f67af7f99f241df2e2e76bc26e4ddb5e1", func := "loop.example/gradual/laws.FnExactEmbedTerm", spec := "fnExactEmbedTerm", unfollowed := true, recurses := true, loops := true, apart := false }
def FnExactEmbedTermSaid : Prop := fnExactEmbedTermRow.holds Try.pinned (OpenSpec.ofChange fnExactEmbedTermSpec)

/-- ITS FALSE NEIGHBOUR: 'it returns false'. Refute it at one input. -/
def fnExactEmbedTermWrong : ChangeSpec := { name := "fnExactEmbedTerm", fn := fun _ => fun
  | [d] => { results := [.lit (.bool false)], args := [d] }
  | _ => none }
def FnExactEmbedTermWrongFalsely : Prop := fnExactEmbedTermRow.holds Try.pinned (OpenSpec.ofChange fnExactEmbedTermWrong)

/-- 'laws.FnExactDynamicCasts': WHATEVER THE INPUT: true; the input reads as it did. -/
def fnExactDynamicCastsSpec : ChangeSpec := { name := "fnExactDynamicCasts", fn := fun _ => fun
  | [d] => { results := [.lit (.bool true)], args := [d] }
  | _ => none }
def fnExactDynamicCastsRow : OpenClaim := { program := "ytchcbfbnffhifaa", sum := "9b7350329b5a1faad33a7a2071c13f0f67af7f99f241df2e2e76bc26e4ddb5e1", func := "loop.example/gradual/laws.FnExactDynamicCasts", spec := "fnExactDynamicCasts", unfollowed := true, recurses := true, loops := true, apart := false }
def FnExactDynamicCastsSaid : Prop := fnExactDynamicCastsRow.holds Try.pinned (OpenSpec.ofChange fnExactDynamicCastsSpec)

/-- ITS FALSE NEIGHBOUR: 'it returns false'. Refute it at one input. -/
def fnExactDynamicCastsWrong : ChangeSpec := { name := "fnExactDynamicCasts", fn := fun _ => fun
  | [d] => { results := [.lit (.bool false)], args := [d] }
  | _ => none }
def FnExactDynamicCastsWrongFalsely : Prop := fnExactDynamicCastsRow.holds Try.pinned (OpenSpec.ofChange fnExactDynamicCastsWrong)

/-- 'laws.FnExactBlurTerm': WHATEVER THE INPUT: true; the input reads as it did. -/
def fnExactBlurTermSpec : ChangeSpec := { name := "fnExactBlurTerm", fn := fun _ => fun
  | [d1, d2] => { results := [.lit (.bool true)], args := [d1, d2] }
  | _ => none }
def fnExactBlurTermRow : OpenClaim := { program := "ytchcbfbnffhifaa", sum := "9b7350329b5a1faad33a7a2071c13f0f67af7f99f241df2e2e76bc26e4ddb5e1", func := "loop.example/gradual/laws.FnExactBlurTerm", spec := "fnExactBlurTerm", unfollowed := true, recurses := true, loops := true, apart := false }
def FnExactBlurTermSaid : Prop := fnExactBlurTermRow.holds Try.pinned (OpenSpec.ofChange fnExactBlurTermSpec)

/-- ITS FALSE NEIGHBOUR: 'it returns false'. Refute it at one input. -/
def fnExactBlurTermWrong : ChangeSpec := { name := "fnExactBlurTerm", fn := fun _ => fun
  | [d1, d2] => { results := [.lit (.bool false)], args := [d1, d2] }
  | _ => none }
def FnExactBlurTermWrongFalsely : Prop := fnExactBlurTermRow.holds Try.pinned (OpenSpec.ofChange fnExactBlurTermWrong)

/-- 'laws.FnExactRelabelCasts': WHATEVER THE INPUT: true; the input reads as it did. -/
def fnExactRelabelCastsSpec : ChangeSpec := { name := "fnExactRelabelCasts", fn := fun _ => fun
  | [d] => { results := [.lit (.bool true)], args := [d] }
  | _ => none }
def fnExactRelabelCastsRow : OpenClaim := { program := "ytchcbfbnffhifaa", sum := "9b7350329b5a1faad33a7a2071c13f0f67af7f99f241df2e2e76bc26e4ddb5e1", func := "loop.example/gradual/laws.FnExactRelabelCasts", spec := "fnExactRelabelCasts", unfollowed := true, recurses := true, loops := true, apart := false }
def FnExactRelabelCastsSaid : Prop := fnExactRelabelCastsRow.holds Try.pinned (OpenSpec.ofChange fnExactRelabelCastsSpec)

/-- ITS FALSE NEIGHBOUR: 'it returns false'. Refute it at one input. -/
def fnExactRelabelCastsWrong : ChangeSpec := { name := "fnExactRelabelCasts", fn := fun _ => fun
  | [d] => { results := [.lit (.bool false)], args := [d] }
  | _ => none }
def FnExactRelabelCastsWrongFalsely : Prop := fnExactRelabelCastsRow.holds Try.pinned (OpenSpec.ofChange fnExactRelabelCastsWrong)

/- THE SECOND FORM. 'bulk': how many values and letters a reading holds, each counted each time it is reached (what is shared counts as often as it is met; a slice's spare places count too). A statement '..UptoSaid' is the law's where the arguments, and the package variables that the reading takes, are together of bulk at most 1048576: NARROWER than '..Said'. Prove '..Said' where nothing that the law and all that it calls make is longer than what came in: it says more and counts as full. Else prove '..UptoSaid'. A law counts once. -/
mutual
def uptoBulk {H : Type} : DataW H → Nat
  | .lit (.string bytes) => bytes.length + 1
  | .lit _ => 1
  | .nil => 1
  | .ptr d => uptoBulk d + 1
  | .slice elems spare => uptoBulkAll elems + uptoBulkAll spare + 1
  | .agg parts => uptoBulkAll parts + 1
  | .iface _ d => uptoBulk d + 1
  | .map entries => uptoBulkEntries entries + 1
  | .held _ => 1
def uptoBulkAll {H : Type} : List (DataW H) → Nat
  | [] => 0
  | d :: r => uptoBulk d + uptoBulkAll r
def uptoBulkEntries {H : Type} : List (Lit × DataW H) → Nat
  | [] => 0
  | x :: r => uptoBulkEntry x + uptoBulkEntries r
def uptoBulkEntry {H : Type} : Lit × DataW H → Nat
  | (.string bytes, d) => bytes.length + uptoBulk d + 1
  | (_, d) => uptoBulk d + 1
 end
def uptoSmall : (H : Type) → List (DataW H) → Bool := fun _ ds => decide (uptoBulkAll ds ≤ 1048576)
def OpenSpec.upto (s : _root_.Go.ChangeSpec) : _root_.Go.OpenSpec := { _root_.Go.OpenSpec.ofChange s with cond := some uptoSmall }

/-- 'laws.FnExactCountSlots', WHERE WHAT IT READS IS OF BULK AT MOST 1048576: true; the input reads as it did. -/
def fnExactCountSlotsUptoRow : OpenClaim := { program := "ytchcbfbnffhifaa", sum := "9b7350329b5a1faad33a7a2071c13f0f67af7f99f241df2e2e76bc26e4ddb5e1", func := "loop.example/gradual/laws.FnExactCountSlots", spec := "fnExactCountSlots", unfollowed := true, recurses := true, loops := true, apart := false, narrowed := true }
def FnExactCountSlotsUptoSaid : Prop := fnExactCountSlotsUptoRow.holds Try.pinned (OpenSpec.upto fnExactCountSlotsSpec)

/-- 'laws.FnExactCountCasts', WHERE WHAT IT READS IS OF BULK AT MOST 1048576: true; the input reads as it did. -/
def fnExactCountCastsUptoRow : OpenClaim := { program := "ytchcbfbnffhifaa", sum := "9b7350329b5a1faad33a7a2071c13f0f67af7f99f241df2e2e76bc26e4ddb5e1", func := "loop.example/gradual/laws.FnExactCountCasts", spec := "fnExactCountCasts", unfollowed := true, recurses := true, loops := true, apart := false, narrowed := true }
def FnExactCountCastsUptoSaid : Prop := fnExactCountCastsUptoRow.holds Try.pinned (OpenSpec.upto fnExactCountCastsSpec)

/-- 'laws.FnExactPrecisionOf', WHERE WHAT IT READS IS OF BULK AT MOST 1048576: true; the input reads as it did. -/
def fnExactPrecisionOfUptoRow : OpenClaim := { program := "ytchcbfbnffhifaa", sum := "9b7350329b5a1faad33a7a2071c13f0f67af7f99f241df2e2e76bc26e4ddb5e1", func := "loop.example/gradual/laws.FnExactPrecisionOf", spec := "fnExactPrecisionOf", unfollowed := true, recurses := true, loops := true, apart := false, narrowed := true }
def FnExactPrecisionOfUptoSaid : Prop := fnExactPrecisionOfUptoRow.holds Try.pinned (OpenSpec.upto fnExactPrecisionOfSpec)

/-- 'laws.FnExactIsValue', WHERE WHAT IT READS IS OF BULK AT MOST 1048576: true; the input reads as it did. -/
def fnExactIsValueUptoRow : OpenClaim := { program := "ytchcbfbnffhifaa", sum := "9b7350329b5a1faad33a7a2071c13f0f67af7f99f241df2e2e76bc26e4ddb5e1", func := "loop.example/gradual/laws.FnExactIsValue", spec := "fnExactIsValue", unfollowed := true, recurses := true, loops := true, apart := false, narrowed := true }
def FnExactIsValueUptoSaid : Prop := fnExactIsValueUptoRow.holds Try.pinned (OpenSpec.upto fnExactIsValueSpec)

/-- 'laws.FnExactSafeFor', WHERE WHAT IT READS IS OF BULK AT MOST 1048576: true; the input reads as it did. -/
def fnExactSafeForUptoRow : OpenClaim := { program := "ytchcbfbnffhifaa", sum := "9b7350329b5a1faad33a7a2071c13f0f67af7f99f241df2e2e76bc26e4ddb5e1", func := "loop.example/gradual/laws.FnExactSafeFor", spec := "fnExactSafeFor", unfollowed := true, recurses := true, loops := true, apart := false, narrowed := true }
def FnExactSafeForUptoSaid : Prop := fnExactSafeForUptoRow.holds Try.pinned (OpenSpec.upto fnExactSafeForSpec)

/-- 'laws.FnExactRedundantCasts', WHERE WHAT IT READS IS OF BULK AT MOST 1048576: true; the input reads as it did. -/
def fnExactRedundantCastsUptoRow : OpenClaim := { program := "ytchcbfbnffhifaa", sum := "9b7350329b5a1faad33a7a2071c13f0f67af7f99f241df2e2e76bc26e4ddb5e1", func := "loop.example/gradual/laws.FnExactRedundantCasts", spec := "fnExactRedundantCasts", unfollowed := true, recurses := true, loops := true, apart := false, narrowed := true }
def FnExactRedundantCastsUptoSaid : Prop := fnExactRedundantCastsUptoRow.holds Try.pinned (OpenSpec.upto fnExactRedundantCastsSpec)

/-- 'laws.FnExactTermHeight', WHERE WHAT IT READS IS OF BULK AT MOST 1048576: true; the input reads as it did. -/
def fnExactTermHeightUptoRow : OpenClaim := { program := "ytchcbfbnffhifaa", sum := "9b7350329b5a1faad33a7a2071c13f0f67af7f99f241df2e2e76bc26e4ddb5e1", func := "loop.example/gradual/laws.FnExactTermHeight", spec := "fnExactTermHeight", unfollowed := true, recurses := true, loops := true, apart := false, narrowed := true }
def FnExactTermHeightUptoSaid : Prop := fnExactTermHeightUptoRow.holds Try.pinned (OpenSpec.upto fnExactTermHeightSpec)

/-- 'laws.FnExactWrapTerm', WHERE WHAT IT READS IS OF BULK AT MOST 1048576: true; the input reads as it did. -/
def fnExactWrapTermUptoRow : OpenClaim := { program := "ytchcbfbnffhifaa", sum := "9b7350329b5a1faad33a7a2071c13f0f67af7f99f241df2e2e76bc26e4ddb5e1", func := "loop.example/gradual/laws.FnExactWrapTerm", spec := "fnExactWrapTerm", unfollowed := true, recurses := true, loops := true, apart := false, narrowed := true }
def FnExactWrapTermUptoSaid : Prop := fnExactWrapTermUptoRow.holds Try.pinned (OpenSpec.upto fnExactWrapTermSpec)

/-- 'laws.FnExactEmbedTerm', WHERE WHAT IT READS IS OF BULK AT MOST 1048576: true; the input reads as it did. -/
def fnExactEmbedTermUptoRow : OpenClaim := { program := "ytchcbfbnffhifaa", sum := "9b7350329b5a1faad33a7a2071c13f0f67af7f99f241df2e2e76bc26e4ddb5e1", func := "loop.example/gradual/laws.FnExactEmbedTerm", spec := "fnExactEmbedTerm", unfollowed := true, recurses := true, loops := true, apart := false, narrowed := true }
def FnExactEmbedTermUptoSaid : Prop := fnExactEmbedTermUptoRow.holds Try.pinned (OpenSpec.upto fnExactEmbedTermSpec)

/-- 'laws.FnExactDynamicCasts', WHERE WHAT IT READS IS OF BULK AT MOST 1048576: true; the input reads as it did. -/
def fnExactDynamicCastsUptoRow : OpenClaim := { program := "ytchcbfbnffhifaa", sum := "9b7350329b5a1faad33a7a2071c13f0f67af7f99f241df2e2e76bc26e4ddb5e1", func := "loop.example/gradual/laws.FnExactDynamicCasts", spec := "fnExactDynamicCasts", unfollowed := true, recurses := true, loops := true, apart := false, narrowed := true }
def FnExactDynamicCastsUptoSaid : Prop := fnExactDynamicCastsUptoRow.holds Try.pinned (OpenSpec.upto fnExactDynamicCastsSpec)

/-- 'laws.FnExactBlurTerm', WHERE WHAT IT READS IS OF BULK AT MOST 1048576: true; the input reads as it did. -/
def fnExactBlurTermUptoRow : OpenClaim := { program := "ytchcbfbnffhifaa", sum := "9b7350329b5a1faad33a7a2071c13f0f67af7f99f241df2e2e76bc26e4ddb5e1", func := "loop.example/gradual/laws.FnExactBlurTerm", spec := "fnExactBlurTerm", unfollowed := true, recurses := true, loops := true, apart := false, narrowed := true }
def FnExactBlurTermUptoSaid : Prop := fnExactBlurTermUptoRow.holds Try.pinned (OpenSpec.upto fnExactBlurTermSpec)

/-- 'laws.FnExactRelabelCasts', WHERE WHAT IT READS IS OF BULK AT MOST 1048576: true; the input reads as it did. -/
def fnExactRelabelCastsUptoRow : OpenClaim := { program := "ytchcbfbnffhifaa", sum := "9b7350329b5a1faad33a7a2071c13f0f67af7f99f241df2e2e76bc26e4ddb5e1", func := "loop.example/gradual/laws.FnExactRelabelCasts", spec := "fnExactRelabelCasts", unfollowed := true, recurses := true, loops := true, apart := false, narrowed := true }
def FnExactRelabelCastsUptoSaid : Prop := fnExactRelabelCastsUptoRow.holds Try.pinned (OpenSpec.upto fnExactRelabelCastsSpec)

end Rows
end Go.Proofs.Ytchcbfbnffhifaa
