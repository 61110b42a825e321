/-
  NARROWER THAN 'FOR EVERY INPUT', by the rows' own cells (each row's printed sentence says how): FnExactSimplifyCasts: loops · FnExactMergeTerms: loops · FnExactSubstTerm: loops · FnExactSafeTerm: loops · FnExactUnsafeLabels: loops.
  DERIVED. THE GIVEN ROWS OF THIS SEAT. 12 by the template 'for every input the law returns true; each argument reads behind the call as it read before'; 0 by the template 'total and deterministic' (their statements: YtfgjiamolknicaaTotals.lean).
  GIVEN WITH THE SEED: the statements are not yours to turn. If you find one false, say at which input.
  Laid BY PROGRAM, IN A SANDBOX (cutbox-rows.mjs): the forced cells as the released guide's own fill.sh prints them over the translation fd2b1cab3c29b75c… (all of the seat's roots in one cut). By AI agents, Wed Nov 11 2026. No macro, syntax, notation, axiom, sorry.
-/
import Derived.Test.YtfgjiamolknicaaChecked
import GoSem.Claim
import GoSem.ClaimJoined
import GoSem.ClaimMapViews
import Derived.JoinedTies
import Derived.KernelRfl
namespace Go.Proofs.Ytfgjiamolknicaa
/- THE CELL 'sum', in the pinned program and in every row, IS THE sha256 OF THE DUMP (.gsa) THAT YtfgjiamolknicaaProg.lean LOADS. Nothing in Lean hashes anything: it is a label: what it is worth is what the hold of that sum in a sandbox is worth. -/
noncomputable def Try.pinned : Pinned := { name := "ytfgjiamolknicaa", sum := "fd2b1cab3c29b75cf84af42b8b9e454eb32885fc710ae743fe88d3d434857c29", checked := Try.checked }
namespace Rows
def none {H : Type} : Left H := { results := [], args := [] }

/-- 'laws.FnSubstClosed': WHATEVER THE INPUT: true; the input reads as it did. -/
def fnSubstClosedSpec : ChangeSpec := { name := "fnSubstClosed", fn := fun _ => fun
  | [d1, d2] => { results := [.lit (.bool true)], args := [d1, d2] }
  | _ => none }
def fnSubstClosedRow : OpenClaim := { program := "ytfgjiamolknicaa", sum := "fd2b1cab3c29b75cf84af42b8b9e454eb32885fc710ae743fe88d3d434857c29", func := "loop.example/gradual/laws.FnSubstClosed", spec := "fnSubstClosed", inPlace := ["internal/bytealg.IndexByteString", "internal/bytealg.IndexString"], unfollowed := true, recurses := true, named := ["internal/bytealg.MaxLen"], apart := false }
def FnSubstClosedSaid : Prop := fnSubstClosedRow.holds Try.pinned (OpenSpec.ofChange fnSubstClosedSpec)

/-- ITS FALSE NEIGHBOUR: 'it returns false'. Refute it at one input. -/
def fnSubstClosedWrong : ChangeSpec := { name := "fnSubstClosed", fn := fun _ => fun
  | [d1, d2] => { results := [.lit (.bool false)], args := [d1, d2] }
  | _ => none }
def FnSubstClosedWrongFalsely : Prop := fnSubstClosedRow.holds Try.pinned (OpenSpec.ofChange fnSubstClosedWrong)

/-- 'laws.FnSubstTwice': WHATEVER THE INPUT: true; the input reads as it did. -/
def fnSubstTwiceSpec : ChangeSpec := { name := "fnSubstTwice", fn := fun _ => fun
  | [d1, d2] => { results := [.lit (.bool true)], args := [d1, d2] }
  | _ => none }
def fnSubstTwiceRow : OpenClaim := { program := "ytfgjiamolknicaa", sum := "fd2b1cab3c29b75cf84af42b8b9e454eb32885fc710ae743fe88d3d434857c29", func := "loop.example/gradual/laws.FnSubstTwice", spec := "fnSubstTwice", inPlace := ["internal/bytealg.IndexByteString", "internal/bytealg.IndexString"], unfollowed := true, recurses := true, named := ["internal/bytealg.MaxLen"], apart := false }
def FnSubstTwiceSaid : Prop := fnSubstTwiceRow.holds Try.pinned (OpenSpec.ofChange fnSubstTwiceSpec)

/-- ITS FALSE NEIGHBOUR: 'it returns false'. Refute it at one input. -/
def fnSubstTwiceWrong : ChangeSpec := { name := "fnSubstTwice", fn := fun _ => fun
  | [d1, d2] => { results := [.lit (.bool false)], args := [d1, d2] }
  | _ => none }
def FnSubstTwiceWrongFalsely : Prop := fnSubstTwiceRow.holds Try.pinned (OpenSpec.ofChange fnSubstTwiceWrong)

/-- 'laws.FnSubstTerm': WHATEVER THE INPUT: true; the input reads as it did. -/
def fnSubstTermSpec : ChangeSpec := { name := "fnSubstTerm", fn := fun _ => fun
  | [d] => { results := [.lit (.bool true)], args := [d] }
  | _ => none }
def fnSubstTermRow : OpenClaim := { program := "ytfgjiamolknicaa", sum := "fd2b1cab3c29b75cf84af42b8b9e454eb32885fc710ae743fe88d3d434857c29", func := "loop.example/gradual/laws.FnSubstTerm", spec := "fnSubstTerm", inPlace := ["internal/bytealg.IndexByteString", "internal/bytealg.IndexString"], unfollowed := true, recurses := true, named := ["internal/bytealg.MaxLen"], apart := false }
def FnSubstTermSaid : Prop := fnSubstTermRow.holds Try.pinned (OpenSpec.ofChange fnSubstTermSpec)

/-- ITS FALSE NEIGHBOUR: 'it returns false'. Refute it at one input. -/
def fnSubstTermWrong : ChangeSpec := { name := "fnSubstTerm", fn := fun _ => fun
  | [d] => { results := [.lit (.bool false)], args := [d] }
  | _ => none }
def FnSubstTermWrongFalsely : Prop := fnSubstTermRow.holds Try.pinned (OpenSpec.ofChange fnSubstTermWrong)

/-- 'laws.FnExactSimplifyCasts': WHATEVER THE INPUT: true; the input reads as it did. -/
def fnExactSimplifyCastsSpec : ChangeSpec := { name := "fnExactSimplifyCasts", fn := fun _ => fun
  | [d] => { results := [.lit (.bool true)], args := [d] }
  | _ => none }
def fnExactSimplifyCastsRow : OpenClaim := { program := "ytfgjiamolknicaa", sum := "fd2b1cab3c29b75cf84af42b8b9e454eb32885fc710ae743fe88d3d434857c29", func := "loop.example/gradual/laws.FnExactSimplifyCasts", spec := "fnExactSimplifyCasts", unfollowed := true, recurses := true, loops := true, apart := false }
def FnExactSimplifyCastsSaid : Prop := fnExactSimplifyCastsRow.holds Try.pinned (OpenSpec.ofChange fnExactSimplifyCastsSpec)

/-- ITS FALSE NEIGHBOUR: 'it returns false'. Refute it at one input. -/
def fnExactSimplifyCastsWrong : ChangeSpec := { name := "fnExactSimplifyCasts", fn := fun _ => fun
  | [d] => { results := [.lit (.bool false)], args := [d] }
  | _ => none }
def FnExactSimplifyCastsWrongFalsely : Prop := fnExactSimplifyCastsRow.holds Try.pinned (OpenSpec.ofChange fnExactSimplifyCastsWrong)

/-- 'laws.FnEraseTerm': WHATEVER THE INPUT: true; the input reads as it did. -/
def fnEraseTermSpec : ChangeSpec := { name := "fnEraseTerm", fn := fun _ => fun
  | [d] => { results := [.lit (.bool true)], args := [d] }
  | _ => none }
def fnEraseTermRow : OpenClaim := { program := "ytfgjiamolknicaa", sum := "fd2b1cab3c29b75cf84af42b8b9e454eb32885fc710ae743fe88d3d434857c29", func := "loop.example/gradual/laws.FnEraseTerm", spec := "fnEraseTerm", inPlace := ["internal/bytealg.IndexByteString", "internal/bytealg.IndexString"], unfollowed := true, recurses := true, named := ["internal/bytealg.MaxLen"], apart := false }
def FnEraseTermSaid : Prop := fnEraseTermRow.holds Try.pinned (OpenSpec.ofChange fnEraseTermSpec)

/-- ITS FALSE NEIGHBOUR: 'it returns false'. Refute it at one input. -/
def fnEraseTermWrong : ChangeSpec := { name := "fnEraseTerm", fn := fun _ => fun
  | [d] => { results := [.lit (.bool false)], args := [d] }
  | _ => none }
def FnEraseTermWrongFalsely : Prop := fnEraseTermRow.holds Try.pinned (OpenSpec.ofChange fnEraseTermWrong)

/-- 'laws.FnBlurAll': WHATEVER THE INPUT: true; the input reads as it did. -/
def fnBlurAllSpec : ChangeSpec := { name := "fnBlurAll", fn := fun _ => fun
  | [d] => { results := [.lit (.bool true)], args := [d] }
  | _ => none }
def fnBlurAllRow : OpenClaim := { program := "ytfgjiamolknicaa", sum := "fd2b1cab3c29b75cf84af42b8b9e454eb32885fc710ae743fe88d3d434857c29", func := "loop.example/gradual/laws.FnBlurAll", spec := "fnBlurAll", unfollowed := true, recurses := true, apart := false }
def FnBlurAllSaid : Prop := fnBlurAllRow.holds Try.pinned (OpenSpec.ofChange fnBlurAllSpec)

/-- ITS FALSE NEIGHBOUR: 'it returns false'. Refute it at one input. -/
def fnBlurAllWrong : ChangeSpec := { name := "fnBlurAll", fn := fun _ => fun
  | [d] => { results := [.lit (.bool false)], args := [d] }
  | _ => none }
def FnBlurAllWrongFalsely : Prop := fnBlurAllRow.holds Try.pinned (OpenSpec.ofChange fnBlurAllWrong)

/-- 'laws.FnExactMergeTerms': WHATEVER THE INPUT: true; the input reads as it did. -/
def fnExactMergeTermsSpec : ChangeSpec := { name := "fnExactMergeTerms", fn := fun _ => fun
  | [d1, d2] => { results := [.lit (.bool true)], args := [d1, d2] }
  | _ => none }
def fnExactMergeTermsRow : OpenClaim := { program := "ytfgjiamolknicaa", sum := "fd2b1cab3c29b75cf84af42b8b9e454eb32885fc710ae743fe88d3d434857c29", func := "loop.example/gradual/laws.FnExactMergeTerms", spec := "fnExactMergeTerms", unfollowed := true, recurses := true, loops := true, apart := false }
def FnExactMergeTermsSaid : Prop := fnExactMergeTermsRow.holds Try.pinned (OpenSpec.ofChange fnExactMergeTermsSpec)

/-- ITS FALSE NEIGHBOUR: 'it returns false'. Refute it at one input. -/
def fnExactMergeTermsWrong : ChangeSpec := { name := "fnExactMergeTerms", fn := fun _ => fun
  | [d1, d2] => { results := [.lit (.bool false)], args := [d1, d2] }
  | _ => none }
def FnExactMergeTermsWrongFalsely : Prop := fnExactMergeTermsRow.holds Try.pinned (OpenSpec.ofChange fnExactMergeTermsWrong)

/-- 'laws.FnBlurTerm': WHATEVER THE INPUT: true; the input reads as it did. -/
def fnBlurTermSpec : ChangeSpec := { name := "fnBlurTerm", fn := fun _ => fun
  | [d1, d2] => { results := [.lit (.bool true)], args := [d1, d2] }
  | _ => none }
def fnBlurTermRow : OpenClaim := { program := "ytfgjiamolknicaa", sum := "fd2b1cab3c29b75cf84af42b8b9e454eb32885fc710ae743fe88d3d434857c29", func := "loop.example/gradual/laws.FnBlurTerm", spec := "fnBlurTerm", unfollowed := true, recurses := true, apart := false }
def FnBlurTermSaid : Prop := fnBlurTermRow.holds Try.pinned (OpenSpec.ofChange fnBlurTermSpec)

/-- ITS FALSE NEIGHBOUR: 'it returns false'. Refute it at one input. -/
def fnBlurTermWrong : ChangeSpec := { name := "fnBlurTerm", fn := fun _ => fun
  | [d1, d2] => { results := [.lit (.bool false)], args := [d1, d2] }
  | _ => none }
def FnBlurTermWrongFalsely : Prop := fnBlurTermRow.holds Try.pinned (OpenSpec.ofChange fnBlurTermWrong)

/-- 'laws.FnPrecisionOf': WHATEVER THE INPUT: true; the input reads as it did. -/
def fnPrecisionOfSpec : ChangeSpec := { name := "fnPrecisionOf", fn := fun _ => fun
  | [d] => { results := [.lit (.bool true)], args := [d] }
  | _ => none }
def fnPrecisionOfRow : OpenClaim := { program := "ytfgjiamolknicaa", sum := "fd2b1cab3c29b75cf84af42b8b9e454eb32885fc710ae743fe88d3d434857c29", func := "loop.example/gradual/laws.FnPrecisionOf", spec := "fnPrecisionOf", unfollowed := true, recurses := true, apart := false }
def FnPrecisionOfSaid : Prop := fnPrecisionOfRow.holds Try.pinned (OpenSpec.ofChange fnPrecisionOfSpec)

/-- ITS FALSE NEIGHBOUR: 'it returns false'. Refute it at one input. -/
def fnPrecisionOfWrong : ChangeSpec := { name := "fnPrecisionOf", fn := fun _ => fun
  | [d] => { results := [.lit (.bool false)], args := [d] }
  | _ => none }
def FnPrecisionOfWrongFalsely : Prop := fnPrecisionOfRow.holds Try.pinned (OpenSpec.ofChange fnPrecisionOfWrong)

/-- 'laws.FnExactSubstTerm': WHATEVER THE INPUT: true; the input reads as it did. -/
def fnExactSubstTermSpec : ChangeSpec := { name := "fnExactSubstTerm", fn := fun _ => fun
  | [d1, d2, d3] => { results := [.lit (.bool true)], args := [d1, d2, d3] }
  | _ => none }
def fnExactSubstTermRow : OpenClaim := { program := "ytfgjiamolknicaa", sum := "fd2b1cab3c29b75cf84af42b8b9e454eb32885fc710ae743fe88d3d434857c29", func := "loop.example/gradual/laws.FnExactSubstTerm", spec := "fnExactSubstTerm", inPlace := ["internal/bytealg.IndexByteString", "internal/bytealg.IndexString"], unfollowed := true, recurses := true, named := ["internal/bytealg.MaxLen"], loops := true, apart := false }
def FnExactSubstTermSaid : Prop := fnExactSubstTermRow.holds Try.pinned (OpenSpec.ofChange fnExactSubstTermSpec)

/-- ITS FALSE NEIGHBOUR: 'it returns false'. Refute it at one input. -/
def fnExactSubstTermWrong : ChangeSpec := { name := "fnExactSubstTerm", fn := fun _ => fun
  | [d1, d2, d3] => { results := [.lit (.bool false)], args := [d1, d2, d3] }
  | _ => none }
def FnExactSubstTermWrongFalsely : Prop := fnExactSubstTermRow.holds Try.pinned (OpenSpec.ofChange fnExactSubstTermWrong)

/-- 'laws.FnExactSafeTerm': WHATEVER THE INPUT: true; the input reads as it did. -/
def fnExactSafeTermSpec : ChangeSpec := { name := "fnExactSafeTerm", fn := fun _ => fun
  | [d] => { results := [.lit (.bool true)], args := [d] }
  | _ => none }
def fnExactSafeTermRow : OpenClaim := { program := "ytfgjiamolknicaa", sum := "fd2b1cab3c29b75cf84af42b8b9e454eb32885fc710ae743fe88d3d434857c29", func := "loop.example/gradual/laws.FnExactSafeTerm", spec := "fnExactSafeTerm", unfollowed := true, recurses := true, loops := true, apart := false }
def FnExactSafeTermSaid : Prop := fnExactSafeTermRow.holds Try.pinned (OpenSpec.ofChange fnExactSafeTermSpec)

/-- ITS FALSE NEIGHBOUR: 'it returns false'. Refute it at one input. -/
def fnExactSafeTermWrong : ChangeSpec := { name := "fnExactSafeTerm", fn := fun _ => fun
  | [d] => { results := [.lit (.bool false)], args := [d] }
  | _ => none }
def FnExactSafeTermWrongFalsely : Prop := fnExactSafeTermRow.holds Try.pinned (OpenSpec.ofChange fnExactSafeTermWrong)

/-- 'laws.FnExactUnsafeLabels': WHATEVER THE INPUT: true; the input reads as it did. -/
def fnExactUnsafeLabelsSpec : ChangeSpec := { name := "fnExactUnsafeLabels", fn := fun _ => fun
  | [d] => { results := [.lit (.bool true)], args := [d] }
  | _ => none }
def fnExactUnsafeLabelsRow : OpenClaim := { program := "ytfgjiamolknicaa", sum := "fd2b1cab3c29b75cf84af42b8b9e454eb32885fc710ae743fe88d3d434857c29", func := "loop.example/gradual/laws.FnExactUnsafeLabels", spec := "fnExactUnsafeLabels", unfollowed := true, recurses := true, loops := true, apart := false }
def FnExactUnsafeLabelsSaid : Prop := fnExactUnsafeLabelsRow.holds Try.pinned (OpenSpec.ofChange fnExactUnsafeLabelsSpec)

/-- ITS FALSE NEIGHBOUR: 'it returns false'. Refute it at one input. -/
def fnExactUnsafeLabelsWrong : ChangeSpec := { name := "fnExactUnsafeLabels", fn := fun _ => fun
  | [d] => { results := [.lit (.bool false)], args := [d] }
  | _ => none }
def FnExactUnsafeLabelsWrongFalsely : Prop := fnExactUnsafeLabelsRow.holds Try.pinned (OpenSpec.ofChange fnExactUnsafeLabelsWrong)

/- THE SECOND FORM. 'bulk': how many values and letters a reading holds, each counted each time it is reached (what is shared counts as often as it is met; a slice's spare places count too). A statement '..UptoSaid' is the law's where the arguments, and the package variables that the reading takes, are together of bulk at most 1048576: NARROWER than '..Said'. Prove '..Said' where nothing that the law and all that it calls make is longer than what came in: it says more and counts as full. Else prove '..UptoSaid'. A law counts once. -/
mutual
def uptoBulk {H : Type} : DataW H → Nat
  | .lit (.string bytes) => bytes.length + 1
  | .lit _ => 1
  | .nil => 1
  | .ptr d => uptoBulk d + 1
  | .slice elems spare => uptoBulkAll elems + uptoBulkAll spare + 1
  | .agg parts => uptoBulkAll parts + 1
  | .iface _ d => uptoBulk d + 1
  | .map entries => uptoBulkEntries entries + 1
  | .held _ => 1
def uptoBulkAll {H : Type} : List (DataW H) → Nat
  | [] => 0
  | d :: r => uptoBulk d + uptoBulkAll r
def uptoBulkEntries {H : Type} : List (Lit × DataW H) → Nat
  | [] => 0
  | x :: r => uptoBulkEntry x + uptoBulkEntries r
def uptoBulkEntry {H : Type} : Lit × DataW H → Nat
  | (.string bytes, d) => bytes.length + uptoBulk d + 1
  | (_, d) => uptoBulk d + 1
 end
def uptoSmall : (H : Type) → List (DataW H) → Bool := fun _ ds => decide (uptoBulkAll ds ≤ 1048576)
def OpenSpec.upto (s : _root_.Go.ChangeSpec) : _root_.Go.OpenSpec := { _root_.Go.OpenSpec.ofChange s with cond := some uptoSmall }

/-- 'laws.FnSubstClosed', WHERE WHAT IT READS IS OF BULK AT MOST 1048576: true; the input reads as it did. -/
def fnSubstClosedUptoRow : OpenClaim := { program := "ytfgjiamolknicaa", sum := "fd2b1cab3c29b75cf84af42b8b9e454eb32885fc710ae743fe88d3d434857c29", func := "loop.example/gradual/laws.FnSubstClosed", spec := "fnSubstClosed", inPlace := ["internal/bytealg.IndexByteString", "internal/bytealg.IndexString"], unfollowed := true, recurses := true, named := ["internal/bytealg.MaxLen"], apart := false, narrowed := true }
def FnSubstClosedUptoSaid : Prop := fnSubstClosedUptoRow.holds Try.pinned (OpenSpec.upto fnSubstClosedSpec)

/-- 'laws.FnSubstTwice', WHERE WHAT IT READS IS OF BULK AT MOST 1048576: true; the input reads as it did. -/
def fnSubstTwiceUptoRow : OpenClaim := { program := "ytfgjiamolknicaa", sum := "fd2b1cab3c29b75cf84af42b8b9e454eb32885fc710ae743fe88d3d434857c29", func := "loop.example/gradual/laws.FnSubstTwice", spec := "fnSubstTwice", inPlace := ["internal/bytealg.IndexByteString", "internal/bytealg.IndexString"], unfollowed := true, recurses := true, named := ["internal/bytealg.MaxLen"], apart := false, narrowed := true }
def FnSubstTwiceUptoSaid : Prop := fnSubstTwiceUptoRow.holds Try.pinned (OpenSpec.upto fnSubstTwiceSpec)

/-- 'laws.FnSubstTerm', WHERE WHAT IT READS IS OF BULK AT MOST 1048576: true; the input reads as it did. -/
def fnSubstTermUptoRow : OpenClaim := { program := "ytfgjiamolknicaa", sum := "fd2b1cab3c29b75cf84af42b8b9e454eb32885fc710ae743fe88d3d434857c29", func := "loop.example/gradual/laws.FnSubstTerm", spec := "fnSubstTerm", inPlace := ["internal/bytealg.IndexByteString", "internal/bytealg.IndexString"], unfollowed := true, recurses := true, named := ["internal/bytealg.MaxLen"], apart := false, narrowed := true }
def FnSubstTermUptoSaid : Prop := fnSubstTermUptoRow.holds Try.pinned (OpenSpec.upto fnSubstTermSpec)

/-- 'laws.FnExactSimplifyCasts', WHERE WHAT IT READS IS OF BULK AT MOST 1048576: true; the input reads as it did. -/
def fnExactSimplifyCastsUptoRow : OpenClaim := { program := "ytfgjiamolknicaa", sum := "fd2b1cab3c29b75cf84af42b8b9e454eb32885fc710ae743fe88d3d434857c29", func := "loop.example/gradual/laws.FnExactSimplifyCasts", spec := "fnExactSimplifyCasts", unfollowed := true, recurses := true, loops := true, apart := false, narrowed := true }
def FnExactSimplifyCastsUptoSaid : Prop := fnExactSimplifyCastsUptoRow.holds Try.pinned (OpenSpec.upto fnExactSimplifyCastsSpec)

/-- 'laws.FnEraseTerm', WHERE WHAT IT READS IS OF BULK AT MOST 1048576: true; the input reads as it did. -/
def fnEraseTermUptoRow : OpenClaim := { program := "ytfgjiamolknicaa", sum := "fd2b1cab3c29b75cf84af42b8b9e454eb32885fc710ae743fe88d3d434857c29", func := "loop.example/gradual/laws.FnEraseTerm", spec := "fnEraseTerm", inPlace := ["internal/bytealg.IndexByteString", "internal/bytealg.IndexString"], unfollowed := true, recurses := true, named := ["internal/bytealg.MaxLen"], apart := false, narrowed := true }
def FnEraseTermUptoSaid : Prop := fnEraseTermUptoRow.holds Try.pinned (OpenSpec.upto fnEraseTermSpec)

/-- 'laws.FnBlurAll', WHERE WHAT IT READS IS OF BULK AT MOST 1048576: true; the input reads as it did. -/
def fnBlurAllUptoRow : OpenClaim := { program := "ytfgjiamolknicaa", sum := "fd2b1cab3c29b75cf84af42b8b9e454eb32885fc710ae743fe88d3d434857c29", func := "loop.example/gradual/laws.FnBlurAll", spec := "fnBlurAll", unfollowed := true, recurses := true, apart := false, narrowed := true }
def FnBlurAllUptoSaid : Prop := fnBlurAllUptoRow.holds Try.pinned (OpenSpec.upto fnBlurAllSpec)

/-- 'laws.FnExactMergeTerms', WHERE WHAT IT READS IS OF BULK AT MOST 1048576: true; the input reads as it did. -/
def fnExactMergeTermsUptoRow : OpenClaim := { program := "ytfgjiamolknicaa", sum := "fd2b1cab3c29b75cf84af42b8b9e454eb32885fc710ae743fe88d3d434857c29", func := "loop.example/gradual/laws.FnExactMergeTerms", spec := "fnExactMergeTerms", unfollowed := true, recurses := true, loops := true, apart := false, narrowed := true }
def FnExactMergeTermsUptoSaid : Prop := fnExactMergeTermsUptoRow.holds Try.pinned (OpenSpec.upto fnExactMergeTermsSpec)

/-- 'laws.FnBlurTerm', WHERE WHAT IT READS IS OF BULK AT MOST 1048576: true; the input reads as it did. -/
def fnBlurTermUptoRow : OpenClaim := { program := "ytfgjiamolknicaa", sum := "fd2b1cab3c29b75cf84af42b8b9e454eb32885fc710ae743fe88d3d434857c29", func := "loop.example/gradual/laws.FnBlurTerm", spec := "fnBlurTerm", unfollowed := true, recurses := true, apart := false, narrowed := true }
def FnBlurTermUptoSaid : Prop := fnBlurTermUptoRow.holds Try.pinned (OpenSpec.upto fnBlurTermSpec)

/-- 'laws.FnPrecisionOf', WHERE WHAT IT READS IS OF BULK AT MOST 1048576: true; the input reads as it did. -/
def fnPrecisionOfUptoRow : OpenClaim := { program := "ytfgjiamolknicaa", sum := "fd2b1cab3c29b75cf84af42b8b9e454eb32885fc710ae743fe88d3d434857c29", func := "loop.example/gradual/laws.FnPrecisionOf", spec := "fnPrecisionOf", unfollowed := true, recurses := true, apart := false, narrowed := true }
def FnPrecisionOfUptoSaid : Prop := fnPrecisionOfUptoRow.holds Try.pinned (OpenSpec.upto fnPrecisionOfSpec)

/-- 'laws.FnExactSubstTerm', WHERE WHAT IT READS IS OF BULK AT MOST 1048576: true; the input reads as it did. -/
def fnExactSubstTermUptoRow : OpenClaim := { program := "ytfgjiamolknicaa", sum := "fd2b1cab3c29b75cf84af42b8b9e454eb32885fc710ae743fe88d3d434857c29", func := "loop.example/gradual/laws.FnExactSubstTerm", spec := "fnExactSubstTerm", inPlace := ["internal/bytealg.IndexByteString", "internal/bytealg.IndexString"], unfollowed := true, recurses := true, named := ["internal/bytealg.MaxLen"], loops := true, apart := false, narrowed := true }
def FnExactSubstTermUptoSaid : Prop := fnExactSubstTermUptoRow.holds Try.pinned (OpenSpec.upto fnExactSubstTermSpec)

/-- 'laws.FnExactSafeTerm', WHERE WHAT IT READS IS OF BULK AT MOST 1048576: true; the input reads as it did. -/
def fnExactSafeTermUptoRow : OpenClaim := { program := "ytfgjiamolknicaa", sum := "fd2b1cab3c29b75cf84af42b8b9e454eb32885fc710ae743fe88d3d434857c29", func := "loop.example/gradual/laws.FnExactSafeTerm", spec := "fnExactSafeTerm", unfollowed := true, recurses := true, loops := true, apart := false, narrowed := true }
def FnExactSafeTermUptoSaid : Prop := fnExactSafeTermUptoRow.holds Try.pinned (OpenSpec.upto fnExactSafeTermSpec)

/-- 'laws.FnExactUnsafeLabels', WHERE WHAT IT READS IS OF BULK AT MOST 1048576: true; the input reads as it did. -/
def fnExactUnsafeLabelsUptoRow : OpenClaim := { program := "ytfgjiamolknicaa", sum := "fd2b1cab3c29b75cf84af42b8b9e454eb32885fc710ae743fe88d3d434857c29", func := "loop.example/gradual/laws.FnExactUnsafeLabels", spec := "fnExactUnsafeLabels", unfollowed := true, recurses := true, loops := true, apart := false, narrowed := true }
def FnExactUnsafeLabelsUptoSaid : Prop := fnExactUnsafeLabelsUptoRow.holds Try.pinned (OpenSpec.upto fnExactUnsafeLabelsSpec)

end Rows
end Go.Proofs.Ytfgjiamolknicaa
