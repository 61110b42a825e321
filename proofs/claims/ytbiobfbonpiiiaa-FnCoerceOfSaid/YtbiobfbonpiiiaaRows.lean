/-
  NARROWER THAN 'FOR EVERY INPUT', by the rows' own cells (each row's printed sentence says how): FnExactCoercionLabels: loops.
  DERIVED. THE GIVEN ROWS OF THIS SEAT. 10 by the template 'for every input the law returns true; each argument reads behind the call as it read before'; 0 by the template 'total and deterministic' (their statements: YtbiobfbonpiiiaaTotals.lean).
  GIVEN WITH THE SEED: the statements are not yours to turn. If you find one false, say at which input.
  Laid BY PROGRAM, IN A SANDBOX (cutbox-rows.mjs): the forced cells as the released guide's own fill.sh prints them over the translation 9f13ec65763fc462… (all of the seat's roots in one cut). By AI agents, Wed Nov 11 2026. No macro, syntax, notation, axiom, sorry.
-/
import Derived.Test.YtbiobfbonpiiiaaChecked
import GoSem.Claim
import GoSem.ClaimJoined
import GoSem.ClaimMapViews
import Derived.JoinedTies
import Derived.KernelRfl
namespace Go.Proofs.Ytbiobfbonpiiiaa
/- THE CELL 'sum', in the pinned program and in every row, IS THE sha256 OF THE DUMP (.gsa) THAT YtbiobfbonpiiiaaProg.lean LOADS. Nothing in Lean hashes anything: it is a label: what it is worth is what the hold of that sum in a sandbox is worth. -/
noncomputable def Try.pinned : Pinned := { name := "ytbiobfbonpiiiaa", sum := "9f13ec65763fc4625aaa9e77e62edde0485e48844fc087fa853c1aa5bf5fffb9", checked := Try.checked }
namespace Rows
def none {H : Type} : Left H := { results := [], args := [] }

/-- 'laws.FnCoerceChain': WHATEVER THE INPUT: true; the input reads as it did. -/
def fnCoerceChainSpec : ChangeSpec := { name := "fnCoerceChain", fn := fun _ => fun
  | [d1, d2] => { results := [.lit (.bool true)], args := [d1, d2] }
  | _ => none }
def fnCoerceChainRow : OpenClaim := { program := "ytbiobfbonpiiiaa", sum := "9f13ec65763fc4625aaa9e77e62edde0485e48844fc087fa853c1aa5bf5fffb9", func := "loop.example/gradual/laws.FnCoerceChain", spec := "fnCoerceChain", unfollowed := true, recurses := true, apart := false }
def FnCoerceChainSaid : Prop := fnCoerceChainRow.holds Try.pinned (OpenSpec.ofChange fnCoerceChainSpec)

/-- ITS FALSE NEIGHBOUR: 'it returns false'. Refute it at one input. -/
def fnCoerceChainWrong : ChangeSpec := { name := "fnCoerceChain", fn := fun _ => fun
  | [d1, d2] => { results := [.lit (.bool false)], args := [d1, d2] }
  | _ => none }
def FnCoerceChainWrongFalsely : Prop := fnCoerceChainRow.holds Try.pinned (OpenSpec.ofChange fnCoerceChainWrong)

/-- 'laws.FnComposeAssociative': WHATEVER THE INPUT: true; the input reads as it did. -/
def fnComposeAssociativeSpec : ChangeSpec := { name := "fnComposeAssociative", fn := fun _ => fun
  | [d] => { results := [.lit (.bool true)], args := [d] }
  | _ => none }
def fnComposeAssociativeRow : OpenClaim := { program := "ytbiobfbonpiiiaa", sum := "9f13ec65763fc4625aaa9e77e62edde0485e48844fc087fa853c1aa5bf5fffb9", func := "loop.example/gradual/laws.FnComposeAssociative", spec := "fnComposeAssociative", unfollowed := true, recurses := true, apart := false }
def FnComposeAssociativeSaid : Prop := fnComposeAssociativeRow.holds Try.pinned (OpenSpec.ofChange fnComposeAssociativeSpec)

/-- ITS FALSE NEIGHBOUR: 'it returns false'. Refute it at one input. -/
def fnComposeAssociativeWrong : ChangeSpec := { name := "fnComposeAssociative", fn := fun _ => fun
  | [d] => { results := [.lit (.bool false)], args := [d] }
  | _ => none }
def FnComposeAssociativeWrongFalsely : Prop := fnComposeAssociativeRow.holds Try.pinned (OpenSpec.ofChange fnComposeAssociativeWrong)

/-- 'laws.FnComposeFail': WHATEVER THE INPUT: true; the input reads as it did. -/
def fnComposeFailSpec : ChangeSpec := { name := "fnComposeFail", fn := fun _ => fun
  | [d1, d2] => { results := [.lit (.bool true)], args := [d1, d2] }
  | _ => none }
def fnComposeFailRow : OpenClaim := { program := "ytbiobfbonpiiiaa", sum := "9f13ec65763fc4625aaa9e77e62edde0485e48844fc087fa853c1aa5bf5fffb9", func := "loop.example/gradual/laws.FnComposeFail", spec := "fnComposeFail", unfollowed := true, recurses := true, apart := false }
def FnComposeFailSaid : Prop := fnComposeFailRow.holds Try.pinned (OpenSpec.ofChange fnComposeFailSpec)

/-- ITS FALSE NEIGHBOUR: 'it returns false'. Refute it at one input. -/
def fnComposeFailWrong : ChangeSpec := { name := "fnComposeFail", fn := fun _ => fun
  | [d1, d2] => { results := [.lit (.bool false)], args := [d1, d2] }
  | _ => none }
def FnComposeFailWrongFalsely : Prop := fnComposeFailRow.holds Try.pinned (OpenSpec.ofChange fnComposeFailWrong)

/-- 'laws.FnComposeHeight': WHATEVER THE INPUT: true; the input reads as it did. -/
def fnComposeHeightSpec : ChangeSpec := { name := "fnComposeHeight", fn := fun _ => fun
  | [d] => { results := [.lit (.bool true)], args := [d] }
  | _ => none }
def fnComposeHeightRow : OpenClaim := { program := "ytbiobfbonpiiiaa", sum := "9f13ec65763fc4625aaa9e77e62edde0485e48844fc087fa853c1aa5bf5fffb9", func := "loop.example/gradual/laws.FnComposeHeight", spec := "fnComposeHeight", unfollowed := true, recurses := true, apart := false }
def FnComposeHeightSaid : Prop := fnComposeHeightRow.holds Try.pinned (OpenSpec.ofChange fnComposeHeightSpec)

/-- ITS FALSE NEIGHBOUR: 'it returns false'. Refute it at one input. -/
def fnComposeHeightWrong : ChangeSpec := { name := "fnComposeHeight", fn := fun _ => fun
  | [d] => { results := [.lit (.bool false)], args := [d] }
  | _ => none }
def FnComposeHeightWrongFalsely : Prop := fnComposeHeightRow.holds Try.pinned (OpenSpec.ofChange fnComposeHeightWrong)

/-- 'laws.FnComposeTyped': WHATEVER THE INPUT: true; the input reads as it did. -/
def fnComposeTypedSpec : ChangeSpec := { name := "fnComposeTyped", fn := fun _ => fun
  | [d1, d2] => { results := [.lit (.bool true)], args := [d1, d2] }
  | _ => none }
def fnComposeTypedRow : OpenClaim := { program := "ytbiobfbonpiiiaa", sum := "9f13ec65763fc4625aaa9e77e62edde0485e48844fc087fa853c1aa5bf5fffb9", func := "loop.example/gradual/laws.FnComposeTyped", spec := "fnComposeTyped", unfollowed := true, recurses := true, apart := false }
def FnComposeTypedSaid : Prop := fnComposeTypedRow.holds Try.pinned (OpenSpec.ofChange fnComposeTypedSpec)

/-- ITS FALSE NEIGHBOUR: 'it returns false'. Refute it at one input. -/
def fnComposeTypedWrong : ChangeSpec := { name := "fnComposeTyped", fn := fun _ => fun
  | [d1, d2] => { results := [.lit (.bool false)], args := [d1, d2] }
  | _ => none }
def FnComposeTypedWrongFalsely : Prop := fnComposeTypedRow.holds Try.pinned (OpenSpec.ofChange fnComposeTypedWrong)

/-- 'laws.FnComposeIdentity': WHATEVER THE INPUT: true; the input reads as it did. -/
def fnComposeIdentitySpec : ChangeSpec := { name := "fnComposeIdentity", fn := fun _ => fun
  | [d] => { results := [.lit (.bool true)], args := [d] }
  | _ => none }
def fnComposeIdentityRow : OpenClaim := { program := "ytbiobfbonpiiiaa", sum := "9f13ec65763fc4625aaa9e77e62edde0485e48844fc087fa853c1aa5bf5fffb9", func := "loop.example/gradual/laws.FnComposeIdentity", spec := "fnComposeIdentity", unfollowed := true, recurses := true, apart := false }
def FnComposeIdentitySaid : Prop := fnComposeIdentityRow.holds Try.pinned (OpenSpec.ofChange fnComposeIdentitySpec)

/-- ITS FALSE NEIGHBOUR: 'it returns false'. Refute it at one input. -/
def fnComposeIdentityWrong : ChangeSpec := { name := "fnComposeIdentity", fn := fun _ => fun
  | [d] => { results := [.lit (.bool false)], args := [d] }
  | _ => none }
def FnComposeIdentityWrongFalsely : Prop := fnComposeIdentityRow.holds Try.pinned (OpenSpec.ofChange fnComposeIdentityWrong)

/-- 'laws.FnExactCoercionLabels': WHATEVER THE INPUT: true; the input reads as it did. -/
def fnExactCoercionLabelsSpec : ChangeSpec := { name := "fnExactCoercionLabels", fn := fun _ => fun
  | [d] => { results := [.lit (.bool true)], args := [d] }
  | _ => none }
def fnExactCoercionLabelsRow : OpenClaim := { program := "ytbiobfbonpiiiaa", sum := "9f13ec65763fc4625aaa9e77e62edde0485e48844fc087fa853c1aa5bf5fffb9", func := "loop.example/gradual/laws.FnExactCoercionLabels", spec := "fnExactCoercionLabels", unfollowed := true, recurses := true, loops := true, apart := false }
def FnExactCoercionLabelsSaid : Prop := fnExactCoercionLabelsRow.holds Try.pinned (OpenSpec.ofChange fnExactCoercionLabelsSpec)

/-- ITS FALSE NEIGHBOUR: 'it returns false'. Refute it at one input. -/
def fnExactCoercionLabelsWrong : ChangeSpec := { name := "fnExactCoercionLabels", fn := fun _ => fun
  | [d] => { results := [.lit (.bool false)], args := [d] }
  | _ => none }
def FnExactCoercionLabelsWrongFalsely : Prop := fnExactCoercionLabelsRow.holds Try.pinned (OpenSpec.ofChange fnExactCoercionLabelsWrong)

/-- 'laws.FnCoerceOf': WHATEVER THE INPUT: true; the input reads as it did. -/
def fnCoerceOfSpec : ChangeSpec := { name := "fnCoerceOf", fn := fun _ => fun
  | [d] => { results := [.lit (.bool true)], args := [d] }
  | _ => none }
def fnCoerceOfRow : OpenClaim := { program := "ytbiobfbonpiiiaa", sum := "9f13ec65763fc4625aaa9e77e62edde0485e48844fc087fa853c1aa5bf5fffb9", func := "loop.example/gradual/laws.FnCoerceOf", spec := "fnCoerceOf", unfollowed := true, recurses := true, apart := false }
def FnCoerceOfSaid : Prop := fnCoerceOfRow.holds Try.pinned (OpenSpec.ofChange fnCoerceOfSpec)

/-- ITS FALSE NEIGHBOUR: 'it returns false'. Refute it at one input. -/
def fnCoerceOfWrong : ChangeSpec := { name := "fnCoerceOf", fn := fun _ => fun
  | [d] => { results := [.lit (.bool false)], args := [d] }
  | _ => none }
def FnCoerceOfWrongFalsely : Prop := fnCoerceOfRow.holds Try.pinned (OpenSpec.ofChange fnCoerceOfWrong)

/-- 'laws.FnCoercionIdentity': WHATEVER THE INPUT: true; the input reads as it did. -/
def fnCoercionIdentitySpec : ChangeSpec := { name := "fnCoercionIdentity", fn := fun _ => fun
  | [d] => { results := [.lit (.bool true)], args := [d] }
  | _ => none }
def fnCoercionIdentityRow : OpenClaim := { program := "ytbiobfbonpiiiaa", sum := "9f13ec65763fc4625aaa9e77e62edde0485e48844fc087fa853c1aa5bf5fffb9", func := "loop.example/gradual/laws.FnCoercionIdentity", spec := "fnCoercionIdentity", unfollowed := true, recurses := true, apart := false }
def FnCoercionIdentitySaid : Prop := fnCoercionIdentityRow.holds Try.pinned (OpenSpec.ofChange fnCoercionIdentitySpec)

/-- ITS FALSE NEIGHBOUR: 'it returns false'. Refute it at one input. -/
def fnCoercionIdentityWrong : ChangeSpec := { name := "fnCoercionIdentity", fn := fun _ => fun
  | [d] => { results := [.lit (.bool false)], args := [d] }
  | _ => none }
def FnCoercionIdentityWrongFalsely : Prop := fnCoercionIdentityRow.holds Try.pinned (OpenSpec.ofChange fnCoercionIdentityWrong)

/-- 'laws.FnComposeLabels': WHATEVER THE INPUT: true; the input reads as it did. -/
def fnComposeLabelsSpec : ChangeSpec := { name := "fnComposeLabels", fn := fun _ => fun
  | [d] => { results := [.lit (.bool true)], args := [d] }
  | _ => none }
def fnComposeLabelsRow : OpenClaim := { program := "ytbiobfbonpiiiaa", sum := "9f13ec65763fc4625aaa9e77e62edde0485e48844fc087fa853c1aa5bf5fffb9", func := "loop.example/gradual/laws.FnComposeLabels", spec := "fnComposeLabels", unfollowed := true, recurses := true, apart := false }
def FnComposeLabelsSaid : Prop := fnComposeLabelsRow.holds Try.pinned (OpenSpec.ofChange fnComposeLabelsSpec)

/-- ITS FALSE NEIGHBOUR: 'it returns false'. Refute it at one input. -/
def fnComposeLabelsWrong : ChangeSpec := { name := "fnComposeLabels", fn := fun _ => fun
  | [d] => { results := [.lit (.bool false)], args := [d] }
  | _ => none }
def FnComposeLabelsWrongFalsely : Prop := fnComposeLabelsRow.holds Try.pinned (OpenSpec.ofChange fnComposeLabelsWrong)

/- THE SECOND FORM. 'bulk': how many values and letters a reading holds, each counted each time it is reached (what is shared counts as often as it is met; a slice's spare places count too). A statement '..UptoSaid' is the law's where the arguments, and the package variables that the reading takes, are together of bulk at most 1048576: NARROWER than '..Said'. Prove '..Said' where nothing that the law and all that it calls make is longer than what came in: it says more and counts as full. Else prove '..UptoSaid'. A law counts once. -/
mutual
def uptoBulk {H : Type} : DataW H → Nat
  | .lit (.string bytes) => bytes.length + 1
  | .lit _ => 1
  | .nil => 1
  | .ptr d => uptoBulk d + 1
  | .slice elems spare => uptoBulkAll elems + uptoBulkAll spare + 1
  | .agg parts => uptoBulkAll parts + 1
  | .iface _ d => uptoBulk d + 1
  | .map entries => uptoBulkEntries entries + 1
  | .held _ => 1
def uptoBulkAll {H : Type} : List (DataW H) → Nat
  | [] => 0
  | d :: r => uptoBulk d + uptoBulkAll r
def uptoBulkEntries {H : Type} : List (Lit × DataW H) → Nat
  | [] => 0
  | x :: r => uptoBulkEntry x + uptoBulkEntries r
def uptoBulkEntry {H : Type} : Lit × DataW H → Nat
  | (.string bytes, d) => bytes.length + uptoBulk d + 1
  | (_, d) => uptoBulk d + 1
 end
def uptoSmall : (H : Type) → List (DataW H) → Bool := fun _ ds => decide (uptoBulkAll ds ≤ 1048576)
def OpenSpec.upto (s : _root_.Go.ChangeSpec) : _root_.Go.OpenSpec := { _root_.Go.OpenSpec.ofChange s with cond := some uptoSmall }

/-- 'laws.FnCoerceChain', WHERE WHAT IT READS IS OF BULK AT MOST 1048576: true; the input reads as it did. -/
def fnCoerceChainUptoRow : OpenClaim := { program := "ytbiobfbonpiiiaa", sum := "9f13ec65763fc4625aaa9e77e62edde0485e48844fc087fa853c1aa5bf5fffb9", func := "loop.example/gradual/laws.FnCoerceChain", spec := "fnCoerceChain", unfollowed := true, recurses := true, apart := false, narrowed := true }
def FnCoerceChainUptoSaid : Prop := fnCoerceChainUptoRow.holds Try.pinned (OpenSpec.upto fnCoerceChainSpec)

/-- 'laws.FnComposeAssociative', WHERE WHAT IT READS IS OF BULK AT MOST 1048576: true; the input reads as it did. -/
def fnComposeAssociativeUptoRow : OpenClaim := { program := "ytbiobfbonpiiiaa", sum := "9f13ec65763fc4625aaa9e77e62edde0485e48844fc087fa853c1aa5bf5fffb9", func := "loop.example/gradual/laws.FnComposeAssociative", spec := "fnComposeAssociative", unfollowed := true, recurses := true, apart := false, narrowed := true }
def FnComposeAssociativeUptoSaid : Prop := fnComposeAssociativeUptoRow.holds Try.pinned (OpenSpec.upto fnComposeAssociativeSpec)

/-- 'laws.FnComposeFail', WHERE WHAT IT READS IS OF BULK AT MOST 1048576: true; the input reads as it did. -/
def fnComposeFailUptoRow : OpenClaim := { program := "ytbiobfbonpiiiaa", sum := "9f13ec65763fc4625aaa9e77e62edde0485e48844fc087fa853c1aa5bf5fffb9", func := "loop.example/gradual/laws.FnComposeFail", spec := "fnComposeFail", unfollowed := true, recurses := true, apart := false, narrowed := true }
def FnComposeFailUptoSaid : Prop := fnComposeFailUptoRow.holds Try.pinned (OpenSpec.upto fnComposeFailSpec)

/-- 'laws.FnComposeHeight', WHERE WHAT IT READS IS OF BULK AT MOST 1048576: true; the input reads as it did. -/
def fnComposeHeightUptoRow : OpenClaim := { program := "ytbiobfbonpiiiaa", sum := "9f13ec65763fc4625aaa9e77e62edde0485e48844fc087fa853c1aa5bf5fffb9", func := "loop.example/gradual/laws.FnComposeHeight", spec := "fnComposeHeight", unfollowed := true, recurses := true, apart := false, narrowed := true }
def FnComposeHeightUptoSaid : Prop := fnComposeHeightUptoRow.holds Try.pinned (OpenSpec.upto fnComposeHeightSpec)

/-- 'laws.FnComposeTyped', WHERE WHAT IT READS IS OF BULK AT MOST 1048576: true; the input reads as it did. -/
def fnComposeTypedUptoRow : OpenClaim := { program := "ytbiobfbonpiiiaa", sum := "9f13ec65763fc4625aaa9e77e62edde0485e48844fc087fa853c1aa5bf5fffb9", func := "loop.example/gradual/laws.FnComposeTyped", spec := "fnComposeTyped", unfollowed := true, recurses := true, apart := false, narrowed := true }
def FnComposeTypedUptoSaid : Prop := fnComposeTypedUptoRow.holds Try.pinned (OpenSpec.upto fnComposeTypedSpec)

/-- 'laws.FnComposeIdentity', WHERE WHAT IT READS IS OF BULK AT MOST 1048576: true; the input reads as it did. -/
def fnComposeIdentityUptoRow : OpenClaim := { program := "ytbiobfbonpiiiaa", sum := "9f13ec65763fc4625aaa9e77e62edde0485e48844fc087fa853c1aa5bf5fffb9", func := "loop.example/gradual/laws.FnComposeIdentity", spec := "fnComposeIdentity", unfollowed := true, recurses := true, apart := false, narrowed := true }
def FnComposeIdentityUptoSaid : Prop := fnComposeIdentityUptoRow.holds Try.pinned (OpenSpec.upto fnComposeIdentitySpec)

/-- 'laws.FnExactCoercionLabels', WHERE WHAT IT READS IS OF BULK AT MOST 1048576: true; the input reads as it did. -/
def fnExactCoercionLabelsUptoRow : OpenClaim := { program := "ytbiobfbonpiiiaa", sum := "9f13ec65763fc4625aaa9e77e62edde0485e48844fc087fa853c1aa5bf5fffb9", func := "loop.example/gradual/laws.FnExactCoercionLabels", spec := "fnExactCoercionLabels", unfollowed := true, recurses := true, loops := true, apart := false, narrowed := true }
def FnExactCoercionLabelsUptoSaid : Prop := fnExactCoercionLabelsUptoRow.holds Try.pinned (OpenSpec.upto fnExactCoercionLabelsSpec)

/-- 'laws.FnCoerceOf', WHERE WHAT IT READS IS OF BULK AT MOST 1048576: true; the input reads as it did. -/
def fnCoerceOfUptoRow : OpenClaim := { program := "ytbiobfbonpiiiaa", sum := "9f13ec65763fc4625aaa9e77e62edde0485e48844fc087fa853c1aa5bf5fffb9", func := "loop.example/gradual/laws.FnCoerceOf", spec := "fnCoerceOf", unfollowed := true, recurses := true, apart := false, narrowed := true }
def FnCoerceOfUptoSaid : Prop := fnCoerceOfUptoRow.holds Try.pinned (OpenSpec.upto fnCoerceOfSpec)

/-- 'laws.FnCoercionIdentity', WHERE WHAT IT READS IS OF BULK AT MOST 1048576: true; the input reads as it did. -/
def fnCoercionIdentityUptoRow : OpenClaim := { program := "ytbiobfbonpiiiaa", sum := "9f13ec65763fc4625aaa9e77e62edde0485e48844fc087fa853c1aa5bf5fffb9", func := "loop.example/gradual/laws.FnCoercionIdentity", spec := "fnCoercionIdentity", unfollowed := true, recurses := true, apart := false, narrowed := true }
def FnCoercionIdentityUptoSaid : Prop := fnCoercionIdentityUptoRow.holds Try.pinned (OpenSpec.upto fnCoercionIdentitySpec)

/-- 'laws.FnComposeLabels', WHERE WHAT IT READS IS OF BULK AT MOST 1048576: true; the input reads as it did. -/
def fnComposeLabelsUptoRow : OpenClaim := { program := "ytbiobfbonpiiiaa", sum := "9f13ec65763fc4625aaa9e77e62edde0485e48844fc087fa853c1aa5bf5fffb9", func := "loop.example/gradual/laws.FnComposeLabels", spec := "fnComposeLabels", unfollowed := true, recurses := true, apart := false, narrowed := true }
def FnComposeLabelsUptoSaid : Prop := fnComposeLabelsUptoRow.holds Try.pinned (OpenSpec.upto fnComposeLabelsSpec)

end Rows
end Go.Proofs.Ytbiobfbonpiiiaa
