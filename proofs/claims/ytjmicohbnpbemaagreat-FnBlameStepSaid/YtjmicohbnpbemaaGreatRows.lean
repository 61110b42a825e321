/-
  No cell of these rows narrows 'for every input' (looked for: loops, veiled, ifaces, maps, wideKeys, modest, calm, conditions, laid).
  DERIVED. THE GIVEN ROWS OF THIS SEAT. 11 by the template 'for every input the law returns true; each argument reads behind the call as it read before'; 0 by the template 'total and deterministic' (their statements: YtjmicohbnpbemaaGreatTotals.lean).
  GIVEN WITH THE SEED: the statements are not yours to turn. If you find one false, say at which input.
  Laid BY PROGRAM, IN A SANDBOX (cutbox-rows.mjs): the forced cells as the released guide's own fill.sh prints them over the translation a0428e23062104b9… (all of the seat's roots in one cut). By AI agents, Wed Nov 11 2026. No macro, syntax, notation, axiom, sorry.
-/
import Derived.Test.YtjmicohbnpbemaaGreatChecked
import GoSem.Claim
import GoSem.ClaimJoined
import GoSem.ClaimMapViews
import Derived.JoinedTies
import Derived.KernelRfl
namespace Go.Proofs.YtjmicohbnpbemaaGreat
/- THE CELL 'sum', in the pinned program and in every row, IS THE sha256 OF THE DUMP (.gsa) THAT YtjmicohbnpbemaaGreatProg.lean LOADS. Nothing in Lean hashes anything: it is a label: what it is worth is what the hold of that sum in a sandbox is worth. -/
noncomputable def Tryz.pinned : Pinned := { name := "ytjmicohbnpbemaagreat", sum := "a0428e23062104b905707648722dc7641b3a6e572d73d8fc6b6a4d8b38c68852", checked := Tryz.checked }
namespace Rows
def none {H : Type} : Left H := { results := [], args := [] }

/-- 'laws.FnBlameUnsafe': WHATEVER THE INPUT: true; the input reads as it did. -/
def fnBlameUnsafeSpec : ChangeSpec := { name := "fnBlameUnsafe", fn := fun _ => fun
  | [d] => { results := [.lit (.bool true)], args := [d] }
  | _ => none }
def fnBlameUnsafeRow : OpenClaim := { program := "ytjmicohbnpbemaagreat", sum := "a0428e23062104b905707648722dc7641b3a6e572d73d8fc6b6a4d8b38c68852", func := "loop.example/gradual/laws.FnBlameUnsafe", spec := "fnBlameUnsafe", unfollowed := true, recurses := true, apart := false }
def FnBlameUnsafeSaid : Prop := fnBlameUnsafeRow.holds Tryz.pinned (OpenSpec.ofChange fnBlameUnsafeSpec)

/-- ITS FALSE NEIGHBOUR: 'it returns false'. Refute it at one input. -/
def fnBlameUnsafeWrong : ChangeSpec := { name := "fnBlameUnsafe", fn := fun _ => fun
  | [d] => { results := [.lit (.bool false)], args := [d] }
  | _ => none }
def FnBlameUnsafeWrongFalsely : Prop := fnBlameUnsafeRow.holds Tryz.pinned (OpenSpec.ofChange fnBlameUnsafeWrong)

/-- 'laws.FnBlameStep': WHATEVER THE INPUT: true; the input reads as it did. -/
def fnBlameStepSpec : ChangeSpec := { name := "fnBlameStep", fn := fun _ => fun
  | [d] => { results := [.lit (.bool true)], args := [d] }
  | _ => none }
def fnBlameStepRow : OpenClaim := { program := "ytjmicohbnpbemaagreat", sum := "a0428e23062104b905707648722dc7641b3a6e572d73d8fc6b6a4d8b38c68852", func := "loop.example/gradual/laws.FnBlameStep", spec := "fnBlameStep", unfollowed := true, recurses := true, apart := false }
def FnBlameStepSaid : Prop := fnBlameStepRow.holds Tryz.pinned (OpenSpec.ofChange fnBlameStepSpec)

/-- ITS FALSE NEIGHBOUR: 'it returns false'. Refute it at one input. -/
def fnBlameStepWrong : ChangeSpec := { name := "fnBlameStep", fn := fun _ => fun
  | [d] => { results := [.lit (.bool false)], args := [d] }
  | _ => none }
def FnBlameStepWrongFalsely : Prop := fnBlameStepRow.holds Tryz.pinned (OpenSpec.ofChange fnBlameStepWrong)

/-- 'laws.FnEvalPart': WHATEVER THE INPUT: true; the input reads as it did. -/
def fnEvalPartSpec : ChangeSpec := { name := "fnEvalPart", fn := fun _ => fun
  | [d] => { results := [.lit (.bool true)], args := [d] }
  | _ => none }
def fnEvalPartRow : OpenClaim := { program := "ytjmicohbnpbemaagreat", sum := "a0428e23062104b905707648722dc7641b3a6e572d73d8fc6b6a4d8b38c68852", func := "loop.example/gradual/laws.FnEvalPart", spec := "fnEvalPart", unfollowed := true, recurses := true, apart := false }
def FnEvalPartSaid : Prop := fnEvalPartRow.holds Tryz.pinned (OpenSpec.ofChange fnEvalPartSpec)

/-- ITS FALSE NEIGHBOUR: 'it returns false'. Refute it at one input. -/
def fnEvalPartWrong : ChangeSpec := { name := "fnEvalPart", fn := fun _ => fun
  | [d] => { results := [.lit (.bool false)], args := [d] }
  | _ => none }
def FnEvalPartWrongFalsely : Prop := fnEvalPartRow.holds Tryz.pinned (OpenSpec.ofChange fnEvalPartWrong)

/-- 'laws.FnEvalFuel': WHATEVER THE INPUT: true; the input reads as it did. -/
def fnEvalFuelSpec : ChangeSpec := { name := "fnEvalFuel", fn := fun _ => fun
  | [d1, d2] => { results := [.lit (.bool true)], args := [d1, d2] }
  | _ => none }
def fnEvalFuelRow : OpenClaim := { program := "ytjmicohbnpbemaagreat", sum := "a0428e23062104b905707648722dc7641b3a6e572d73d8fc6b6a4d8b38c68852", func := "loop.example/gradual/laws.FnEvalFuel", spec := "fnEvalFuel", unfollowed := true, recurses := true, apart := false }
def FnEvalFuelSaid : Prop := fnEvalFuelRow.holds Tryz.pinned (OpenSpec.ofChange fnEvalFuelSpec)

/-- ITS FALSE NEIGHBOUR: 'it returns false'. Refute it at one input. -/
def fnEvalFuelWrong : ChangeSpec := { name := "fnEvalFuel", fn := fun _ => fun
  | [d1, d2] => { results := [.lit (.bool false)], args := [d1, d2] }
  | _ => none }
def FnEvalFuelWrongFalsely : Prop := fnEvalFuelRow.holds Tryz.pinned (OpenSpec.ofChange fnEvalFuelWrong)

/-- 'laws.FnEvalIf': WHATEVER THE INPUT: true; the input reads as it did. -/
def fnEvalIfSpec : ChangeSpec := { name := "fnEvalIf", fn := fun _ => fun
  | [d] => { results := [.lit (.bool true)], args := [d] }
  | _ => none }
def fnEvalIfRow : OpenClaim := { program := "ytjmicohbnpbemaagreat", sum := "a0428e23062104b905707648722dc7641b3a6e572d73d8fc6b6a4d8b38c68852", func := "loop.example/gradual/laws.FnEvalIf", spec := "fnEvalIf", unfollowed := true, recurses := true, apart := false }
def FnEvalIfSaid : Prop := fnEvalIfRow.holds Tryz.pinned (OpenSpec.ofChange fnEvalIfSpec)

/-- ITS FALSE NEIGHBOUR: 'it returns false'. Refute it at one input. -/
def fnEvalIfWrong : ChangeSpec := { name := "fnEvalIf", fn := fun _ => fun
  | [d] => { results := [.lit (.bool false)], args := [d] }
  | _ => none }
def FnEvalIfWrongFalsely : Prop := fnEvalIfRow.holds Tryz.pinned (OpenSpec.ofChange fnEvalIfWrong)

/-- 'laws.FnEvalStep': WHATEVER THE INPUT: true; the input reads as it did. -/
def fnEvalStepSpec : ChangeSpec := { name := "fnEvalStep", fn := fun _ => fun
  | [d] => { results := [.lit (.bool true)], args := [d] }
  | _ => none }
def fnEvalStepRow : OpenClaim := { program := "ytjmicohbnpbemaagreat", sum := "a0428e23062104b905707648722dc7641b3a6e572d73d8fc6b6a4d8b38c68852", func := "loop.example/gradual/laws.FnEvalStep", spec := "fnEvalStep", unfollowed := true, recurses := true, apart := false }
def FnEvalStepSaid : Prop := fnEvalStepRow.holds Tryz.pinned (OpenSpec.ofChange fnEvalStepSpec)

/-- ITS FALSE NEIGHBOUR: 'it returns false'. Refute it at one input. -/
def fnEvalStepWrong : ChangeSpec := { name := "fnEvalStep", fn := fun _ => fun
  | [d] => { results := [.lit (.bool false)], args := [d] }
  | _ => none }
def FnEvalStepWrongFalsely : Prop := fnEvalStepRow.holds Tryz.pinned (OpenSpec.ofChange fnEvalStepWrong)

/-- 'laws.FnBlameSafe': WHATEVER THE INPUT: true; the input reads as it did. -/
def fnBlameSafeSpec : ChangeSpec := { name := "fnBlameSafe", fn := fun _ => fun
  | [d] => { results := [.lit (.bool true)], args := [d] }
  | _ => none }
def fnBlameSafeRow : OpenClaim := { program := "ytjmicohbnpbemaagreat", sum := "a0428e23062104b905707648722dc7641b3a6e572d73d8fc6b6a4d8b38c68852", func := "loop.example/gradual/laws.FnBlameSafe", spec := "fnBlameSafe", unfollowed := true, recurses := true, apart := false }
def FnBlameSafeSaid : Prop := fnBlameSafeRow.holds Tryz.pinned (OpenSpec.ofChange fnBlameSafeSpec)

/-- ITS FALSE NEIGHBOUR: 'it returns false'. Refute it at one input. -/
def fnBlameSafeWrong : ChangeSpec := { name := "fnBlameSafe", fn := fun _ => fun
  | [d] => { results := [.lit (.bool false)], args := [d] }
  | _ => none }
def FnBlameSafeWrongFalsely : Prop := fnBlameSafeRow.holds Tryz.pinned (OpenSpec.ofChange fnBlameSafeWrong)

/-- 'laws.FnPreservation': WHATEVER THE INPUT: true; the input reads as it did. -/
def fnPreservationSpec : ChangeSpec := { name := "fnPreservation", fn := fun _ => fun
  | [d] => { results := [.lit (.bool true)], args := [d] }
  | _ => none }
def fnPreservationRow : OpenClaim := { program := "ytjmicohbnpbemaagreat", sum := "a0428e23062104b905707648722dc7641b3a6e572d73d8fc6b6a4d8b38c68852", func := "loop.example/gradual/laws.FnPreservation", spec := "fnPreservation", unfollowed := true, recurses := true, apart := false }
def FnPreservationSaid : Prop := fnPreservationRow.holds Tryz.pinned (OpenSpec.ofChange fnPreservationSpec)

/-- ITS FALSE NEIGHBOUR: 'it returns false'. Refute it at one input. -/
def fnPreservationWrong : ChangeSpec := { name := "fnPreservation", fn := fun _ => fun
  | [d] => { results := [.lit (.bool false)], args := [d] }
  | _ => none }
def FnPreservationWrongFalsely : Prop := fnPreservationRow.holds Tryz.pinned (OpenSpec.ofChange fnPreservationWrong)

/-- 'laws.FnProgress': WHATEVER THE INPUT: true; the input reads as it did. -/
def fnProgressSpec : ChangeSpec := { name := "fnProgress", fn := fun _ => fun
  | [d] => { results := [.lit (.bool true)], args := [d] }
  | _ => none }
def fnProgressRow : OpenClaim := { program := "ytjmicohbnpbemaagreat", sum := "a0428e23062104b905707648722dc7641b3a6e572d73d8fc6b6a4d8b38c68852", func := "loop.example/gradual/laws.FnProgress", spec := "fnProgress", unfollowed := true, recurses := true, apart := false }
def FnProgressSaid : Prop := fnProgressRow.holds Tryz.pinned (OpenSpec.ofChange fnProgressSpec)

/-- ITS FALSE NEIGHBOUR: 'it returns false'. Refute it at one input. -/
def fnProgressWrong : ChangeSpec := { name := "fnProgress", fn := fun _ => fun
  | [d] => { results := [.lit (.bool false)], args := [d] }
  | _ => none }
def FnProgressWrongFalsely : Prop := fnProgressRow.holds Tryz.pinned (OpenSpec.ofChange fnProgressWrong)

/-- 'laws.FnEvalIdentity': WHATEVER THE INPUT: true; the input reads as it did. -/
def fnEvalIdentitySpec : ChangeSpec := { name := "fnEvalIdentity", fn := fun _ => fun
  | [d] => { results := [.lit (.bool true)], args := [d] }
  | _ => none }
def fnEvalIdentityRow : OpenClaim := { program := "ytjmicohbnpbemaagreat", sum := "a0428e23062104b905707648722dc7641b3a6e572d73d8fc6b6a4d8b38c68852", func := "loop.example/gradual/laws.FnEvalIdentity", spec := "fnEvalIdentity", unfollowed := true, recurses := true, apart := false }
def FnEvalIdentitySaid : Prop := fnEvalIdentityRow.holds Tryz.pinned (OpenSpec.ofChange fnEvalIdentitySpec)

/-- ITS FALSE NEIGHBOUR: 'it returns false'. Refute it at one input. -/
def fnEvalIdentityWrong : ChangeSpec := { name := "fnEvalIdentity", fn := fun _ => fun
  | [d] => { results := [.lit (.bool false)], args := [d] }
  | _ => none }
def FnEvalIdentityWrongFalsely : Prop := fnEvalIdentityRow.holds Tryz.pinned (OpenSpec.ofChange fnEvalIdentityWrong)

/-- 'laws.FnStepLabels': WHATEVER THE INPUT: true; the input reads as it did. -/
def fnStepLabelsSpec : ChangeSpec := { name := "fnStepLabels", fn := fun _ => fun
  | [d] => { results := [.lit (.bool true)], args := [d] }
  | _ => none }
def fnStepLabelsRow : OpenClaim := { program := "ytjmicohbnpbemaagreat", sum := "a0428e23062104b905707648722dc7641b3a6e572d73d8fc6b6a4d8b38c68852", func := "loop.example/gradual/laws.FnStepLabels", spec := "fnStepLabels", unfollowed := true, recurses := true, apart := false }
def FnStepLabelsSaid : Prop := fnStepLabelsRow.holds Tryz.pinned (OpenSpec.ofChange fnStepLabelsSpec)

/-- ITS FALSE NEIGHBOUR: 'it returns false'. Refute it at one input. -/
def fnStepLabelsWrong : ChangeSpec := { name := "fnStepLabels", fn := fun _ => fun
  | [d] => { results := [.lit (.bool false)], args := [d] }
  | _ => none }
def FnStepLabelsWrongFalsely : Prop := fnStepLabelsRow.holds Tryz.pinned (OpenSpec.ofChange fnStepLabelsWrong)

/- THE SECOND FORM. 'bulk': how many values and letters a reading holds, each counted each time it is reached (what is shared counts as often as it is met; a slice's spare places count too). A statement '..UptoSaid' is the law's where the arguments, and the package variables that the reading takes, are together of bulk at most 1048576: NARROWER than '..Said'. Prove '..Said' where nothing that the law and all that it calls make is longer than what came in: it says more and counts as full. Else prove '..UptoSaid'. A law counts once. -/
mutual
def uptoBulk {H : Type} : DataW H → Nat
  | .lit (.string bytes) => bytes.length + 1
  | .lit _ => 1
  | .nil => 1
  | .ptr d => uptoBulk d + 1
  | .slice elems spare => uptoBulkAll elems + uptoBulkAll spare + 1
  | .agg parts => uptoBulkAll parts + 1
  | .iface _ d => uptoBulk d + 1
  | .map entries => uptoBulkEntries entries + 1
  | .held _ => 1
def uptoBulkAll {H : Type} : List (DataW H) → Nat
  | [] => 0
  | d :: r => uptoBulk d + uptoBulkAll r
def uptoBulkEntries {H : Type} : List (Lit × DataW H) → Nat
  | [] => 0
  | x :: r => uptoBulkEntry x + uptoBulkEntries r
def uptoBulkEntry {H : Type} : Lit × DataW H → Nat
  | (.string bytes, d) => bytes.length + uptoBulk d + 1
  | (_, d) => uptoBulk d + 1
 end
def uptoSmall : (H : Type) → List (DataW H) → Bool := fun _ ds => decide (uptoBulkAll ds ≤ 1048576)
def OpenSpec.upto (s : _root_.Go.ChangeSpec) : _root_.Go.OpenSpec := { _root_.Go.OpenSpec.ofChange s with cond := some uptoSmall }

/-- 'laws.FnBlameUnsafe', WHERE WHAT IT READS IS OF BULK AT MOST 1048576: true; the input reads as it did. -/
def fnBlameUnsafeUptoRow : OpenClaim := { program := "ytjmicohbnpbemaagreat", sum := "a0428e23062104b905707648722dc7641b3a6e572d73d8fc6b6a4d8b38c68852", func := "loop.example/gradual/laws.FnBlameUnsafe", spec := "fnBlameUnsafe", unfollowed := true, recurses := true, apart := false, narrowed := true }
def FnBlameUnsafeUptoSaid : Prop := fnBlameUnsafeUptoRow.holds Tryz.pinned (OpenSpec.upto fnBlameUnsafeSpec)

/-- 'laws.FnBlameStep', WHERE WHAT IT READS IS OF BULK AT MOST 1048576: true; the input reads as it did. -/
def fnBlameStepUptoRow : OpenClaim := { program := "ytjmicohbnpbemaagreat", sum := "a0428e23062104b905707648722dc7641b3a6e572d73d8fc6b6a4d8b38c68852", func := "loop.example/gradual/laws.FnBlameStep", spec := "fnBlameStep", unfollowed := true, recurses := true, apart := false, narrowed := true }
def FnBlameStepUptoSaid : Prop := fnBlameStepUptoRow.holds Tryz.pinned (OpenSpec.upto fnBlameStepSpec)

/-- 'laws.FnEvalPart', WHERE WHAT IT READS IS OF BULK AT MOST 1048576: true; the input reads as it did. -/
def fnEvalPartUptoRow : OpenClaim := { program := "ytjmicohbnpbemaagreat", sum := "a0428e23062104b905707648722dc7641b3a6e572d73d8fc6b6a4d8b38c68852", func := "loop.example/gradual/laws.FnEvalPart", spec := "fnEvalPart", unfollowed := true, recurses := true, apart := false, narrowed := true }
def FnEvalPartUptoSaid : Prop := fnEvalPartUptoRow.holds Tryz.pinned (OpenSpec.upto fnEvalPartSpec)

/-- 'laws.FnEvalFuel', WHERE WHAT IT READS IS OF BULK AT MOST 1048576: true; the input reads as it did. -/
def fnEvalFuelUptoRow : OpenClaim := { program := "ytjmicohbnpbemaagreat", sum := "a0428e23062104b905707648722dc7641b3a6e572d73d8fc6b6a4d8b38c68852", func := "loop.example/gradual/laws.FnEvalFuel", spec := "fnEvalFuel", unfollowed := true, recurses := true, apart := false, narrowed := true }
def FnEvalFuelUptoSaid : Prop := fnEvalFuelUptoRow.holds Tryz.pinned (OpenSpec.upto fnEvalFuelSpec)

/-- 'laws.FnEvalIf', WHERE WHAT IT READS IS OF BULK AT MOST 1048576: true; the input reads as it did. -/
def fnEvalIfUptoRow : OpenClaim := { program := "ytjmicohbnpbemaagreat", sum := "a0428e23062104b905707648722dc7641b3a6e572d73d8fc6b6a4d8b38c68852", func := "loop.example/gradual/laws.FnEvalIf", spec := "fnEvalIf", unfollowed := true, recurses := true, apart := false, narrowed := true }
def FnEvalIfUptoSaid : Prop := fnEvalIfUptoRow.holds Tryz.pinned (OpenSpec.upto fnEvalIfSpec)

/-- 'laws.FnEvalStep', WHERE WHAT IT READS IS OF BULK AT MOST 1048576: true; the input reads as it did. -/
def fnEvalStepUptoRow : OpenClaim := { program := "ytjmicohbnpbemaagreat", sum := "a0428e23062104b905707648722dc7641b3a6e572d73d8fc6b6a4d8b38c68852", func := "loop.example/gradual/laws.FnEvalStep", spec := "fnEvalStep", unfollowed := true, recurses := true, apart := false, narrowed := true }
def FnEvalStepUptoSaid : Prop := fnEvalStepUptoRow.holds Tryz.pinned (OpenSpec.upto fnEvalStepSpec)

/-- 'laws.FnBlameSafe', WHERE WHAT IT READS IS OF BULK AT MOST 1048576: true; the input reads as it did. -/
def fnBlameSafeUptoRow : OpenClaim := { program := "ytjmicohbnpbemaagreat", sum := "a0428e23062104b905707648722dc7641b3a6e572d73d8fc6b6a4d8b38c68852", func := "loop.example/gradual/laws.FnBlameSafe", spec := "fnBlameSafe", unfollowed := true, recurses := true, apart := false, narrowed := true }
def FnBlameSafeUptoSaid : Prop := fnBlameSafeUptoRow.holds Tryz.pinned (OpenSpec.upto fnBlameSafeSpec)

/-- 'laws.FnPreservation', WHERE WHAT IT READS IS OF BULK AT MOST 1048576: true; the input reads as it did. -/
def fnPreservationUptoRow : OpenClaim := { program := "ytjmicohbnpbemaagreat", sum := "a0428e23062104b905707648722dc7641b3a6e572d73d8fc6b6a4d8b38c68852", func := "loop.example/gradual/laws.FnPreservation", spec := "fnPreservation", unfollowed := true, recurses := true, apart := false, narrowed := true }
def FnPreservationUptoSaid : Prop := fnPreservationUptoRow.holds Tryz.pinned (OpenSpec.upto fnPreservationSpec)

/-- 'laws.FnProgress', WHERE WHAT IT READS IS OF BULK AT MOST 1048576: true; the input reads as it did. -/
def fnProgressUptoRow : OpenClaim := { program := "ytjmicohbnpbemaagreat", sum := "a0428e23062104b905707648722dc7641b3a6e572d73d8fc6b6a4d8b38c68852", func := "loop.example/gradual/laws.FnProgress", spec := "fnProgress", unfollowed := true, recurses := true, apart := false, narrowed := true }
def FnProgressUptoSaid : Prop := fnProgressUptoRow.holds Tryz.pinned (OpenSpec.upto fnProgressSpec)

/-- 'laws.FnEvalIdentity', WHERE WHAT IT READS IS OF BULK AT MOST 1048576: true; the input reads as it did. -/
def fnEvalIdentityUptoRow : OpenClaim := { program := "ytjmicohbnpbemaagreat", sum := "a0428e23062104b905707648722dc7641b3a6e572d73d8fc6b6a4d8b38c68852", func := "loop.example/gradual/laws.FnEvalIdentity", spec := "fnEvalIdentity", unfollowed := true, recurses := true, apart := false, narrowed := true }
def FnEvalIdentityUptoSaid : Prop := fnEvalIdentityUptoRow.holds Tryz.pinned (OpenSpec.upto fnEvalIdentitySpec)

/-- 'laws.FnStepLabels', WHERE WHAT IT READS IS OF BULK AT MOST 1048576: true; the input reads as it did. -/
def fnStepLabelsUptoRow : OpenClaim := { program := "ytjmicohbnpbemaagreat", sum := "a0428e23062104b905707648722dc7641b3a6e572d73d8fc6b6a4d8b38c68852", func := "loop.example/gradual/laws.FnStepLabels", spec := "fnStepLabels", unfollowed := true, recurses := true, apart := false, narrowed := true }
def FnStepLabelsUptoSaid : Prop := fnStepLabelsUptoRow.holds Tryz.pinned (OpenSpec.upto fnStepLabelsSpec)

end Rows
end Go.Proofs.YtjmicohbnpbemaaGreat
