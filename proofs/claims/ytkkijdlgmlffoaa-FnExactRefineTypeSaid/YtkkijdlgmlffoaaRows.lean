/-
  NARROWER THAN 'FOR EVERY INPUT', by the rows' own cells (each row's printed sentence says how): FnExactSubtype: loops · FnExactSubNegative: loops · FnExactSubPositive: loops · FnExactRefineType: loops.
  DERIVED. THE GIVEN ROWS OF THIS SEAT. 9 by the template 'for every input the law returns true; each argument reads behind the call as it read before'; 0 by the template 'total and deterministic' (their statements: YtkkijdlgmlffoaaTotals.lean).
  GIVEN WITH THE SEED: the statements are not yours to turn. If you find one false, say at which input.
  Laid BY PROGRAM, IN A SANDBOX (cutbox-rows.mjs): the forced cells as the released guide's own fill.sh prints them over the translation d94a2c31d178821d… (all of the seat's roots in one cut). By AI agents, Wed Nov 11 2026. No macro, syntax, notation, axiom, sorry.
-/
import Derived.Test.YtkkijdlgmlffoaaChecked
import GoSem.Claim
import GoSem.ClaimJoined
import GoSem.ClaimMapViews
import Derived.JoinedTies
import Derived.KernelRfl
namespace Go.Proofs.Ytkkijdlgmlffoaa
/- THE CELL 'sum', in the pinned program and in every row, IS THE sha256 OF THE DUMP (.gsa) THAT YtkkijdlgmlffoaaProg.lean LOADS. Nothing in Lean hashes anything: it is a label: what it is worth is what the hold of that sum in a sandbox is worth. -/
noncomputable def Try.pinned : Pinned := { name := "ytkkijdlgmlffoaa", sum := "d94a2c31d178821de71dca1ac985056f5db195036da29527e60d86e8221523a2", checked := Try.checked }
namespace Rows
def none {H : Type} : Left H := { results := [], args := [] }

/-- 'laws.FnExactSubtype': WHATEVER THE INPUT: true; the input reads as it did. -/
def fnExactSubtypeSpec : ChangeSpec := { name := "fnExactSubtype", fn := fun _ => fun
  | [d1, d2] => { results := [.lit (.bool true)], args := [d1, d2] }
  | _ => none }
def fnExactSubtypeRow : OpenClaim := { program := "ytkkijdlgmlffoaa", sum := "d94a2c31d178821de71dca1ac985056f5db195036da29527e60d86e8221523a2", func := "loop.example/gradual/laws.FnExactSubtype", spec := "fnExactSubtype", unfollowed := true, recurses := true, loops := true, apart := false }
def FnExactSubtypeSaid : Prop := fnExactSubtypeRow.holds Try.pinned (OpenSpec.ofChange fnExactSubtypeSpec)

/-- ITS FALSE NEIGHBOUR: 'it returns false'. Refute it at one input. -/
def fnExactSubtypeWrong : ChangeSpec := { name := "fnExactSubtype", fn := fun _ => fun
  | [d1, d2] => { results := [.lit (.bool false)], args := [d1, d2] }
  | _ => none }
def FnExactSubtypeWrongFalsely : Prop := fnExactSubtypeRow.holds Try.pinned (OpenSpec.ofChange fnExactSubtypeWrong)

/-- 'laws.FnExactSubNegative': WHATEVER THE INPUT: true; the input reads as it did. -/
def fnExactSubNegativeSpec : ChangeSpec := { name := "fnExactSubNegative", fn := fun _ => fun
  | [d1, d2] => { results := [.lit (.bool true)], args := [d1, d2] }
  | _ => none }
def fnExactSubNegativeRow : OpenClaim := { program := "ytkkijdlgmlffoaa", sum := "d94a2c31d178821de71dca1ac985056f5db195036da29527e60d86e8221523a2", func := "loop.example/gradual/laws.FnExactSubNegative", spec := "fnExactSubNegative", unfollowed := true, recurses := true, loops := true, apart := false }
def FnExactSubNegativeSaid : Prop := fnExactSubNegativeRow.holds Try.pinned (OpenSpec.ofChange fnExactSubNegativeSpec)

/-- ITS FALSE NEIGHBOUR: 'it returns false'. Refute it at one input. -/
def fnExactSubNegativeWrong : ChangeSpec := { name := "fnExactSubNegative", fn := fun _ => fun
  | [d1, d2] => { results := [.lit (.bool false)], args := [d1, d2] }
  | _ => none }
def FnExactSubNegativeWrongFalsely : Prop := fnExactSubNegativeRow.holds Try.pinned (OpenSpec.ofChange fnExactSubNegativeWrong)

/-- 'laws.FnExactSubPositive': WHATEVER THE INPUT: true; the input reads as it did. -/
def fnExactSubPositiveSpec : ChangeSpec := { name := "fnExactSubPositive", fn := fun _ => fun
  | [d1, d2] => { results := [.lit (.bool true)], args := [d1, d2] }
  | _ => none }
def fnExactSubPositiveRow : OpenClaim := { program := "ytkkijdlgmlffoaa", sum := "d94a2c31d178821de71dca1ac985056f5db195036da29527e60d86e8221523a2", func := "loop.example/gradual/laws.FnExactSubPositive", spec := "fnExactSubPositive", unfollowed := true, recurses := true, loops := true, apart := false }
def FnExactSubPositiveSaid : Prop := fnExactSubPositiveRow.holds Try.pinned (OpenSpec.ofChange fnExactSubPositiveSpec)

/-- ITS FALSE NEIGHBOUR: 'it returns false'. Refute it at one input. -/
def fnExactSubPositiveWrong : ChangeSpec := { name := "fnExactSubPositive", fn := fun _ => fun
  | [d1, d2] => { results := [.lit (.bool false)], args := [d1, d2] }
  | _ => none }
def FnExactSubPositiveWrongFalsely : Prop := fnExactSubPositiveRow.holds Try.pinned (OpenSpec.ofChange fnExactSubPositiveWrong)

/-- 'laws.FnSubtypeOrder': WHATEVER THE INPUT: true; the input reads as it did. -/
def fnSubtypeOrderSpec : ChangeSpec := { name := "fnSubtypeOrder", fn := fun _ => fun
  | [d1, d2] => { results := [.lit (.bool true)], args := [d1, d2] }
  | _ => none }
def fnSubtypeOrderRow : OpenClaim := { program := "ytkkijdlgmlffoaa", sum := "d94a2c31d178821de71dca1ac985056f5db195036da29527e60d86e8221523a2", func := "loop.example/gradual/laws.FnSubtypeOrder", spec := "fnSubtypeOrder", unfollowed := true, recurses := true, apart := false }
def FnSubtypeOrderSaid : Prop := fnSubtypeOrderRow.holds Try.pinned (OpenSpec.ofChange fnSubtypeOrderSpec)

/-- ITS FALSE NEIGHBOUR: 'it returns false'. Refute it at one input. -/
def fnSubtypeOrderWrong : ChangeSpec := { name := "fnSubtypeOrder", fn := fun _ => fun
  | [d1, d2] => { results := [.lit (.bool false)], args := [d1, d2] }
  | _ => none }
def FnSubtypeOrderWrongFalsely : Prop := fnSubtypeOrderRow.holds Try.pinned (OpenSpec.ofChange fnSubtypeOrderWrong)

/-- 'laws.FnNaiveSubtype': WHATEVER THE INPUT: true; the input reads as it did. -/
def fnNaiveSubtypeSpec : ChangeSpec := { name := "fnNaiveSubtype", fn := fun _ => fun
  | [d] => { results := [.lit (.bool true)], args := [d] }
  | _ => none }
def fnNaiveSubtypeRow : OpenClaim := { program := "ytkkijdlgmlffoaa", sum := "d94a2c31d178821de71dca1ac985056f5db195036da29527e60d86e8221523a2", func := "loop.example/gradual/laws.FnNaiveSubtype", spec := "fnNaiveSubtype", unfollowed := true, recurses := true, apart := false }
def FnNaiveSubtypeSaid : Prop := fnNaiveSubtypeRow.holds Try.pinned (OpenSpec.ofChange fnNaiveSubtypeSpec)

/-- ITS FALSE NEIGHBOUR: 'it returns false'. Refute it at one input. -/
def fnNaiveSubtypeWrong : ChangeSpec := { name := "fnNaiveSubtype", fn := fun _ => fun
  | [d] => { results := [.lit (.bool false)], args := [d] }
  | _ => none }
def FnNaiveSubtypeWrongFalsely : Prop := fnNaiveSubtypeRow.holds Try.pinned (OpenSpec.ofChange fnNaiveSubtypeWrong)

/-- 'laws.FnSubtypeBounds': WHATEVER THE INPUT: true; the input reads as it did. -/
def fnSubtypeBoundsSpec : ChangeSpec := { name := "fnSubtypeBounds", fn := fun _ => fun
  | [d] => { results := [.lit (.bool true)], args := [d] }
  | _ => none }
def fnSubtypeBoundsRow : OpenClaim := { program := "ytkkijdlgmlffoaa", sum := "d94a2c31d178821de71dca1ac985056f5db195036da29527e60d86e8221523a2", func := "loop.example/gradual/laws.FnSubtypeBounds", spec := "fnSubtypeBounds", unfollowed := true, recurses := true, apart := false }
def FnSubtypeBoundsSaid : Prop := fnSubtypeBoundsRow.holds Try.pinned (OpenSpec.ofChange fnSubtypeBoundsSpec)

/-- ITS FALSE NEIGHBOUR: 'it returns false'. Refute it at one input. -/
def fnSubtypeBoundsWrong : ChangeSpec := { name := "fnSubtypeBounds", fn := fun _ => fun
  | [d] => { results := [.lit (.bool false)], args := [d] }
  | _ => none }
def FnSubtypeBoundsWrongFalsely : Prop := fnSubtypeBoundsRow.holds Try.pinned (OpenSpec.ofChange fnSubtypeBoundsWrong)

/-- 'laws.FnSubtype': WHATEVER THE INPUT: true; the input reads as it did. -/
def fnSubtypeSpec : ChangeSpec := { name := "fnSubtype", fn := fun _ => fun
  | [d] => { results := [.lit (.bool true)], args := [d] }
  | _ => none }
def fnSubtypeRow : OpenClaim := { program := "ytkkijdlgmlffoaa", sum := "d94a2c31d178821de71dca1ac985056f5db195036da29527e60d86e8221523a2", func := "loop.example/gradual/laws.FnSubtype", spec := "fnSubtype", unfollowed := true, recurses := true, apart := false }
def FnSubtypeSaid : Prop := fnSubtypeRow.holds Try.pinned (OpenSpec.ofChange fnSubtypeSpec)

/-- ITS FALSE NEIGHBOUR: 'it returns false'. Refute it at one input. -/
def fnSubtypeWrong : ChangeSpec := { name := "fnSubtype", fn := fun _ => fun
  | [d] => { results := [.lit (.bool false)], args := [d] }
  | _ => none }
def FnSubtypeWrongFalsely : Prop := fnSubtypeRow.holds Try.pinned (OpenSpec.ofChange fnSubtypeWrong)

/-- 'laws.FnExactRefineType': WHATEVER THE INPUT: true; the input reads as it did. -/
def fnExactRefineTypeSpec : ChangeSpec := { name := "fnExactRefineType", fn := fun _ => fun
  | [d] => { results := [.lit (.bool true)], args := [d] }
  | _ => none }
def fnExactRefineTypeRow : OpenClaim := { program := "ytkkijdlgmlffoaa", sum := "d94a2c31d178821de71dca1ac985056f5db195036da29527e60d86e8221523a2", func := "loop.example/gradual/laws.FnExactRefineType", spec := "fnExactRefineType", unfollowed := true, recurses := true, loops := true, apart := false }
def FnExactRefineTypeSaid : Prop := fnExactRefineTypeRow.holds Try.pinned (OpenSpec.ofChange fnExactRefineTypeSpec)

/-- ITS FALSE NEIGHBOUR: 'it returns false'. Refute it at one input. -/
def fnExactRefineTypeWrong : ChangeSpec := { name := "fnExactRefineType", fn := fun _ => fun
  | [d] => { results := [.lit (.bool false)], args := [d] }
  | _ => none }
def FnExactRefineTypeWrongFalsely : Prop := fnExactRefineTypeRow.holds Try.pinned (OpenSpec.ofChange fnExactRefineTypeWrong)

/-- 'laws.FnRefineType': WHATEVER THE INPUT: true; the input reads as it did. -/
def fnRefineTypeSpec : ChangeSpec := { name := "fnRefineType", fn := fun _ => fun
  | [d] => { results := [.lit (.bool true)], args := [d] }
  | _ => none }
def fnRefineTypeRow : OpenClaim := { program := "ytkkijdlgmlffoaa", sum := "d94a2c31d178821de71dca1ac985056f5db195036da29527e60d86e8221523a2", func := "loop.example/gradual/laws.FnRefineType", spec := "fnRefineType", unfollowed := true, recurses := true, apart := false }
def FnRefineTypeSaid : Prop := fnRefineTypeRow.holds Try.pinned (OpenSpec.ofChange fnRefineTypeSpec)

/-- ITS FALSE NEIGHBOUR: 'it returns false'. Refute it at one input. -/
def fnRefineTypeWrong : ChangeSpec := { name := "fnRefineType", fn := fun _ => fun
  | [d] => { results := [.lit (.bool false)], args := [d] }
  | _ => none }
def FnRefineTypeWrongFalsely : Prop := fnRefineTypeRow.holds Try.pinned (OpenSpec.ofChange fnRefineTypeWrong)

/- THE SECOND FORM. 'bulk': how many values and letters a reading holds, each counted each time it is reached (what is shared counts as often as it is met; a slice's spare places count too). A statement '..UptoSaid' is the law's where the arguments, and the package variables that the reading takes, are together of bulk at most 1048576: NARROWER than '..Said'. Prove '..Said' where nothing that the law and all that it calls make is longer than what came in: it says more and counts as full. Else prove '..UptoSaid'. A law counts once. -/
mutual
def uptoBulk {H : Type} : DataW H → Nat
  | .lit (.string bytes) => bytes.length + 1
  | .lit _ => 1
  | .nil => 1
  | .ptr d => uptoBulk d + 1
  | .slice elems spare => uptoBulkAll elems + uptoBulkAll spare + 1
  | .agg parts => uptoBulkAll parts + 1
  | .iface _ d => uptoBulk d + 1
  | .map entries => uptoBulkEntries entries + 1
  | .held _ => 1
def uptoBulkAll {H : Type} : List (DataW H) → Nat
  | [] => 0
  | d :: r => uptoBulk d + uptoBulkAll r
def uptoBulkEntries {H : Type} : List (Lit × DataW H) → Nat
  | [] => 0
  | x :: r => uptoBulkEntry x + uptoBulkEntries r
def uptoBulkEntry {H : Type} : Lit × DataW H → Nat
  | (.string bytes, d) => bytes.length + uptoBulk d + 1
  | (_, d) => uptoBulk d + 1
 end
def uptoSmall : (H : Type) → List (DataW H) → Bool := fun _ ds => decide (uptoBulkAll ds ≤ 1048576)
def OpenSpec.upto (s : _root_.Go.ChangeSpec) : _root_.Go.OpenSpec := { _root_.Go.OpenSpec.ofChange s with cond := some uptoSmall }

/-- 'laws.FnExactSubtype', WHERE WHAT IT READS IS OF BULK AT MOST 1048576: true; the input reads as it did. -/
def fnExactSubtypeUptoRow : OpenClaim := { program := "ytkkijdlgmlffoaa", sum := "d94a2c31d178821de71dca1ac985056f5db195036da29527e60d86e8221523a2", func := "loop.example/gradual/laws.FnExactSubtype", spec := "fnExactSubtype", unfollowed := true, recurses := true, loops := true, apart := false, narrowed := true }
def FnExactSubtypeUptoSaid : Prop := fnExactSubtypeUptoRow.holds Try.pinned (OpenSpec.upto fnExactSubtypeSpec)

/-- 'laws.FnExactSubNegative', WHERE WHAT IT READS IS OF BULK AT MOST 1048576: true; the input reads as it did. -/
def fnExactSubNegativeUptoRow : OpenClaim := { program := "ytkkijdlgmlffoaa", sum := "d94a2c31d178821de71dca1ac985056f5db195036da29527e60d86e8221523a2", func := "loop.example/gradual/laws.FnExactSubNegative", spec := "fnExactSubNegative", unfollowed := true, recurses := true, loops := true, apart := false, narrowed := true }
def FnExactSubNegativeUptoSaid : Prop := fnExactSubNegativeUptoRow.holds Try.pinned (OpenSpec.upto fnExactSubNegativeSpec)

/-- 'laws.FnExactSubPositive', WHERE WHAT IT READS IS OF BULK AT MOST 1048576: true; the input reads as it did. -/
def fnExactSubPositiveUptoRow : OpenClaim := { program := "ytkkijdlgmlffoaa", sum := "d94a2c31d178821de71dca1ac985056f5db195036da29527e60d86e8221523a2", func := "loop.example/gradual/laws.FnExactSubPositive", spec := "fnExactSubPositive", unfollowed := true, recurses := true, loops := true, apart := false, narrowed := true }
def FnExactSubPositiveUptoSaid : Prop := fnExactSubPositiveUptoRow.holds Try.pinned (OpenSpec.upto fnExactSubPositiveSpec)

/-- 'laws.FnSubtypeOrder', WHERE WHAT IT READS IS OF BULK AT MOST 1048576: true; the input reads as it did. -/
def fnSubtypeOrderUptoRow : OpenClaim := { program := "ytkkijdlgmlffoaa", sum := "d94a2c31d178821de71dca1ac985056f5db195036da29527e60d86e8221523a2", func := "loop.example/gradual/laws.FnSubtypeOrder", spec := "fnSubtypeOrder", unfollowed := true, recurses := true, apart := false, narrowed := true }
def FnSubtypeOrderUptoSaid : Prop := fnSubtypeOrderUptoRow.holds Try.pinned (OpenSpec.upto fnSubtypeOrderSpec)

/-- 'laws.FnNaiveSubtype', WHERE WHAT IT READS IS OF BULK AT MOST 1048576: true; the input reads as it did. -/
def fnNaiveSubtypeUptoRow : OpenClaim := { program := "ytkkijdlgmlffoaa", sum := "d94a2c31d178821de71dca1ac985056f5db195036da29527e60d86e8221523a2", func := "loop.example/gradual/laws.FnNaiveSubtype", spec := "fnNaiveSubtype", unfollowed := true, recurses := true, apart := false, narrowed := true }
def FnNaiveSubtypeUptoSaid : Prop := fnNaiveSubtypeUptoRow.holds Try.pinned (OpenSpec.upto fnNaiveSubtypeSpec)

/-- 'laws.FnSubtypeBounds', WHERE WHAT IT READS IS OF BULK AT MOST 1048576: true; the input reads as it did. -/
def fnSubtypeBoundsUptoRow : OpenClaim := { program := "ytkkijdlgmlffoaa", sum := "d94a2c31d178821de71dca1ac985056f5db195036da29527e60d86e8221523a2", func := "loop.example/gradual/laws.FnSubtypeBounds", spec := "fnSubtypeBounds", unfollowed := true, recurses := true, apart := false, narrowed := true }
def FnSubtypeBoundsUptoSaid : Prop := fnSubtypeBoundsUptoRow.holds Try.pinned (OpenSpec.upto fnSubtypeBoundsSpec)

/-- 'laws.FnSubtype', WHERE WHAT IT READS IS OF BULK AT MOST 1048576: true; the input reads as it did. -/
def fnSubtypeUptoRow : OpenClaim := { program := "ytkkijdlgmlffoaa", sum := "d94a2c31d178821de71dca1ac985056f5db195036da29527e60d86e8221523a2", func := "loop.example/gradual/laws.FnSubtype", spec := "fnSubtype", unfollowed := true, recurses := true, apart := false, narrowed := true }
def FnSubtypeUptoSaid : Prop := fnSubtypeUptoRow.holds Try.pinned (OpenSpec.upto fnSubtypeSpec)

/-- 'laws.FnExactRefineType', WHERE WHAT IT READS IS OF BULK AT MOST 1048576: true; the input reads as it did. -/
def fnExactRefineTypeUptoRow : OpenClaim := { program := "ytkkijdlgmlffoaa", sum := "d94a2c31d178821de71dca1ac985056f5db195036da29527e60d86e8221523a2", func := "loop.example/gradual/laws.FnExactRefineType", spec := "fnExactRefineType", unfollowed := true, recurses := true, loops := true, apart := false, narrowed := true }
def FnExactRefineTypeUptoSaid : Prop := fnExactRefineTypeUptoRow.holds Try.pinned (OpenSpec.upto fnExactRefineTypeSpec)

/-- 'laws.FnRefineType', WHERE WHAT IT READS IS OF BULK AT MOST 1048576: true; the input reads as it did. -/
def fnRefineTypeUptoRow : OpenClaim := { program := "ytkkijdlgmlffoaa", sum := "d94a2c31d178821de71dca1ac985056f5db195036da29527e60d86e8221523a2", func := "loop.example/gradual/laws.FnRefineType", spec := "fnRefineType", unfollowed := true, recurses := true, apart := false, narrowed := true }
def FnRefineTypeUptoSaid : Prop := fnRefineTypeUptoRow.holds Try.pinned (OpenSpec.upto fnRefineTypeSpec)

end Rows
end Go.Proofs.Ytkkijdlgmlffoaa
