/- Texts of the proof, one behind another. -/
import Derived.Test.YtnaebafafhamjaaGreatKY27
set_option linter.unusedSimpArgs false
set_option linter.unusedVariables false
/- Steps of terms with casts, in the program. On shadows. -/
namespace Go.Proofs.Grad
/-- what the program's step hands back: a term that counts only if a step was taken -/
def E.so : E → Tm
  | .app a b => match a.val with | false => nd 6 [a.so, b.tm] | true => (match b.val with | false => nd 6 [a.tm, b.so] | true => (ruleApp a b).tm)
  | .add a b => match a.val with | false => nd 7 [a.so, b.tm] | true => (match b.val with | false => nd 7 [a.tm, b.so] | true => (ruleAdd a b).tm)
  | .less a b => match a.val with | false => nd 8 [a.so, b.tm] | true => (match b.val with | false => nd 8 [a.tm, b.so] | true => (ruleLess a b).tm)
  | .ite a b c => match a.val with | false => nd 9 [a.so, b.tm, c.tm] | true => (ruleIte a b c).tm
  | .pair a b => match a.val with | false => nd 10 [a.so, b.tm] | true => (match b.val with | false => nd 10 [a.tm, b.so] | true => tm0)
  | .fst a => match a.val with | false => nd 11 [a.so] | true => (ruleFst a).tm
  | .snd a => match a.val with | false => nd 12 [a.so] | true => (ruleSnd a).tm
  | .cast s t l a => match a.val with | false => .mk 14 ByteArray.empty 0 t.ty s.ty l [a.so] | true => (ruleCast s t l a).tm
  | _ => tm0
end Go.Proofs.Grad
namespace Go.Proofs.YtnaebafafhamjaaGreat
open Go.RowKit Go.Proofs.Sh Go.Proofs.Grad
set_option maxRecDepth 100000
set_option maxHeartbeats 8000000
end Go.Proofs.YtnaebafafhamjaaGreat
