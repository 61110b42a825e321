/- Texts of the proof, one behind another. -/
import Derived.Test.YtchcbfbnffhifaaKV13
set_option linter.unusedSimpArgs false
set_option linter.unusedVariables false
/- Terms: terms mapped by a function, on shadows. -/
namespace Go.Proofs.Grad
def E.mapE (φ : E → E) : E → E
  | .var x => φ (.var x)
  | .num n => φ (.num n)
  | .tru => φ .tru
  | .fls => φ .fls
  | .lam x t a => φ (.lam x t (a.mapE φ))
  | .app a b => φ (.app (a.mapE φ) (b.mapE φ))
  | .add a b => φ (.add (a.mapE φ) (b.mapE φ))
  | .less a b => φ (.less (a.mapE φ) (b.mapE φ))
  | .ite a b c => φ (.ite (a.mapE φ) (b.mapE φ) (c.mapE φ))
  | .pair a b => φ (.pair (a.mapE φ) (b.mapE φ))
  | .fst a => φ (.fst (a.mapE φ))
  | .snd a => φ (.snd (a.mapE φ))
  | .asc t a => φ (.asc t (a.mapE φ))
  | .cast s t l a => φ (.cast s t l (a.mapE φ))
end Go.Proofs.Grad
namespace Go.Proofs.Ytchcbfbnffhifaa
open Go.RowKit Go.Proofs.Sh Go.Proofs.Grad
set_option maxRecDepth 100000
set_option maxHeartbeats 8000000
end Go.Proofs.Ytchcbfbnffhifaa
/- Terms: values, on shadows. -/
namespace Go.Proofs.Grad
end Go.Proofs.Grad
namespace Go.Proofs.Ytchcbfbnffhifaa
open Go.RowKit Go.Proofs.Sh Go.Proofs.Grad
set_option maxRecDepth 100000
set_option maxHeartbeats 8000000
end Go.Proofs.Ytchcbfbnffhifaa
/- Terms: casts simplified, on shadows. -/
namespace Go.Proofs.Grad
def backB (s t : T) : E → Bool
  | .cast s' t' _ _ => t'.ty.kind == 1 && (s.ty.kind == 1 && s'.ty.same t.ty)
  | _ => false
def E.kid0 : E → E
  | .cast _ _ _ b => b
  | e => e
/-- a cast that does nothing, or that undoes the one below it, away -/
def E.simp1 : E → E
  | .cast s t l a => match s.ty.same t.ty with | true => a | false => (match backB s t a with | true => a.kid0 | false => .cast s t l a)
  | e => e
def E.simp (e : E) : E := e.mapE E.simp1
end Go.Proofs.Grad
namespace Go.Proofs.Ytchcbfbnffhifaa
open Go.RowKit Go.Proofs.Sh Go.Proofs.Grad
set_option maxRecDepth 100000
set_option maxHeartbeats 8000000
end Go.Proofs.Ytchcbfbnffhifaa
