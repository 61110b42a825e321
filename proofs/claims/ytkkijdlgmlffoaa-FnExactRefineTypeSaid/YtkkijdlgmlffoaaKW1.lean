/- Texts of the proof, one behind another. -/
import Derived.WalkKit
import Derived.ProofKit
import Derived.Deep.AppendLies
set_option linter.unusedSimpArgs false
set_option linter.unusedVariables false
/- A shadow of the machine: values as trees, boxes as short lists of cells; a run of the code on shadows. -/
namespace Go.Proofs.Sh
open Go.RowKit

/-- A cell's shadow: unknown; this scalar; a slice onto memory that nobody writes (rows of cells); an address in such memory (cells from it on, how far behind); a slice onto block b's head (rows of s cells, n of them); an address in block b (row i, cell j); a function value. -/
inductive C where
  | top
  | sc (v : Value)
  | sl (rows : List (List C))
  | cur (cs : List C) (j : Nat)
  | row (s b n : Nat)
  | ptr (s b i j : Nat)
  | fn (f : FuncId) (caps : List C)

inductive AV where
  | one (c : C)
  | agg (cs : List C)
  | tup (vs : List AV)

/-- written still; written no more; forgotten -/
inductive St where
  | mut | frz | dead

def St.isMut : St → Bool | .mut => true | _ => false
def St.known : St → Bool | .dead => false | _ => true

structure Blk where
  s : Nat
  ty : TypeId
  st : St
  rows : List (List C)

structure TI where
  size : Nat
  agg : Bool
  bytes : Nat
  zero : List Value
  fields : List (Nat × Nat × Bool)
  elem : Nat
  kind : Nat

def tagg : TypeDesc → Bool
  | .struct _ | .array _ _ => true
  | _ => false
/-- 1 struct, 2 array, 3 slice, 4 string, 5 int, 6 bool, 0 else -/
def tkind : TypeDesc → Nat
  | .struct _ => 1 | .array _ _ => 2 | .slice _ => 3 | .string => 4 | .int _ => 5 | .bool => 6 | _ => 0
def telem : TypeDesc → Nat
  | .array _ e => e | .slice e => e | _ => 0
def tfield (P : Program) (f : Field) : Nat × Nat × Bool := match P.underlying f.type with
  | some d => (f.offset, P.cellsOf f.type, tagg d)
  | none => (f.offset, 0, false)
def tfields (P : Program) : TypeDesc → List (Nat × Nat × Bool)
  | .struct fs => fs.toList.map (tfield P)
  | _ => []
def tkindP (P : Program) (d : TypeDesc) : Nat := if (tfields P d).all (fun f => f.2.1 != 0) then tkind d else 9
def tinfo (P : Program) (t : TypeId) : Option TI :=
  match P.info? t, P.underlying t with
  | some i, some d => match i.zero with
    | some z => if z.cells.toList.all (fun v => v.oneCell') = true ∧ z.cells.size = i.size then some ⟨i.size, tagg d, i.bytes, z.cells.toList, tfields P d, telem d, tkindP P d⟩ else none
    | none => none
  | _, _ => none

def tk (P : Program) (t : TypeId) : Nat := match P.underlying t with | some d => tkind d | none => 0
def tint (P : Program) (t : TypeId) : Option IntKind := match P.underlying t with | some (.int k) => some k | _ => none

structure ASt where
  n : Nat
  t : List (Nat × AV)
  h : List Blk

def look (t : Nat) : List (Nat × AV) → Option AV
  | [] => none
  | (t', v) :: l => if t' = t then some v else look t l

def ASt.put (s : ASt) (d : Option Tmp) (v : AV) : ASt :=
  match d with
  | some d => if @LT.lt Nat _ d s.n then ⟨s.n, (d, v) :: s.t, s.h⟩ else s
  | none => s
def aundef : AV := .tup []

def C.isConst : Value → Bool
  | .bool _ | .int _ _ | .string _ | .pointer none | .slice none 0 0 | .nilFunc | .nilIface => true
  | _ => false

def ASt.eval (s : ASt) : Operand → Option AV
  | .tmp t => look t s.t
  | .const v => if C.isConst v then some (.one (.sc v)) else none
  | .func f => some (.one (.fn f []))
  | .global _ => none

inductive Res where
  | val (v : AV) (h : List Blk)
  | skip (h : List Blk)
  | call (f : FuncId) (args : List AV)
  | bad

def AV.cells : AV → Option (List C)
  | .one c => some [c]
  | .agg cs => some cs
  | .tup _ => none

/-- cells laid over those from j on -/
def splice (r : List C) (j : Nat) (cs : List C) : List C := r.take j ++ (cs ++ r.drop (j + cs.length))

/-- the cells at an address, from it on -/
def acells (h : List Blk) : C → Option (List C)
  | .cur cs j => some (cs.drop j)
  | .ptr n b i j => match h[b]? with
    | some k => if k.st.known = true ∧ n = k.s then (match k.rows[i]? with | some r => some (r.drop j) | none => none) else none
    | none => none
  | _ => none

def aload (P : Program) (h : List Blk) (t : TypeId) (p : C) : Option AV :=
  match tinfo P t, acells h p with
  | some ti, some cs =>
    if ti.agg then (if ti.size ≤ cs.length then some (.agg (cs.take ti.size)) else none)
    else (match cs[0]? with | some c => some (.one c) | none => none)
  | _, _ => none

def astore (P : Program) (h : List Blk) (t : TypeId) (p : C) (v : AV) : Option (List Blk) :=
  match tinfo P t, p, v.cells with
  | some ti, .ptr n b i j, some cs =>
    match h[b]? with
    | some k => if cs.length = ti.size ∧ k.st.isMut = true ∧ n = k.s then
        match k.rows[i]? with
        | some r => if j + cs.length ≤ r.length then some (h.set b ⟨k.s, k.ty, k.st, k.rows.set i (splice r j cs)⟩) else none
        | none => none
      else none
    | none => none
  | _, _, _ => none

def ares (o : Option AV) (h : List Blk) : Res := match o with | some v => .val v h | none => .bad
def ared (o : Option (List Blk)) : Res := match o with | some h => .skip h | none => .bad

def aint (op : BinOp) (k : IntKind) (x y : Int) : Option Value :=
  match op with
  | .add => some (.int k (k.wrap (x + y)))
  | .sub => some (.int k (k.wrap (x - y)))
  | .mul => some (.int k (k.wrap (x * y)))
  | .quo => if y = 0 then none else some (.int k (k.wrap (x.tdiv y)))
  | .rem => if y = 0 then none else some (.int k (x.tmod y))
  | .and => some (.int k (k.wrap (BitVec.ofInt k.bits x &&& BitVec.ofInt k.bits y).toNat))
  | .or => some (.int k (k.wrap (BitVec.ofInt k.bits x ||| BitVec.ofInt k.bits y).toNat))
  | .xor => some (.int k (k.wrap (BitVec.ofInt k.bits x ^^^ BitVec.ofInt k.bits y).toNat))
  | .eql => some (.bool (x == y))
  | .neq => some (.bool (x != y))
  | .lss => some (.bool (decide (x < y)))
  | .leq => some (.bool (decide (x ≤ y)))
  | .gtr => some (.bool (decide (x > y)))
  | .geq => some (.bool (decide (x ≥ y)))
  | _ => none

/-- two strings are not too long for one (on Nat, and so that the number stands on the right: the kernel else counts down from it) -/
def addOk (x y : ByteArray) : Bool := Nat.ble (x.size + y.size) 9223372036854775807
def astr (op : BinOp) (x y : ByteArray) : Option Value :=
  match op with
  | .add => match addOk x y with | true => some (.string (x ++ y)) | false => none
  | .eql => some (.bool (x.toList == y.toList))
  | .neq => some (.bool !(x.toList == y.toList))
  | .lss => some (.bool (Op.bytesLess x.toList y.toList))
  | _ => none

def ashift (op : BinOp) (k : IntKind) (x y : Int) : Option Value :=
  if 0 ≤ y then (match op with
    | .shl => some (.int k (k.wrap (x * 2 ^ (min y.toNat k.bits))))
    | .shr => some (.int k (x.fdiv (2 ^ (min y.toNat k.bits))))
    | _ => none) else none

def abin (P : Program) (op : BinOp) (t : TypeId) (x y : AV) : Option AV :=
  match op, x, y with
  | .shl, .one (.sc (.int k a)), .one (.sc (.int _ b)) => (ashift .shl k a b).map (fun v => .one (.sc v))
  | .shr, .one (.sc (.int k a)), .one (.sc (.int _ b)) => (ashift .shr k a b).map (fun v => .one (.sc v))
  | .shl, _, _ => none
  | .shr, _, _ => none
  | _, .one (.sc (.int k a)), .one (.sc (.int k' b)) => if k = k' then (aint op k a b).map (fun v => .one (.sc v)) else none
  | _, .one (.sc (.string a)), .one (.sc (.string b)) => (astr op a b).map (fun v => .one (.sc v))
  | .eql, .one (.sc (.bool a)), .one (.sc (.bool b)) => if tk P t = 6 then some (.one (.sc (.bool (a == b)))) else none
  | .neq, .one (.sc (.bool a)), .one (.sc (.bool b)) => if tk P t = 6 then some (.one (.sc (.bool !(a == b)))) else none
  | .eql, .one (.sl (_ :: _)), .one (.sc (.slice none 0 0)) => if tk P t = 3 then some (.one (.sc (.bool false))) else none
  | .eql, .one (.sc (.slice p _ _)), .one (.sc (.slice none 0 0)) => if tk P t = 3 then some (.one (.sc (.bool p.isNone))) else none
  | _, _, _ => none

def aun (op : UnOp) (x : AV) : Option AV :=
  match op, x with
  | .neg, .one (.sc (.int k n)) => some (.one (.sc (.int k (k.wrap (0 - n)))))
  | .not, .one (.sc (.bool b)) => some (.one (.sc (.bool !b)))
  | _, _ => none

def afield (P : Program) (t : TypeId) (f : Nat) (x : AV) : Option AV :=
  match tinfo P t, x with
  | some ti, .agg cs => match ti.fields[f]? with
    | some (off, size, true) => if size = 0 then none else some (.agg ((cs.drop off).take size))
    | some (off, size, false) => if size = 0 then none else match cs[off]? with | some c => some (.one c) | none => none
    | none => none
  | _, _ => none

def afieldAddr (P : Program) (t : TypeId) (f : Nat) (x : AV) : Option AV :=
  match tinfo P t with
  | some ti => match ti.fields[f]?, x with
    | some (off, size, _), .one (.ptr s b i j) => if size = 0 then none else some (.one (.ptr s b i (j + off)))
    | some (off, size, _), .one (.cur cs j) => if size = 0 then none else some (.one (.cur cs (j + off)))
    | _, _ => none
  | none => none

/-- an array of so many elements of one cell each -/
def aarr (P : Program) (t : TypeId) : Option Nat :=
  match P.underlying t with
  | some (.array len e) => match tinfo P e with | some te => if te.size = 1 ∧ te.agg = false then some len else none | none => none
  | _ => none

def aindexAddr (P : Program) (t : TypeId) (x i : AV) : Option AV :=
  match tinfo P t, x, i with
  | some ti, .one (.sl rows), .one (.sc (.int _ n)) =>
    if 0 ≤ n ∧ ti.kind = 3 then
      match rows[n.toNat]?, tinfo P ti.elem with
      | some r, some te => if r.length = te.size then some (.one (.cur r 0)) else none
      | _, _ => none
    else none
  | some ti, .one (.row s b m), .one (.sc (.int _ n)) =>
    if 0 ≤ n ∧ n.toNat < m ∧ ti.kind = 3 then
      match tinfo P ti.elem with
      | some te => if te.size = s then some (.one (.ptr s b n.toNat 0)) else none
      | _ => none
    else none
  | some _, .one (.ptr s b i j), .one (.sc (.int _ n)) => match aarr P t with
    | some len => if 0 ≤ n ∧ n < len then some (.one (.ptr s b i (j + n.toNat))) else none
    | none => none
  | _, _, _ => none

def aindex (P : Program) (t : TypeId) (x i : AV) : Option AV :=
  match x, i with
  | .one (.sc (.string s)), .one (.sc (.int _ n)) => if tk P t = 4 ∧ 0 ≤ n then (match s[n.toNat]? with | some b => some (.one (.sc (.int .u8 b.toNat))) | none => none) else none
  | .agg cs, .one (.sc (.int _ n)) => match aarr P t with
    | some len => if 0 ≤ n ∧ n < len then (match cs[n.toNat]? with | some c => some (.one c) | none => none) else none
    | none => none
  | _, _ => none

def alen (k : Nat) (x : AV) : Option AV :=
  match x with
  | .one (.sl rows) => if k = 3 then some (.one (.sc (.int .i64 rows.length))) else none
  | .one (.row _ _ n) => if k = 3 then some (.one (.sc (.int .i64 n))) else none
  | .one (.sc (.string s)) => if k = 4 then some (.one (.sc (.int .i64 s.size))) else none
  | .one (.sc (.slice none 0 0)) => if k = 3 then some (.one (.sc (.int .i64 0))) else none
  | _ => none

/-- a bound of a slice expression: n if it is left out -/
def abound (n : Nat) (m : Nat) : Option AV → Option Nat
  | none => some n
  | some (.one (.sc (.int _ i))) => if 0 ≤ i ∧ i.toNat ≤ m then some i.toNat else none
  | _ => none

def rowsLen (s : Nat) (rows : List (List C)) : Bool := rows.all (fun r => r.length == s)
def aesz (P : Program) (t : TypeId) : Nat := match tinfo P t with | some ti => (match tinfo P ti.elem with | some te => te.size | none => 0) | none => 0

def aslice (k es : Nat) (x : AV) (lo hi : Option AV) : Option AV :=
  match x with
  | .one (.sl rows) => if k = 3 ∧ es ≠ 0 ∧ rowsLen es rows = true then
      match abound rows.length rows.length hi with
      | none => none
      | some h => match abound 0 h lo with
        | none => none
        | some l => some (.one (.sl ((rows.take h).drop l)))
    else none
  | .one (.sc (.string s)) => if k = 4 then
      match abound s.size s.size hi with
      | none => none
      | some h => match abound 0 h lo with
        | none => none
        | some l => some (.one (.sc (.string (s.extract l h))))
    else none
  | _ => none

/-- parts laid into cells -/
def afill (fs : List (Nat × Nat × Bool)) : List (Nat × Option AV) → List C → Option (List C)
  | [], cs => some cs
  | (f, v) :: l, cs => match fs[f]?, v.bind AV.cells with
    | some (off, size, _), some xs => if xs.length = size ∧ off + size ≤ cs.length then afill fs l (splice cs off xs) else none
    | _, _ => none

def abuild (P : Program) (t : TypeId) (parts : List (Nat × Option AV)) : Option AV :=
  match tinfo P t with
  | some ti => if ti.kind = 1 ∧ ti.zero.length = ti.size then (match afill ti.fields parts (ti.zero.map .sc) with | some cs => some (.agg cs) | none => none) else none
  | none => none

def arow (size : Nat) : List (Nat × Option AV) → List (List C) → Option (List (List C))
  | [], rows => some rows
  | (i, v) :: l, rows => match v.bind AV.cells with
    | some xs => if xs.length = size ∧ i < rows.length then arow size l (rows.set i xs) else none
    | none => none

def abuildSlice (P : Program) (h : List Blk) (t : TypeId) (len : Nat) (parts : List (Nat × Option AV)) : Res :=
  match tinfo P t with
  | some ti => match tinfo P ti.elem with
    | some te => if ti.kind = 3 ∧ te.zero.length = te.size ∧ len * te.size ≤ 16777216 ∧ 0 < te.size then
        match arow te.size parts (List.replicate len (te.zero.map .sc)) with
        | some rows => .val (.one (.row te.size h.length len)) (h ++ [⟨te.size, ti.elem, .mut, rows⟩])
        | none => .bad
      else .bad
    | none => .bad
  | none => .bad

def amakeSlice (P : Program) (h : List Blk) (t : TypeId) (len cap : AV) : Res :=
  match tinfo P t, len, cap with
  | some ti, .one (.sc (.int _ n)), .one (.sc (.int _ c)) => match tinfo P ti.elem with
    | some te => if ti.kind = 3 ∧ te.zero.length = te.size ∧ 0 < te.size ∧ n = c ∧ 0 ≤ n ∧ te.bytes * n ≤ 140737488355328 ∧ n ≤ 140737488355328 then
        .val (.one (.row te.size h.length n.toNat)) (h ++ [⟨te.size, ti.elem, .mut, List.replicate n.toNat (te.zero.map .sc)⟩])
      else .bad
    | none => .bad
  | _, _, _ => .bad

/-- the rows of a slice -/
def arows (h : List Blk) : AV → Option (List (List C))
  | .one (.sl rows) => some rows
  | .one (.row _ b n) => match h[b]? with
    | some k => if k.st.known = true ∧ k.rows.length = n then some k.rows else none
    | none => none
  | _ => none

def aappend1 (P : Program) (h : List Blk) (t : TypeId) (x y : AV) : Res :=
  match tinfo P t, arows h y with
  | some ti, some (r :: rs) => match tinfo P ti.elem with
    | some te =>
      if ti.kind = 3 ∧ te.zero.length = te.size ∧ 0 < te.size ∧ 0 < te.bytes then
        match x with
        | .one (.sc (.slice none 0 0)) =>
          if (rs.length + 1) * te.bytes ≤ 140737488355328 ∧ rowsLen te.size (r :: rs) = true then
            .val (.one (.row te.size h.length (rs.length + 1))) (h ++ [⟨te.size, ti.elem, .mut, r :: rs⟩])
          else .bad
        | .one (.row s b n) =>
          match h[b]? with
          | some k =>
            if (n + (rs.length + 1)) * te.bytes ≤ 140737488355328 ∧ s = te.size ∧ k.s = te.size ∧ k.ty = ti.elem ∧ k.st.isMut = true ∧ k.rows.length = n ∧ rowsLen te.size (r :: rs) = true then
              .val (.one (.row te.size h.length (n + (rs.length + 1)))) (h.set b ⟨k.s, k.ty, .dead, []⟩ ++ [⟨te.size, ti.elem, .mut, k.rows ++ (r :: rs)⟩])
            else .bad
          | none => .bad
        | _ => .bad
      else .bad
    | none => .bad
  | _, _ => .bad

/-- a slice without elements -/
def aempty : AV → Bool
  | .one (.sl []) => true
  | .one (.row _ _ 0) => true
  | .one (.sc (.slice _ 0 _)) => true
  | _ => false
def aisSlice : AV → Bool
  | .one (.sl _) => true
  | .one (.row _ _ _) => true
  | .one (.sc (.slice none 0 0)) => true
  | _ => false
def asame (P : Program) (h : List Blk) (t : TypeId) (x : AV) : Res :=
  match tinfo P t with
  | some ti => match tinfo P ti.elem with
    | some _ => if ti.kind = 3 ∧ aisSlice x = true then .val x h else .bad
    | none => .bad
  | none => .bad
def aappend (P : Program) (h : List Blk) (t : TypeId) (x y : AV) : Res := match aempty y with | true => asame P h t x | false => aappend1 P h t x y

def caps : List (Option AV) → Option (List C)
  | [] => some []
  | some (.one c) :: l => (caps l).map (c :: ·)
  | _ => none
def vals : List (Option AV) → Option (List AV)
  | [] => some []
  | some v :: l => (vals l).map (v :: ·)
  | none :: _ => none

def acall (s : ASt) (c : Call) : Res :=
  match c.callee with
  | .value f => match s.eval f, vals (c.args.toList.map s.eval) with
    | some (.one (.fn g cs)), some vs => .call g (vs ++ cs.map .one)
    | _, _ => .bad
  | _ => .bad

def ares1 (s : ASt) (x : Operand) (g : AV → Option AV) : Res := match s.eval x with | some v => ares (g v) s.h | none => .bad
def ares2 (s : ASt) (x y : Operand) (g : AV → AV → Option AV) : Res := match s.eval x, s.eval y with | some v, some u => ares (g v u) s.h | _, _ => .bad

def amax : AV → AV → Option AV
  | .one (.sc (.int k x)), .one (.sc (.int _ y)) => some (.one (.sc (.int k (max x y))))
  | _, _ => none
def abuiltin (P : Program) (s : ASt) (b : Builtin) (ts : List TypeId) (args : List Operand) : Res :=
  match b, args, ts with
  | .len, [x], [t] => ares1 s x (alen (tk P t))
  | .max, [x, y], [_, _] => ares2 s x y amax
  | .append, [x, y], [t, t'] => match s.eval x, s.eval y with | some x, some y => if t = t' then aappend P s.h t x y else .bad | _, _ => .bad
  | _, _, _ => .bad

def aop (P : Program) (s : ASt) (o : Oper) : Res :=
  match o.op with
  | .move x => ares (s.eval x) s.h
  | .assign x => ares (s.eval x) s.h
  | .pick c a b => match s.eval c, s.eval a, s.eval b with
    | some (.one (.sc (.bool c))), some x, some y => .val (bif c then x else y) s.h
    | _, _, _ => .bad
  | .alloc t => match tinfo P t with
    | some ti => if ti.zero.length = ti.size then .val (.one (.ptr ti.size s.h.length 0 0)) (s.h ++ [⟨ti.size, t, .mut, [ti.zero.map .sc]⟩]) else .bad
    | none => .bad
  | .box t x => match (s.eval x).bind AV.cells with
    | some cs => .val (.one (.ptr cs.length s.h.length 0 0)) (s.h ++ [⟨cs.length, t, .mut, [cs]⟩])
    | none => .bad
  | .build t parts => ares (abuild P t (parts.toList.map fun p => (p.1, s.eval p.2))) s.h
  | .buildSlice t len parts => abuildSlice P s.h t len (parts.toList.map fun p => (p.1, s.eval p.2))
  | .load t a => match s.eval a with
    | some (.one p) => ares (aload P s.h t p) s.h
    | _ => .bad
  | .store t a x => match s.eval a, s.eval x with
    | some (.one p), some v => ared (astore P s.h t p v)
    | _, _ => .bad
  | .nilCheck x => match s.eval x with
    | some (.one (.ptr a b c d)) => .val (.one (.ptr a b c d)) s.h
    | some (.one (.cur a b)) => .val (.one (.cur a b)) s.h
    | some (.one (.fn a b)) => .val (.one (.fn a b)) s.h
    | _ => .bad
  | .binOp op t x y _ => ares2 s x y (abin P op t)
  | .unOp op _ x => ares1 s x (aun op)
  | .convert a b x => match s.eval x, tint P b with
    | some (.one (.sc (.int _ n))), some k => if tk P a = 5 then .val (.one (.sc (.int k (k.wrap n)))) s.h else .bad
    | _, _ => .bad
  | .makeFunc (.func f) first cs => if first.isEmpty then (match caps (cs.toList.map s.eval) with | some cs => .val (.one (.fn f cs)) s.h | none => .bad) else .bad
  | .makeSlice t l c => match s.eval l, s.eval c with | some l, some c => amakeSlice P s.h t l c | _, _ => .bad
  | .slice t x lo hi none => ares1 s x (fun v => aslice (tk P t) (aesz P t) v (lo.map fun o => (s.eval o).getD aundef) (hi.map fun o => (s.eval o).getD aundef))
  | .fieldAddr t x f => ares1 s x (afieldAddr P t f)
  | .field t x f => ares1 s x (afield P t f)
  | .indexAddr t x i => ares2 s x i (aindexAddr P t)
  | .extract x k => match s.eval x with
    | some (.tup vs) => ares vs[k]? s.h
    | _ => .bad
  | .index t x i => ares2 s x i (aindex P t)
  | .call ⟨.builtin b, args, ts⟩ => abuiltin P s b ts.toList args.toList
  | .call c => acall s c
  | _ => .bad

/-- bytes out of rows of one cell each -/
def abytes : List (List C) → Option (List Int)
  | [] => some []
  | [.sc (.int .u8 n)] :: l => (match abytes l with | some ns => some (n :: ns) | none => none)
  | _ => none
def bytesOf (ns : List Int) : ByteArray := ns.foldl (fun r n => r.push (UInt8.ofNat n.toNat)) ByteArray.empty
/-- a slice of bytes as a string -/
def aconvB (P : Program) (s : ASt) (o : Oper) : Res :=
  match o.op with
  | .convert a b x => match s.eval x with
    | some v => (match arows s.h v, tinfo P a with
      | some (r :: rs), some ti => if ti.kind = 3 ∧ tk P b = 4 ∧ tint P ti.elem = some .u8 then (match abytes (r :: rs) with | some ns => .val (.one (.sc (.string (bytesOf ns)))) s.h | none => .bad) else .bad
      | _, _ => .bad)
    | none => .bad
  | _ => .bad
def aor (r q : Res) : Res := match r with | .bad => q | r => r
def aopX (P : Program) (s : ASt) (o : Oper) : Res := aor (aop P s o) (aconvB P s o)

inductive Item where
  | code (c : Code)
  | blk (id : Nat)
  | goal (I : ASt → Prop)
  | ops (l all : List Oper)

inductive Out where
  | ret (s : ASt)
  | call (f : FuncId) (args : List AV) (h : List Blk) (dst : Option Tmp) (k : List Item) (s : ASt)
  | loop (c : Code) (k : List Item) (s : ASt)
  | drawn (id : Nat) (l : List Oper) (k : List Item) (s : ASt)
  | goal (I : ASt → Prop) (s : ASt)
  | bad (k : List Item)
  | fuel (k : List Item) (s : ASt)

def exitK (id : Nat) : List Item → Option (List Item)
  | [] => none
  | .blk id' :: k => if id' = id then some k else exitK id k
  | .goal _ :: k => exitK id k
  | .code _ :: k => exitK id k
  | .ops _ _ :: k => exitK id k

/-- does the operation come up? none: not known -/
def wantedA (all : List Oper) (t : List (Nat × AV)) : Option (Nat × Bool) → Option Bool
  | none => some true
  | some (j, want) => match all[j]? with
    | some o => match o.dst with
      | some d => match look d t with
        | some (.one (.sc (.bool b))) => some (b == want)
        | some (.tup []) => some false
        | _ => none
      | none => none
    | none => none

mutual
def arun (P : Program) : Nat → List Item → ASt → Out
  | 0, k, s => .fuel k s
  | _ + 1, [], s => .ret s
  | _ + 1, .goal I :: _, s => .goal I s
  | n + 1, .blk _ :: k, s => arun P n k s
  | n + 1, .ops [] _ :: k, s => arun P n k s
  | n + 1, .ops (o :: l) all :: k, s => awant P n (wantedA all s.t o.guard) o l all k s
  | n + 1, .code .skip :: k, s => arun P n k s
  | n + 1, .code (.seq a b) :: k, s => arun P n (.code a :: .code b :: k) s
  | n + 1, .code (.region id ops d) :: k, s => if d then .drawn id ops.toList k s else arun P n (.ops ops.toList ops.toList :: k) s
  | n + 1, .code (.cond c x y) :: k, s => acond P n (s.eval c) (.code x :: k) (.code y :: k) s
  | n + 1, .code (.block id c) :: k, s => arun P n (.code c :: .blk id :: k) s
  | _ + 1, .code (.loop c) :: k, s => .loop c k s
  | n + 1, .code (.exit id) :: k, s => match exitK id k with | some k' => arun P n k' s | none => .bad k
  | _ + 1, .code .ret :: _, s => .ret s
  | _ + 1, k, _ => .bad k
def awant (P : Program) (n : Nat) (w : Option Bool) (o : Oper) (l all : List Oper) (k : List Item) (s : ASt) : Out :=
  match w with
  | none => .bad (.ops (o :: l) all :: k)
  | some false => arun P n (.ops l all :: k) (s.put o.dst aundef)
  | some true => astep P n (aopX P s o) o l all k s
def astep (P : Program) (n : Nat) (r : Res) (o : Oper) (l all : List Oper) (k : List Item) (s : ASt) : Out :=
  match r with
  | .val v h => arun P n (.ops l all :: k) (ASt.put ⟨s.n, s.t, h⟩ o.dst v)
  | .skip h => arun P n (.ops l all :: k) (ASt.put ⟨s.n, s.t, h⟩ o.dst aundef)
  | .call f args => .call f args s.h o.dst (.ops l all :: k) s
  | .bad => .bad (.ops (o :: l) all :: k)
def acond (P : Program) (n : Nat) (c : Option AV) (x y : List Item) (s : ASt) : Out :=
  match c with
  | some (.one (.sc (.bool b))) => abr P n b x y s
  | _ => .bad x
def abr (P : Program) (n : Nat) (b : Bool) (x y : List Item) (s : ASt) : Out :=
  match b with
  | true => arun P n x s
  | false => arun P n y s
end
end Go.Proofs.Sh
/- What a shadow says of a value and of a world; what keeps it true. -/
namespace Go.Proofs.Sh
open Go.RowKit

/-- a row of n cells in block g -/
def RowAt (w : World) (g n : Nat) : Prop := ∃ cur ty, w.heap[g]? = some (.cells cur ty (0, 0)) ∧ cur.size = n

mutual
def C.rep (L μ : List Nat) (w : World) : C → Value → Prop
  | .top, u => u.oneCell' = true
  | .sc v, u => u = v ∧ u.oneCell' = true
  | .sl rows, u => ∃ p cap, u = .slice p rows.length cap ∧ rows.length ≤ cap ∧ cap ≤ maxLen ∧ (rows = [] ∨ ∃ b off s, p = some ⟨b, off, none⟩ ∧ b < w.heap.size ∧ b ∉ L ∧ C.repss L [] w s rows b off)
  | .cur cs j, u => ∃ b off, u = .pointer (some ⟨b, off + j, none⟩) ∧ b < w.heap.size ∧ b ∉ L ∧ C.reps L [] w cs b off
  | .row s b n, u => ∃ g cap, μ[b]? = some g ∧ u = .slice (some ⟨g, 0, none⟩) n cap ∧ n ≤ cap ∧ cap ≤ maxLen ∧ RowAt w g (cap * s)
  | .ptr s b i j, u => ∃ g, μ[b]? = some g ∧ u = .pointer (some ⟨g, i * s + j, none⟩)
  | .fn f caps, u => ∃ arr : Array Value, u = .func (.func f) #[] arr ∧ C.repl L μ w caps arr.toList
def C.reps (L μ : List Nat) (w : World) : List C → Nat → Nat → Prop
  | [], _, _ => True
  | c :: cs, b, off => (∃ u, w.cell? ⟨b, off, none⟩ = some u ∧ C.rep L μ w c u) ∧ C.reps L μ w cs b (off + 1)
def C.repss (L μ : List Nat) (w : World) (s : Nat) : List (List C) → Nat → Nat → Prop
  | [], _, _ => True
  | r :: rows, b, off => r.length = s ∧ C.reps L μ w r b off ∧ C.repss L μ w s rows b (off + s)
def C.repl (L μ : List Nat) (w : World) : List C → List Value → Prop
  | [], us => us = []
  | c :: cs, us => ∃ u us', us = u :: us' ∧ C.rep L μ w c u ∧ C.repl L μ w cs us'
end

/-- From one world to a later one: nothing but the blocks of L has been written. -/
structure Keep (L : List Nat) (w w' : World) : Prop where
  os : w'.os = w.os
  tape : w'.tape = w.tape
  output : w'.output = w.output
  size : w.heap.size ≤ w'.heap.size
  block : ∀ b, b ∉ L → b < w.heap.size → w'.heap[b]? = w.heap[b]?
  shape : ∀ (b : Nat) cur ty, w.heap[b]? = some (.cells cur ty (0, 0)) → ∃ cur', w'.heap[b]? = some (.cells cur' ty (0, 0)) ∧ cur'.size = cur.size

theorem Keep.refl (L : List Nat) (w : World) : Keep L w w := ⟨rfl, rfl, rfl, Nat.le_refl _, fun _ _ _ => rfl, fun _ cur _ h => ⟨cur, h, rfl⟩⟩
theorem Keep.trans {L M : List Nat} {a b c : World} (h : Keep L a b) (k : Keep M b c) (hM : ∀ x, x ∈ M → x < a.heap.size → x ∈ L) : Keep L a c :=
  ⟨k.os.trans h.os, k.tape.trans h.tape, k.output.trans h.output, Nat.le_trans h.size k.size,
   fun x hx hl => (k.block x (fun hm => hx (hM x hm hl)) (Nat.lt_of_lt_of_le hl h.size)).trans (h.block x hx hl),
   fun x cur ty hb => let ⟨c1, h1, e1⟩ := h.shape x cur ty hb; let ⟨c2, h2, e2⟩ := k.shape x c1 ty h1; ⟨c2, h2, e2.trans e1⟩⟩
theorem Keep.mono {L L' : List Nat} {w w' : World} (h : Keep L w w') (hL : ∀ x, x ∈ L → x ∈ L') : Keep L' w w' :=
  ⟨h.os, h.tape, h.output, h.size, fun b hb hl => h.block b (fun hm => hb (hL b hm)) hl, h.shape⟩

theorem lt_of_cell {w : World} {b off : Nat} {u : Value} (h : w.cell? ⟨b, off, none⟩ = some u) : b < w.heap.size := by
  rcases Nat.lt_or_ge b w.heap.size with h1 | h1
  · exact h1
  · simp [World.cell?, Array.getElem?_eq_none h1] at h
theorem Keep.cell {L : List Nat} {w w' : World} (h : Keep L w w') {b off : Nat} {u : Value} (hb : b ∉ L) (hc : w.cell? ⟨b, off, none⟩ = some u) : w'.cell? ⟨b, off, none⟩ = some u := by
  rw [World.cell?_of_block (w := w) (w' := w') (a := ⟨b, off, none⟩) (h.block b hb (lt_of_cell hc))]; exact hc
theorem Keep.row {L : List Nat} {w w' : World} (h : Keep L w w') {g n : Nat} (hr : RowAt w g n) : RowAt w' g n := by
  obtain ⟨cur, ty, h1, h2⟩ := hr
  obtain ⟨c', h3, h4⟩ := h.shape g cur ty h1
  exact ⟨c', ty, h3, h4.trans h2⟩

/-- How what is known carries over: K: what the change may write; L: what a tree avoids before, L' after; μ: where the own blocks are, before and after. -/
structure Carry (K L L' μ μ' : List Nat) (w w' : World) : Prop where
  keep : Keep K w w'
  sub : ∀ x, x < w.heap.size → x ∉ L → x ∉ K
  to : ∀ x, x < w.heap.size → x ∉ L → x ∉ L'
  map : ∀ (b g : Nat), μ[b]? = some g → μ'[b]? = some g

theorem Carry.nil {K L L' μ μ' : List Nat} {w w' : World} (k : Carry K L L' μ μ' w w') : Carry K L L' [] [] w w' := ⟨k.keep, k.sub, k.to, fun _ _ h => h⟩
mutual
theorem C.rep.carry {K L L' : List Nat} {w w' : World} : ∀ {c : C} {u : Value} {μ μ' : List Nat} (_ : Carry K L L' μ μ' w w'), C.rep L μ w c u → C.rep L' μ' w' c u
  | .top, u, _, _, k, h => by simpa [C.rep] using h
  | .sc v, u, _, _, k, h => by simpa [C.rep] using h
  | .sl rows, u, _, _, k, h => by
    simp only [C.rep] at h ⊢
    obtain ⟨p, cap, e, h1, h2, h3⟩ := h
    refine ⟨p, cap, e, h1, h2, ?_⟩
    rcases h3 with h3 | ⟨b, off, s, hp, hlt, hb, h3⟩
    · exact .inl h3
    · exact .inr ⟨b, off, s, hp, Nat.lt_of_lt_of_le hlt k.keep.size, k.to b hlt hb, C.repss.carry k.nil (k.sub b hlt hb) h3⟩
  | .cur cs j, u, _, _, k, h => by
    simp only [C.rep] at h ⊢
    obtain ⟨b, off, e, hlt, hb, h3⟩ := h
    exact ⟨b, off, e, Nat.lt_of_lt_of_le hlt k.keep.size, k.to b hlt hb, C.reps.carry k.nil (k.sub b hlt hb) h3⟩
  | .row s b n, u, _, _, k, h => by
    simp only [C.rep] at h ⊢
    obtain ⟨g, cap, h1, h2, h3, h4, h5⟩ := h
    exact ⟨g, cap, k.map b g h1, h2, h3, h4, k.keep.row h5⟩
  | .ptr s b i j, u, _, _, k, h => by
    simp only [C.rep] at h ⊢
    obtain ⟨g, h1, h2⟩ := h
    exact ⟨g, k.map b g h1, h2⟩
  | .fn f caps, u, _, _, k, h => by
    simp only [C.rep] at h ⊢
    obtain ⟨arr, h1, h2⟩ := h
    exact ⟨arr, h1, C.repl.carry k h2⟩
theorem C.reps.carry {K L L' : List Nat} {w w' : World} : ∀ {cs : List C} {b off : Nat} {μ μ' : List Nat} (_ : Carry K L L' μ μ' w w'), b ∉ K → C.reps L μ w cs b off → C.reps L' μ' w' cs b off
  | [], _, _, _, _, _, _, _ => by simp [C.reps]
  | c :: cs, b, off, _, _, k, hb, h => by
    simp only [C.reps] at h ⊢
    obtain ⟨⟨u, h1, h2⟩, h3⟩ := h
    exact ⟨⟨u, k.keep.cell hb h1, C.rep.carry k h2⟩, C.reps.carry k hb h3⟩
theorem C.repss.carry {K L L' : List Nat} {w w' : World} : ∀ {s : Nat} {rows : List (List C)} {b off : Nat} {μ μ' : List Nat} (_ : Carry K L L' μ μ' w w'), b ∉ K → C.repss L μ w s rows b off → C.repss L' μ' w' s rows b off
  | _, [], _, _, _, _, _, _, _ => by simp [C.repss]
  | s, r :: rows, b, off, _, _, k, hb, h => by
    simp only [C.repss] at h ⊢
    exact ⟨h.1, C.reps.carry k hb h.2.1, C.repss.carry k hb h.2.2⟩
theorem C.repl.carry {K L L' : List Nat} {w w' : World} : ∀ {cs : List C} {us : List Value} {μ μ' : List Nat} (_ : Carry K L L' μ μ' w w'), C.repl L μ w cs us → C.repl L' μ' w' cs us
  | [], us, _, _, k, h => by simpa [C.repl] using h
  | c :: cs, us, _, _, k, h => by
    simp only [C.repl] at h ⊢
    obtain ⟨u, us', h1, h2, h3⟩ := h
    exact ⟨u, us', h1, C.rep.carry k h2, C.repl.carry k h3⟩
end

theorem C.rep_one {L μ : List Nat} {w : World} : ∀ {c : C} {u : Value}, C.rep L μ w c u → u.oneCell' = true
  | .top, u, h => by simpa [C.rep] using h
  | .sc v, u, h => by simp only [C.rep] at h; exact h.2
  | .sl rows, u, h => by simp only [C.rep] at h; obtain ⟨p, cap, e, _⟩ := h; rw [e]; rfl
  | .cur cs j, u, h => by simp only [C.rep] at h; obtain ⟨p, cap, e, _⟩ := h; rw [e]; rfl
  | .row s b n, u, h => by simp only [C.rep] at h; obtain ⟨p, cap, _, e, _⟩ := h; rw [e]; rfl
  | .ptr s b i j, u, h => by simp only [C.rep] at h; obtain ⟨p, _, e⟩ := h; rw [e]; rfl
  | .fn f caps, u, h => by simp only [C.rep] at h; obtain ⟨p, e, _⟩ := h; rw [e]; rfl

mutual
def AV.rep (L μ : List Nat) (w : World) : AV → Value → Prop
  | .one c, u => C.rep L μ w c u
  | .agg cs, u => ∃ arr : Array Value, u = .agg arr ∧ C.repl L μ w cs arr.toList
  | .tup vs, u => ∃ arr : Array Value, u = .tuple arr ∧ AV.repl L μ w vs arr.toList
def AV.repl (L μ : List Nat) (w : World) : List AV → List Value → Prop
  | [], us => us = []
  | v :: vs, us => ∃ u us', us = u :: us' ∧ AV.rep L μ w v u ∧ AV.repl L μ w vs us'
end
mutual
theorem AV.rep.carry {K L L' μ μ' : List Nat} {w w' : World} (k : Carry K L L' μ μ' w w') : ∀ {v : AV} {u : Value}, AV.rep L μ w v u → AV.rep L' μ' w' v u
  | .one c, u, h => by simp only [AV.rep] at h ⊢; exact C.rep.carry k h
  | .agg cs, u, h => by
    simp only [AV.rep] at h ⊢
    obtain ⟨arr, h1, h2⟩ := h
    exact ⟨arr, h1, C.repl.carry k h2⟩
  | .tup vs, u, h => by
    simp only [AV.rep] at h ⊢
    obtain ⟨arr, h1, h2⟩ := h
    exact ⟨arr, h1, AV.repl.carry k h2⟩
theorem AV.repl.carry {K L L' μ μ' : List Nat} {w w' : World} (k : Carry K L L' μ μ' w w') : ∀ {vs : List AV} {us : List Value}, AV.repl L μ w vs us → AV.repl L' μ' w' vs us
  | [], us, h => by simpa [AV.repl] using h
  | v :: vs, us, h => by
    simp only [AV.repl] at h ⊢
    obtain ⟨u, us', h1, h2, h3⟩ := h
    exact ⟨u, us', h1, AV.rep.carry k h2, AV.repl.carry k h3⟩
end

/-! ### own blocks -/

/-- where the blocks are that may still be written -/
def alive : List Nat → List Blk → List Nat
  | g :: μ, b :: H => if b.st.isMut then g :: alive μ H else alive μ H
  | _, _ => []

theorem mem_alive {x : Nat} : ∀ {μ : List Nat} {H : List Blk}, x ∈ alive μ H ↔ ∃ (i : Nat) (b : Blk), μ[i]? = some x ∧ H[i]? = some b ∧ b.st.isMut = true
  | [], H => by simp [alive]
  | g :: μ, [] => by simp [alive]
  | g :: μ, b :: H => by
    have ih := mem_alive (x := x) (μ := μ) (H := H)
    simp only [alive]
    constructor
    · intro h
      split at h
      · rename_i hm
        rcases List.mem_cons.1 h with rfl | h
        · exact ⟨0, b, rfl, rfl, hm⟩
        · obtain ⟨i, b', h1, h2, h3⟩ := ih.1 h; exact ⟨i + 1, b', h1, h2, h3⟩
      · obtain ⟨i, b', h1, h2, h3⟩ := ih.1 h; exact ⟨i + 1, b', h1, h2, h3⟩
    · rintro ⟨i, b', h1, h2, h3⟩
      cases i with
      | zero => simp at h1 h2; subst h1 h2; simp [h3]
      | succ i =>
        have := ih.2 ⟨i, b', by simpa using h1, by simpa using h2, h3⟩
        split <;> simp [this]

/-- cells, in a row of memory -/
def Laid (L μ : List Nat) (w : World) (cur : Array Value) (s : Nat) (rows : List (List C)) : Prop :=
  ∀ (i : Nat) (r : List C), rows[i]? = some r → r.length = s ∧ ∀ (j : Nat) (c : C), r[j]? = some c → ∃ u, cur[i * s + j]? = some u ∧ C.rep L μ w c u

theorem Laid.carry {K L L' μ μ' : List Nat} {w w' : World} {cur : Array Value} {s : Nat} {rows : List (List C)} (k : Carry K L L' μ μ' w w') (h : Laid L μ w cur s rows) : Laid L' μ' w' cur s rows := by
  intro i r hr
  obtain ⟨h1, h2⟩ := h i r hr
  exact ⟨h1, fun j c hc => let ⟨u, hu, hv⟩ := h2 j c hc; ⟨u, hu, C.rep.carry k hv⟩⟩

structure Sim (X μ : List Nat) (H : List Blk) (w : World) : Prop where
  len : μ.length = H.length
  lt : ∀ g ∈ μ, g < w.heap.size
  xlt : ∀ g ∈ X, g < w.heap.size
  out : ∀ (i : Nat) (b : Blk) (g : Nat), H[i]? = some b → b.st.known = true → μ[i]? = some g → g ∉ X
  inj : ∀ (i j : Nat) (b b' : Blk) (g : Nat), i ≠ j → H[i]? = some b → H[j]? = some b' → b.st.isMut = true → b'.st.known = true → μ[i]? = some g → μ[j]? ≠ some g
  blk : ∀ (i : Nat) (b : Blk) (g : Nat), H[i]? = some b → b.st.known = true → μ[i]? = some g → ∃ cur, w.heap[g]? = some (.cells cur b.ty (0, 0)) ∧ Laid (X ++ alive μ H) μ w cur b.s b.rows

/-- the change from one state of the own blocks to a later one -/
structure Stp (μ : List Nat) (H : List Blk) (w : World) (μ' : List Nat) (H' : List Blk) (w' : World) : Prop where
  keep : Keep (alive μ H) w w'
  map : ∀ (b g : Nat), μ[b]? = some g → μ'[b]? = some g
  old : ∀ g ∈ alive μ' H', g < w.heap.size → g ∈ alive μ H

theorem Stp.refl (μ : List Nat) (H : List Blk) (w : World) : Stp μ H w μ H w := ⟨Keep.refl _ _, fun _ _ h => h, fun _ h _ => h⟩
theorem Stp.trans {μ μ1 μ2 : List Nat} {H H1 H2 : List Blk} {w w1 w2 : World} (h : Stp μ H w μ1 H1 w1) (k : Stp μ1 H1 w1 μ2 H2 w2) : Stp μ H w μ2 H2 w2 :=
  ⟨h.keep.trans k.keep (fun x hx hl => h.old x hx hl), fun b g e => k.map b g (h.map b g e), fun g hg hl => h.old g (k.old g hg (Nat.lt_of_lt_of_le hl h.keep.size)) hl⟩
theorem Stp.carry {X μ μ' : List Nat} {H H' : List Blk} {w w' : World} (h : Stp μ H w μ' H' w') : Carry (alive μ H) (X ++ alive μ H) (X ++ alive μ' H') μ μ' w w' :=
  ⟨h.keep, fun x _ hx => fun hm => hx (by simp [hm]), fun x hl hx => by
    simp only [List.mem_append, not_or] at hx ⊢
    exact ⟨hx.1, fun hm => hx.2 (h.old x hm hl)⟩, h.map⟩

theorem known_of_mut {q : Blk} (hq : q.st.isMut = true) : q.st.known = true := by cases hst : q.st <;> simp [St.isMut, St.known, hst] at hq ⊢
theorem Carry.any {L μ : List Nat} {w : World} : Carry [] L L [] μ w w := ⟨Keep.refl _ _, fun _ _ _ => by simp, fun _ _ h => h, fun b g h => by simp at h⟩
theorem Sim.get {X μ : List Nat} {H : List Blk} {w : World} (h : Sim X μ H w) {b : Nat} {k : Blk} (hb : H[b]? = some k) : ∃ g, μ[b]? = some g ∧ g < w.heap.size := by
  have hlt : b < μ.length := by rw [h.len]; exact (List.getElem?_eq_some_iff.1 hb).1
  exact ⟨μ[b], List.getElem?_eq_getElem hlt, h.lt _ (List.getElem_mem hlt)⟩
theorem Sim.aliveLt {X μ : List Nat} {H : List Blk} {w : World} (h : Sim X μ H w) {g : Nat} (hg : g ∈ alive μ H) : g < w.heap.size := by
  obtain ⟨i, b, h1, _, _⟩ := mem_alive.1 hg
  exact h.lt g (List.mem_of_getElem? h1)
end Go.Proofs.Sh
