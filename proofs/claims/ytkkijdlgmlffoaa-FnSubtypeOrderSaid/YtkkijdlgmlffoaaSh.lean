/- A shadow of the machine: values as trees, boxes as short lists of cells; a run of the code on shadows. -/
import Derived.WalkKit
import Derived.ProofKit
namespace Go.Proofs.Sh
open Go.RowKit

/-- A cell's shadow: unknown; this scalar; a slice onto memory that nobody writes (rows of cells); an address in such memory (cells from it on, how far behind); a slice onto block b's head (rows of s cells, n of them); an address in block b (row i, cell j); a function value. -/
inductive C where
  | top
  | sc (v : Value)
  | sl (rows : List (List C))
  | cur (cs : List C) (j : Nat)
  | row (s b n : Nat)
  | ptr (s b i j : Nat)
  | fn (f : FuncId) (caps : List C)

inductive AV where
  | one (c : C)
  | agg (cs : List C)
  | tup (vs : List AV)

/-- written still; written no more; forgotten -/
inductive St where
  | mut | frz | dead

def St.isMut : St → Bool | .mut => true | _ => false
def St.known : St → Bool | .dead => false | _ => true

structure Blk where
  s : Nat
  ty : TypeId
  st : St
  rows : List (List C)

def C.ofVal (v : Value) : C := .sc v

structure TI where
  size : Nat
  agg : Bool
  bytes : Nat
  zero : List Value
  fields : List (Nat × Nat × Bool)
  elem : Nat
  kind : Nat

def tagg : TypeDesc → Bool
  | .struct _ | .array _ _ => true
  | _ => false
/-- 1 struct, 2 array, 3 slice, 4 string, 5 int, 6 bool, 0 else -/
def tkind : TypeDesc → Nat
  | .struct _ => 1 | .array _ _ => 2 | .slice _ => 3 | .string => 4 | .int _ => 5 | .bool => 6 | _ => 0
def telem : TypeDesc → Nat
  | .array _ e => e | .slice e => e | _ => 0
def tfield (P : Program) (f : Field) : Nat × Nat × Bool := match P.underlying f.type with
  | some d => (f.offset, P.cellsOf f.type, tagg d)
  | none => (f.offset, 0, false)
def tfields (P : Program) : TypeDesc → List (Nat × Nat × Bool)
  | .struct fs => fs.toList.map (tfield P)
  | _ => []
def tkindP (P : Program) (d : TypeDesc) : Nat := if (tfields P d).all (fun f => f.2.1 != 0) then tkind d else 9
def tinfo (P : Program) (t : TypeId) : Option TI :=
  match P.info? t, P.underlying t with
  | some i, some d => match i.zero with
    | some z => if z.cells.toList.all (fun v => v.oneCell') = true ∧ z.cells.size = i.size then some ⟨i.size, tagg d, i.bytes, z.cells.toList, tfields P d, telem d, tkindP P d⟩ else none
    | none => none
  | _, _ => none

def tk (P : Program) (t : TypeId) : Nat := match P.underlying t with | some d => tkind d | none => 0
def tint (P : Program) (t : TypeId) : Option IntKind := match P.underlying t with | some (.int k) => some k | _ => none

structure ASt where
  n : Nat
  t : List (Nat × AV)
  h : List Blk

def look (t : Nat) : List (Nat × AV) → Option AV
  | [] => none
  | (t', v) :: l => if t' = t then some v else look t l

def ASt.put (s : ASt) (d : Option Tmp) (v : AV) : ASt :=
  match d with
  | some d => if @LT.lt Nat _ d s.n then ⟨s.n, (d, v) :: s.t, s.h⟩ else s
  | none => s
def aundef : AV := .tup []

def C.isConst : Value → Bool
  | .bool _ | .int _ _ | .string _ | .pointer none | .slice none 0 0 | .nilFunc | .nilIface => true
  | _ => false

def ASt.eval (s : ASt) : Operand → Option AV
  | .tmp t => look t s.t
  | .const v => if C.isConst v then some (.one (.sc v)) else none
  | .func f => some (.one (.fn f []))
  | .global _ => none

inductive Res where
  | val (v : AV) (h : List Blk)
  | skip (h : List Blk)
  | call (f : FuncId) (args : List AV)
  | bad

def AV.cells : AV → Option (List C)
  | .one c => some [c]
  | .agg cs => some cs
  | .tup _ => none

/-- cells laid over those from j on -/
def splice (r : List C) (j : Nat) (cs : List C) : List C := r.take j ++ (cs ++ r.drop (j + cs.length))

/-- the cells at an address, from it on -/
def acells (h : List Blk) : C → Option (List C)
  | .cur cs j => some (cs.drop j)
  | .ptr n b i j => match h[b]? with
    | some k => if k.st.known = true ∧ n = k.s then (match k.rows[i]? with | some r => some (r.drop j) | none => none) else none
    | none => none
  | _ => none

def aload (P : Program) (h : List Blk) (t : TypeId) (p : C) : Option AV :=
  match tinfo P t, acells h p with
  | some ti, some cs =>
    if ti.agg then (if ti.size ≤ cs.length then some (.agg (cs.take ti.size)) else none)
    else (match cs[0]? with | some c => some (.one c) | none => none)
  | _, _ => none

def astore (P : Program) (h : List Blk) (t : TypeId) (p : C) (v : AV) : Option (List Blk) :=
  match tinfo P t, p, v.cells with
  | some ti, .ptr n b i j, some cs =>
    match h[b]? with
    | some k => if cs.length = ti.size ∧ k.st.isMut = true ∧ n = k.s then
        match k.rows[i]? with
        | some r => if j + cs.length ≤ r.length then some (h.set b ⟨k.s, k.ty, k.st, k.rows.set i (splice r j cs)⟩) else none
        | none => none
      else none
    | none => none
  | _, _, _ => none

def ares (o : Option AV) (h : List Blk) : Res := match o with | some v => .val v h | none => .bad
def ared (o : Option (List Blk)) : Res := match o with | some h => .skip h | none => .bad

def aint (op : BinOp) (k : IntKind) (x y : Int) : Option Value :=
  match op with
  | .add => some (.int k (k.wrap (x + y)))
  | .sub => some (.int k (k.wrap (x - y)))
  | .mul => some (.int k (k.wrap (x * y)))
  | .quo => if y = 0 then none else some (.int k (k.wrap (x.tdiv y)))
  | .rem => if y = 0 then none else some (.int k (x.tmod y))
  | .and => some (.int k (k.wrap (BitVec.ofInt k.bits x &&& BitVec.ofInt k.bits y).toNat))
  | .or => some (.int k (k.wrap (BitVec.ofInt k.bits x ||| BitVec.ofInt k.bits y).toNat))
  | .xor => some (.int k (k.wrap (BitVec.ofInt k.bits x ^^^ BitVec.ofInt k.bits y).toNat))
  | .eql => some (.bool (x == y))
  | .neq => some (.bool (x != y))
  | .lss => some (.bool (decide (x < y)))
  | .leq => some (.bool (decide (x ≤ y)))
  | .gtr => some (.bool (decide (x > y)))
  | .geq => some (.bool (decide (x ≥ y)))
  | _ => none

def astr (op : BinOp) (x y : ByteArray) : Option Value :=
  match op with
  | .add => if ((x.size + y.size : Nat) : Int) ≤ 9223372036854775807 then some (.string (x ++ y)) else none
  | .eql => some (.bool (x.toList == y.toList))
  | .neq => some (.bool !(x.toList == y.toList))
  | .lss => some (.bool (Op.bytesLess x.toList y.toList))
  | _ => none

def abin (P : Program) (op : BinOp) (t : TypeId) (x y : AV) : Option AV :=
  match op, x, y with
  | .shl, _, _ => none
  | .shr, _, _ => none
  | _, .one (.sc (.int k a)), .one (.sc (.int k' b)) => if k = k' then (aint op k a b).map (fun v => .one (.sc v)) else none
  | _, .one (.sc (.string a)), .one (.sc (.string b)) => (astr op a b).map (fun v => .one (.sc v))
  | .eql, .one (.sc (.bool a)), .one (.sc (.bool b)) => if tk P t = 6 then some (.one (.sc (.bool (a == b)))) else none
  | .neq, .one (.sc (.bool a)), .one (.sc (.bool b)) => if tk P t = 6 then some (.one (.sc (.bool !(a == b)))) else none
  | _, _, _ => none

def aun (op : UnOp) (x : AV) : Option AV :=
  match op, x with
  | .neg, .one (.sc (.int k n)) => some (.one (.sc (.int k (k.wrap (0 - n)))))
  | .not, .one (.sc (.bool b)) => some (.one (.sc (.bool !b)))
  | _, _ => none

def afield (P : Program) (t : TypeId) (f : Nat) (x : AV) : Option AV :=
  match tinfo P t, x with
  | some ti, .agg cs => match ti.fields[f]? with
    | some (off, size, true) => if size = 0 then none else some (.agg ((cs.drop off).take size))
    | some (off, size, false) => if size = 0 then none else match cs[off]? with | some c => some (.one c) | none => none
    | none => none
  | _, _ => none

def afieldAddr (P : Program) (t : TypeId) (f : Nat) (x : AV) : Option AV :=
  match tinfo P t with
  | some ti => match ti.fields[f]?, x with
    | some (off, size, _), .one (.ptr s b i j) => if size = 0 then none else some (.one (.ptr s b i (j + off)))
    | some (off, size, _), .one (.cur cs j) => if size = 0 then none else some (.one (.cur cs (j + off)))
    | _, _ => none
  | none => none

def aindexAddr (P : Program) (t : TypeId) (x i : AV) : Option AV :=
  match tinfo P t, x, i with
  | some ti, .one (.sl rows), .one (.sc (.int _ n)) =>
    if 0 ≤ n ∧ ti.kind = 3 then
      match rows[n.toNat]?, tinfo P ti.elem with
      | some r, some te => if r.length = te.size then some (.one (.cur r 0)) else none
      | _, _ => none
    else none
  | some ti, .one (.row s b m), .one (.sc (.int _ n)) =>
    if 0 ≤ n ∧ n.toNat < m ∧ ti.kind = 3 then
      match tinfo P ti.elem with
      | some te => if te.size = s then some (.one (.ptr s b n.toNat 0)) else none
      | _ => none
    else none
  | _, _, _ => none

def alen (k : Nat) (x : AV) : Option AV :=
  match x with
  | .one (.sl rows) => if k = 3 then some (.one (.sc (.int .i64 rows.length))) else none
  | .one (.row _ _ n) => if k = 3 then some (.one (.sc (.int .i64 n))) else none
  | .one (.sc (.string s)) => if k = 4 then some (.one (.sc (.int .i64 s.size))) else none
  | .one (.sc (.slice none 0 0)) => if k = 3 then some (.one (.sc (.int .i64 0))) else none
  | _ => none

/-- a bound of a slice expression: n if it is left out -/
def abound (n : Nat) (m : Nat) : Option AV → Option Nat
  | none => some n
  | some (.one (.sc (.int _ i))) => if 0 ≤ i ∧ i.toNat ≤ m then some i.toNat else none
  | _ => none

def rowsLen (s : Nat) (rows : List (List C)) : Bool := rows.all (fun r => r.length == s)
def aesz (P : Program) (t : TypeId) : Nat := match tinfo P t with | some ti => (match tinfo P ti.elem with | some te => te.size | none => 0) | none => 0

def aslice (k es : Nat) (x : AV) (lo hi : Option AV) : Option AV :=
  match x with
  | .one (.sl rows) => if k = 3 ∧ es ≠ 0 ∧ rowsLen es rows = true then
      match abound rows.length rows.length hi with
      | none => none
      | some h => match abound 0 h lo with
        | none => none
        | some l => some (.one (.sl ((rows.take h).drop l)))
    else none
  | .one (.sc (.string s)) => if k = 4 then
      match abound s.size s.size hi with
      | none => none
      | some h => match abound 0 h lo with
        | none => none
        | some l => some (.one (.sc (.string (s.extract l h))))
    else none
  | _ => none

/-- parts laid into cells -/
def afill (fs : List (Nat × Nat × Bool)) : List (Nat × Option AV) → List C → Option (List C)
  | [], cs => some cs
  | (f, v) :: l, cs => match fs[f]?, v.bind AV.cells with
    | some (off, size, _), some xs => if xs.length = size ∧ off + size ≤ cs.length then afill fs l (splice cs off xs) else none
    | _, _ => none

def abuild (P : Program) (t : TypeId) (parts : List (Nat × Option AV)) : Option AV :=
  match tinfo P t with
  | some ti => if ti.kind = 1 ∧ ti.zero.length = ti.size then (match afill ti.fields parts (ti.zero.map .sc) with | some cs => some (.agg cs) | none => none) else none
  | none => none

def arow (size : Nat) : List (Nat × Option AV) → List (List C) → Option (List (List C))
  | [], rows => some rows
  | (i, v) :: l, rows => match v.bind AV.cells with
    | some xs => if xs.length = size ∧ i < rows.length then arow size l (rows.set i xs) else none
    | none => none

def abuildSlice (P : Program) (h : List Blk) (t : TypeId) (len : Nat) (parts : List (Nat × Option AV)) : Res :=
  match tinfo P t with
  | some ti => match tinfo P ti.elem with
    | some te => if ti.kind = 3 ∧ te.zero.length = te.size ∧ len * te.size ≤ 16777216 ∧ 0 < te.size then
        match arow te.size parts (List.replicate len (te.zero.map .sc)) with
        | some rows => .val (.one (.row te.size h.length len)) (h ++ [⟨te.size, ti.elem, .mut, rows⟩])
        | none => .bad
      else .bad
    | none => .bad
  | none => .bad

def amakeSlice (P : Program) (h : List Blk) (t : TypeId) (len cap : AV) : Res :=
  match tinfo P t, len, cap with
  | some ti, .one (.sc (.int _ n)), .one (.sc (.int _ c)) => match tinfo P ti.elem with
    | some te => if ti.kind = 3 ∧ te.zero.length = te.size ∧ 0 < te.size ∧ n = c ∧ 0 ≤ n ∧ te.bytes * n ≤ 140737488355328 ∧ n ≤ 140737488355328 then
        .val (.one (.row te.size h.length n.toNat)) (h ++ [⟨te.size, ti.elem, .mut, List.replicate n.toNat (te.zero.map .sc)⟩])
      else .bad
    | none => .bad
  | _, _, _ => .bad

/-- the rows of a slice -/
def arows (h : List Blk) : AV → Option (List (List C))
  | .one (.sl rows) => some rows
  | .one (.row _ b n) => match h[b]? with
    | some k => if k.st.known = true ∧ k.rows.length = n then some k.rows else none
    | none => none
  | _ => none

def aappend (P : Program) (h : List Blk) (t : TypeId) (x y : AV) : Res :=
  match tinfo P t, arows h y with
  | some ti, some (r :: rs) => match tinfo P ti.elem with
    | some te =>
      if ti.kind = 3 ∧ te.zero.length = te.size ∧ 0 < te.size ∧ 0 < te.bytes then
        match x with
        | .one (.sc (.slice none 0 0)) =>
          if (rs.length + 1) * te.bytes ≤ 140737488355328 ∧ rowsLen te.size (r :: rs) = true then
            .val (.one (.row te.size h.length (rs.length + 1))) (h ++ [⟨te.size, ti.elem, .mut, r :: rs⟩])
          else .bad
        | .one (.row s b n) =>
          match h[b]? with
          | some k =>
            if (n + (rs.length + 1)) * te.bytes ≤ 140737488355328 ∧ s = te.size ∧ k.s = te.size ∧ k.ty = ti.elem ∧ k.st.isMut = true ∧ k.rows.length = n ∧ rowsLen te.size (r :: rs) = true then
              .val (.one (.row te.size h.length (n + (rs.length + 1)))) (h.set b ⟨k.s, k.ty, .dead, []⟩ ++ [⟨te.size, ti.elem, .mut, k.rows ++ (r :: rs)⟩])
            else .bad
          | none => .bad
        | _ => .bad
      else .bad
    | none => .bad
  | _, _ => .bad

def caps : List (Option AV) → Option (List C)
  | [] => some []
  | some (.one c) :: l => (caps l).map (c :: ·)
  | _ => none
def vals : List (Option AV) → Option (List AV)
  | [] => some []
  | some v :: l => (vals l).map (v :: ·)
  | none :: _ => none

def acall (s : ASt) (c : Call) : Res :=
  match c.callee with
  | .value f => match s.eval f, vals (c.args.toList.map s.eval) with
    | some (.one (.fn g cs)), some vs => .call g (vs ++ cs.map .one)
    | _, _ => .bad
  | _ => .bad

def ares1 (s : ASt) (x : Operand) (g : AV → Option AV) : Res := match s.eval x with | some v => ares (g v) s.h | none => .bad
def ares2 (s : ASt) (x y : Operand) (g : AV → AV → Option AV) : Res := match s.eval x, s.eval y with | some v, some u => ares (g v u) s.h | _, _ => .bad

def abuiltin (P : Program) (s : ASt) (b : Builtin) (ts : List TypeId) (args : List Operand) : Res :=
  match b, args, ts with
  | .len, [x], [t] => ares1 s x (alen (tk P t))
  | .append, [x, y], [t, t'] => match s.eval x, s.eval y with | some x, some y => if t = t' then aappend P s.h t x y else .bad | _, _ => .bad
  | _, _, _ => .bad

def aop (P : Program) (s : ASt) (o : Oper) : Res :=
  match o.op with
  | .move x => ares (s.eval x) s.h
  | .assign x => ares (s.eval x) s.h
  | .pick c a b => match s.eval c, s.eval a, s.eval b with
    | some (.one (.sc (.bool c))), some x, some y => .val (bif c then x else y) s.h
    | _, _, _ => .bad
  | .alloc t => match tinfo P t with
    | some ti => if ti.zero.length = ti.size then .val (.one (.ptr ti.size s.h.length 0 0)) (s.h ++ [⟨ti.size, t, .mut, [ti.zero.map .sc]⟩]) else .bad
    | none => .bad
  | .box t x => match (s.eval x).bind AV.cells with
    | some cs => .val (.one (.ptr cs.length s.h.length 0 0)) (s.h ++ [⟨cs.length, t, .mut, [cs]⟩])
    | none => .bad
  | .build t parts => ares (abuild P t (parts.toList.map fun p => (p.1, s.eval p.2))) s.h
  | .buildSlice t len parts => abuildSlice P s.h t len (parts.toList.map fun p => (p.1, s.eval p.2))
  | .load t a => match s.eval a with
    | some (.one p) => ares (aload P s.h t p) s.h
    | _ => .bad
  | .store t a x => match s.eval a, s.eval x with
    | some (.one p), some v => ared (astore P s.h t p v)
    | _, _ => .bad
  | .nilCheck x => match s.eval x with
    | some (.one (.ptr a b c d)) => .val (.one (.ptr a b c d)) s.h
    | some (.one (.cur a b)) => .val (.one (.cur a b)) s.h
    | some (.one (.fn a b)) => .val (.one (.fn a b)) s.h
    | _ => .bad
  | .binOp op t x y _ => ares2 s x y (abin P op t)
  | .unOp op _ x => ares1 s x (aun op)
  | .convert a b x => match s.eval x, tint P b with
    | some (.one (.sc (.int _ n))), some k => if tk P a = 5 then .val (.one (.sc (.int k (k.wrap n)))) s.h else .bad
    | _, _ => .bad
  | .makeFunc (.func f) first cs => if first.isEmpty then (match caps (cs.toList.map s.eval) with | some cs => .val (.one (.fn f cs)) s.h | none => .bad) else .bad
  | .makeSlice t l c => match s.eval l, s.eval c with | some l, some c => amakeSlice P s.h t l c | _, _ => .bad
  | .slice t x lo hi none => ares1 s x (fun v => aslice (tk P t) (aesz P t) v (lo.map fun o => (s.eval o).getD aundef) (hi.map fun o => (s.eval o).getD aundef))
  | .fieldAddr t x f => ares1 s x (afieldAddr P t f)
  | .field t x f => ares1 s x (afield P t f)
  | .indexAddr t x i => ares2 s x i (aindexAddr P t)
  | .extract x k => match s.eval x with
    | some (.tup vs) => ares vs[k]? s.h
    | _ => .bad
  | .call ⟨.builtin b, args, ts⟩ => abuiltin P s b ts.toList args.toList
  | .call c => acall s c
  | _ => .bad

inductive Item where
  | code (c : Code)
  | blk (id : Nat)
  | goal (I : ASt → Prop)
  | ops (l all : List Oper)

inductive Out where
  | ret (s : ASt)
  | call (f : FuncId) (args : List AV) (h : List Blk) (dst : Option Tmp) (k : List Item) (s : ASt)
  | loop (c : Code) (k : List Item) (s : ASt)
  | drawn (id : Nat) (l : List Oper) (k : List Item) (s : ASt)
  | goal (I : ASt → Prop) (s : ASt)
  | bad (k : List Item)
  | fuel (k : List Item) (s : ASt)

def exitK (id : Nat) : List Item → Option (List Item)
  | [] => none
  | .blk id' :: k => if id' = id then some k else exitK id k
  | .goal _ :: k => exitK id k
  | .code _ :: k => exitK id k
  | .ops _ _ :: k => exitK id k

def yieldedA (all : List Oper) (t : List (Nat × AV)) (j : Nat) : Option Bool :=
  match all[j]? with
  | some o => match o.dst with
    | some d => match look d t with
      | some (.one (.sc (.bool b))) => some b
      | _ => none
    | none => none
  | none => none

/-- does the operation come up? none: not known -/
def wantedA (all : List Oper) (t : List (Nat × AV)) : Option (Nat × Bool) → Option Bool
  | none => some true
  | some (j, want) => match all[j]? with
    | some o => match o.dst with
      | some d => match look d t with
        | some (.one (.sc (.bool b))) => some (b == want)
        | some (.tup []) => some false
        | _ => none
      | none => none
    | none => none

mutual
def arun (P : Program) : Nat → List Item → ASt → Out
  | 0, k, s => .fuel k s
  | _ + 1, [], s => .ret s
  | _ + 1, .goal I :: _, s => .goal I s
  | n + 1, .blk _ :: k, s => arun P n k s
  | n + 1, .ops [] _ :: k, s => arun P n k s
  | n + 1, .ops (o :: l) all :: k, s => awant P n (wantedA all s.t o.guard) o l all k s
  | n + 1, .code .skip :: k, s => arun P n k s
  | n + 1, .code (.seq a b) :: k, s => arun P n (.code a :: .code b :: k) s
  | n + 1, .code (.region id ops d) :: k, s => if d then .drawn id ops.toList k s else arun P n (.ops ops.toList ops.toList :: k) s
  | n + 1, .code (.cond c x y) :: k, s => acond P n (s.eval c) (.code x :: k) (.code y :: k) s
  | n + 1, .code (.block id c) :: k, s => arun P n (.code c :: .blk id :: k) s
  | _ + 1, .code (.loop c) :: k, s => .loop c k s
  | n + 1, .code (.exit id) :: k, s => match exitK id k with | some k' => arun P n k' s | none => .bad k
  | _ + 1, .code .ret :: _, s => .ret s
  | _ + 1, k, _ => .bad k
def awant (P : Program) (n : Nat) (w : Option Bool) (o : Oper) (l all : List Oper) (k : List Item) (s : ASt) : Out :=
  match w with
  | none => .bad (.ops (o :: l) all :: k)
  | some false => arun P n (.ops l all :: k) (s.put o.dst aundef)
  | some true => astep P n (aop P s o) o l all k s
def astep (P : Program) (n : Nat) (r : Res) (o : Oper) (l all : List Oper) (k : List Item) (s : ASt) : Out :=
  match r with
  | .val v h => arun P n (.ops l all :: k) (ASt.put ⟨s.n, s.t, h⟩ o.dst v)
  | .skip h => arun P n (.ops l all :: k) (ASt.put ⟨s.n, s.t, h⟩ o.dst aundef)
  | .call f args => .call f args s.h o.dst (.ops l all :: k) s
  | .bad => .bad (.ops (o :: l) all :: k)
def acond (P : Program) (n : Nat) (c : Option AV) (x y : List Item) (s : ASt) : Out :=
  match c with
  | some (.one (.sc (.bool b))) => abr P n b x y s
  | _ => .bad x
def abr (P : Program) (n : Nat) (b : Bool) (x y : List Item) (s : ASt) : Out :=
  match b with
  | true => arun P n x s
  | false => arun P n y s
end
end Go.Proofs.Sh
