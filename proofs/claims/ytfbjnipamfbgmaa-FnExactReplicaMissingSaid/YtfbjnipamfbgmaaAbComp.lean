/- The program's operations, told as operations of the abstract view. -/
import Derived.Test.YtfbjnipamfbgmaaAbOps
set_option linter.unusedSimpArgs false
set_option linter.unusedVariables false
namespace Go.Ab

def leafOf (v : Value) : Option L := match v with
  | .slice none 0 0 => some .emp
  | v => if lit v then some (.v v) else none

def opd : Operand → Option Opd
  | .tmp t => some (.t t)
  | .const v => match v with
    | .agg cs => (cs.toList.mapM leafOf).map fun xs => .c (.agg xs)
    | v => (leafOf v).map fun x => .c (.l x)
  | .func f => some (.c (.l (.clos f [])))
  | .global _ => none

def opdO : Option Operand → Option (Option Opd)
  | none => some none
  | some x => (opd x).map some

def sizeP (P : Program) (t : TypeId) : Option Nat := (P.info? t).map (·.size)

def zeros (P : Program) (t : TypeId) : Option (List L) :=
  (P.info? t).bind fun i => i.zero.bind fun z => if z.cells.size = i.size ∧ 0 < i.size then z.cells.toList.mapM leafOf else none

def aggP (P : Program) (t : TypeId) : Option Bool := match P.underlying t with
  | some (.struct _) => some true
  | some (.array _ _) => some true
  | some _ => some false
  | none => none

def eqGo (P : Program) (ek : TypeId → Option (List EK)) : List Field → Nat → Option (List EK)
  | [], _ => some []
  | f :: fs, off => if f.name ≠ "_" ∧ f.offset = off then
      match ek f.type, sizeP P f.type with
      | some ks, some n => if ks.length = n then (eqGo P ek fs (off + n)).map (ks ++ ·) else none
      | _, _ => none
    else none

/-- A struct type of ints, bools and strings, field behind field: its leaves' kinds. -/
def eqKinds (P : Program) : Nat → TypeId → Option (List EK)
  | 0, _ => none
  | d + 1, t => match P.underlying t with
    | some (.int k) => some [.i k]
    | some .bool => some [.b]
    | some .string => some [.s]
    | some (.struct fs) => if P.stoodInHeld t = false then eqGo P (eqKinds P d) fs.toList 0 else none
    | _ => none

def fieldOf (P : Program) (t : TypeId) (f : Nat) : Option (Nat × Nat × Bool) :=
  match P.underlying t with
  | some (.struct fs) => (fs[f]?).bind fun x => match sizeP P x.type, aggP P x.type with
    | some n, some g => some (x.offset, n, g)
    | _, _ => none
  | _ => none

def elemP (P : Program) (t : TypeId) : Option TypeId := match P.underlying t with
  | some (.slice e) => some e
  | _ => none

def isIntT (P : Program) (t : TypeId) : Bool := match P.underlying t with
  | some (.int _) => true
  | _ => false

def compBuiltin (P : Program) (b : Builtin) (xs : List Operand) (ts : List TypeId) : Option AOp :=
  match b with
  | .len => match xs, ts with
    | [x], [t] => match P.underlying t with
      | some (.slice _) => do pure (.len (← opd x))
      | some .string => do pure (.slen (← opd x))
      | _ => none
    | _, _ => none
  | .append => match xs, ts with
    | [x, y], [t, u] => do
      let e ← elemP P t
      let _ ← elemP P u
      let zs ← zeros P e
      let i ← P.info? e
      pure (.app i.bytes zs (← opd x) (← opd y))
    | _, _ => none
  | .max => match xs with
    | [x, y] => do pure (.mx true (← opd x) (← opd y))
    | _ => none
  | .min => match xs with
    | [x, y] => do pure (.mx false (← opd x) (← opd y))
    | _ => none
  | _ => none

def compOp (P : Program) (o : Op) : Option AOp :=
  match o with
  | .move x | .assign x => do pure (.mov (← opd x))
  | .pick c a b => do pure (.pick (← opd c) (← opd a) (← opd b))
  | .alloc t => do pure (.alloc (← zeros P t))
  | .box _ x => do pure (.box (← opd x))
  | .build t ps => do
    let zs ← zeros P t
    let some (.struct fs) := P.underlying t | none
    if fs.toList.all fun f => (sizeP P f.type).isSome then
      pure (.build zs (← ps.toList.mapM fun (i, x) => do
        let f ← fs[i]?
        pure (f.offset, ← sizeP P f.type, ← opd x)))
    else none
  | .buildSlice t n ps => do
    let e ← elemP P t
    let zs ← zeros P e
    if n * zs.length ≤ 2 ^ 24 then pure (.bsl n zs (← ps.toList.mapM fun (i, x) => do pure (i, ← opd x))) else none
  | .load t x => do
    let n ← sizeP P t
    let g ← aggP P t
    if g || n == 1 then pure (.load n g (← opd x)) else none
  | .store t a x => do
    let n ← sizeP P t
    pure (.store n (← opd a) (← opd x))
  | .nilCheck x => do pure (.nilck (← opd x))
  | .binOp op t x y _ => do
    match P.underlying t with
    | some (.int _) => pure (.bin op (← opd x) (← opd y))
    | some .string => pure (.bin op (← opd x) (← opd y))
    | some .bool => match op with
      | .eql => pure (.eqb false (← opd x) (← opd y))
      | .neq => pure (.eqb true (← opd x) (← opd y))
      | _ => none
    | some (.struct _) =>
      let ks ← eqKinds P 20 t
      if P.eqGuardType P.depth t = false then
        match op with
        | .eql => pure (.eqs false ks (← opd x) (← opd y))
        | .neq => pure (.eqs true ks (← opd x) (← opd y))
        | _ => none
      else none
    | _ => none
  | .unOp op _ x => match op with
    | .not => do pure (.notb (← opd x))
    | _ => none
  | .convert s d x => do
    let _ ← P.underlying s
    match P.underlying d with
    | some (.int k) => pure (.conv k (← opd x))
    | some .string => match P.underlying s with
      | some (.slice e) => match P.underlying e with
        | some (.int .u8) => pure (.bstr (← opd x))
        | _ => none
      | _ => none
    | _ => none
  | .makeFunc fn first ks => match fn with
    | .func f => if first.size = 0 then do pure (.fn f (← ks.toList.mapM opd)) else none
    | _ => none
  | .makeSlice t l c => do
    let e ← elemP P t
    let zs ← zeros P e
    let i ← P.info? e
    pure (.mk i.bytes zs (← opd l) (← opd c))
  | .slice t x lo hi mx => match mx with
    | some _ => none
    | none => match P.underlying t with
      | some (.slice e) => do pure (.slice (← sizeP P e) (← opd x) (← opdO lo) (← opdO hi))
      | some .string => do pure (.substr (← opd x) (← opdO lo) (← opdO hi))
      | _ => none
  | .fieldAddr t x f => do
    let (off, n, _) ← fieldOf P t f
    if n ≠ 0 then pure (.faddr off (← opd x)) else none
  | .field t x f => do
    let (off, n, g) ← fieldOf P t f
    if g || n == 1 then pure (.field off n g (← opd x)) else none
  | .indexAddr t x i => do
    let e ← elemP P t
    let n ← sizeP P e
    pure (.iaddr n (← opd x) (← opd i))
  | .index t x i => do
    match P.underlying t with
    | some .string => pure (.istr (← opd x) (← opd i))
    | _ => none
  | .extract x i => do pure (.extr i (← opd x))
  | .call c => match c.callee with
    | .builtin b => compBuiltin P b c.args.toList c.argTypes.toList
    | .value f => do pure (.call (← opd f) (← c.args.toList.mapM opd))
    | _ => none
  | _ => none

end Go.Ab
