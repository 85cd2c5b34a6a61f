/- Operations as they act on the abstract view, and the program's operations told as such. -/
import Derived.Test.YtfbjnipamfbgmaaAbDefs
set_option linter.unusedSimpArgs false
set_option linter.unusedVariables false
namespace Go.Ab

inductive Opd where
  | t (n : Nat)
  | c (p : PV)
  deriving Inhabited

def Opd.ev (T : Nat → PV) : Opd → PV
  | .t n => T n
  | .c p => p

/-- The kind of a leaf that is compared. -/
inductive EK where
  | i (k : IntKind)
  | b
  | s
  deriving Inhabited

inductive AOp where
  | mov (x : Opd)
  | pick (c a b : Opd)
  | alloc (zs : List L)
  | box (x : Opd)
  | build (zs : List L) (ps : List (Nat × Nat × Opd))
  | bsl (n : Nat) (zs : List L) (ps : List (Nat × Opd))
  | load (n : Nat) (agg : Bool) (x : Opd)
  | store (n : Nat) (x y : Opd)
  | nilck (x : Opd)
  | bin (op : BinOp) (x y : Opd)
  | eqb (neg : Bool) (x y : Opd)
  | eqs (neg : Bool) (ks : List EK) (x y : Opd)
  | notb (x : Opd)
  | conv (k : IntKind) (x : Opd)
  | slice (e : Nat) (x : Opd) (lo hi : Option Opd)
  | substr (x : Opd) (lo hi : Option Opd)
  | faddr (off : Nat) (x : Opd)
  | field (off n : Nat) (agg : Bool) (x : Opd)
  | iaddr (e : Nat) (x i : Opd)
  | istr (x i : Opd)
  | extr (i : Nat) (x : Opd)
  | len (x : Opd)
  | slen (x : Opd)
  | app (bytes : Nat) (zs : List L) (x y : Opd)
  | mk (bytes : Nat) (zs : List L) (n c : Opd)
  | fn (f : Nat) (ks : List Opd)
  | call (f : Opd) (xs : List Opd)
  | mx (big : Bool) (x y : Opd)
  | bstr (x : Opd)
  deriving Inhabited

/-- Its result, what it asks, what it does to the objects. -/
abbrev Out := Prop × PV × List (Nat × Option AObj)

def PV.cells : PV → List L
  | .l x => [x]
  | .agg cs => cs
  | .tup _ => []

def PV.ok : PV → Bool
  | .l .bad => false
  | .tup _ => false
  | _ => true

def upd {α : Type} (f : Nat → α) (k : Nat) (v : α) : Nat → α := fun j => if j = k then v else f j

def updL {α : Type} (f : Nat → α) : List (Nat × α) → Nat → α
  | [] => f
  | (k, v) :: r => updL (upd f k v) r

def splice (zs : List L) (off : Nat) (cs : List L) : List L := zs.take off ++ (cs ++ zs.drop (off + cs.length))

def fillL (zs : List L) : List (Nat × Nat × PV) → Option (List L)
  | [] => some zs
  | (off, n, p) :: r => if p.ok = true ∧ p.cells.length = n ∧ off + n ≤ zs.length then fillL (splice zs off p.cells) r else none

def fillE (n : Nat) (es : List (List L)) : List (Nat × PV) → Option (List (List L))
  | [] => some es
  | (i, p) :: r => if p.ok = true ∧ p.cells.length = n ∧ i < es.length then fillE n (es.set i p.cells) r else none

def one (agg : Bool) (cs : List L) : Option PV :=
  if agg then some (.agg cs) else match cs with
    | [x] => some (.l x)
    | _ => none

def inK (k : IntKind) (n : Int) : Prop := k.min ≤ n ∧ n ≤ k.max

def I (n : Int) : PV := .l (.v (.int .i64 n))
def B (b : Bool) : PV := .l (.v (.bool b))

def binI (op : BinOp) (k : IntKind) (a b : Int) : Option (Prop × Value) :=
  match op with
  | .add => some (inK k (a + b), .int k (a + b))
  | .sub => some (inK k (a - b), .int k (a - b))
  | .mul => some (inK k (a * b), .int k (a * b))
  | .quo => some (b ≠ 0 ∧ inK k (a.tdiv b), .int k (a.tdiv b))
  | .rem => some (b ≠ 0, .int k (a.tmod b))
  | .eql => some (True, .bool (decide (a = b)))
  | .neq => some (True, .bool (decide (a ≠ b)))
  | .lss => some (True, .bool (decide (a < b)))
  | .leq => some (True, .bool (decide (a ≤ b)))
  | .gtr => some (True, .bool (decide (b < a)))
  | .geq => some (True, .bool (decide (b ≤ a)))
  | .and => some (True, .int k (k.wrap (BitVec.ofInt k.bits a &&& BitVec.ofInt k.bits b).toNat))
  | .or => some (True, .int k (k.wrap (BitVec.ofInt k.bits a ||| BitVec.ofInt k.bits b).toNat))
  | .xor => some (True, .int k (k.wrap (BitVec.ofInt k.bits a ^^^ BitVec.ofInt k.bits b).toNat))
  | .andNot => some (True, .int k (k.wrap (BitVec.ofInt k.bits a &&& ~~~(BitVec.ofInt k.bits b)).toNat))
  | .shl => some (0 ≤ b, .int k (k.wrap (a * 2 ^ (min b.toNat k.bits))))
  | .shr => some (0 ≤ b, .int k (a.fdiv (2 ^ (min b.toNat k.bits))))

def binS (op : BinOp) (a b : ByteArray) : Option (Prop × Value) :=
  match op with
  | .add => some (((a.size + b.size : Nat) : Int) ≤ 9223372036854775807, .string (a ++ b))
  | .eql => some (True, .bool (decide (a = b)))
  | .neq => some (True, .bool (decide (a ≠ b)))
  | _ => none

/-- Leaves without addresses, compared one by one. -/
def eqL : EK → L → L → Option Bool
  | .i k, .v (.int k1 a), .v (.int k2 b) => if k1 = k ∧ k2 = k then some (decide (a = b)) else none
  | .b, .v (.bool a), .v (.bool b) => some (decide (a = b))
  | .s, .v (.string a), .v (.string b) => some (decide (a = b))
  | _, _, _ => none

def eqLs : List EK → List L → List L → Option Bool
  | [], [], [] => some true
  | k :: ks, x :: xs, y :: ys => match eqL k x y, eqLs ks xs ys with
    | some b, some c => some (b && c)
    | _, _ => none
  | _, _, _ => none

def bnd (d : Int) (T : Nat → PV) : Option Opd → Option Int
  | none => some d
  | some x => match x.ev T with
    | .l (.v (.int _ n)) => some n
    | _ => none

/-- What a callee may read of a slice or pointer that the call owns. -/
def vw1 (ρ : Nat → Option AObj) : L → L
  | .sl k off len => match ρ k with
    | some o => .vs false ((o.es.drop off).take len)
    | none => .bad
  | .v x => .v x
  | .vs q xs => .vs q xs
  | .emp => .emp
  | _ => .bad

def vw (ρ : Nat → Option AObj) : L → L
  | .ptr k e o => match ρ k with
    | some ob => match ob.es[e]? with
      | some cs => .pv false ((cs.drop o).map (vw1 ρ))
      | none => .bad
    | none => .bad
  | .pv q cs => .pv q cs
  | x => vw1 ρ x

def idx (ks : List Nat) (k : Nat) : Option Nat := ks.idxOf? k

def vw1Ok (ks : List Nat) (ρ : Nat → Option AObj) : L → Prop
  | .sl k off len => match ρ k with
    | some o => idx ks k = none ∧ off + len ≤ o.es.length ∧ o.pl = true
    | none => False
  | .v _ | .vs _ _ | .emp => True
  | _ => False

def vwOk (ks : List Nat) (ρ : Nat → Option AObj) : L → Prop
  | .ptr k e o => match ρ k with
    | some ob => match ob.es[e]? with
      | some cs => idx ks k = none ∧ ∀ x ∈ cs.drop o, vw1Ok ks ρ x
      | none => False
    | none => False
  | .pv _ _ => True
  | x => vw1Ok ks ρ x

/-- An argument, as the callee is told of it: objects in ks are handed over, what leads to others is only read. -/
def argL (ks : List Nat) (ρ : Nat → Option AObj) : L → L
  | .sl k off len => match idx ks k with
    | some i => .sl i off len
    | none => vw ρ (.sl k off len)
  | .ptr k e o => match idx ks k with
    | some i => .ptr i e o
    | none => vw ρ (.ptr k e o)
  | x => vw ρ x

def argOk (ks : List Nat) (ρ : Nat → Option AObj) : L → Prop
  | .sl k off len => match idx ks k with
    | some _ => True
    | none => vwOk ks ρ (.sl k off len)
  | .ptr k e o => match idx ks k with
    | some _ => True
    | none => vwOk ks ρ (.ptr k e o)
  | x => vwOk ks ρ x

def argP (ks : List Nat) (ρ : Nat → Option AObj) : PV → PV
  | .l x => .l (argL ks ρ x)
  | .agg cs => .agg (cs.map (argL ks ρ))
  | .tup ps => .tup ps

def argPOk (ks : List Nat) (ρ : Nat → Option AObj) : PV → Prop
  | .l x => argOk ks ρ x
  | .agg cs => ∀ x ∈ cs, argOk ks ρ x
  | .tup _ => False

def renL (r : Nat → Nat) : L → L
  | .sl k off len => .sl (r k) off len
  | .ptr k e o => .ptr (r k) e o
  | .clos f ks => .clos f (ks.map r)
  | x => x

def renP1 (r : Nat → Nat) : PV → PV
  | .l x => .l (renL r x)
  | .agg cs => .agg (cs.map (renL r))
  | .tup ps => .tup ps

def renP (r : Nat → Nat) : PV → PV
  | .l x => .l (renL r x)
  | .agg cs => .agg (cs.map (renL r))
  | .tup ps => .tup (ps.map (renP1 r))

def renO (r : Nat → Nat) (o : AObj) : AObj := if o.pl then o else { o with es := o.es.map fun x => x.map (renL r) }

/-- An object that is handed over, as the callee is told of it. -/
def inL (ks : List Nat) : L → L
  | .sl k off len => .sl ((idx ks k).getD 0) off len
  | .ptr k e o => .ptr ((idx ks k).getD 0) e o
  | .clos f cs => .clos f (cs.map fun k => (idx ks k).getD 0)
  | x => x

def inLOk (ks : List Nat) : L → Prop
  | .sl k _ _ => (idx ks k).isSome = true
  | .ptr k _ _ => (idx ks k).isSome = true
  | .pv _ _ => False
  | .clos _ cs => ∀ k ∈ cs, (idx ks k).isSome = true
  | _ => True

def inO (ks : List Nat) (o : AObj) : AObj := if o.pl then o else { o with es := o.es.map fun x => x.map (inL ks) }

def inOk (ks : List Nat) (o : AObj) : Prop := o.m = 0 ∧ (o.pl = true ∨ ∀ r ∈ o.es, ∀ x ∈ r, inLOk ks x)

def pures (cs : List L) : Bool := cs.all L.pure

/-- The key of the j-th new object of the operation that writes slot d. -/
def key (d j : Nat) : Nat := d + 1000 * j

def back (ks : List Nat) (d : Nat) (i : Nat) : Nat := if i < ks.length then ks.getD i 0 else key d (i - ks.length)

/-- The rows that append takes over, and what they ask. -/
def newsOf (e : Nat) (ρ : Nat → Option AObj) : PV → Option (Prop × Bool × List (List L))
  | .l (.sl k off n) => match ρ k with
    | some ob => if ob.e = e then some (off + n ≤ ob.es.length ∧ (ob.pl = true ∨ ∀ r ∈ ob.es, ∀ x ∈ r, x ≠ .bad), ob.pl, (ob.es.drop off).take n) else none
    | none => none
  | .l (.vs _ ys) => some (∀ r ∈ ys, r.length = e, true, ys)
  | .l .emp => some (True, true, [])
  | _ => none

def callArgs (T : Nat → PV) (xs : List Opd) (cs : List Nat) : List PV := xs.map (fun x => x.ev T) ++ cs.map fun k => PV.l (.ptr k 0 0)

def callIns (ks : List Nat) (ρ : Nat → Option AObj) : List AObj := ks.map fun k => (ρ k).getD default

/-- The objects that come back are of the same rows. -/
def sameE : List AObj → List (Option AObj) → Prop
  | o :: os, some o' :: os' => o'.e = o.e ∧ sameE os os'
  | _ :: os, none :: os' => sameE os os'
  | _, _ => True

/-- What has become of an object that was handed over. -/
def backO (r : Nat → Nat) : Option AObj → AObj
  | some o => renO r o
  | none => ⟨3, true, 0, []⟩

def callBack (ks : List Nat) (d : Nat) (outs : List (Option AObj)) : List (Nat × Option AObj) := ks.zipIdx.map fun (k, i) => (k, some (backO (back ks d) ((outs[i]?).join)))

/-- Bytes, read. -/
def byteOf : List L → Option UInt8
  | [.v (.int .u8 n)] => some (UInt8.ofNat n.toNat)
  | _ => none

def bytesOf : List (List L) → Option (List UInt8)
  | [] => some []
  | r :: rs => match byteOf r, bytesOf rs with
    | some b, some bs => some (b :: bs)
    | _, _ => none

def sem (P : Program) (r : CallRes) (op : AOp) (T : Nat → PV) (ρ : Nat → Option AObj) (fr : Nat → Bool) (d : Nat) : Option Out :=
  match op with
  | .mov x => some (True, x.ev T, [])
  | .pick c a b => match c.ev T with
    | .l (.v (.bool t)) => some (True, if t then a.ev T else b.ev T, [])
    | _ => none
  | .alloc zs => if fr d = true then some (True, .l (.ptr d 0 0), [(d, some ⟨0, pures zs, zs.length, [zs]⟩)]) else none
  | .box x => if fr d = true then
      if (x.ev T).ok then some (True, .l (.ptr d 0 0), [(d, some ⟨0, pures (x.ev T).cells, (x.ev T).cells.length, [(x.ev T).cells]⟩)]) else none
    else none
  | .build zs ps => match fillL zs (ps.map fun (off, n, x) => (off, n, x.ev T)) with
    | some cs => some (True, .agg cs, [])
    | none => none
  | .bsl n zs ps => match fillE zs.length (List.replicate n zs) (ps.map fun (i, x) => (i, x.ev T)) with
    | some es => if fr d = true then
        match n with
        | 0 => some (True, .l .emp, [])
        | n + 1 => some (True, .l (.sl d 0 (n + 1)), [(d, some ⟨0, es.all pures, zs.length, es⟩)])
      else none
    | none => none
  | .load n agg x => match x.ev T with
    | .l (.ptr k e o) => match ρ k with
      | some ob => match ob.es[e]? with
        | some cs => (one agg ((cs.drop o).take n)).map fun p => (o + n ≤ cs.length, p, [])
        | none => none
      | none => none
    | .l (.pv _ cs) => (one agg (cs.take n)).map fun p => (n ≤ cs.length, p, [])
    | _ => none
  | .store n x y => match x.ev T with
    | .l (.ptr k e o) => match ρ k with
      | some ob => match ob.es[e]? with
        | some cs => if (y.ev T).ok = true ∧ (y.ev T).cells.length = n ∧ o + n ≤ cs.length ∧ ob.m = 0 then
            some (∀ c ∈ (y.ev T).cells, c ≠ .bad, .l .bad, [(k, some { ob with pl := ob.pl && pures (y.ev T).cells, es := ob.es.set e (splice cs o (y.ev T).cells) })]) else none
        | none => none
      | none => none
    | _ => none
  | .nilck x => match x.ev T with
    | .l (.ptr k e o) => match ρ k with
      | some _ => some (True, .l (.ptr k e o), [])
      | none => none
    | .l (.pv q cs) => some (True, .l (.pv q cs), [])
    | .l (.clos f ks) => some (True, .l (.clos f ks), [])
    | _ => none
  | .bin op x y => match x.ev T, y.ev T with
    | .l (.v (.int k a)), .l (.v (.int k' b)) => if k = k' then (binI op k a b).map fun (c, v) => (c, .l (.v v), []) else none
    | .l (.v (.string a)), .l (.v (.string b)) => (binS op a b).map fun (c, v) => (c, .l (.v v), [])
    | _, _ => none
  | .eqb neg x y => match x.ev T, y.ev T with
    | .l (.v (.bool a)), .l (.v (.bool b)) => some (True, B (if neg then decide (a ≠ b) else decide (a = b)), [])
    | _, _ => none
  | .eqs neg ks x y => match x.ev T, y.ev T with
    | .agg xs, .agg ys => (eqLs ks xs ys).map fun b => (True, B (if neg then !b else b), [])
    | _, _ => none
  | .notb x => match x.ev T with
    | .l (.v (.bool a)) => some (True, B (!a), [])
    | _ => none
  | .conv k x => match x.ev T with
    | .l (.v (.int _ n)) => some (True, .l (.v (.int k (k.wrap n))), [])
    | _ => none
  | .slice e x lo hi => match x.ev T with
    | .l (.sl k off len) => match bnd 0 T lo, bnd len T hi, ρ k with
      | some l, some h, some ob => if ob.e = e then some (0 ≤ l ∧ l ≤ h ∧ h ≤ len, .l (.sl k (off + l.toNat) (h.toNat - l.toNat)), []) else none
      | _, _, _ => none
    | .l (.vs q xs) => match bnd 0 T lo, bnd xs.length T hi with
      | some l, some h => some ((0 ≤ l ∧ l ≤ h ∧ h ≤ xs.length) ∧ ∀ r ∈ xs, r.length = e, .l (.vs q ((xs.drop l.toNat).take (h.toNat - l.toNat))), [])
      | _, _ => none
    | .l .emp => match bnd 0 T lo, bnd 0 T hi with
      | some l, some h => some (l = 0 ∧ h = 0, .l .emp, [])
      | _, _ => none
    | _ => none
  | .substr x lo hi => match x.ev T with
    | .l (.v (.string s)) => match bnd 0 T lo, bnd s.size T hi with
      | some l, some h => some (0 ≤ l ∧ l ≤ h ∧ h ≤ s.size, .l (.v (.string (s.extract l.toNat h.toNat))), [])
      | _, _ => none
    | _ => none
  | .faddr off x => match x.ev T with
    | .l (.ptr k e o) => match ρ k with
      | some _ => some (True, .l (.ptr k e (o + off)), [])
      | none => none
    | .l (.pv q cs) => some (off < cs.length, .l (.pv q (cs.drop off)), [])
    | _ => none
  | .field off n agg x => match x.ev T with
    | .agg cs => (one agg ((cs.drop off).take n)).map fun p => (off + n ≤ cs.length, p, [])
    | _ => none
  | .iaddr e x i => match x.ev T, i.ev T with
    | .l (.sl k off len), .l (.v (.int _ n)) => match ρ k with
      | some ob => if ob.e = e then some (0 ≤ n ∧ n < len, .l (.ptr k (off + n.toNat) 0), []) else none
      | none => none
    | .l (.vs q xs), .l (.v (.int _ n)) => match xs[n.toNat]? with
      | some cs => some (0 ≤ n ∧ cs.length = e, .l (.pv q cs), [])
      | none => none
    | _, _ => none
  | .istr x i => match x.ev T, i.ev T with
    | .l (.v (.string s)), .l (.v (.int _ n)) => match s.data[n.toNat]? with
      | some b => some (0 ≤ n, .l (.v (.int .u8 b.toNat)), [])
      | none => none
    | _, _ => none
  | .extr i x => match x.ev T with
    | .tup ps => (ps[i]?).map fun p => (True, p, [])
    | _ => none
  | .len x => match x.ev T with
    | .l (.sl k _ n) => match ρ k with
      | some _ => some (True, I n, [])
      | none => none
    | .l (.vs _ xs) => some (True, I xs.length, [])
    | .l .emp => some (True, I 0, [])
    | _ => none
  | .slen x => match x.ev T with
    | .l (.v (.string s)) => some (True, I s.size, [])
    | _ => none
  | .app bytes zs x y => match newsOf zs.length ρ (y.ev T) with
    | none => none
    | some (c, pl, ys) => if fr d = true then
        match x.ev T with
        | .l .emp => some (c ∧ ys.length ≤ maxLen ∧ ys.length * bytes ≤ 140737488355328, .l (.sl d 0 ys.length), [(d, some ⟨0, pl, zs.length, ys⟩)])
        | .l (.sl k 0 n) => match ρ k with
          | some ob => if ob.e = zs.length ∧ ob.m ≠ 2 ∧ k ≠ d then
              some (c ∧ n ≤ ob.es.length ∧ (ob.m = 0 ∨ (ob.m = 1 ∧ n = ob.es.length)) ∧ n + ys.length ≤ maxLen ∧ (n + ys.length) * bytes ≤ 140737488355328, .l (.sl d 0 (n + ys.length)),
                [(k, some ⟨2, ob.pl, ob.e, ob.es.take n⟩), (d, some ⟨1, ob.pl && pl, zs.length, ob.es.take n ++ ys⟩)]) else none
          | none => none
        | _ => none
      else none
  | .mk bytes zs n c => match n.ev T, c.ev T with
    | .l (.v (.int _ n)), .l (.v (.int _ c)) => if fr d = true then
      some (0 ≤ n ∧ n ≤ c ∧ c * bytes ≤ 140737488355328 ∧ c ≤ 9223372036854775807, .l (.sl d 0 n.toNat), [(d, some ⟨0, pures zs, zs.length, List.replicate n.toNat zs⟩)]) else none
    | _, _ => none
  | .fn f ks =>
    let keys := ks.map fun x => match x.ev T with
      | .l (.ptr k 0 0) => some k
      | _ => none
    if keys.all (·.isSome) then some (True, .l (.clos f (keys.filterMap id)), []) else none
  | .call f xs => match f.ev T with
    | .l (.clos g cs) =>
      if (r.ks.all fun k => (ρ k).isSome) = true ∧ ((List.range r.news.length).all fun j => fr (key d j)) = true then
        some (((∀ p ∈ callArgs T xs cs, argPOk r.ks ρ p) ∧ (r.ks.Nodup ∧ (∀ o ∈ callIns r.ks ρ, inOk r.ks o) ∧ sameE (callIns r.ks ρ) r.outs) ∧
            CallOk P g ((callArgs T xs cs).map (argP r.ks ρ)) ((callIns r.ks ρ).map (inO r.ks)) r.val r.outs r.news) ∧
            (∀ x ∈ callBack r.ks d r.outs, x.1 ∈ r.same → ρ x.1 = x.2),
          renP (back r.ks d) r.val,
          ((callBack r.ks d r.outs).filter fun x => !r.same.contains x.1) ++ r.news.zipIdx.map fun (o, j) => (key d j, some (renO (back r.ks d) o)))
      else none
    | _ => none
  | .mx big x y => match x.ev T, y.ev T with
    | .l (.v (.int k a)), .l (.v (.int _ b)) => some (True, .l (.v (.int k (if big then (if b > a then b else a) else (if b < a then b else a)))), [])
    | _, _ => none
  | .bstr x => match newsOf 1 ρ (x.ev T) with
    | some (c, _, ys) => match bytesOf ys with
      | some bs => some (c, .l (.v (.string ⟨bs.toArray⟩)), [])
      | none => none
    | none => none



def St.put (st : St) (d : Option Nat) (v : PV) (Δ : List (Nat × Option AObj)) : St :=
  ⟨match d with | some d => upd st.T d v | none => st.T, updL st.H Δ⟩

end Go.Ab
