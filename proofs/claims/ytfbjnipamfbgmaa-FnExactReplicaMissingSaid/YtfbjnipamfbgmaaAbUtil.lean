/- Plain words on lists and on the data of the program. -/
import Derived.Test.YtfbjnipamfbgmaaAbMore
set_option linter.unusedSimpArgs false
set_option linter.unusedVariables false
namespace Go.Ab

theorem get_map {α β : Type} {f : α → β} {l : List α} {i : Nat} {x : α} (h : l[i]? = some x) : (l.map f)[i]? = some (f x) := by simp [h]

theorem eq_of_take {α : Type} {l m : List α} (hl : l.length = m.length) {i : Nat} (hi : l.length ≤ i) (h : l.take i = m.take i) : l = m := by
  rw [List.take_of_length_le hi, List.take_of_length_le (hl ▸ hi)] at h; exact h

theorem take_succ_eq {α : Type} {l m : List α} {i : Nat} {x y : α} (hx : l[i]? = some x) (hy : m[i]? = some y) (h : l.take i = m.take i) (e : x = y) : l.take (i + 1) = m.take (i + 1) := by
  rw [List.take_add_one, List.take_add_one, hx, hy, h, e]

theorem take_map {α β : Type} (f : α → β) (s : List α) : (s.map f).take s.length = s.map f := List.take_of_length_le (by simp)

theorem drop_cons {α : Type} {l : List α} {i : Nat} {x : α} (h : l[i]? = some x) : l.drop i = x :: l.drop (i + 1) := by
  obtain ⟨h', rfl⟩ := List.getElem?_eq_some_iff.mp h; exact List.drop_eq_getElem_cons h'

theorem take_snoc {α : Type} {l : List α} {i : Nat} {x : α} (h : l[i]? = some x) : l.take (i + 1) = l.take i ++ [x] := by
  rw [List.take_add_one, h]; rfl

theorem get_some {α : Type} {l : List α} {i : Nat} (h : i < l.length) : ∃ x, l[i]? = some x := ⟨_, List.getElem?_eq_getElem h⟩

theorem all_false {α : Type} {l : List α} {p : α → Bool} {i : Nat} {x : α} (h : l[i]? = some x) (hp : p x = false) : l.all p = false := by
  rw [Bool.eq_false_iff]
  intro h2
  have := List.all_eq_true.mp h2 x (List.mem_of_getElem? h)
  rw [hp] at this; cases this

theorem all_take {α : Type} {l : List α} {p : α → Bool} {i : Nat} {x : α} (h : l[i]? = some x) (hl : (l.take i).all p = true) (hp : p x = true) : (l.take (i + 1)).all p = true := by
  rw [take_snoc h]
  simp only [List.all_append, hl, List.all_cons, hp, List.all_nil, Bool.and_self]

theorem range_all_false {n i : Nat} {p : Nat → Bool} (h : i < n) (hp : p i = false) : (List.range n).all p = false := by
  rw [Bool.eq_false_iff]
  intro h2
  rw [List.all_eq_true.mp h2 i (by simpa using h)] at hp; cases hp

theorem range_all_succ {i : Nat} {p : Nat → Bool} (h : (List.range i).all p = true) (hp : p i = true) : (List.range (i + 1)).all p = true := by
  rw [List.range_succ]
  simp only [List.all_append, h, List.all_cons, hp, List.all_nil, Bool.and_self]

/-- What a list is filled with, member by member. -/
def filled {α : Type} (z : List L) (cs : α → List L) (s : List α) (i : Nat) : List (List L) := (s.take i).map cs ++ List.replicate (s.length - i) z

theorem filled_get {α : Type} {z : List L} {cs : α → List L} {s : List α} {i : Nat} (h : i < s.length) : (filled z cs s i)[i]? = some z := by
  unfold filled
  have e : i - ((s.take i).map cs).length = 0 := by simp; omega
  rw [List.getElem?_append_right (by simp; omega), e, List.getElem?_replicate, if_pos (by omega)]

theorem filled_set {α : Type} {z : List L} {cs : α → List L} {s : List α} {i : Nat} {x : α} (h : s[i]? = some x) : (filled z cs s i).set i (cs x) = filled z cs s (i + 1) := by
  obtain ⟨hi, rfl⟩ := List.getElem?_eq_some_iff.mp h
  unfold filled
  rw [List.set_append_right _ _ (by simp; omega), List.take_add_one, List.getElem?_eq_getElem hi]
  have e : i - ((s.take i).map cs).length = 0 := by simp; omega
  rw [List.map_append, e, show s.length - i = (s.length - (i + 1)) + 1 by omega, List.replicate_succ, List.set_cons_zero, List.append_assoc]
  rfl

theorem filled_zero {α : Type} (z : List L) (cs : α → List L) (s : List α) : filled z cs s 0 = List.replicate s.length z := by simp [filled]
theorem filled_all {α : Type} {z : List L} {cs : α → List L} {s : List α} {i : Nat} (h : s.length ≤ i) : filled z cs s i = s.map cs := by
  simp [filled, List.take_of_length_le h, Nat.sub_eq_zero_of_le h]

theorem leafB {b c : Bool} : PV.l (.v (.bool b)) = PV.l (.v (.bool c)) ↔ (b = true ↔ c = true) := by
  constructor
  · intro h; injection h with h; injection h with h; injection h with h; rw [h]
  · exact bEq

/-- A list is well, member after member. -/
def okAt {α : Type} (v : α → Bool) (less : α → α → Bool) (l : List α) (i : Nat) : Bool := match l[i]? with
  | some o => v o && (match i with | 0 => true | j + 1 => match l[j]? with | some p => less p o | none => true)
  | none => true
def okAll {α : Type} (v : α → Bool) (less : α → α → Bool) (l : List α) : Bool := (List.range l.length).all (okAt v less l)

theorem okAll_false {α : Type} {v : α → Bool} {less : α → α → Bool} {l : List α} {i : Nat} (h : i < l.length) (hp : okAt v less l i = false) : okAll v less l = false := range_all_false h hp

/- The data. -/
@[ext] structure Stamp where
  q : Int
  a : Int
  deriving DecidableEq, Inhabited

structure DOp where
  id : Stamp
  kind : Int
  tg : Stamp
  af : Stamp
  np : Stamp
  val : Int
  en : Bool
  text : ByteArray
  deriving DecidableEq, Inhabited

structure Msg where
  op : DOp
  prev : Int
  deriving DecidableEq, Inhabited

structure Rep where
  au : Int
  log : List DOp
  pend : List Msg
  deriving DecidableEq, Inhabited

def Stamp.cs (s : Stamp) : List L := [.v (.int .i64 s.q), .v (.int .i64 s.a)]
def DOp.cs (o : DOp) : List L := [.v (.int .i64 o.id.q), .v (.int .i64 o.id.a), .v (.int .i64 o.kind), .v (.int .i64 o.tg.q), .v (.int .i64 o.tg.a), .v (.int .i64 o.af.q), .v (.int .i64 o.af.a), .v (.int .i64 o.np.q), .v (.int .i64 o.np.a), .v (.int .i64 o.val), .v (.bool o.en), .v (.string o.text)]
def Msg.cs (m : Msg) : List L := [.v (.int .i64 m.op.id.q), .v (.int .i64 m.op.id.a), .v (.int .i64 m.op.kind), .v (.int .i64 m.op.tg.q), .v (.int .i64 m.op.tg.a), .v (.int .i64 m.op.af.q), .v (.int .i64 m.op.af.a), .v (.int .i64 m.op.np.q), .v (.int .i64 m.op.np.a), .v (.int .i64 m.op.val), .v (.bool m.op.en), .v (.string m.op.text), .v (.int .i64 m.prev)]
def DOp.zero : List L := [.v (.int .i64 0), .v (.int .i64 0), .v (.int .i64 0), .v (.int .i64 0), .v (.int .i64 0), .v (.int .i64 0), .v (.int .i64 0), .v (.int .i64 0), .v (.int .i64 0), .v (.int .i64 0), .v (.bool false), .v (.string ⟨#[]⟩)]
def Msg.zero : List L := [.v (.int .i64 0), .v (.int .i64 0), .v (.int .i64 0), .v (.int .i64 0), .v (.int .i64 0), .v (.int .i64 0), .v (.int .i64 0), .v (.int .i64 0), .v (.int .i64 0), .v (.int .i64 0), .v (.bool false), .v (.string ⟨#[]⟩), .v (.int .i64 0)]
def DOp.obj (es : List (List L)) : AObj := ⟨0, true, 12, es⟩
def Msg.obj (es : List (List L)) : AObj := ⟨0, true, 13, es⟩

theorem Stamp.hb (s : Stamp) : ∀ x ∈ s.cs, HB x := by simp [Stamp.cs, HB.v]
theorem DOp.hb (o : DOp) : ∀ x ∈ o.cs, HB x := by simp [DOp.cs, HB.v]
theorem Msg.hb (o : Msg) : ∀ x ∈ o.cs, HB x := by simp [Msg.cs, HB.v]
theorem rows_hb {α : Type} {cs : α → List L} (h : ∀ o, ∀ x ∈ cs o, HB x) (s : List α) : ∀ r ∈ s.map cs, ∀ x ∈ r, HB x := by
  rintro r hr x hx; obtain ⟨o, _, rfl⟩ := List.mem_map.mp hr; exact h o x hx

def inRange (n lo hi : Int) : Bool := decide (lo ≤ n) && decide (n ≤ hi)
def isZero (s : Stamp) : Bool := decide (s.q = 0) && decide (s.a = 0)
def validStamp (s : Stamp) : Bool := inRange s.q 1 99 && inRange s.a 0 2
def stampLess (s t : Stamp) : Bool := decide (s.q < t.q) || (decide (s.q = t.q) && decide (s.a < t.a))
def lower (b : UInt8) : Bool := decide (97 ≤ (b.toNat : Int)) && decide ((b.toNat : Int) ≤ 122)
def validWord (s : ByteArray) : Bool := s.data.toList.all lower && inRange s.size 1 8
def noText (s : ByteArray) : Bool := decide (s = ⟨#[]⟩)

theorem Stamp.eta (s : Stamp) (a b : Int) : (s = ⟨a, b⟩) = (s.q = a ∧ s.a = b) := by
  obtain ⟨q, a'⟩ := s
  simp

theorem isZero_eq (s : Stamp) : isZero s = decide (s = ⟨0, 0⟩) := by
  obtain ⟨q, a⟩ := s
  simp [isZero]

/-- What is weighed. -/
def szStep (n : Nat) (left : Int) : Int := if left - n < 0 then -1 else left - n
def szAll {α : Type} (f : α → Int → Int) (l : List α) (left : Int) : Int := if left - l.length < 0 then -1 else l.foldl (fun z o => if z < 0 then -1 else f o z) (left - l.length)

theorem szFold_neg {α : Type} (f : α → Int → Int) (l : List α) : l.foldl (fun z o => if z < 0 then -1 else f o z) (-1) = -1 := by
  induction l with
  | nil => rfl
  | cons o ops ih => simpa using ih

theorem szStep_le {n : Nat} {l : Int} (h : l ≤ 1048576) : szStep n l ≤ 1048576 := by unfold szStep; split <;> omega
theorem szStep_ge {n : Nat} {l : Int} (h : szStep n l < 0) : szStep n l = -1 := by unfold szStep at h ⊢; split <;> simp_all

def validRef (o : DOp) (t : Stamp) (none : Bool) : Bool := if t = ⟨0, 0⟩ then none else validStamp t && stampLess t o.id

def validOp (o : DOp) : Bool := validStamp o.id && (
  if o.kind = 1 then validRef o o.tg true && validRef o o.af true && isZero o.np && inRange o.val 32 126 && !o.en && noText o.text
  else if o.kind = 2 then validRef o o.tg false && isZero o.af && isZero o.np && decide (o.val = 0) && !o.en && noText o.text
  else if o.kind = 3 then validRef o o.tg false && validRef o o.af false && isZero o.np && inRange o.val 1 3 && noText o.text
  else if o.kind = 4 then validRef o o.tg true && validRef o o.af true && isZero o.np && inRange o.val 1 4 && !o.en && noText o.text
  else if o.kind = 5 then validRef o o.tg false && validRef o o.af true && validRef o o.np true && decide (o.val = 0) && !o.en && noText o.text
  else if o.kind = 6 then validRef o o.tg false && isZero o.af && isZero o.np && inRange o.val 1 4 && !o.en && noText o.text
  else if o.kind = 7 then validRef o o.tg false && isZero o.af && isZero o.np && decide (o.val = 0) && !o.en && noText o.text
  else if o.kind = 8 then validRef o o.tg false && validRef o o.af false && isZero o.np && decide (o.val = 0) && !o.en && validWord o.text
  else if o.kind = 9 then validRef o o.tg false && isZero o.af && isZero o.np && decide (o.val = 0) && !o.en && validWord o.text
  else if o.kind = 10 then validRef o o.tg false && isZero o.af && isZero o.np && decide (o.val = 0) && noText o.text
  else false)

theorem isZero_mk (a b : Int) : isZero ⟨a, b⟩ = (decide (a = 0) && decide (b = 0)) := rfl

def opLess (p o : DOp) : Bool := stampLess p.id o.id
def validLog (l : List DOp) : Bool := okAll validOp opLess l && decide (l.length ≤ 40)
end Go.Ab
