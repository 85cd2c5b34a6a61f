/- An abstract view of the model's states: slots and objects of a call, told by plain data. -/
import Derived.WalkKit
set_option linter.unusedSimpArgs false
set_option linter.unusedVariables false
namespace Go.Ab

/-- A leaf: what one cell holds, told apart from addresses. `vs`: a slice that is only read, by its elements' cells (q: it may be handed back). `sl`: a slice of an object of the call's own. `pv`: a pointer to cells that are only read. -/
inductive L where
  | v (x : Value)
  | vs (q : Bool) (xs : List (List L))
  | emp
  | sl (k off len : Nat)
  | ptr (k e o : Nat)
  | pv (q : Bool) (cs : List L)
  | clos (f : Nat) (ks : List Nat)
  | bad
  deriving Inhabited

inductive PV where
  | l (x : L)
  | agg (cs : List L)
  | tup (ps : List PV)
  deriving Inhabited

/-- An object of the call's own (m = 3: it was one). pl: no leaf in it leads to an object of the call's own. m = 0: it shares its block with none; 1: what it held before an append may lie in the same block; 2: such an elder one: read only. -/
structure AObj where
  m : Nat
  pl : Bool
  e : Nat
  es : List (List L)
  deriving Inhabited

structure St where
  T : Nat → PV
  H : Nat → Option AObj

def lit : Value → Bool
  | .bool _ | .int _ _ | .string _ | .nilFunc | .nilIface | .pointer none | .map none => true
  | _ => false

/-- Two lists, member by member. -/
inductive F2 {α β : Type} (R : α → β → Prop) : List α → List β → Prop where
  | nil : F2 R [] []
  | cons {a b as bs} : R a b → F2 R as bs → F2 R (a :: as) (b :: bs)

namespace F2
variable {α β : Type} {R S : α → β → Prop}
theorem mono (h : ∀ a b, R a b → S a b) {as bs} (k : F2 R as bs) : F2 S as bs := by
  induction k with
  | nil => exact .nil
  | cons hab _ ih => exact .cons (h _ _ hab) ih
theorem length {as : List α} {bs : List β} (k : F2 R as bs) : as.length = bs.length := by
  induction k with
  | nil => exact rfl
  | cons _ _ ih => simp [ih]
theorem get {as : List α} {bs : List β} (k : F2 R as bs) {i : Nat} {a : α} (h : as[i]? = some a) : ∃ b, bs[i]? = some b ∧ R a b := by
  induction k generalizing i with
  | nil => simp at h
  | cons hab _ ih =>
    cases i with
    | zero => simp at h; subst h; exact ⟨_, by simp, hab⟩
    | succ i => simpa using ih (by simpa using h)
theorem append {as as' : List α} {bs bs' : List β} (k : F2 R as bs) (k' : F2 R as' bs') : F2 R (as ++ as') (bs ++ bs') := by
  induction k with
  | nil => exact k'
  | cons hab _ ih => exact .cons hab ih
theorem of_get {as : List α} {bs : List β} (hl : as.length = bs.length) (h : ∀ (i : Nat) (a : α) (b : β), as[i]? = some a → bs[i]? = some b → R a b) : F2 R as bs := by
  induction as generalizing bs with
  | nil => cases bs with
    | nil => exact .nil
    | cons => simp at hl
  | cons a as ih => cases bs with
    | nil => simp at hl
    | cons b bs => exact .cons (h 0 a b (by simp) (by simp)) (ih (by simpa using hl) fun i a b ha hb => h (i+1) a b (by simpa using ha) (by simpa using hb))
end F2

/-- A leaf without the call's own objects, at a value. -/
inductive KV (rd : Bool → Addr → Value → Prop) : L → Value → Prop where
  | v {x : Value} : lit x = true → KV rd (.v x) x
  | emp (a : Option Addr) : KV rd .emp (.slice a 0 0)
  | vs {q : Bool} {xs : List (List L)} {ad : Option Addr} {cap : Nat} (a : Addr) (e : Nat) (f : Nat → Nat → Value) (hc : xs.length ≤ cap) (hm : cap ≤ maxLen)
      (had : xs = [] ∨ ad = some a) (he : ∀ x ∈ xs, x.length = e)
      (hr : ∀ j t, j < xs.length → t < e → rd q (a.add (j * e + t)) (f j t))
      (hk : ∀ j t (hj : j < xs.length) (ht : t < xs[j].length), KV rd (xs[j][t]) (f j t)) : KV rd (.vs q xs) (.slice ad xs.length cap)

theorem KV.mono {rd rd' : Bool → Addr → Value → Prop} (h : ∀ q a v, rd q a v → rd' q a v) {x y} (k : KV rd x y) : KV rd' x y := by
  induction k with
  | v hx => exact .v hx
  | emp a => exact .emp a
  | vs a e f hc hm had he hr _ ih => exact .vs a e f hc hm had he (fun j t hj ht => h _ _ _ (hr j t hj ht)) ih

structure Env where
  rd : Bool → Addr → Value → Prop
  σ : Nat → Option Nat
  live : Nat → Prop
  dead : Nat → Prop
  ez : Nat → Nat
  sz : Nat → Nat

def K (E : Env) : L → Value → Prop
  | .v x, y => y = x ∧ lit x = true
  | .vs q xs, y => KV E.rd (.vs q xs) y
  | .emp, y => ∃ a, y = .slice a 0 0
  | .sl k off len, y => (E.dead k ∧ y.oneCell' = true) ∨ (E.live k ∧ ∃ ad cap, y = .slice ad len cap ∧ cap ≤ maxLen ∧
      ((len = 0 ∧ cap = 0) ∨ (∃ b, E.σ k = some b ∧ ad = some ⟨b, off * E.ez k, none⟩ ∧ len ≤ cap ∧ (off + cap) * E.ez k ≤ E.sz k)))
  | .ptr k e o, y => (E.dead k ∧ y.oneCell' = true) ∨ (E.live k ∧ ∃ b, E.σ k = some b ∧ y = .pointer (some ⟨b, e * E.ez k + o, none⟩))
  | .pv q cs, y => ∃ (a : Addr) (f : Nat → Value), y = .pointer (some a) ∧ ∀ t (h : t < cs.length), E.rd q (a.add t) (f t) ∧ KV E.rd cs[t] (f t)
  | .clos f ks, y => ∃ ys : List Value, y = .func (.func f) #[] ⟨ys⟩ ∧ F2 (fun k z => (E.dead k ∧ z.oneCell' = true) ∨ (E.live k ∧ ∃ b, E.σ k = some b ∧ z = .pointer (some ⟨b, 0, none⟩))) ks ys
  | .bad, _ => True

def KP1 (E : Env) : PV → Value → Prop
  | .l x, y => K E x y
  | .agg cs, y => ∃ ys : List Value, y = .agg ⟨ys⟩ ∧ F2 (K E) cs ys
  | .tup _, _ => False

def KP (E : Env) : PV → Value → Prop
  | .tup ps, y => ∃ ys : List Value, y = .tuple ⟨ys⟩ ∧ F2 (KP1 E) ps ys
  | .l x, y => K E x y
  | .agg cs, y => ∃ ys : List Value, y = .agg ⟨ys⟩ ∧ F2 (K E) cs ys

theorem KP_of_KP1 {E : Env} {p y} (h : KP1 E p y) : KP E p y := by
  cases p <;> first | exact h | exact h.elim

/-- E' knows at least what E knows. -/
structure Env.Le (E E' : Env) : Prop where
  rd : ∀ q a v, E.rd q a v → E'.rd q a v
  live : ∀ k, E.live k → E'.dead k ∨ (E'.live k ∧ E'.σ k = E.σ k ∧ E'.ez k = E.ez k ∧ E.sz k ≤ E'.sz k)
  dead : ∀ k, E.dead k → E'.dead k

theorem Env.Le.refl (E : Env) : E.Le E := ⟨fun _ _ _ h => h, fun _ h => .inr ⟨h, rfl, rfl, Nat.le_refl _⟩, fun _ h => h⟩

theorem K.mono {E E' : Env} (h : E.Le E') {x y} (k : K E x y) : K E' x y := by
  cases x with
  | v x => exact k
  | vs q xs => exact KV.mono h.rd k
  | emp => exact k
  | sl k' off len =>
    rcases k with k | ⟨hl, ad, cap, rfl, hc, hh⟩
    · exact .inl ⟨h.dead _ k.1, k.2⟩
    · rcases h.live _ hl with hd | ⟨hl', hs, he, hz⟩
      · exact .inl ⟨hd, rfl⟩
      · refine .inr ⟨hl', ad, cap, rfl, hc, ?_⟩
        rcases hh with hh | ⟨b, hb, rfl, h1, h2⟩
        · exact .inl hh
        · exact .inr ⟨b, by rw [hs, hb], by rw [he], h1, by rw [he]; omega⟩
  | ptr k' e o =>
    rcases k with k | ⟨hl, b, hb, rfl⟩
    · exact .inl ⟨h.dead _ k.1, k.2⟩
    · rcases h.live _ hl with hd | ⟨hl', hs, he, hz⟩
      · exact .inl ⟨hd, rfl⟩
      · exact .inr ⟨hl', b, by rw [hs, hb], by rw [he]⟩
  | pv q cs =>
    obtain ⟨a, f, rfl, hh⟩ := k
    exact ⟨a, f, rfl, fun t ht => ⟨h.rd _ _ _ (hh t ht).1, (hh t ht).2.mono h.rd⟩⟩
  | clos f ks =>
    obtain ⟨ys, rfl, hh⟩ := k
    refine ⟨ys, rfl, hh.mono ?_⟩
    rintro k' z (k | ⟨hl, b, hb, rfl⟩)
    · exact .inl ⟨h.dead _ k.1, k.2⟩
    · rcases h.live _ hl with hd | ⟨hl', hs, he, hz⟩
      · exact .inl ⟨hd, rfl⟩
      · exact .inr ⟨hl', b, by rw [hs, hb], rfl⟩
  | bad => trivial

theorem KP1.mono {E E' : Env} (h : E.Le E') {x y} (k : KP1 E x y) : KP1 E' x y := by
  cases x with
  | l x => exact K.mono h k
  | agg cs => obtain ⟨ys, rfl, hh⟩ := k; exact ⟨ys, rfl, hh.mono fun _ _ => K.mono h⟩
  | tup _ => exact k

theorem KP.mono {E E' : Env} (h : E.Le E') {x y} (k : KP E x y) : KP E' x y := by
  cases x with
  | l x => exact K.mono h k
  | agg cs => obtain ⟨ys, rfl, hh⟩ := k; exact ⟨ys, rfl, hh.mono fun _ _ => K.mono h⟩
  | tup ps => obtain ⟨ys, rfl, hh⟩ := k; exact ⟨ys, rfl, hh.mono fun _ _ => KP1.mono h⟩

/-- No object of the call's own in it. -/
def L.pure : L → Bool
  | .v _ | .vs _ _ | .emp => true
  | _ => false

theorem K_of_KV {E : Env} {x y} (k : KV E.rd x y) : K E x y := by
  cases k with
  | v h => exact ⟨rfl, h⟩
  | emp a => exact ⟨a, rfl⟩
  | vs a e f hc hm had he hr hk => exact .vs a e f hc hm had he hr hk

theorem KV_of_K {E : Env} {x y} (hp : x.pure = true) (k : K E x y) : KV E.rd x y := by
  cases x <;> first | (simp [L.pure] at hp; done) | skip
  · obtain ⟨rfl, h⟩ := k; exact .v h
  · exact k
  · obtain ⟨a, rfl⟩ := k; exact .emp a

/-- The size in cells of a block. -/
def cellsAt (w : World) (b : Nat) : Nat := match w.heap[b]? with | some (.cells c _ _) => c.size | _ => 0

def ObjOk (E : Env) (w : World) (b : Option Nat) (o : AObj) : Prop :=
  (b = none ∧ o.es = []) ∨
  ∃ b' c ty, b = some b' ∧ w.heap[b']? = some (.cells c ty (0, 0)) ∧ (∀ x ∈ o.es, x.length = o.e) ∧ o.es.length * o.e ≤ c.size ∧ (o.pl = true → ∀ r ∈ o.es, ∀ x ∈ r, x.pure = true) ∧
    ∀ j t x r, o.es[j]? = some r → r[t]? = some x → ∃ y, c[j * o.e + t]? = some y ∧ K E x y

def env (H : Nat → Option AObj) (σ : Nat → Option Nat) (rd : Bool → Nat → Prop) (w : World) : Env where
  rd q a v := w.cell? a = some v ∧ rd q a.block ∧ ∀ k o, H k = some o → o.m ≠ 3 → σ k ≠ some a.block
  σ := σ
  live k := ∃ o, H k = some o ∧ o.m ≠ 3
  dead k := ∃ o, H k = some o ∧ o.m = 3
  ez k := ((H k).map (·.e)).getD 0
  sz k := match σ k with | some b => cellsAt w b | none => 0

/-- How many cells of its block an object is about. -/
def AObj.sz (o : AObj) : Nat := o.es.length * o.e

/-- The objects of a call lie apart, as their modes say. -/
def Inj (H : Nat → Option AObj) (σ : Nat → Option Nat) : Prop :=
  ∀ k k' o o' b, H k = some o → H k' = some o' → σ k = some b → σ k' = some b →
    k = k' ∨ o.m = 3 ∨ o'.m = 3 ∨ (o.m = 2 ∧ o'.m = 2) ∨ (o.m = 2 ∧ o'.m = 1 ∧ o.sz ≤ o'.sz) ∨ (o.m = 1 ∧ o'.m = 2 ∧ o'.sz ≤ o.sz)

def Objs (H : Nat → Option AObj) (σ : Nat → Option Nat) (rd : Bool → Nat → Prop) (w : World) : Prop :=
  ∀ k o, H k = some o → o.m ≠ 3 → ObjOk (env H σ rd w) w (σ k) o

/-- The blocks that may be read: what may be handed back lies in new blocks, in A, or in what was handed over. -/
def may (base : Nat) (G A : Nat → Prop) (q : Bool) (b : Nat) : Prop := q = true → base ≤ b ∨ G b ∨ A b

/-- The world at the start, and where what was handed over lies. -/
structure Base extends World where
  s0 : Nat → Option Nat

structure Rel (base : Nat) (G A : Nat → Prop) (w0 : Base) (N : Nat) (st : St) (σ : Nat → Option Nat) (a : Act) (w : World) : Prop where
  inj : Inj st.H σ
  obj : Objs st.H σ (may base G A) w
  own : ∀ k o b, st.H k = some o → o.m ≠ 3 → σ k = some b → base ≤ b ∨ G b
  tmp : ∀ t, KP (env st.H σ (may base G A) w) (st.T t) (a.tmps.getD t undef)
  keep : ∀ b, b < base → ¬ G b → w.heap[b]? = w0.heap[b]?
  size : base ≤ w.heap.size
  os : w.os = w0.os
  tape : w.tape = w0.tape
  output : w.output = w0.output
  defs : a.defers = []
  n : a.tmps.size = N
  grow : ∀ b, cellsAt w0.toWorld b ≤ cellsAt w b
  pin : ∀ i o, i < 1000 → st.H i = some o → o.m ≠ 3 → σ i = w0.s0 i

/-- What a call of function f does: called with these arguments and these objects of the caller's, it returns val, leaves the objects as outs says (none: not the caller's any more) and hands over news. -/
structure CallRes where
  ks : List Nat
  val : PV
  outs : List (Option AObj)
  news : List AObj
  same : List Nat := []

def Callable (P : Program) (f : FuncId) : Prop := ∃ fn, P.funcs[f]? = some fn ∧ (fn.name == "runtime.NumGoroutine") = false ∧ fn.body.isSome = true

def outH (n : Nat) (outs : List (Option AObj)) (news : List AObj) (k : Nat) : Option AObj := if k < n then (outs[k]?).join else news[k - n]?

structure PostOk (w : World) (A : Nat → Prop) (ins : List AObj) (σ : Nat → Option Nat) (val : PV) (outs : List (Option AObj)) (news : List AObj) (v : Value) (σ' : Nat → Option Nat) (w' : World) : Prop where
  same : ∀ i o, i < ins.length → outH ins.length outs news i = some o → σ' i = σ i
  fresh : ∀ k b, ins.length ≤ k → σ' k = some b → w.heap.size ≤ b ∨ ∃ i, i < ins.length ∧ outH ins.length outs news i = none ∧ σ i = some b
  inj : Inj (outH ins.length outs news) σ'
  obj : Objs (outH ins.length outs news) σ' (fun _ b => w.heap.size ≤ b ∨ A b ∨ ∃ i, i < ins.length ∧ σ i = some b) w'
  val : KP (env (outH ins.length outs news) σ' (fun _ b => w.heap.size ≤ b ∨ A b ∨ ∃ i, i < ins.length ∧ σ i = some b) w') val v
  keep : ∀ b, b < w.heap.size → (∀ i, i < ins.length → σ i ≠ some b) → w'.heap[b]? = w.heap[b]?
  size : w.heap.size ≤ w'.heap.size
  os : w'.os = w.os
  tape : w'.tape = w.tape
  output : w'.output = w.output
  grow : ∀ b, cellsAt w b ≤ cellsAt w' b

structure CallOk (P : Program) (f : FuncId) (args : List PV) (ins : List AObj) (val : PV) (outs : List (Option AObj)) (news : List AObj) : Prop where
  able : Callable P f
  run : ∀ (w : World) (A : Nat → Prop) (σ : Nat → Option Nat) (cargs : List Value),
    Inj (fun k => ins[k]?) σ → Objs (fun k => ins[k]?) σ (fun q b => q = true → A b) w → (∀ i b, i < ins.length → σ i = some b → b < w.heap.size) →
    F2 (KP1 (env (fun k => ins[k]?) σ (fun q b => q = true → A b) w)) args cargs →
    Calls P f cargs.toArray w fun e w' => ∃ v σ', e = .returned v ∧ PostOk w A ins σ val outs news v σ' w'

end Go.Ab
