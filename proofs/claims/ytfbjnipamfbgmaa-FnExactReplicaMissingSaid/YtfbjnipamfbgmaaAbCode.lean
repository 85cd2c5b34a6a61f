/- Code, told as abstract operations; what holds of it; a function's contract. -/
import Derived.Test.YtfbjnipamfbgmaaAbWeak
set_option linter.unusedSimpArgs false
set_option linter.unusedVariables false
namespace Go.Ab

inductive ACode where
  | skip
  | reg (l : List AOper) (un : List (List Nat))
  | seq (a b : ACode)
  | cond (c : Opd) (a b : ACode)
  | block (id : Nat) (a : ACode)
  | loop (a : ACode)
  | exit (id : Nat)
  | ret
  deriving Inhabited

def comp (P : Program) (N : Nat) : Code → Option ACode
  | .skip => some .skip
  | .region _ ops d => match compReg P N ops d with
    | some (l, un) => some (.reg l un)
    | none => none
  | .seq a b => match comp P N a, comp P N b with
    | some x, some y => some (.seq x y)
    | _, _ => none
  | .cond c a b => match opd c, comp P N a, comp P N b with
    | some c, some x, some y => some (.cond c x y)
    | _, _, _ => none
  | .block id a => match comp P N a with
    | some x => some (.block id x)
    | none => none
  | .loop a => match comp P N a with
    | some x => some (.loop x)
    | none => none
  | .exit id => some (.exit id)
  | .ret => some .ret
  | _ => none

inductive AX where
  | n
  | x (id : Nat)
  | r

def AX.to : AX → Exit
  | .n => .normal
  | .x id => .exit id
  | .r => .ret

/-- Wherever the state is told by st, the code ends, and how it ends is told by Q. -/
def AW (P : Program) (N : Nat) (ac : ACode) (st : St) (Q : AX → St → Prop) : Prop :=
  P.follows .mixedOrders = true → ∀ (c : Code) (base : Nat) (G A : Nat → Prop) (w0 : Base) (σ : Nat → Option Nat) (a : Act) (w : World), comp P N c = some ac → Rel base G A w0 N st σ a w →
    c.wp P (fun e a' w' => ∃ x st' σ', e = AX.to x ∧ Q x st' ∧ Rel base G A w0 N st' σ' a' w') a w

section
variable {P : Program} {N : Nat} {st : St} {Q : AX → St → Prop}

theorem AW.mono {ac : ACode} {Q' : AX → St → Prop} (h : AW P N ac st Q) (hq : ∀ x s, Q x s → Q' x s) : AW P N ac st Q' := by
  intro hm c base G A w0 σ a w hc R
  refine wp_mono (h hm c base G A w0 σ a w hc R) ?_
  rintro e a' w' ⟨x, st', σ', rfl, hQ, R'⟩
  exact ⟨x, st', σ', rfl, hq x st' hQ, R'⟩

/-- It's enough that it holds of less. -/
theorem AW.weak {ac : ACode} {g : Nat → Nat} {fz : Nat → Prop} {st' : St} (W : Wk g fz st st') (h : AW P N ac st' Q) : AW P N ac st Q :=
  fun hm c base G A w0 _ a w hc R => h hm c base G A w0 _ a w hc (R.weak W)

/-- J, of it or of less. -/
def Lo (J : St → Prop) (s : St) : Prop := J s ∨ ∃ g fz s', Wk g fz s s' ∧ J s'

theorem AW.lower {ac : ACode} (h : AW P N ac st fun x => Lo (Q x)) : AW P N ac st Q := by
  intro hm c base G A w0 σ a w hc R
  refine wp_mono (h hm c base G A w0 σ a w hc R) ?_
  rintro e a' w' ⟨x, st', σ', rfl, hQ | ⟨g, fz, s', W, hQ⟩, R'⟩
  · exact ⟨x, st', σ', rfl, hQ, R'⟩
  · exact ⟨x, s', _, rfl, hQ, R'.weak W⟩

theorem AW.skip (h : Q .n st) : AW P N .skip st Q := by
  intro hm c base G A w0 σ a w hc R
  cases c <;> simp only [comp, reduceCtorEq] at hc
  case skip => exact wp_skip ⟨.n, st, σ, rfl, h, R⟩
  all_goals (repeat' split at hc) <;> simp_all

theorem AW.exit {id : Nat} (h : Q (.x id) st) : AW P N (.exit id) st Q := by
  intro hm c base G A w0 σ a w hc R
  cases c <;> simp only [comp, reduceCtorEq] at hc
  case exit id' => simp only [Option.some.injEq, ACode.exit.injEq] at hc; subst hc; exact wp_exit ⟨.x id', st, σ, rfl, h, R⟩
  all_goals (repeat' split at hc) <;> simp_all

theorem AW.ret (h : Q .r st) : AW P N .ret st Q := by
  intro hm c base G A w0 σ a w hc R
  cases c <;> simp only [comp, reduceCtorEq] at hc
  case ret => exact wp_ret ⟨.r, st, σ, rfl, h, R⟩
  all_goals (repeat' split at hc) <;> simp_all

theorem AW.reg {l : List AOper} {un : List (List Nat)} (h : RW P un l [] st (Q .n)) : AW P N (.reg l un) st Q := by
  intro hm c base G A w0 σ a w hc R
  cases c <;> simp only [comp, reduceCtorEq] at hc
  case region id ops d =>
    split at hc
    · rename_i l' un' hr
      simp only [Option.some.injEq, ACode.reg.injEq] at hc
      obtain ⟨rfl, rfl⟩ := hc
      exact region_sound hm hr R h fun s σ' a' w' hK R' => ⟨.n, s, σ', rfl, hK, R'⟩
    · cases hc
  all_goals (repeat' split at hc) <;> simp_all

def thenX (J : St → Prop) (Q : AX → St → Prop) : AX → St → Prop
  | .n, s => J s
  | e, s => Q e s

theorem AW.seq {x y : ACode} (h : AW P N x st (thenX (fun s => AW P N y s Q) Q)) : AW P N (.seq x y) st Q := by
  intro hm c base G A w0 σ a w hc R
  cases c <;> simp only [comp, reduceCtorEq] at hc
  case seq c1 c2 =>
    split at hc
    · rename_i x' y' h1 h2
      simp only [Option.some.injEq, ACode.seq.injEq] at hc
      obtain ⟨rfl, rfl⟩ := hc
      refine wp_seq (wp_mono (h hm c1 base G A w0 σ a w h1 R) ?_)
      rintro e a' w' ⟨ex, st', σ', rfl, hQ, R'⟩
      cases ex with
      | n => exact hQ hm c2 base G A w0 σ' a' w' h2 R'
      | x id => exact ⟨.x id, st', σ', rfl, hQ, R'⟩
      | r => exact ⟨.r, st', σ', rfl, hQ, R'⟩
    · cases hc
  all_goals (repeat' split at hc) <;> simp_all

/-- With a midway word. -/
theorem AW.seq' (J : St → Prop) {x y : ACode} (h : AW P N x st (thenX (Lo J) Q)) (h2 : ∀ s, J s → AW P N y s Q) : AW P N (.seq x y) st Q := by
  refine AW.seq (h.mono ?_)
  intro e s he
  cases e with
  | n =>
    rcases he with he | ⟨g, fz, s', W, he⟩
    · exact h2 s he
    · exact AW.weak W (h2 s' he)
  | x id => exact he
  | r => exact he

theorem AW.cond {c : Opd} {x y : ACode} {t : Bool} (hc : c.ev st.T = .l (.v (.bool t))) (ht : t = true → AW P N x st Q) (hf : t = false → AW P N y st Q) : AW P N (.cond c x y) st Q := by
  intro hm co base G A w0 σ a w hco R
  cases co <;> simp only [comp, reduceCtorEq] at hco
  case cond cc c1 c2 =>
    split at hco
    · rename_i c' x' y' h0 h1 h2
      simp only [Option.some.injEq, ACode.cond.injEq] at hco
      obtain ⟨rfl, rfl, rfl⟩ := hco
      have hv := opd_ok R.tmp h0
      rw [hc] at hv
      exact wp_cond_split hv.1 (fun e => ht e hm c1 base G A w0 σ a w h1 R) (fun e => hf e hm c2 base G A w0 σ a w h2 R)
    · cases hco
  all_goals (repeat' split at hco) <;> simp_all

def inX (id : Nat) (Q : AX → St → Prop) : AX → St → Prop
  | .x id', s => if id' = id then Q .n s else Q (.x id') s
  | e, s => Q e s

theorem AW.block {id : Nat} {x : ACode} (h : AW P N x st (inX id Q)) : AW P N (.block id x) st Q := by
  intro hm c base G A w0 σ a w hc R
  cases c <;> simp only [comp, reduceCtorEq] at hc
  case block id' c1 =>
    split at hc
    · rename_i x' h1
      simp only [Option.some.injEq, ACode.block.injEq] at hc
      obtain ⟨rfl, rfl⟩ := hc
      refine wp_block (wp_mono (h hm c1 base G A w0 σ a w h1 R) ?_)
      rintro e a' w' ⟨ex, st', σ', rfl, hQ, R'⟩
      cases ex with
      | n => exact ⟨.n, st', σ', rfl, hQ, R'⟩
      | r => exact ⟨.r, st', σ', rfl, hQ, R'⟩
      | x id =>
        simp only [inX] at hQ
        simp only [AX.to, Exit.inBlock]
        split
        · rename_i e; rw [if_pos e] at hQ; exact ⟨.n, st', σ', rfl, hQ, R'⟩
        · rename_i e; rw [if_neg e] at hQ; exact ⟨.x id, st', σ', rfl, hQ, R'⟩
    · cases hc
  all_goals (repeat' split at hc) <;> simp_all

theorem exists_min {p : Nat → Prop} (h : ∃ n, p n) : ∃ n, p n ∧ ∀ m, p m → n ≤ m := by
  obtain ⟨n, hn⟩ := h
  induction n using Nat.strongRecOn with
  | _ n ih =>
    by_cases hm : ∃ m, m < n ∧ p m
    · obtain ⟨m, h1, h2⟩ := hm; exact ih m h1 h2
    · exact ⟨n, hn, fun m h2 => Nat.le_of_not_lt fun h1 => hm ⟨m, h1, h2⟩⟩

open Classical in
noncomputable def least (p : Nat → Prop) : Nat := if h : ∃ n, p n then Classical.choose (exists_min h) else 0

theorem least_spec {p : Nat → Prop} (h : ∃ n, p n) : p (least p) ∧ ∀ m, p m → least p ≤ m := by
  unfold least; rw [dif_pos h]; exact Classical.choose_spec (exists_min h)

theorem wp_loopN {P : Program} {Q : Exit → Act → World → Prop} {a : Act} {w : World} {c : Code} (I : Nat → Act → World → Prop) {n : Nat} (h0 : I n a w)
    (round : ∀ n a w, I n a w → c.wp P (Exit.then (fun a' w' => ∃ m, m < n ∧ I m a' w') Q) a w) : (Code.loop c).wp P Q a w := by
  refine wp_loop (fun a w => ∃ n, I n a w) (fun a w => least fun n => I n a w) ⟨n, h0⟩ ?_
  intro a w hex
  refine wp_mono (round _ a w (least_spec hex).1) ?_
  intro e a' w' he
  cases e <;> try exact he
  obtain ⟨m, hm, hI⟩ := he
  exact ⟨⟨m, hI⟩, Nat.lt_of_le_of_lt ((least_spec ⟨m, hI⟩).2 m hI) hm⟩

/-- A loop: what holds before each round, and what gets less. -/
theorem AW.loop (I : Nat → St → Prop) {n : Nat} {x : ACode} (h0 : Lo (I n) st) (h : ∀ n s, I n s → AW P N x s (thenX (fun s' => ∃ m, m < n ∧ Lo (I m) s') Q)) : AW P N (.loop x) st Q := by
  intro hm c base G A w0 σ a w hc R
  cases c <;> simp only [comp, reduceCtorEq] at hc
  case loop c1 =>
    split at hc
    · rename_i x' h1
      simp only [Option.some.injEq, ACode.loop.injEq] at hc
      subst hc
      have start : ∀ {n : Nat} {st : St} {σ : Nat → Option Nat} {a : Act} {w : World}, Lo (I n) st → Rel base G A w0 N st σ a w → ∃ s σ', I n s ∧ Rel base G A w0 N s σ' a w := by
        rintro n st σ a w (h | ⟨g, fz, s', W, h⟩) R
        · exact ⟨st, σ, h, R⟩
        · exact ⟨s', _, h, R.weak W⟩
      refine wp_loopN (fun n a w => ∃ s σ, I n s ∧ Rel base G A w0 N s σ a w) (start h0 R) ?_
      rintro n a w ⟨s, σ, hI, R⟩
      refine wp_mono (h n s hI hm c1 base G A w0 σ a w h1 R) ?_
      rintro e a' w' ⟨ex, st', σ', rfl, hQ, R'⟩
      cases ex with
      | n =>
        obtain ⟨m, hmn, hL⟩ := hQ
        exact ⟨m, hmn, start hL R'⟩
      | x id => exact ⟨.x id, st', σ', rfl, hQ, R'⟩
      | r => exact ⟨.r, st', σ', rfl, hQ, R'⟩
    · cases hc
  all_goals (repeat' split at hc) <;> simp_all
end

/-- A state, slot by slot and object by object. -/
def lookup {α : Type} (d : α) : List (Nat × α) → Nat → α
  | [], _ => d
  | (k, v) :: l, j => if j = k then v else lookup d l j

def argT (args : List PV) (t : Nat) : PV := (args[t]?).getD (.tup [])

/-- A result: a slot, or the cells that a slot points at. -/
inductive RV where
  | t (n : Nat)
  | c (a n : Nat) (g : Bool)

def rvOf (P : Program) : ResultVar → Option RV
  | .tmp t => some (.t t)
  | .cell a t => match sizeP P t, aggP P t with
    | some n, some g => if g || n == 1 then some (.c a n g) else none
    | _, _ => none

def cellR (n : Nat) (g : Bool) (o : Nat) : Option (List L) → Option PV
  | some cs => if o + n ≤ cs.length then one g ((cs.drop o).take n) else none
  | none => none

def cellO (n : Nat) (g : Bool) (e o : Nat) : Option AObj → Option PV
  | some ob => cellR n g o ob.es[e]?
  | none => none

def cellV (n : Nat) (g : Bool) (ρ : Nat → Option AObj) : PV → Option PV
  | .l (.ptr k e o) => cellO n g e o (ρ k)
  | _ => none

def RV.val (s : St) : RV → Option PV
  | .t n => some (s.T n)
  | .c a n g => cellV n g (vis s.H) (s.T a)

def rets (s : St) : List RV → List PV → Prop
  | [], [] => True
  | r :: rs, p :: ps => RV.val s r = some p ∧ rets s rs ps
  | _, _ => False

def retV : List PV → PV
  | [p] => p
  | ps => .tup ps

def nth (ps : List PV) (i : Nat) : PV := (ps[i]?).getD (.l .bad)

def notTup : PV → Bool
  | .tup _ => false
  | _ => true

/-- What may be handed back. -/
inductive HB : L → Prop where
  | v (x : Value) : HB (.v x)
  | emp : HB .emp
  | bad : HB .bad
  | sl (k off len : Nat) : HB (.sl k off len)
  | ptr (k e o : Nat) : HB (.ptr k e o)
  | clos (f : Nat) (ks : List Nat) : HB (.clos f ks)
  | vs {xs : List (List L)} (h : ∀ r ∈ xs, ∀ x ∈ r, HB x) : HB (.vs true xs)
  | pv {cs : List L} (h : ∀ x ∈ cs, HB x) : HB (.pv true cs)

def HBP : PV → Prop
  | .l x => HB x
  | .agg cs => ∀ x ∈ cs, HB x
  | .tup ps => ∀ p ∈ ps, match p with
    | .l x => HB x
    | .agg cs => ∀ x ∈ cs, HB x
    | .tup _ => False

/-- What a function hands back: its results, and the objects that were handed over or are new. -/
def FinOk (s : St) (rs : List RV) (n : Nat) (val : PV) (outs : List (Option AObj)) (news : List AObj) : Prop :=
  ∃ vals vals' g fz, rets s rs vals ∧ vals'.length = vals.length ∧ Wk0 g fz ⟨nth vals, s.H⟩ ⟨nth vals', outH n outs news⟩ ∧ (∀ i, i < n → (outH n outs news i).isSome = true → g i = i) ∧ retV vals' = val ∧
    vals'.all notTup = true ∧ HBP val ∧ ∀ k o, outH n outs news k = some o → ∀ r ∈ o.es, ∀ x ∈ r, HB x

theorem KV.hb {rd rd' : Bool → Addr → Value → Prop} (h : ∀ a v, rd true a v → rd' true a v) {x y} (k : KV rd x y) (hb : HB x) : KV rd' x y := by
  induction k with
  | v hx => exact .v hx
  | emp a => exact .emp a
  | vs a e f hc hm had he hr _ ih =>
    cases hb with
    | vs hb => exact .vs a e f hc hm had he (fun j t hj ht => h _ _ (hr j t hj ht)) fun j t hj ht => ih j t hj ht (hb _ (List.getElem_mem _) _ (List.getElem_mem _))

theorem K.hb {E : Env} {rd' : Bool → Addr → Value → Prop} (h : ∀ a v, E.rd true a v → rd' true a v) {x y} (k : K E x y) (hb : HB x) : K { E with rd := rd' } x y := by
  cases x with
  | v x => exact k
  | vs q xs => exact KV.hb h k hb
  | emp => exact k
  | sl k' off len => exact k
  | ptr k' e o => exact k
  | pv q cs =>
    cases hb with
    | pv hb =>
      obtain ⟨a, f, rfl, hh⟩ := k
      exact ⟨a, f, rfl, fun t ht => ⟨h _ _ (hh t ht).1, (hh t ht).2.hb h (hb _ (List.getElem_mem _))⟩⟩
  | clos f ks => exact k
  | bad => trivial

theorem F2_hb {E : Env} {rd' : Bool → Addr → Value → Prop} (h : ∀ a v, E.rd true a v → rd' true a v) {xs : List L} {ys : List Value} (k : F2 (K E) xs ys) (hb : ∀ x ∈ xs, HB x) : F2 (K { E with rd := rd' }) xs ys := by
  induction k with
  | nil => exact .nil
  | cons hab _ ih => exact .cons (K.hb h hab (hb _ (by simp))) (ih fun x hx => hb x (by simp [hx]))

theorem KP.hb {E : Env} {rd' : Bool → Addr → Value → Prop} (h : ∀ a v, E.rd true a v → rd' true a v) {p y} (k : KP E p y) (hb : HBP p) : KP { E with rd := rd' } p y := by
  cases p with
  | l x => exact K.hb h k hb
  | agg cs => obtain ⟨ys, rfl, hh⟩ := k; exact ⟨ys, rfl, F2_hb h hh hb⟩
  | tup ps =>
    obtain ⟨ys, rfl, hh⟩ := k
    refine ⟨ys, rfl, ?_⟩
    simp only [HBP] at hb
    induction hh with
    | nil => exact .nil
    | cons hab _ ih =>
      rename_i p y ps ys _
      refine .cons ?_ (ih fun p hp => hb p (by simp [hp]))
      have hp := hb p (by simp)
      cases p with
      | l x => exact K.hb h hab hp
      | agg cs => obtain ⟨zs, rfl, hh⟩ := hab; exact ⟨zs, rfl, F2_hb h hh hp⟩
      | tup _ => exact hp.elim

/-- No word on objects that there are none. -/
theorem Rel.trim {base : Nat} {G A : Nat → Prop} {w0 : Base} {N : Nat} {st : St} {σ : Nat → Option Nat} {a : Act} {w : World} (R : Rel base G A w0 N st σ a w) :
    Rel base G A w0 N st (fun k => if (st.H k).isSome then σ k else none) a w := by
  have hk : ∀ k o, st.H k = some o → (if (st.H k).isSome then σ k else none) = σ k := fun k o h => by rw [h]; rfl
  have hle : (env st.H σ (may base G A) w).Le (env st.H (fun k => if (st.H k).isSome then σ k else none) (may base G A) w) := by
    constructor
    · rintro q ad v ⟨h1, h2, h3⟩
      refine ⟨h1, h2, fun k o h hm => ?_⟩
      simp only [hk k o h]
      exact h3 k o h hm
    · rintro k ⟨o, h, hm⟩
      refine .inr ⟨⟨o, h, hm⟩, hk k o h, rfl, ?_⟩
      simp only [env, hk k o h]
      exact Nat.le_refl _
    · exact fun k h => h
  refine R.turn hle ?_ ?_ ?_ (fun _ _ _ => rfl) (Nat.le_refl _) rfl rfl rfl (fun _ => Nat.le_refl _) fun i o _ h hm => ⟨o, h, hm, hk i o h⟩
  · intro k k' o o' b h h' hb hb'
    simp only [hk k o h] at hb
    simp only [hk k' o' h'] at hb'
    exact R.inj k k' o o' b h h' hb hb'
  · intro k o h hm
    exact Objs.mono hle (hk k o h) (fun _ _ _ _ hh => hh) (R.obj k o h hm)
  · intro k o b h hm hb
    simp only [hk k o h] at hb
    exact R.own k o b h hm hb

theorem run_loadVar {P : Program} {w : World} {t : TypeId} {n : Nat} {g : Bool} (hn : sizeP P t = some n) (hg : aggP P t = some g) (h1 : g = true ∨ n = 1) {x : Addr} {ys : List Value} (hl : ys.length = n) (hy : ∀ j u, ys[j]? = some u → w.cell? (x.add j) = some u) :
    ∃ val, (loadVar t x).run P w = .ok val w ∧ (g = true → val = .agg ⟨ys⟩) ∧ (g = false → ys = [val]) := by
  obtain ⟨val, h, h2⟩ := run_load_cells (P := P) hn hg h1 hl hy
  refine ⟨val, ?_, h2⟩
  simp only [Instr.loadAt, Instr.sureAddr, Sem.run_bind, Sem.run_pure, Result.andThen_ok] at h
  exact h

def resOne (tmps : Array Value) : ResultVar → Sem Value
  | .tmp t => pure (tmps.getD t undef)
  | .cell a t => do loadVar t (← asAddr (tmps.getD a undef))

theorem rv_run {P : Program} {base : Nat} {G A : Nat → Prop} {w0 : Base} {N : Nat} {st : St} {σ : Nat → Option Nat} {a : Act} {w : World} (R : Rel base G A w0 N st σ a w) {r : ResultVar} {rv : RV} {p : PV} (hr : rvOf P r = some rv) (hv : RV.val st rv = some p) :
    ∃ v, (resOne a.tmps r).run P w = .ok v w ∧ KP (env st.H σ (may base G A) w) p v := by
  cases r with
  | tmp t =>
    cases hr
    cases hv
    exact ⟨_, rfl, R.tmp t⟩
  | cell ad t =>
    simp only [rvOf] at hr
    split at hr
    · rename_i n g hn hg
      split at hr
      · rename_i hgn
        have hgn' : g = true ∨ n = 1 := by simpa using hgn
        cases hr
        simp only [RV.val] at hv
        unfold cellV at hv
        split at hv
        · rename_i k e o hT
          unfold cellO at hv
          split at hv
          · rename_i ob hk
            unfold cellR at hv
            split at hv
            · rename_i cs he
              split at hv
              · rename_i hle
                have hx := R.tmp ad
                rw [hT] at hx
                have hkk : st.H k = some ob ∧ ob.m ≠ 3 := by
                  unfold vis at hk
                  split at hk
                  · split at hk
                    · cases hk
                    · rename_i h1 h2; cases hk; exact ⟨h1, h2⟩
                  · cases hk
                obtain ⟨b, hb, hval⟩ := K_ptr hx hkk.1 hkk.2
                obtain ⟨ys, hF, hys⟩ := R.reads hkk.1 hkk.2 hb he
                have hF' := ((hF.append_inv o).2.append_inv n).1
                have hl' : ((ys.drop o).take n).length = n := by rw [← hF'.length]; simp; omega
                obtain ⟨val, hrun, hv1, hv2⟩ := run_loadVar (P := P) (w := w) (x := ⟨b, e * ob.e + o, none⟩) hn hg hgn' hl' (by
                  intro j u hu
                  rw [addr_add, Nat.add_assoc]
                  apply hys
                  rw [List.getElem?_take] at hu
                  split at hu
                  · simpa using hu
                  · cases hu)
                refine ⟨val, ?_, one_ok hv hF' hv1 hv2⟩
                simp only [resOne, hval, asAddr, pure_bind]
                exact hrun
              · cases hv
            · cases hv
          · cases hv
        · cases hv
      · cases hr
    · cases hr

theorem rvs_run {P : Program} {base : Nat} {G A : Nat → Prop} {w0 : Base} {N : Nat} {st : St} {σ : Nat → Option Nat} {a : Act} {w : World} (R : Rel base G A w0 N st σ a w) : ∀ (l : List ResultVar) (rs : List RV) (ps : List PV), l.mapM (rvOf P) = some rs → rets st rs ps →
    ∃ vs, (l.mapM (resOne a.tmps)).run P w = .ok vs w ∧ F2 (KP (env st.H σ (may base G A) w)) ps vs
  | [], rs, ps, h, hv => by
    cases h
    cases ps with
    | nil => exact ⟨[], rfl, .nil⟩
    | cons p ps => exact hv.elim
  | r :: l, rs, ps, h, hv => by
    simp only [List.mapM_cons, Option.bind_eq_bind, Option.bind_eq_some_iff, Option.pure_def, Option.some.injEq] at h
    obtain ⟨rv, h1, rs', h2, rfl⟩ := h
    cases ps with
    | nil => exact hv.elim
    | cons p ps =>
      obtain ⟨v, e1, k1⟩ := rv_run R h1 hv.1
      obtain ⟨vs, e2, k2⟩ := rvs_run R l rs' ps h2 hv.2
      refine ⟨v :: vs, ?_, .cons k1 k2⟩
      simp only [List.mapM_cons, Sem.run_bind, e1, Result.andThen_ok, e2, Sem.run_pure]

def oneV : List Value → Value
  | [v] => v
  | vs => .tuple ⟨vs⟩

theorem results_run {P : Program} {fn : Func} {rs : List RV} (hrs : fn.results.toList.mapM (rvOf P) = some rs) {base : Nat} {G A : Nat → Prop} {w0 : Base} {N : Nat} {st : St} {σ : Nat → Option Nat} {a : Act} {w : World} (R : Rel base G A w0 N st σ a w) {ps : List PV} (hv : rets st rs ps) :
    ∃ vs, (results fn a.tmps).run P w = .ok (oneV vs) w ∧ F2 (KP (env st.H σ (may base G A) w)) ps vs := by
  obtain ⟨vs, e, k⟩ := rvs_run R _ rs ps hrs hv
  refine ⟨vs, ?_, k⟩
  have e' : (fn.results.mapM (resOne a.tmps)).run P w = .ok vs.toArray w := by
    rw [← Array.toArray_toList (xs := fn.results), List.mapM_toArray]
    simp only [Sem.run_map, e]
    rfl
  have e2 : results fn a.tmps = (do
    let vs ← fn.results.mapM (resOne a.tmps)
    pure (if h : vs.size = 1 then vs[0] else .tuple vs)) := by
    unfold results resOne
    rfl
  rw [e2, Sem.run_bind, e', Result.andThen_ok]
  match vs with
  | [] => rfl
  | [v] => rfl
  | v :: v2 :: vs => simp [Sem.run_pure, oneV]

theorem nth_F2 {E : Env} {ps : List PV} {vs : List Value} (h : F2 (KP E) ps vs) (t : Nat) : KP E (nth ps t) (vs.toArray.getD t undef) := by
  unfold nth
  rcases Nat.lt_or_ge t ps.length with ht | ht
  · obtain ⟨y, hy, hk⟩ := h.get (List.getElem?_eq_getElem ht)
    rw [List.getElem?_eq_getElem ht, Array.getD_eq_getD_getElem?, List.getElem?_toArray, hy]
    exact hk
  · rw [List.getElem?_eq_none ht]
    trivial

theorem F2_nth {E : Env} {ps : List PV} {vs : List Value} (hl : ps.length = vs.length) (hn : ps.all notTup = true) (h : ∀ t, KP E (nth ps t) (vs.toArray.getD t undef)) : F2 (KP1 E) ps vs := by
  refine .of_get hl ?_
  intro i p v hp hv
  have hi := h i
  unfold nth at hi
  rw [hp, Array.getD_eq_getD_getElem?, List.getElem?_toArray, hv] at hi
  have := List.all_eq_true.mp hn p (List.mem_of_getElem? hp)
  cases p with
  | l x => exact hi
  | agg cs => exact hi
  | tup _ => cases this

theorem retV_KP {E : Env} {ps : List PV} {vs : List Value} (h : F2 (KP1 E) ps vs) : KP E (retV ps) (oneV vs) := by
  match ps, vs, h with
  | [], [], _ => exact ⟨[], rfl, .nil⟩
  | [p], [v], .cons h .nil => exact KP_of_KP1 h
  | p :: p2 :: ps, v :: v2 :: vs, h => exact ⟨_, rfl, h⟩
  | [p], v :: v2 :: vs, .cons _ h => nomatch h
  | p :: p2 :: ps, [v], .cons _ h => nomatch h

theorem callOk_of {P : Program} {f : FuncId} {fn : Func} {c : Code} {ac : ACode} {args : List PV} {ins : List AObj} {val : PV} {outs : List (Option AObj)} {news : List AObj} {rs : List RV}
    (hm : P.follows .mixedOrders = true) (hf : P.funcs[f]? = some fn) (hname : (fn.name == "runtime.NumGoroutine") = false) (hb : fn.body = some c) (hc : comp P fn.ntmps c = some ac)
    (hargs : args.length ≤ fn.ntmps) (hins : ins.length ≤ 1000) (hrs : fn.results.toList.mapM (rvOf P) = some rs)
    (h : AW P fn.ntmps ac ⟨argT args, fun k => ins[k]?⟩ fun e s => (∀ id, e ≠ .x id) ∧ FinOk s rs ins.length val outs news) : CallOk P f args ins val outs news := by
  refine ⟨⟨fn, hf, hname, by rw [hb]; rfl⟩, ?_⟩
  intro w A σ cargs hinj hobj hlt hF
  have hlen : args.length = cargs.length := hF.length
  let w0 : Base := { w with s0 := σ }
  let G : Nat → Prop := fun b => ∃ i, i < ins.length ∧ σ i = some b
  have hrd : ∀ q ad v, (env (fun k => ins[k]?) σ (fun q b => q = true → A b) w).rd q ad v → (env (fun k => ins[k]?) σ (may w.heap.size G A) w).rd q ad v :=
    fun q ad v ⟨h1, h2, h3⟩ => ⟨h1, fun hq => .inr (.inr (h2 hq)), h3⟩
  have hle : (env (fun k => ins[k]?) σ (fun q b => q = true → A b) w).Le (env (fun k => ins[k]?) σ (may w.heap.size G A) w) :=
    ⟨hrd, fun k h => .inr ⟨h, rfl, rfl, Nat.le_refl _⟩, fun k h => h⟩
  have R : Rel w.heap.size G A w0 fn.ntmps ⟨argT args, fun k => ins[k]?⟩ σ { tmps := cargs.toArray ++ Array.replicate (fn.ntmps - cargs.toArray.size) undef, defers := [] } w := by
    refine ⟨hinj, ?_, ?_, ?_, fun _ _ _ => rfl, Nat.le_refl _, rfl, rfl, rfl, rfl, ?_, fun _ => Nat.le_refl _, ?_⟩
    · intro k o hk hmo
      exact Objs.mono hle rfl (fun _ _ _ _ hh => hh) (hobj k o hk hmo)
    · intro k o b hk _ hb
      exact .inr ⟨k, (List.getElem?_eq_some_iff.mp hk).1, hb⟩
    · intro t
      simp only [argT]
      rw [Array.getD_eq_getD_getElem?]
      rcases Nat.lt_or_ge t args.length with ht | ht
      · obtain ⟨y, hy, hk⟩ := hF.get (List.getElem?_eq_getElem ht)
        rw [List.getElem?_eq_getElem ht, Array.getElem?_append_left (by simp; omega), List.getElem?_toArray, hy]
        exact (KP_of_KP1 hk).mono hle
      · rw [List.getElem?_eq_none ht, Array.getElem?_append_right (by simp; omega), Array.getElem?_replicate]
        split <;> exact ⟨[], rfl, .nil⟩
    · simp; omega
    · intro i o _ _ _; rfl
  refine calls_of_wp hf hb (wp_mono (h hm c w.heap.size G A w0 σ _ w hc R) ?_)
  rintro e a' w' ⟨x, st', σ', rfl, ⟨hnx, vals, vals', g, fz, hvals, hlv, W, hg, hv, hnt, hhb, hho⟩, R'⟩
  obtain ⟨vs, hrun, hvs⟩ := results_run (P := P) hrs R' hvals
  have RV : Rel w.heap.size G A w0 vs.length ⟨nth vals, st'.H⟩ σ' { tmps := vs.toArray, defers := [] } w' :=
    ⟨R'.inj, R'.obj, R'.own, nth_F2 hvs, R'.keep, R'.size, R'.os, R'.tape, R'.output, rfl, by simp, R'.grow, R'.pin⟩
  have hpin0 : ∀ k, k < 1000 → (outH ins.length outs news k).isSome = true → σ' (g k) = (fun i => if i < ins.length then σ i else σ' (g i)) k := by
    intro k hk h
    simp only
    split
    · rename_i hkn
      have e := hg k hkn h
      obtain ⟨o, _, ho, _, hmo, _⟩ := W.dom (k := k) h
      rw [e] at ho ⊢
      exact R'.pin k o hk ho (by omega)
    · rfl
  have R2 := (RV.weak0 W hpin0).trim
  have hkv := retV_KP (F2_nth (by rw [hlv, hvs.length]) hnt R2.tmp)
  have hdefs := R'.defs
  revert hrun hkv
  generalize oneV vs = v
  intro hrun hkv
  have hm0 : ∀ k o, outH ins.length outs news k = some o → o.m = 0 := by
    intro k o hk
    obtain ⟨_, o', _, ho', _, hm', _⟩ := W.dom (k := k) (by simp only [hk]; rfl)
    simp only [hk] at ho'; cases ho'; exact hm'
  revert R2 hkv
  generalize hσ : (fun k => if (outH ins.length outs news k).isSome then σ' (g k) else none) = σ2
  intro R2 hkv
  rw [hv] at hkv
  have hnone : ∀ k b, σ2 k = some b → ∃ o, outH ins.length outs news k = some o := by
    intro k b hb
    subst hσ
    simp only at hb
    split at hb
    · rename_i h; exact Option.isSome_iff_exists.mp h
    · cases hb
  have hrdt : ∀ ad v, (env (outH ins.length outs news) σ2 (may w.heap.size G A) w').rd true ad v → (env (outH ins.length outs news) σ2 (fun _ b => w.heap.size ≤ b ∨ A b ∨ ∃ i, i < ins.length ∧ σ i = some b) w').rd true ad v := by
    rintro ad v ⟨h1, h2, h3⟩
    refine ⟨h1, ?_, h3⟩
    rcases h2 rfl with h | h | h
    · exact .inl h
    · exact .inr (.inr h)
    · exact .inr (.inl h)
  have hpin : ∀ i o, i < ins.length → outH ins.length outs news i = some o → σ2 i = σ i := fun i o hi ho => (R2.pin i o (by omega) ho (by rw [hm0 i o ho]; simp)).trans (if_pos hi)
  have post : PostOk w A ins σ val outs news v σ2 w' := by
    refine ⟨hpin, ?_, ?_, ?_, KP.hb hrdt hkv hhb, fun b hb hn => R2.keep b hb (fun ⟨i, hi, h⟩ => hn i hi h), R2.size, R2.os, R2.tape, R2.output, R2.grow⟩
    · intro k b hk hb
      obtain ⟨o, ho⟩ := hnone k b hb
      rcases R2.own k o b ho (by rw [hm0 k o ho]; simp) hb with h | ⟨i, hi, h⟩
      · exact .inl h
      · refine .inr ⟨i, hi, ?_, h⟩
        cases hoi : outH ins.length outs news i with
        | none => rfl
        | some oi =>
          exfalso
          have h2 := hpin i oi hi hoi
          have m1 := hm0 k o ho
          have m2 := hm0 i oi hoi
          rcases R2.inj k i o oi b ho hoi hb (h2.trans h) with h | h | h | ⟨h, _⟩ | ⟨h, _⟩ | ⟨h, _⟩ <;> omega
    · exact R2.inj
    · intro k o hk hmo
      rcases R2.obj k o hk hmo with h | ⟨b, c, ty, h1, h2, h3, h4, h5, h6⟩
      · exact .inl h
      · refine .inr ⟨b, c, ty, h1, h2, h3, h4, h5, ?_⟩
        intro j t x r hr hx
        obtain ⟨y, hy, hK⟩ := h6 j t x r hr hx
        exact ⟨y, hy, K.hb hrdt hK (hho k o hk r (List.mem_of_getElem? hr) x (List.mem_of_getElem? hx))⟩
  cases x with
  | n => exact ⟨hdefs, v, hrun, v, _, rfl, post⟩
  | r => exact ⟨hdefs, v, hrun, v, _, rfl, post⟩
  | x id => exact absurd rfl (hnx id)
end Go.Ab
