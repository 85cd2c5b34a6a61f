/- Plain words on logs of operations. -/
import Derived.Test.YtfbjnipamfbgmaaAbUtil
set_option linter.unusedSimpArgs false
set_option linter.unusedVariables false
namespace Go.Ab

theorem Lo.mono {J J' : St → Prop} {s : St} (h : Lo J s) (k : ∀ s, J s → J' s) : Lo J' s := by
  rcases h with h | ⟨g, fz, s', W, h⟩
  · exact .inl (k s h)
  · exact .inr ⟨g, fz, s', W, k s' h⟩

/-- A loop that counts. -/
theorem AW.count {P : Program} {N : Nat} {x : ACode} {st : St} {Q : AX → St → Prop} (n : Nat) (J : Nat → St → Prop) (h0 : Lo (J 0) st) (h : ∀ i s, i ≤ n → J i s → AW P N x s (thenX (fun s' => i < n ∧ Lo (J (i + 1)) s') Q)) : AW P N (.loop x) st Q := by
  refine AW.loop (fun m st => ∃ i, i ≤ n ∧ m = n - i ∧ J i st) (n := n) (h0.mono fun s hs => ⟨0, Nat.zero_le _, rfl, hs⟩) ?_
  rintro m s ⟨i, hi, rfl, hJ⟩
  refine (h i s hi hJ).mono ?_
  intro e s' he
  cases e with
  | n => exact ⟨n - (i + 1), by have := he.1; omega, he.2.mono fun s hs => ⟨i + 1, he.1, rfl, hs⟩⟩
  | x id => exact he
  | r => exact he

theorem cast_succ (i : Nat) : ((i + 1 : Nat) : Int) = (i : Int) + 1 := rfl

/-- Where the first such member stands, or -1. -/
def findIx {α : Type} (p : α → Bool) : List α → Nat → Int
  | [], _ => -1
  | x :: l, i => if p x = true then (i : Int) else findIx p l (i + 1)

theorem findIx_ge {α : Type} (p : α → Bool) : ∀ (l : List α) (i : Nat), findIx p l i = -1 ∨ (i : Int) ≤ findIx p l i
  | [], _ => .inl rfl
  | x :: l, i => by
    unfold findIx
    split
    · exact .inr (Int.le_refl _)
    · rcases findIx_ge p l (i + 1) with h | h
      · exact .inl h
      · exact .inr (by omega)

theorem findIx_spec {α : Type} {p : α → Bool} : ∀ {l : List α} {i : Nat}, (findIx p l i = -1 ∧ ∀ x ∈ l, p x = false) ∨ ∃ (j : Nat) (x : α), findIx p l i = ((i + j : Nat) : Int) ∧ l[j]? = some x ∧ p x = true
  | [], i => .inl ⟨rfl, by simp⟩
  | x :: l, i => by
    unfold findIx
    split
    · rename_i h
      exact .inr ⟨0, x, rfl, rfl, h⟩
    · rename_i h
      rcases findIx_spec (p := p) (l := l) (i := i + 1) with ⟨h1, h2⟩ | ⟨j, y, h1, h2, h3⟩
      · left
        refine ⟨h1, ?_⟩
        intro y hy
        rcases List.mem_cons.mp hy with rfl | hy
        · simpa using h
        · exact h2 y hy
      · exact .inr ⟨j + 1, y, by rw [h1]; congr 1; omega, by simpa using h2, h3⟩

theorem stampLess_iff {s t : Stamp} : stampLess s t = true ↔ s.q < t.q ∨ (s.q = t.q ∧ s.a < t.a) := by
  simp [stampLess]

theorem stampLess_irrefl (s : Stamp) : stampLess s s = false := by
  rw [Bool.eq_false_iff]; intro h; rw [stampLess_iff] at h; omega

theorem stampLess_trans {s t u : Stamp} (h : stampLess s t = true) (k : stampLess t u = true) : stampLess s u = true := by
  rw [stampLess_iff] at *; omega

theorem okAll_at {α : Type} {v : α → Bool} {less : α → α → Bool} {l : List α} (h : okAll v less l = true) {i : Nat} {x : α} (hx : l[i]? = some x) : v x = true := by
  have hi := (List.getElem?_eq_some_iff.mp hx).1
  have := List.all_eq_true.mp h i (by simpa using hi)
  unfold okAt at this
  rw [hx] at this
  simp only [Bool.and_eq_true] at this
  exact this.1

theorem okAll_next {α : Type} {v : α → Bool} {less : α → α → Bool} {l : List α} (h : okAll v less l = true) {i : Nat} {x y : α} (hx : l[i]? = some x) (hy : l[i + 1]? = some y) : less x y = true := by
  have hi := (List.getElem?_eq_some_iff.mp hy).1
  have := List.all_eq_true.mp h (i + 1) (by simpa using hi)
  unfold okAt at this
  rw [hy] at this
  simp only [Bool.and_eq_true, hx] at this
  exact this.2

theorem sorted_of {l : List DOp} (h : okAll validOp opLess l = true) : ∀ {j i : Nat} {x y : DOp}, l[i]? = some x → l[j]? = some y → i < j → stampLess x.id y.id = true
  | 0, i, x, y, _, _, hij => absurd hij (by omega)
  | j + 1, i, x, y, hx, hy, hij => by
    obtain ⟨z, hz⟩ := get_some (l := l) (i := j) (by have := (List.getElem?_eq_some_iff.mp hy).1; omega)
    have h1 : stampLess z.id y.id = true := okAll_next h hz hy
    rcases Nat.lt_or_ge i j with h2 | h2
    · exact stampLess_trans (sorted_of h hx hz h2) h1
    · have : i = j := by omega
      subst this
      rw [hx] at hz; cases hz
      exact h1

theorem validLog_all {l : List DOp} (h : validLog l = true) : okAll validOp opLess l = true := by
  simp only [validLog, Bool.and_eq_true] at h; exact h.1

theorem validLog_len {l : List DOp} (h : validLog l = true) : l.length ≤ 40 := by
  simp only [validLog, Bool.and_eq_true, decide_eq_true_eq] at h; exact h.2

theorem ids_inj {l : List DOp} (h : okAll validOp opLess l = true) {i j : Nat} {x y : DOp} (hx : l[i]? = some x) (hy : l[j]? = some y) (e : x.id = y.id) : i = j := by
  rcases Nat.lt_trichotomy i j with h1 | h1 | h1
  · have := sorted_of h hx hy h1
    rw [e, stampLess_irrefl] at this; cases this
  · exact h1
  · have := sorted_of h hy hx h1
    rw [e, stampLess_irrefl] at this; cases this

theorem validOp_undo {o : DOp} (h : validOp o = true) (hk : o.kind = 10) : stampLess o.tg o.id = true := by
  simp [validOp, hk, validRef] at h
  exact h.2.1.1.1.1.2.2

theorem validOp_id {o : DOp} (h : validOp o = true) : validStamp o.id = true := by
  simp only [validOp, Bool.and_eq_true] at h; exact h.1

/-- Does o undo x? -/
def undoes (o x : DOp) : Bool := decide (o.kind = 10) && (decide (o.tg = x.id) && (decide (o.id.a = x.id.a) && decide (x.kind ≠ 10)))
def undoStep (x : DOp) (b : Bool) (o : DOp) : Bool := if undoes o x = true then o.en else b
def liveOf (l : List DOp) (x : DOp) : Bool := l.foldl (undoStep x) true
def activeOps (l : List DOp) : List Bool := l.map (liveOf l)

theorem foldl_skip {x : DOp} : ∀ {l : List DOp} {b : Bool}, (∀ o ∈ l, undoes o x = false) → l.foldl (undoStep x) b = b
  | [], _, _ => rfl
  | o :: l, b, h => by
    simp only [List.foldl_cons, undoStep, h o (by simp)]
    exact foldl_skip fun o ho => h o (by simp [ho])

/-- What comes before an operation, or is it, does not undo it. -/
theorem live_drop {l : List DOp} (h : okAll validOp opLess l = true) {i : Nat} {x : DOp} (hx : l[i]? = some x) : liveOf l x = (l.drop (i + 1)).foldl (undoStep x) true := by
  have : l = l.take (i + 1) ++ l.drop (i + 1) := (List.take_append_drop _ _).symm
  unfold liveOf
  conv => lhs; rw [this]
  rw [List.foldl_append, foldl_skip (l := l.take (i + 1))]
  intro o ho
  obtain ⟨j, hj⟩ := List.mem_iff_getElem?.mp ho
  have hjl := (List.getElem?_eq_some_iff.mp hj).1
  rw [List.getElem?_take] at hj
  split at hj
  · rename_i hlt
    rw [Bool.eq_false_iff]
    intro hu
    simp only [undoes, Bool.and_eq_true, decide_eq_true_eq] at hu
    have h1 := validOp_undo (okAll_at h hj) hu.1
    rw [hu.2.1] at h1
    rcases Nat.lt_or_ge j i with h2 | h2
    · have h3 := sorted_of h hj hx h2
      have := stampLess_trans h1 h3
      rw [stampLess_irrefl] at this; cases this
    · have : j = i := by omega
      subst this
      rw [hx] at hj; cases hj
      rw [stampLess_irrefl] at h1; cases h1
  · cases hj

/-- The index of an ID in a log. -/
def opIx (l : List DOp) (t : Stamp) : Int := findIx (fun o => decide (o.id = t)) l 0

theorem opIx_of {l : List DOp} (h : okAll validOp opLess l = true) {i : Nat} {x : DOp} (hx : l[i]? = some x) : opIx l x.id = i := by
  rcases findIx_spec (p := fun o : DOp => decide (o.id = x.id)) (l := l) (i := 0) with ⟨_, h2⟩ | ⟨j, y, h1, h2, h3⟩
  · have := h2 x (List.mem_of_getElem? hx)
    simp at this
  · have := ids_inj h hx h2 (by have := of_decide_eq_true h3; exact this.symm)
    subst this
    rw [opIx, h1]; simp

theorem opIx_get {l : List DOp} {t : Stamp} (h : 0 ≤ opIx l t) : ∃ (j : Nat) (x : DOp), opIx l t = j ∧ l[j]? = some x ∧ x.id = t := by
  rcases findIx_spec (p := fun o : DOp => decide (o.id = t)) (l := l) (i := 0) with ⟨h1, _⟩ | ⟨j, y, h1, h2, h3⟩
  · unfold opIx at h; omega
  · exact ⟨j, y, by unfold opIx; rw [h1]; simp, h2, by simpa using h3⟩

theorem opIx_none {l : List DOp} {t : Stamp} (h : opIx l t < 0) : ∀ x ∈ l, x.id ≠ t := by
  rcases findIx_spec (p := fun o : DOp => decide (o.id = t)) (l := l) (i := 0) with ⟨_, h2⟩ | ⟨j, y, h1, _, _⟩
  · intro x hx; simpa using h2 x hx
  · unfold opIx at h; omega

theorem opIx_lt {l : List DOp} {t : Stamp} : opIx l t = -1 ∨ (0 ≤ opIx l t ∧ opIx l t < l.length) := by
  rcases findIx_spec (p := fun o : DOp => decide (o.id = t)) (l := l) (i := 0) with ⟨h1, _⟩ | ⟨j, y, h1, h2, _⟩
  · exact .inl h1
  · right
    have := (List.getElem?_eq_some_iff.mp h2).1
    unfold opIx
    omega

def bcs (b : Bool) : List L := [.v (.bool b)]
def bobj (es : List (List L)) : AObj := ⟨0, true, 1, es⟩
theorem bcs_hb (b : Bool) : ∀ x ∈ bcs b, HB x := by simp [bcs, HB.v]

def undoStepT (l : List DOp) (who : Int) (z : Stamp) (x : DOp) : Stamp := if liveOf l x = true ∧ x.kind ≠ 10 ∧ x.id.a = who then x.id else z
def undoTarget (l : List DOp) (who : Int) : Stamp := if validLog l = true then l.foldl (undoStepT l who) ⟨0, 0⟩ else ⟨0, 0⟩

/-- The first i of n are set. -/
def flags (n i : Nat) : List (List L) := (List.replicate i true ++ List.replicate (n - i) false).map bcs

theorem flags_get {n i : Nat} (h : i < n) : (flags n i)[i]? = some [.v (.bool false)] := by
  unfold flags
  rw [List.getElem?_map, List.getElem?_append_right (by simp), List.length_replicate, Nat.sub_self, List.getElem?_replicate, if_pos (by omega)]
  rfl

theorem flags_set {n i : Nat} (h : i < n) : (flags n i).set i [.v (.bool true)] = flags n (i + 1) := by
  have e : n - i = (n - (i + 1)) + 1 := by omega
  unfold flags
  rw [List.map_append, List.set_append_right _ _ (by simp), e, List.replicate_succ, List.replicate_succ', List.map_append, List.map_append]
  simp [bcs]

theorem flags_zero (n : Nat) : flags n 0 = List.replicate n [.v (.bool false)] := by simp [flags, bcs]
theorem flags_all (n : Nat) : flags n n = (List.replicate n true).map bcs := by simp [flags]

def DOp.ok (o : DOp) : Prop := o.text.size ≤ reachBytes

theorem dec_DOp (r : List L) (h : F2 Has [.i .i64, .i .i64, .i .i64, .i .i64, .i .i64, .i .i64, .i .i64, .i .i64, .i .i64, .i .i64, .b, .s] r) : ∃ o : DOp, r = o.cs ∧ o.ok := by
  rcases h with _ | ⟨⟨⟩, h⟩
  rcases h with _ | ⟨⟨⟩, h⟩
  rcases h with _ | ⟨⟨⟩, h⟩
  rcases h with _ | ⟨⟨⟩, h⟩
  rcases h with _ | ⟨⟨⟩, h⟩
  rcases h with _ | ⟨⟨⟩, h⟩
  rcases h with _ | ⟨⟨⟩, h⟩
  rcases h with _ | ⟨⟨⟩, h⟩
  rcases h with _ | ⟨⟨⟩, h⟩
  rcases h with _ | ⟨⟨⟩, h⟩
  rcases h with _ | ⟨⟨⟩, h⟩
  rcases h with _ | ⟨h0, h⟩
  cases h0 with
  | s ht =>
  cases h
  exact ⟨⟨⟨_, _⟩, _, ⟨_, _⟩, ⟨_, _⟩, ⟨_, _⟩, _, _, _⟩, rfl, ht⟩

theorem dec_DOps {xs : List L} (h : F2 Has [.sl 104 [.i .i64, .i .i64, .i .i64, .i .i64, .i .i64, .i .i64, .i .i64, .i .i64, .i .i64, .i .i64, .b, .s]] xs) : ∃ os : List DOp, xs = [.vs false (os.map DOp.cs)] ∧ (∀ o ∈ os, o.ok) ∧ os.length * 104 ≤ reachBytes := by
  rcases h with _ | ⟨h, h'⟩
  cases h'
  obtain ⟨os, rfl, h1, h2⟩ := dec_list (cs := DOp.cs) (ok := DOp.ok) dec_DOp h
  exact ⟨os, rfl, h1, h2⟩

theorem dec_int {xs : List L} (h : F2 Has [.i .i64] xs) : ∃ n : Int, xs = [.v (.int .i64 n)] ∧ inK .i64 n := by
  rcases h with _ | ⟨h0, h'⟩
  cases h'
  cases h0 with
  | i hw =>
    refine ⟨_, rfl, ?_⟩
    simpa [Lit.wf, inK] using hw

theorem dec_bool {xs : List L} (h : F2 Has [.b] xs) : ∃ b : Bool, xs = [.v (.bool b)] := by
  rcases h with _ | ⟨⟨⟩, h'⟩
  cases h'
  exact ⟨_, rfl⟩

theorem dec_Stamp {xs : List L} (h : F2 Has [.i .i64, .i .i64] xs) : ∃ t : Stamp, xs = t.cs ∧ inK .i64 t.q ∧ inK .i64 t.a := by
  rcases h with _ | ⟨h0, h⟩
  rcases h with _ | ⟨h1, h⟩
  cases h
  cases h0 with
  | i hw =>
    cases h1 with
    | i hw2 =>
      exact ⟨⟨_, _⟩, rfl, by simpa [Lit.wf, inK] using hw, by simpa [Lit.wf, inK] using hw2⟩

/- Version vectors. -/
def ics (n : Int) : List L := [.v (.int .i64 n)]
def iobj (es : List (List L)) : AObj := ⟨0, true, 1, es⟩
theorem ics_hb (n : Int) : ∀ x ∈ ics n, HB x := by simp [ics, HB.v]
def validVec (v : List Int) : Bool := v.all (fun n => inRange n 0 99) && decide (v.length = 3)
def vecSet (v : List Int) (o : DOp) : List Int := v.set o.id.a.toNat o.id.q
def logVecTo (l : List DOp) : List Int := l.foldl vecSet [0, 0, 0]
def vecMax (v : List Int) : Int := v.foldl (fun m n => if n > m then n else m) 0
def nextStamp (v : List Int) (who : Int) : Stamp := if validVec v = true ∧ inRange who 0 2 = true ∧ vecMax v < 99 then ⟨vecMax v + 1, who⟩ else ⟨0, 0⟩

theorem foldVec_len : ∀ (l : List DOp) (v : List Int), (l.foldl vecSet v).length = v.length
  | [], _ => rfl
  | o :: l, v => by rw [List.foldl_cons, foldVec_len l]; simp [vecSet]

theorem logVec_len (l : List DOp) : (logVecTo l).length = 3 := foldVec_len l _

theorem logVec_snoc (l : List DOp) (o : DOp) : logVecTo (l ++ [o]) = vecSet (logVecTo l) o := by simp [logVecTo, List.foldl_append]

theorem foldVec_entry : ∀ {l : List DOp} {v : List Int} {a : Nat} {y : Int}, (l.foldl vecSet v)[a]? = some y → v[a]? = some y ∨ ∃ o ∈ l, o.id.a.toNat = a ∧ o.id.q = y
  | [], _, _, _, h => .inl h
  | o :: l, v, a, y, h => by
    rw [List.foldl_cons] at h
    rcases foldVec_entry h with h | ⟨x, hx, h1, h2⟩
    · unfold vecSet at h
      rw [List.getElem?_set] at h
      split at h
      · rename_i ha
        split at h
        · cases h; exact .inr ⟨o, by simp, ha, rfl⟩
        · cases h
      · exact .inl h
    · exact .inr ⟨x, by simp [hx], h1, h2⟩

theorem validStamp_iff {t : Stamp} : validStamp t = true ↔ (1 ≤ t.q ∧ t.q ≤ 99) ∧ (0 ≤ t.a ∧ t.a ≤ 2) := by
  simp [validStamp, inRange]

theorem logVec_entry {l : List DOp} (hv : ∀ o ∈ l, validStamp o.id = true) {a : Nat} {y : Int} (h : (logVecTo l)[a]? = some y) : 0 ≤ y ∧ y ≤ 99 := by
  rcases foldVec_entry h with h | ⟨o, ho, _, rfl⟩
  · match a, h with
    | 0, h => simp at h; omega
    | 1, h => simp at h; omega
    | 2, h => simp at h; omega
    | a + 3, h => simp at h
  · have := validStamp_iff.mp (hv o ho); omega

theorem logVec_valid {l : List DOp} (hv : ∀ o ∈ l, validStamp o.id = true) : validVec (logVecTo l) = true := by
  simp only [validVec, logVec_len, Bool.and_eq_true, List.all_eq_true, decide_true, and_true]
  intro y hy
  obtain ⟨a, ha⟩ := List.mem_iff_getElem?.mp hy
  have := logVec_entry hv ha
  simp [inRange, this]

theorem log_stamps {l : List DOp} (h : okAll validOp opLess l = true) : ∀ o ∈ l, validStamp o.id = true := by
  intro o ho
  obtain ⟨i, hi⟩ := List.mem_iff_getElem?.mp ho
  exact validOp_id (okAll_at h hi)

/-- The entry that an operation raises is less than its number. -/
theorem logVec_less {l : List DOp} (h : okAll validOp opLess l = true) {i : Nat} {x : DOp} (hx : l[i]? = some x) : ∃ y, (logVecTo (l.take i))[x.id.a.toNat]? = some y ∧ y < x.id.q := by
  have hs := validStamp_iff.mp (log_stamps h x (List.mem_of_getElem? hx))
  obtain ⟨y, hy⟩ := get_some (l := logVecTo (l.take i)) (i := x.id.a.toNat) (by rw [logVec_len]; omega)
  refine ⟨y, hy, ?_⟩
  rcases foldVec_entry hy with h1 | ⟨o, ho, h1, rfl⟩
  · match x.id.a.toNat, h1 with
    | 0, h1 => simp at h1; omega
    | 1, h1 => simp at h1; omega
    | 2, h1 => simp at h1; omega
    | a + 3, h1 => simp at h1
  · obtain ⟨j, hj⟩ := List.mem_iff_getElem?.mp ho
    rw [List.getElem?_take] at hj
    split at hj
    · rename_i hlt
      have h2 := stampLess_iff.mp (sorted_of h hj hx hlt)
      have h3 := validStamp_iff.mp (log_stamps h o (List.mem_of_getElem? hj))
      omega
    · cases hj

theorem vecMax_ge : ∀ (v : List Int) (m : Int), m ≤ v.foldl (fun m n => if n > m then n else m) m
  | [], m => Int.le_refl _
  | n :: v, m => by
    rw [List.foldl_cons]
    refine Int.le_trans ?_ (vecMax_ge v _)
    split <;> omega

theorem vecMax_mem : ∀ {v : List Int} {m y : Int}, y ∈ v → y ≤ v.foldl (fun m n => if n > m then n else m) m
  | n :: v, m, y, h => by
    rw [List.foldl_cons]
    rcases List.mem_cons.mp h with rfl | h
    · refine Int.le_trans ?_ (vecMax_ge v _)
      split <;> omega
    · exact vecMax_mem h

theorem vecMax_le : ∀ {v : List Int} {m b : Int}, m ≤ b → (∀ y ∈ v, y ≤ b) → v.foldl (fun m n => if n > m then n else m) m ≤ b
  | [], _, _, h, _ => h
  | n :: v, m, b, h, hv => by
    rw [List.foldl_cons]
    refine vecMax_le ?_ fun y hy => hv y (by simp [hy])
    have := hv n (by simp)
    split <;> omega

theorem validVec_max {v : List Int} (h : validVec v = true) : 0 ≤ vecMax v ∧ vecMax v ≤ 99 := by
  simp only [validVec, Bool.and_eq_true, List.all_eq_true] at h
  refine ⟨vecMax_ge v 0, vecMax_le (by omega) fun y hy => ?_⟩
  have := h.1 y hy
  simp [inRange] at this
  omega

/-- Every operation of a log is covered by its vector. -/
theorem logVec_covers {l : List DOp} (h : okAll validOp opLess l = true) : ∀ i, i ≤ l.length → ∀ o ∈ l.take i, ∃ y, (logVecTo (l.take i))[o.id.a.toNat]? = some y ∧ o.id.q ≤ y
  | 0, _, o, ho => by simp at ho
  | i + 1, hi, o, ho => by
    obtain ⟨x, hx⟩ := get_some (l := l) (i := i) (by omega)
    obtain ⟨y0, hy0, hlt⟩ := logVec_less h hx
    rw [take_snoc hx] at ho ⊢
    rw [logVec_snoc]
    have hlen : x.id.a.toNat < (logVecTo (l.take i)).length := (List.getElem?_eq_some_iff.mp hy0).1
    simp only [vecSet, List.getElem?_set]
    rcases List.mem_append.mp ho with ho | ho
    · obtain ⟨y, hy, hle⟩ := logVec_covers h i (by omega) o ho
      by_cases e : x.id.a.toNat = o.id.a.toNat
      · rw [if_pos e, if_pos hlen]
        rw [← e, hy0] at hy; cases hy
        exact ⟨_, rfl, by omega⟩
      · rw [if_neg e]
        exact ⟨y, hy, hle⟩
    · have : o = x := by simpa using ho
      subst this
      rw [if_pos rfl, if_pos hlen]
      exact ⟨_, rfl, Int.le_refl _⟩

theorem nextStamp_log {l : List DOp} (h : okAll validOp opLess l = true) {o : DOp} (ho : o ∈ l) (who : Int) : nextStamp (logVecTo l) who = ⟨0, 0⟩ ∨ (stampLess o.id (nextStamp (logVecTo l) who) = true ∧ validStamp (nextStamp (logVecTo l) who) = true) := by
  unfold nextStamp
  split
  · rename_i hc
    right
    obtain ⟨y, hy, hle⟩ := logVec_covers h l.length (Nat.le_refl _) o (by rw [List.take_length]; exact ho)
    rw [List.take_length] at hy
    have h1 : y ≤ vecMax (logVecTo l) := vecMax_mem (List.mem_of_getElem? hy)
    have h2 := validVec_max hc.1
    have h3 := hc.2.1
    simp [inRange] at h3
    rw [stampLess_iff, validStamp_iff]
    simp only
    omega
  · exact .inl rfl

def undoOp (l : List DOp) (id : Stamp) (en : Bool) : DOp := ⟨nextStamp (logVecTo l) id.a, 10, id, ⟨0, 0⟩, ⟨0, 0⟩, 0, en, ⟨#[]⟩⟩

theorem undoOp_valid {l : List DOp} (h : okAll validOp opLess l = true) {o : DOp} (ho : o ∈ l) (en : Bool) : validOp (undoOp l o.id en) = !decide (nextStamp (logVecTo l) o.id.a = ⟨0, 0⟩) := by
  have hz : isZero ⟨0, 0⟩ = true := rfl
  have hn : noText ⟨#[]⟩ = true := rfl
  have ht := log_stamps h o ho
  have htz : o.id ≠ ⟨0, 0⟩ := by intro e; rw [e] at ht; exact absurd ht (by decide)
  rcases nextStamp_log h ho o.id.a with e | ⟨h1, h2⟩
  · have : validStamp (undoOp l o.id en).id = false := by show validStamp (nextStamp (logVecTo l) o.id.a) = false; rw [e]; rfl
    simp [validOp, this, e]
  · have h3 : nextStamp (logVecTo l) o.id.a ≠ ⟨0, 0⟩ := by intro e; rw [e] at h2; exact absurd h2 (by decide)
    simp [validOp, undoOp, h2, validRef, htz, ht, h1, hz, hn, h3]

/- Messages and replicas. -/
def validMsg (m : Msg) : Bool := validOp m.op && (decide (0 ≤ m.prev) && decide (m.prev < m.op.id.q))
def msgLess (a b : Msg) : Bool := stampLess a.op.id b.op.id
def validRep (r : Rep) : Bool := inRange r.au 0 2 && validLog r.log && decide (r.pend.length ≤ 20) && okAll validMsg msgLess r.pend
def Rep.cells (q q' : Bool) (r : Rep) : List L := [.v (.int .i64 r.au), .vs q (r.log.map DOp.cs), .vs q' (r.pend.map Msg.cs)]
def Msg.ok (m : Msg) : Prop := m.op.text.size ≤ reachBytes
def Rep.ok (r : Rep) : Prop := (∀ o ∈ r.log, o.ok) ∧ r.log.length * 104 ≤ reachBytes ∧ (∀ m ∈ r.pend, m.ok) ∧ r.pend.length * 112 ≤ reachBytes

theorem dec_Msg (r : List L) (h : F2 Has [.i .i64, .i .i64, .i .i64, .i .i64, .i .i64, .i .i64, .i .i64, .i .i64, .i .i64, .i .i64, .b, .s, .i .i64] r) : ∃ o : Msg, r = o.cs ∧ o.ok := by
  rcases h with _ | ⟨⟨⟩, h⟩
  rcases h with _ | ⟨⟨⟩, h⟩
  rcases h with _ | ⟨⟨⟩, h⟩
  rcases h with _ | ⟨⟨⟩, h⟩
  rcases h with _ | ⟨⟨⟩, h⟩
  rcases h with _ | ⟨⟨⟩, h⟩
  rcases h with _ | ⟨⟨⟩, h⟩
  rcases h with _ | ⟨⟨⟩, h⟩
  rcases h with _ | ⟨⟨⟩, h⟩
  rcases h with _ | ⟨⟨⟩, h⟩
  rcases h with _ | ⟨⟨⟩, h⟩
  rcases h with _ | ⟨h0, h⟩
  rcases h with _ | ⟨⟨⟩, h⟩
  cases h0 with
  | s ht =>
  cases h
  exact ⟨⟨⟨⟨_, _⟩, _, ⟨_, _⟩, ⟨_, _⟩, ⟨_, _⟩, _, _, _⟩, _⟩, rfl, ht⟩

theorem dec_Rep {xs : List L} (h : F2 Has [.i .i64, .sl 104 [.i .i64, .i .i64, .i .i64, .i .i64, .i .i64, .i .i64, .i .i64, .i .i64, .i .i64, .i .i64, .b, .s], .sl 112 [.i .i64, .i .i64, .i .i64, .i .i64, .i .i64, .i .i64, .i .i64, .i .i64, .i .i64, .i .i64, .b, .s, .i .i64]] xs) : ∃ r : Rep, xs = r.cells false false ∧ r.ok := by
  rcases h with _ | ⟨⟨⟩, h⟩
  rcases h with _ | ⟨h1, h⟩
  rcases h with _ | ⟨h2, h⟩
  cases h
  obtain ⟨os, rfl, a1, a2⟩ := dec_list (cs := DOp.cs) (ok := DOp.ok) dec_DOp h1
  obtain ⟨ms, rfl, b1, b2⟩ := dec_list (cs := Msg.cs) (ok := Msg.ok) dec_Msg h2
  exact ⟨⟨_, os, ms⟩, rfl, a1, a2, b1, b2⟩

/- What marks are written. -/
def digB (k : Int) : UInt8 := UInt8.ofNat (IntKind.u8.wrap (48 + k.tmod 10)).toNat

theorem tdiv_less {k : Int} (h : 0 < k) : (k.tdiv 10).toNat < k.toNat := by
  have : k.tdiv 10 = k / 10 := Int.tdiv_eq_ediv_of_nonneg (by omega)
  rw [this]
  omega

def markDigs (k : Int) (acc : ByteArray) : ByteArray := if h : 0 < k then markDigs (k.tdiv 10) (⟨#[digB k]⟩ ++ acc) else acc
termination_by k.toNat
decreasing_by exact tdiv_less h

def markText (k : Int) : ByteArray := if k ≤ 0 then ⟨#[109, 48]⟩ else ⟨#[109]⟩ ++ markDigs k ⟨#[]⟩

theorem set_get {α : Type} {l : List α} {i : Nat} {x : α} (h : l[i]? = some x) (r : α) : (l.set i r)[i]? = some r := by
  have hi := (List.getElem?_eq_some_iff.mp h).1
  simp [hi]

def markOp (k : Int) : DOp := ⟨⟨k, k + 1⟩, k + 2, ⟨k + 3, k + 4⟩, ⟨k + 5, k + 6⟩, ⟨k + 7, k + 8⟩, k + 9, decide ((k + 10).tmod 3 = 0), markText (k + 11)⟩
def markOps (n : Nat) (k : Int) : List DOp := (List.range n).map fun i : Nat => markOp (k + 12 * (i : Int))
/-- The first i are marked. -/
def marked (s : List DOp) (k : Int) (i : Nat) : List DOp := markOps i k ++ s.drop i

theorem marked_get {s : List DOp} {k : Int} {i : Nat} {x : DOp} (h : s[i]? = some x) : (marked s k i)[i]? = some x := by
  unfold marked markOps
  rw [List.getElem?_append_right (by simp)]
  simp [h]

theorem marked_set {s : List DOp} {k : Int} {i : Nat} {x : DOp} (h : s[i]? = some x) : (marked s k i).set i (markOp (k + 12 * (i : Int))) = marked s k (i + 1) := by
  unfold marked markOps
  rw [drop_cons h, List.set_append_right _ _ (by simp), List.range_succ, List.map_append]
  simp

theorem marked_all {s : List DOp} {k : Int} : marked s k s.length = markOps s.length k := by simp [marked]
theorem marked_zero {s : List DOp} {k : Int} : marked s k 0 = s := by simp [marked, markOps]
theorem markOps_get {n i : Nat} {k : Int} (h : i < n) : (markOps n k)[i]? = some (markOp (k + 12 * (i : Int))) := by simp [markOps, h]
theorem markOps_len {n : Nat} {k : Int} : (markOps n k).length = n := by simp [markOps]

def logWithout (l : List DOp) (t : Stamp) : List DOp := l.filter fun o => !decide (o.id = t) && !(decide (o.kind = 10) && decide (o.tg = t))

theorem filter_snoc {α : Type} {p : α → Bool} {l : List α} {i : Nat} {x : α} (h : l[i]? = some x) : (l.take (i + 1)).filter p = (l.take i).filter p ++ if p x = true then [x] else [] := by
  rw [take_snoc h, List.filter_append]
  congr 1
  by_cases hp : p x = true <;> simp [hp]
/- Compaction: an undo is dropped where a later one of the same author has the same target. -/
def redone (x y : DOp) : Bool := decide (x.kind = 10) && (decide (y.kind = 10) && (decide (y.tg = x.tg) && decide (y.id.a = x.id.a)))
def comKeep (l : List DOp) (i : Nat) (x : DOp) : List DOp := if (l.drop (i + 1)).any (redone x) = true then [] else [x]
def comTo (l : List DOp) : Nat → List DOp
  | 0 => []
  | i + 1 => comTo l i ++ (match l[i]? with | some x => comKeep l i x | none => [])
def compactLog (l : List DOp) : List DOp := comTo l l.length

theorem comTo_len (l : List DOp) : ∀ i, (comTo l i).length ≤ i
  | 0 => Nat.le_refl _
  | i + 1 => by
    have h := comTo_len l i
    unfold comTo
    rw [List.length_append]
    split
    · rename_i x _
      have : (comKeep l i x).length ≤ 1 := by unfold comKeep; split <;> simp
      omega
    · simp; omega

theorem comTo_succ {l : List DOp} {i : Nat} {x : DOp} (h : l[i]? = some x) : comTo l (i + 1) = comTo l i ++ comKeep l i x := by
  conv => lhs; unfold comTo
  rw [h]

theorem any_snoc {α : Type} {p : α → Bool} {l : List α} {i j : Nat} {x : α} (hij : i ≤ j) (h : l[j]? = some x) : ((l.take (j + 1)).drop i).any p = (((l.take j).drop i).any p || p x) := by
  rw [take_snoc h, List.drop_append_of_le_length (by
    have := (List.getElem?_eq_some_iff.mp h).1
    rw [List.length_take]; omega)]
  simp
/- What a replica is asked for. -/
def vecHas (v : List Int) (t : Stamp) : Bool := match v[t.a.toNat]? with | some n => decide (t.q ≤ n) | none => false
def prevStep (t : Stamp) (p : Int) (o : DOp) : Int := if o.id.a = t.a ∧ o.id.q < t.q then o.id.q else p
def prevOf (l : List DOp) (t : Stamp) : Int := l.foldl (prevStep t) 0
def msgOf (l : List DOp) (o : DOp) : Msg := ⟨o, prevOf l o.id⟩
def missing (r : Rep) (v : List Int) : List Msg := (r.log.filter fun o => !vecHas v o.id).map (msgOf r.log)

theorem foldl_snoc {α β : Type} {f : β → α → β} {b : β} {l : List α} {i : Nat} {x : α} (h : l[i]? = some x) : (l.take (i + 1)).foldl f b = f ((l.take i).foldl f b) x := by
  rw [take_snoc h, List.foldl_append]; rfl

/- Marks of messages and of numbers. -/
def markMsg (k : Int) : Msg := ⟨markOp k, k + 12⟩
def markMsgs (n : Nat) (k : Int) : List Msg := (List.range n).map fun i : Nat => markMsg (k + 13 * (i : Int))
def markedM (s : List Msg) (k : Int) (i : Nat) : List Msg := markMsgs i k ++ s.drop i

theorem markedM_get {s : List Msg} {k : Int} {i : Nat} {x : Msg} (h : s[i]? = some x) : (markedM s k i)[i]? = some x := by
  unfold markedM markMsgs
  rw [List.getElem?_append_right (by simp)]
  simp [h]

theorem markedM_set {s : List Msg} {k : Int} {i : Nat} {x : Msg} (h : s[i]? = some x) : (markedM s k i).set i (markMsg (k + 13 * (i : Int))) = markedM s k (i + 1) := by
  unfold markedM markMsgs
  rw [drop_cons h, List.set_append_right _ _ (by simp), List.range_succ, List.map_append]
  simp

theorem markedM_all {s : List Msg} {k : Int} : markedM s k s.length = markMsgs s.length k := by simp [markedM]
theorem markedM_zero {s : List Msg} {k : Int} : markedM s k 0 = s := by simp [markedM, markMsgs]
theorem markMsgs_get {n i : Nat} {k : Int} (h : i < n) : (markMsgs n k)[i]? = some (markMsg (k + 13 * (i : Int))) := by simp [markMsgs, h]
theorem markMsgs_len {n : Nat} {k : Int} : (markMsgs n k).length = n := by simp [markMsgs]

def markInts (n : Nat) (k : Int) : List Int := (List.range n).map fun i : Nat => k + (i : Int)
def markedI (s : List Int) (k : Int) (i : Nat) : List Int := markInts i k ++ s.drop i

theorem markedI_get {s : List Int} {k : Int} {i : Nat} {x : Int} (h : s[i]? = some x) : (markedI s k i)[i]? = some x := by
  unfold markedI markInts
  rw [List.getElem?_append_right (by simp)]
  simp [h]

theorem markedI_set {s : List Int} {k : Int} {i : Nat} {x : Int} (h : s[i]? = some x) : (markedI s k i).set i (k + (i : Int)) = markedI s k (i + 1) := by
  unfold markedI markInts
  rw [drop_cons h, List.set_append_right _ _ (by simp), List.range_succ, List.map_append]
  simp

theorem markedI_all {s : List Int} {k : Int} : markedI s k s.length = markInts s.length k := by simp [markedI]
theorem markedI_zero {s : List Int} {k : Int} : markedI s k 0 = s := by simp [markedI, markInts]
theorem dec_Int1 (r : List L) (h : F2 Has [.i .i64] r) : ∃ n : Int, r = ics n ∧ True := by
  obtain ⟨n, h, _⟩ := dec_int h
  exact ⟨n, h, trivial⟩

theorem dec_Ints {xs : List L} (h : F2 Has [.sl 8 [.i .i64]] xs) : ∃ v : List Int, xs = [.vs false (v.map ics)] ∧ v.length * 8 ≤ reachBytes := by
  rcases h with _ | ⟨h, h'⟩
  cases h'
  obtain ⟨v, rfl, _, h2⟩ := dec_list (cs := ics) (ok := fun _ => True) dec_Int1 h
  exact ⟨v, rfl, h2⟩
end Go.Ab
