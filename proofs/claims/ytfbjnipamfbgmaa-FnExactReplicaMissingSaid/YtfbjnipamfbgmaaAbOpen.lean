/- What a call is handed, read as the form reads it: its leaves, by the shapes of its type. -/
import Derived.Test.YtfbjnipamfbgmaaAbRun
import Derived.ChangeArms
import Derived.SizedLaws
import Derived.Below
import Derived.Carry
import Derived.ChangeOld
import GoSem.ClaimWide
set_option linter.unusedSimpArgs false
set_option linter.unusedVariables false
namespace Go.Ab

/-- The shape of a cell. sl: a slice of rows of cells; bytes: how many a row takes. -/
inductive Sh where
  | i (k : IntKind)
  | b
  | s
  | sl (bytes : Nat) (row : List Sh)

/-- A leaf of a shape. -/
inductive Has : Sh → L → Prop where
  | i {k : IntKind} {n : Int} (h : (Lit.int k n).wf = true) : Has (.i k) (.v (.int k n))
  | b (x : Bool) : Has .b (.v (.bool x))
  | s {y : ByteArray} (h : y.size ≤ reachBytes) : Has .s (.v (.string y))
  | sl {bytes : Nat} {row : List Sh} {xs : List (List L)} (hb : xs.length * bytes ≤ reachBytes) (hl : ∀ r ∈ xs, r.length = row.length) (h : ∀ r ∈ xs, ∀ (j : Nat) (z : Sh) (x : L), row[j]? = some z → r[j]? = some x → Has z x) : Has (.sl bytes row) (.vs false xs)

/-- A struct's shape: field behind field. -/
def shFields (P : Program) (sh : TypeId → Option (List Sh)) : List Field → Nat → Option (List Sh)
  | [], _ => some []
  | f :: fs, off => if f.offset = off then
      match sh f.type with
      | some l => if l.length = P.cellsOf f.type then (shFields P sh fs (off + l.length)).map (l ++ ·) else none
      | none => none
    else none

def shOf (P : Program) : Nat → TypeId → Option (List Sh)
  | 0, _ => none
  | n + 1, t => match P.underlying t with
    | some .bool => some [.b]
    | some (.int k) => some [.i k]
    | some .string => some [.s]
    | some (.slice e) => match shOf P n e with
      | some row => if row.length = P.cellsOf e then some [.sl (P.bytesOf e) row] else none
      | none => none
    | some (.struct fs) => match shFields P (shOf P n) fs.toList 0 with
      | some l => if l.length = P.cellsOf t then some l else none
      | none => none
    | _ => none

theorem mapM_get {α β : Type} {f : α → Option β} : ∀ {l : List α} {l' : List β}, l.mapM f = some l' → l'.length = l.length ∧ ∀ (i : Nat) (x : α), l[i]? = some x → f x = l'[i]?
  | [], l', h => by cases h; simp
  | a :: l, l', h => by
    simp only [List.mapM_cons, Option.bind_eq_bind, Option.bind_eq_some_iff, Option.pure_def, Option.some.injEq] at h
    obtain ⟨y, h1, ys, h2, rfl⟩ := h
    obtain ⟨h3, h4⟩ := mapM_get h2
    refine ⟨by simp [h3], ?_⟩
    intro i x hx
    cases i with
    | zero => simp at hx; subst hx; simpa using h1
    | succ i => simpa using h4 i x (by simpa using hx)

theorem cells?_get {w : World} {a : Addr} {n : Nat} {cs : List Value} (h : w.cells? 0 a n = some cs) : cs.length = n ∧ ∀ t, t < n → w.cell? (a.add t) = cs[t]? := by
  unfold World.cells? at h
  rw [if_pos (Nat.zero_le _)] at h
  obtain ⟨h1, h2⟩ := mapM_get h
  refine ⟨by simpa using h1, fun t ht => h2 t t (by simp [ht])⟩

variable {H : Type} {enc : TypeId × Value → H} {P : Program} {w : World} {spare : Nat → Bool} {held : Bool} {rd : Bool → Addr → Value → Prop}

theorem weightsAll_mem {e : TypeId} : ∀ {ds : List (DataW H)} {d : DataW H}, d ∈ ds → ∀ n ∈ d.weights P e, n ∈ DataW.weightsAll P e ds
  | d0 :: ds, d, hd, n, hn => by
    simp only [DataW.weightsAll, List.mem_append]
    rcases List.mem_cons.mp hd with rfl | hd
    · exact .inl hn
    · exact .inr (weightsAll_mem hd n hn)

def Light (P : Program) (t : TypeId) (d : DataW H) : Prop := ∀ n ∈ d.weights P t, n ≤ reachBytes

/-- The leaves of cells. -/
def Leaves (rd : Bool → Addr → Value → Prop) (l : List Sh) (cs : List Value) : Prop := ∃ xs, F2 Has l xs ∧ F2 (KV rd) xs cs

theorem Leaves.append {l l' : List Sh} {cs cs' : List Value} (h : Leaves rd l cs) (h' : Leaves rd l' cs') : Leaves rd (l ++ l') (cs ++ cs') := by
  obtain ⟨xs, h1, h2⟩ := h
  obtain ⟨ys, h3, h4⟩ := h'
  exact ⟨xs ++ ys, h1.append h3, h2.append h4⟩

theorem Leaves.len {l : List Sh} {cs : List Value} (h : Leaves rd l cs) : l.length = cs.length := by
  obtain ⟨xs, h1, h2⟩ := h
  rw [h1.length, h2.length]

theorem open_fields {n : Nat} {cs : List Value} (ih : ∀ (t : TypeId) (l : List Sh) (cs : List Value) (x : DataW H × List MemPlace), shOf P n t = some l → (∃ fuel, DataW.trod enc P w 0 spare held fuel t cs = some x) → Light P t x.1 → Leaves rd l cs) :
    ∀ (fs : List Field) (off : Nat) (l : List Sh) (xs : List (DataW H × List MemPlace)), shFields P (shOf P n) fs off = some l → off + l.length ≤ cs.length → xs.length = fs.length →
      (∀ (i : Nat) (f : Field) (x : DataW H × List MemPlace), fs[i]? = some f → xs[i]? = some x → ∃ fuel, DataW.trod enc P w 0 spare held fuel f.type ((cs.drop f.offset).take (P.cellsOf f.type)) = some x) →
      (∀ n ∈ DataW.weightsEach P (fs.map (·.type)) (xs.map (·.1)), n ≤ reachBytes) → Leaves rd l ((cs.drop off).take l.length)
  | [], off, l, xs, h, hl, hx, ht, hw => by
    cases h
    exact ⟨[], .nil, by simpa using F2.nil⟩
  | f :: fs, off, l, xs, h, hl, hx, ht, hw => by
    simp only [shFields] at h
    split at h
    · rename_i hoff
      split at h
      · rename_i l1 h1
        split at h
        · rename_i hn
          simp only [Option.map_eq_some_iff] at h
          obtain ⟨l2, h2, rfl⟩ := h
          cases xs with
          | nil => simp at hx
          | cons x xs =>
            simp only [List.map_cons, DataW.weightsEach, List.mem_append] at hw
            have k1 := ih f.type l1 _ x h1 (ht 0 f x rfl rfl) (fun n hn => hw n (.inl hn))
            simp only [List.length_append] at hl
            have k2 := open_fields ih fs (off + l1.length) l2 xs h2 (by omega) (by simpa using hx) (fun i f x hf hx => ht (i + 1) f x (by simpa using hf) (by simpa using hx)) (fun n hn => hw n (.inr hn))
            have k := k1.append k2
            rw [hoff, ← hn] at k
            have e : (cs.drop off).take (l1.length + l2.length) = (cs.drop off).take l1.length ++ ((cs.drop (off + l1.length)).take l2.length) := by
              rw [List.take_add, List.drop_drop]
            rw [List.length_append, e]
            exact k
        · cases h
      · cases h
    · cases h

theorem open_sh (hrd : ∀ a v, w.cell? a = some v → rd false a v) : ∀ (n : Nat) (t : TypeId) (l : List Sh) (cs : List Value) (x : DataW H × List MemPlace), shOf P n t = some l → (∃ fuel, DataW.trod enc P w 0 spare held fuel t cs = some x) → Light P t x.1 → Leaves rd l cs
  | 0, _, _, _, _, h, _, _ => by cases h
  | n + 1, t, l, cs, x, h, ⟨fuel, ht⟩, hw => by
    simp only [shOf] at h
    split at h
    · rename_i hu
      cases h
      obtain ⟨b, rfl, rfl⟩ := DataW.trod_bool hu ht
      exact ⟨[.v (.bool b)], .cons (.b b) .nil, .cons (.v rfl) .nil⟩
    · rename_i k hu
      cases h
      obtain ⟨m, rfl, rfl, hwf⟩ := DataW.trod_int hu ht
      exact ⟨[.v (.int k m)], .cons (.i hwf) .nil, .cons (.v rfl) .nil⟩
    · rename_i hu
      cases h
      obtain ⟨y, rfl, rfl, hs⟩ := DataW.trod_string hu ht
      refine ⟨[.v (.string y)], .cons (.s ?_) .nil, .cons (.v rfl) .nil⟩
      have := hw y.data.toList.length (by simp [DataW.weights])
      simpa using this
    · rename_i e hu
      split at h
      · rename_i row hr
        split at h
        · rename_i hrow
          cases h
          rcases DataW.trod_slice hu ht with ⟨rfl, rfl⟩ | ⟨a, len, cap, elems, rest, m, _, rfl, rfl, _, hl, hm, hlen, hel, _⟩
          · refine ⟨[.vs false []], .cons (.sl (by simp) (by simp) (by simp)) .nil, .cons ?_ .nil⟩
            exact KV.vs (xs := []) ⟨0, 0, none⟩ 0 (fun _ _ => undef) (Nat.zero_le _) (Nat.zero_le _) (.inl rfl) (by simp) (by intro j t hj; simp at hj) (by intro j t hj; simp at hj)
          · have hw' : ∀ n ∈ (DataW.slice (elems.map (·.1)) (rest.map (·.1)) : DataW H).weights P t, n ≤ reachBytes := hw
            simp only [DataW.weights, hu, List.mem_cons, List.mem_append] at hw'
            have each : ∀ i, i < len → ∃ cs', cs'.length = P.cellsOf e ∧ (∀ t, t < P.cellsOf e → w.cell? (a.add (i * P.cellsOf e + t)) = cs'[t]?) ∧ Leaves rd row cs' := by
              intro i hi
              have := hel i hi
              rw [List.getElem?_eq_getElem (by omega), Option.bind_eq_some_iff] at this
              obtain ⟨cs', h1, h2⟩ := this
              obtain ⟨h3, h4⟩ := cells?_get h1
              refine ⟨cs', h3, fun t ht => by rw [← h4 t ht, add_add], open_sh hrd n e row cs' _ hr ⟨m, h2⟩ ?_⟩
              intro z hz
              exact hw' z (.inr (.inl (weightsAll_mem (List.mem_map_of_mem (List.getElem_mem _)) z hz)))
            have each' : ∀ i, ∃ ys : List L × List Value, i < len → ys.2.length = P.cellsOf e ∧ (∀ t, t < P.cellsOf e → w.cell? (a.add (i * P.cellsOf e + t)) = ys.2[t]?) ∧ F2 Has row ys.1 ∧ F2 (KV rd) ys.1 ys.2 := by
              intro i
              by_cases hi : i < len
              · obtain ⟨cs', h1, h2, xs, h3, h4⟩ := each i hi
                exact ⟨(xs, cs'), fun _ => ⟨h1, h2, h3, h4⟩⟩
              · exact ⟨([], []), fun h => absurd h hi⟩
            obtain ⟨ys, hys⟩ := Classical.axiomOfChoice each'
            let xs : List (List L) := (List.range len).map fun i => (ys i).1
            have hxl : xs.length = len := by simp [xs]
            have hmem : ∀ r ∈ xs, ∃ i, i < len ∧ r = (ys i).1 := by
              intro r hr
              obtain ⟨i, hi, rfl⟩ := List.mem_map.mp hr
              exact ⟨i, by simpa using hi, rfl⟩
            refine ⟨[.vs false xs], .cons (.sl ?_ ?_ ?_) .nil, .cons ?_ .nil⟩
            · rw [hxl]
              have := hw' _ (.inl rfl)
              simp only [List.length_map, hlen] at this
              exact Nat.le_trans (Nat.mul_le_mul_right _ (by omega)) this
            · intro r hr
              obtain ⟨i, hi, rfl⟩ := hmem r hr
              exact (hys i hi).2.2.1.length.symm
            · intro r hr j z x hs hx
              obtain ⟨i, hi, rfl⟩ := hmem r hr
              obtain ⟨x', hx', hh⟩ := (hys i hi).2.2.1.get hs
              rw [hx] at hx'; cases hx'
              exact hh
            · have hk : KV rd (.vs false xs) (.slice (some a) xs.length cap) := by
                refine KV.vs a (P.cellsOf e) (fun j t => ((ys j).2[t]?).getD undef) (by omega) hm (.inr rfl) ?_ ?_ ?_
                · intro r hr
                  obtain ⟨i, hi, rfl⟩ := hmem r hr
                  rw [← (hys i hi).2.2.1.length, hrow]
                · intro j t hj ht
                  rw [hxl] at hj
                  have hlt : t < (ys j).2.length := by rw [(hys j hj).1]; exact ht
                  refine hrd _ _ ?_
                  rw [(hys j hj).2.1 t ht, List.getElem?_eq_getElem hlt]
                  rfl
                · intro j t hj ht
                  have hj' : j < len := by rw [hxl] at hj; exact hj
                  have ej : xs[j] = (ys j).1 := by simp [xs]
                  obtain ⟨y, hy, hky⟩ := (hys j hj').2.2.2.get (List.getElem?_eq_getElem (l := (ys j).1) (i := t) (by rw [← ej]; exact ht))
                  simp only [hy, Option.getD_some]
                  have e2 : xs[j][t] = (ys j).1[t]'(by rw [← ej]; exact ht) := by simp [xs]
                  rw [e2]
                  exact hky
              rw [hxl] at hk
              exact hk
        · cases h
      · cases h
    · rename_i fs hu
      split at h
      · rename_i l' hf
        split at h
        · rename_i hl
          cases h
          obtain ⟨xs, m, _, rfl, hcl, hxl, hi⟩ := DataW.trod_struct hu ht
          have hw' : ∀ n ∈ (DataW.agg (xs.map (·.1)) : DataW H).weights P t, n ≤ reachBytes := hw
          simp only [DataW.weights, hu] at hw'
          have := open_fields (cs := cs) (fun t l cs x h ht hw => open_sh hrd n t l cs x h ht hw) fs.toList 0 l xs hf (by omega) (by simpa using hxl)
            (fun i f x hf hx => ⟨m, by rw [hi i f (by simpa using hf), hx]⟩) hw'
          rw [List.drop_zero, List.take_of_length_le (by omega)] at this
          exact this
        · cases h
      · cases h
    · cases h
/-- An argument, by its leaves. -/
def argOf (agg : Bool) (xs : List L) : PV := if agg then .agg xs else .l (xs.headD .bad)

theorem one_cell {n : Nat} {t : TypeId} {l : List Sh} {base : Nat} {v : Value} {r : Reach} (hs : shOf P n t = some l) (hg : aggP P t = some false) (hok : Value.okWide P w r base t v) : v.cells.toList = [v] := by
  cases n with
  | zero => cases hs
  | succ n =>
    simp only [shOf] at hs
    simp only [aggP] at hg
    split at hs
    · rename_i hu; simp only [Value.okWide, hu, Cell.okWide] at hok; cases v <;> simp_all [Value.cells, Cell.ok]
    · rename_i k hu; simp only [Value.okWide, hu, Cell.okWide] at hok; cases v <;> simp_all [Value.cells, Cell.ok]
    · rename_i hu; simp only [Value.okWide, hu, Cell.okWide] at hok; cases v <;> simp_all [Value.cells, Cell.ok]
    · rename_i e hu; simp only [Value.okWide, hu, Cell.okWide] at hok; cases v <;> simp_all [Value.cells, Cell.ok]
    · rename_i fs hu; rw [hu] at hg; cases hg
    · cases hs

theorem agg_cells {n : Nat} {t : TypeId} {l : List Sh} {base : Nat} {v : Value} {r : Reach} (hs : shOf P n t = some l) (hg : aggP P t = some true) (hok : Value.okWide P w r base t v) : ∃ cs, v = .agg cs := by
  cases n with
  | zero => cases hs
  | succ n =>
    simp only [shOf] at hs
    simp only [aggP] at hg
    split at hs
    · rename_i hu; rw [hu] at hg; cases hg
    · rename_i k hu; rw [hu] at hg; cases hg
    · rename_i hu; rw [hu] at hg; cases hg
    · rename_i e hu; rw [hu] at hg; cases hg
    · rename_i fs hu
      simp only [Value.okWide, hu] at hok
      obtain ⟨cs, h, _⟩ := hok
      exact ⟨cs, h⟩
    · cases hs

def env0 (w : World) : Env := env (fun k => ([] : List AObj)[k]?) (fun _ => none) (fun q _ => q = true → False) w

theorem open_arg {n : Nat} {t : TypeId} {l : List Sh} {base : Nat} {v : Value} {r : Reach} {agg : Bool} {d : DataW H} {ps : List MemPlace} (hs : shOf P n t = some l) (hg : aggP P t = some agg) (hok : Value.okWide P w r base t v)
    (ht : DataW.Trod enc P w 0 spare held t v d ps) (hw : Light P t d) : ∃ xs, F2 Has l xs ∧ KP1 (env0 w) (argOf agg xs) v := by
  have hrd : ∀ a u, w.cell? a = some u → (env0 w).rd false a u := fun a u h => ⟨h, (fun e => by cases e), (fun k o hk => by simp at hk)⟩
  obtain ⟨xs, h1, h2⟩ := open_sh (rd := (env0 w).rd) hrd n t l v.cells.toList (d, ps) hs ht hw
  refine ⟨xs, h1, ?_⟩
  cases agg with
  | true =>
    obtain ⟨cs, rfl⟩ := agg_cells hs hg hok
    exact ⟨cs.toList, rfl, h2.mono fun _ _ h => K_of_KV h⟩
  | false =>
    rw [one_cell hs hg hok] at h2
    cases h2 with
    | cons h h' => cases h'; exact K_of_KV h

theorem light_of {ts : List TypeId} {ds : List (DataW H)} {j : Nat} {t : TypeId} {d : DataW H} (h : (DataW.weightsEach P ts ds).all (· ≤ reachBytes) = true) (ht : ts[j]? = some t) (hd : ds[j]? = some d) : Light P t d := by
  intro n hn
  simpa using List.all_eq_true.1 h _ (DataW.weights_mem_each ht hd n hn)

theorem trod_blocks {n : Nat} {t : TypeId} {v : Value} {d : DataW H} {ps : List MemPlace} (h : DataW.Trod enc P w n spare held t v d ps) : ∀ x ∈ ps, x.block < w.heap.size := by
  obtain ⟨m, hm⟩ := h
  exact DataW.trod_lt m _ _ _ hm

/-- A law's call returns true, and leaves what there was. -/
theorem calls_true {f : FuncId} {args : List PV} {cargs : List Value} (h : CallOk P f args [] (.l (.v (.bool true))) [] []) (hF : F2 (KP1 (env0 w)) args cargs) : Calls P f cargs.toArray w fun e w' => e = .returned (.bool true) ∧ RowKit.Below w.heap.size w w' := by
  refine (h.2 w (fun _ => False) (fun _ => none) cargs ?_ ?_ ?_ hF).mono ?_
  · intro k k' o o' b hk; simp at hk
  · intro k o hk; simp at hk
  · intro i b hi; simp at hi
  · rintro e w' ⟨v, σ', rfl, hp⟩
    have hv : v = .bool true := hp.val.1
    exact ⟨by rw [hv], hp.os, hp.tape, hp.output, hp.size, fun k hk => hp.keep k hk (by intro i hi; simp at hi)⟩

theorem dec_list {α : Type} {bytes : Nat} {row : List Sh} {x : L} {cs : α → List L} {ok : α → Prop} (hd : ∀ r, F2 Has row r → ∃ o, r = cs o ∧ ok o) (h : Has (.sl bytes row) x) : ∃ os : List α, x = .vs false (os.map cs) ∧ (∀ o ∈ os, ok o) ∧ os.length * bytes ≤ reachBytes := by
  cases h with
  | sl hb hl hh =>
    rename_i xs
    suffices ∃ os : List α, xs = os.map cs ∧ ∀ o ∈ os, ok o by
      obtain ⟨os, rfl, h⟩ := this
      exact ⟨os, rfl, h, by simpa using hb⟩
    clear hb
    induction xs with
    | nil => exact ⟨[], rfl, by simp⟩
    | cons r xs ih =>
      obtain ⟨os, h1, h2⟩ := ih (fun r hr => hl r (by simp [hr])) (fun r hr => hh r (by simp [hr]))
      obtain ⟨o, rfl, ho⟩ := hd r (F2.of_get (hl r (by simp)).symm fun i a b ha hb => hh r (by simp) i a b ha hb)
      refine ⟨o :: os, by rw [h1]; rfl, ?_⟩
      intro o' ho'
      rcases List.mem_cons.mp ho' with rfl | h
      · exact ho
      · exact h2 o' h
end Go.Ab
