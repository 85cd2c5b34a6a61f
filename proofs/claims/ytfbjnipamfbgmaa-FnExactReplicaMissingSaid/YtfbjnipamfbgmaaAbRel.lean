/- What an operation does to the world, and what then holds of the abstract view. -/
import Derived.Test.YtfbjnipamfbgmaaAbComp
set_option linter.unusedSimpArgs false
set_option linter.unusedVariables false
namespace Go.Ab

section
variable {base : Nat} {G A : Nat → Prop} {w0 : Base} {N : Nat} {st : St} {σ : Nat → Option Nat} {a : Act} {w : World}

theorem leafOf_ok {E : Env} {v : Value} {x : L} (h : leafOf v = some x) : K E x v ∧ x.pure = true ∧ v.oneCell' = true ∧ x ≠ .bad := by
  unfold leafOf at h
  split at h
  · cases h; exact ⟨⟨none, rfl⟩, rfl, rfl, by simp⟩
  · split at h
    · rename_i hl
      cases h
      refine ⟨⟨rfl, hl⟩, rfl, ?_, by simp⟩
      cases v <;> first | rfl | (simp [lit] at hl; done)
    · cases h

theorem mapM_F2 {α β : Type} {R : β → α → Prop} {f : α → Option β} (hf : ∀ a b, f a = some b → R b a) : ∀ {l : List α} {l' : List β}, l.mapM f = some l' → F2 R l' l
  | [], l', h => by simp at h; subst h; exact .nil
  | x :: l, l', h => by
    simp only [List.mapM_cons, Option.bind_eq_bind, Option.bind_eq_some_iff, Option.pure_def, Option.some.injEq] at h
    obtain ⟨b, hb, bs, hbs, rfl⟩ := h
    exact .cons (hf _ _ hb) (mapM_F2 hf hbs)

theorem opd_ok {E : Env} (ht : ∀ t, KP E (st.T t) (a.tmps.getD t undef)) {x : Operand} {y : Opd} (h : opd x = some y) : KP E (y.ev st.T) (a.eval x) := by
  cases x with
  | tmp t => simp [opd] at h; subst h; exact ht t
  | const v =>
    simp only [opd] at h
    split at h
    · rename_i cs
      simp at h
      obtain ⟨xs, hxs, rfl⟩ := h
      exact ⟨cs.toList, rfl, mapM_F2 (fun a b hb => (leafOf_ok hb).1) hxs⟩
    · simp at h
      obtain ⟨z, hz, rfl⟩ := h
      exact (leafOf_ok hz).1
  | global g => simp [opd] at h
  | func f =>
    simp [opd] at h
    subst h
    exact ⟨[], rfl, .nil⟩

theorem getD_put (a : Act) (d : Nat) (v : Value) (t : Nat) (hd : d < a.tmps.size) : (a.put (some d) v).tmps.getD t undef = if t = d then v else a.tmps.getD t undef := by
  simp only [Act.put, Array.getD_eq_getD_getElem?]
  by_cases h : t = d
  · subst h
    simp [hd]
  · rw [Array.getElem?_setIfInBounds_ne (by omega), if_neg h]

theorem Rel.put (R : Rel base G A w0 N st σ a w) {d : Option Nat} (hd : ∀ x, d = some x → x < N) {v : PV} {val : Value} (hv : KP (env st.H σ (may base G A) w) v val) :
    Rel base G A w0 N (st.put d v []) σ (a.put d val) w := by
  have hn := R.n
  cases d with
  | none => exact ⟨R.inj, R.obj, R.own, R.tmp, R.keep, R.size, R.os, R.tape, R.output, R.defs, R.n, R.grow, R.pin⟩
  | some d =>
    refine ⟨R.inj, R.obj, R.own, ?_, R.keep, R.size, R.os, R.tape, R.output, R.defs, by simp [Act.put, hn], R.grow, R.pin⟩
    intro t
    rw [getD_put _ _ _ _ (by rw [hn]; exact hd d rfl)]
    simp only [St.put, upd, updL]
    split
    · exact hv
    · exact R.tmp t

theorem Objs.mono {H H' : Nat → Option AObj} {σ σ' : Nat → Option Nat} {rd rd' : Bool → Nat → Prop} {w w' : World} (hle : (env H σ rd w).Le (env H' σ' rd' w'))
    {k : Nat} {o : AObj} (hs : σ' k = σ k) (hw : ∀ b c ty, σ k = some b → w.heap[b]? = some (.cells c ty (0, 0)) → w'.heap[b]? = some (.cells c ty (0, 0))) (h : ObjOk (env H σ rd w) w (σ k) o) : ObjOk (env H' σ' rd' w') w' (σ' k) o := by
  rw [hs]
  rcases h with h | ⟨b, c, ty, h1, h2, h3, h4, h5, h6⟩
  · exact .inl h
  · refine .inr ⟨b, c, ty, h1, hw b c ty h1 h2, h3, h4, h5, ?_⟩
    intro j t x r hr hx
    obtain ⟨y, hy, hk⟩ := h6 j t x r hr hx
    exact ⟨y, hy, hk.mono hle⟩

/-- Another world, other objects: what is still owed. -/
theorem Rel.turn (R : Rel base G A w0 N st σ a w) {H' : Nat → Option AObj} {σ' : Nat → Option Nat} {w' : World}
    (hle : (env st.H σ (may base G A) w).Le (env H' σ' (may base G A) w'))
    (inj : Inj H' σ') (obj : Objs H' σ' (may base G A) w') (own : ∀ k o b, H' k = some o → o.m ≠ 3 → σ' k = some b → base ≤ b ∨ G b)
    (keep : ∀ b, b < base → ¬ G b → w'.heap[b]? = w.heap[b]?) (size : w.heap.size ≤ w'.heap.size) (os : w'.os = w.os) (tape : w'.tape = w.tape) (output : w'.output = w.output) (grow : ∀ b, cellsAt w b ≤ cellsAt w' b)
    (pin : ∀ i o, i < 1000 → H' i = some o → o.m ≠ 3 → ∃ o1, st.H i = some o1 ∧ o1.m ≠ 3 ∧ σ' i = σ i) :
    Rel base G A w0 N ⟨st.T, H'⟩ σ' a w' :=
  ⟨inj, obj, own, fun t => (R.tmp t).mono hle, fun b hb hg => (keep b hb hg).trans (R.keep b hb hg), Nat.le_trans R.size size, os.trans R.os, tape.trans R.tape, output.trans R.output, R.defs, R.n, fun b => Nat.le_trans (R.grow b) (grow b),
    fun i o hi h hm => (pin i o hi h hm).elim fun o1 ⟨h1, h2, h3⟩ => h3.trans (R.pin i o1 hi h1 h2)⟩

theorem Rel.same (R : Rel base G A w0 N st σ a w) {w' : World} (hh : w'.heap = w.heap) (os : w'.os = w.os) (tape : w'.tape = w.tape) (output : w'.output = w.output) : Rel base G A w0 N st σ a w' := by
  have he : env st.H σ (may base G A) w' = env st.H σ (may base G A) w := by
    simp only [env, World.cell?, cellsAt, hh]
  refine ⟨R.inj, ?_, R.own, by rw [he]; exact R.tmp, fun b hb hg => by rw [hh]; exact R.keep b hb hg, by rw [hh]; exact R.size, os.trans R.os, tape.trans R.tape, output.trans R.output, R.defs, R.n, by simp only [cellsAt, hh]; exact R.grow, R.pin⟩
  intro k o hk hm3
  rw [he]
  rcases R.obj k o hk hm3 with h | ⟨b, c, ty, h1, h2, h⟩
  · exact .inl h
  · exact .inr ⟨b, c, ty, h1, by rw [hh]; exact h2, h⟩

theorem Rel.drew (R : Rel base G A w0 N st σ a w) : Rel base G A w0 N st σ a w.drew := R.same rfl rfl rfl rfl

theorem cellsAt_alloc (w : World) (o : Obj) (b : Nat) : cellsAt w b ≤ cellsAt (w.alloc o) b := by
  unfold cellsAt
  by_cases hb : b < w.heap.size
  · have : (w.alloc o).heap[b]? = w.heap[b]? := by simp only [World.alloc, Array.getElem?_push]; rw [if_neg (by omega)]
    rw [this]; exact Nat.le_refl _
  · rw [Array.getElem?_eq_none (by omega)]
    exact Nat.zero_le _

theorem cellsAt_setRow (w : World) {b : Nat} {cc new : Array Value} {ty : TypeId} (h : w.heap[b]? = some (.cells cc ty (0, 0))) (hs : new.size = cc.size) (b' : Nat) : cellsAt w b' ≤ cellsAt (w.setRow b new) b' := by
  unfold cellsAt
  by_cases hb : b' = b
  · subst hb; rw [setRow_heap w b' cc new ty (0, 0) h, h]; simp [hs]
  · rw [setRow_other w b b' new hb]; exact Nat.le_refl _

theorem ObjOk.lt {E : Env} {b : Nat} {o : AObj} (h : ObjOk E w (some b) o) : b < w.heap.size := by
  rcases h with h | ⟨b', c, ty, h1, h2, _⟩
  · simp at h
  · cases h1
    rcases Nat.lt_or_ge b w.heap.size with h' | h'
    · exact h'
    · simp [Array.getElem?_eq_none h'] at h2

/-- A new block of cells. -/
theorem envLe_alloc {H : Nat → Option AObj} {rd : Bool → Nat → Prop} {o : AObj} {k : Nat} (hk : H k = none) (ob : Obj) (hlt : ∀ k o b, H k = some o → o.m ≠ 3 → σ k = some b → b < w.heap.size) {b' : Option Nat} (hb : b' = some w.heap.size ∨ b' = none) :
    (env H σ rd w).Le (env (upd H k (some o)) (upd σ k b') rd (w.alloc ob)) := by
  have hne' : ∀ k' o', H k' = some o' → k' ≠ k := by rintro k' o' h rfl; rw [hk] at h; cases h
  constructor
  · rintro q ad v ⟨hc, hr, ho⟩
    have hl := World.block_lt_of_cell? w ad hc
    refine ⟨(World.cell?_alloc_lt w ob ad hl).trans hc, hr, ?_⟩
    intro k' o' h' hm
    simp only [upd] at h' ⊢
    split at h'
    · rename_i e
      rw [if_pos e]
      rcases hb with rfl | rfl
      · intro e'; simp at e'; omega
      · simp
    · rename_i e
      rw [if_neg e]
      exact ho k' o' h' hm
  · rintro k' ⟨o', ho', hm⟩
    have hne := hne' k' o' ho'
    refine .inr ⟨⟨o', by simp [upd, hne, ho'], hm⟩, by simp [env, upd, hne], by simp [env, upd, hne], ?_⟩
    simp only [env, upd, if_neg hne]
    cases hs : σ k' with
    | none => simp
    | some b =>
      have := hlt k' o' b ho' hm hs
      simp only [cellsAt, World.alloc, Array.getElem?_push]
      rw [if_neg (by omega)]
      exact Nat.le_refl _
  · rintro k' ⟨o', ho', hm⟩
    exact ⟨o', by simp [upd, hne' k' o' ho', ho'], hm⟩

theorem Rel.lt (R : Rel base G A w0 N st σ a w) : ∀ k o b, st.H k = some o → o.m ≠ 3 → σ k = some b → b < w.heap.size := by
  intro k o b h hm hb
  have := R.obj k o h hm
  rw [hb] at this
  exact this.lt

theorem Rel.alloc (R : Rel base G A w0 N st σ a w) {k : Nat} (hk : st.H k = none) (hk' : 1000 ≤ k) {c : Array Value} {ty : TypeId} {o : AObj}
    (he : ∀ x ∈ o.es, x.length = o.e) (hsz : o.es.length * o.e ≤ c.size) (hpl : o.pl = true → ∀ r ∈ o.es, ∀ x ∈ r, x.pure = true)
    (hc : ∀ j t x r, o.es[j]? = some r → r[t]? = some x → ∃ y, c[j * o.e + t]? = some y ∧ K (env st.H σ (may base G A) w) x y) :
    Rel base G A w0 N ⟨st.T, upd st.H k (some o)⟩ (upd σ k (some w.heap.size)) a (w.alloc (.cells c ty)) := by
  have hle := envLe_alloc (σ := σ) (rd := may base G A) (o := o) hk (.cells c ty) R.lt (.inl rfl)
  have hold : ∀ b, b < w.heap.size → (w.alloc (.cells c ty)).heap[b]? = w.heap[b]? := fun b hb => by
    simp only [World.alloc, Array.getElem?_push]; rw [if_neg (by omega)]
  refine R.turn hle ?_ ?_ ?_ (fun b hb _ => hold b (Nat.lt_of_lt_of_le hb R.size)) (by simp) rfl rfl rfl (cellsAt_alloc w _) (fun i o1 hi h hm => ⟨o1, by simpa [upd, show i ≠ k by omega] using h, hm, by simp [upd, show i ≠ k by omega]⟩)
  · intro k1 k2 o1 o2 b h1 h2 hb1 hb2
    simp only [upd] at h1 h2 hb1 hb2
    split at h1 <;> split at h2
    · exact .inl (by omega)
    · rename_i e1 e2
      rw [if_pos e1] at hb1
      rw [if_neg e2] at hb2
      by_cases hm : o2.m = 3
      · exact .inr (.inr (.inl hm))
      · have := R.lt k2 o2 b h2 hm hb2
        simp at hb1; omega
    · rename_i e1 e2
      rw [if_pos e2] at hb2
      rw [if_neg e1] at hb1
      by_cases hm : o1.m = 3
      · exact .inr (.inl hm)
      · have := R.lt k1 o1 b h1 hm hb1
        simp at hb2; omega
    · rename_i e1 e2
      rw [if_neg e2] at hb2
      rw [if_neg e1] at hb1
      exact R.inj k1 k2 o1 o2 b h1 h2 hb1 hb2
  · intro k1 o1 h1 hm1
    by_cases e1 : k1 = k
    · subst e1
      simp only [upd, if_true] at h1 ⊢
      cases h1
      refine .inr ⟨_, c, ty, rfl, heap_alloc_new w _, he, hsz, hpl, ?_⟩
      intro j t x r hr hx
      obtain ⟨y, hy, hK⟩ := hc j t x r hr hx
      exact ⟨y, hy, hK.mono hle⟩
    · have h1' : st.H k1 = some o1 := by simpa [upd, e1] using h1
      refine Objs.mono hle (by simp [upd, e1]) ?_ (R.obj k1 o1 h1' hm1)
      intro b c' ty' hb hh
      rw [hold b (R.lt k1 o1 b h1' hm1 hb)]
      exact hh
  · intro k1 o1 b h1 hm1 hb
    simp only [upd] at h1 hb
    split at h1
    · rename_i e1
      rw [if_pos e1] at hb
      simp at hb; subst hb
      exact .inl R.size
    · rename_i e1
      rw [if_neg e1] at hb
      exact R.own k1 o1 b h1 hm1 hb

/-- An object without cells, and without a block. -/
theorem Rel.airy (R : Rel base G A w0 N st σ a w) {k : Nat} (hk : st.H k = none) (hk' : 1000 ≤ k) (o : AObj) (ho : o.es = []) :
    Rel base G A w0 N ⟨st.T, upd st.H k (some o)⟩ (upd σ k none) a w := by
  have hne' : ∀ k' o', st.H k' = some o' → k' ≠ k := by rintro k' o' h rfl; rw [hk] at h; cases h
  have hle : (env st.H σ (may base G A) w).Le (env (upd st.H k (some o)) (upd σ k none) (may base G A) w) := by
    constructor
    · rintro q ad v ⟨hc, hr, ho'⟩
      refine ⟨hc, hr, ?_⟩
      intro k' o' h' hm
      simp only [upd] at h' ⊢
      split at h'
      · rename_i e; rw [if_pos e]; simp
      · rename_i e; rw [if_neg e]; exact ho' k' o' h' hm
    · rintro k' ⟨o', ho', hm⟩
      have hne := hne' k' o' ho'
      exact .inr ⟨⟨o', by simp [upd, hne, ho'], hm⟩, by simp [env, upd, hne], by simp [env, upd, hne], by simp [env, upd, hne]⟩
    · rintro k' ⟨o', ho', hm⟩
      exact ⟨o', by simp [upd, hne' k' o' ho', ho'], hm⟩
  refine R.turn hle ?_ ?_ ?_ (fun _ _ _ => rfl) (Nat.le_refl _) rfl rfl rfl (fun _ => Nat.le_refl _) (fun i o1 hi h hm => ⟨o1, by simpa [upd, show i ≠ k by omega] using h, hm, by simp [upd, show i ≠ k by omega]⟩)
  · intro k1 k2 o1 o2 b h1 h2 hb1 hb2
    simp only [upd] at h1 h2 hb1 hb2
    split at hb1
    · simp at hb1
    · split at hb2
      · simp at hb2
      · rename_i e1 e2
        rw [if_neg e1] at h1
        rw [if_neg e2] at h2
        exact R.inj k1 k2 o1 o2 b h1 h2 hb1 hb2
  · intro k1 o1 h1 hm1
    by_cases e1 : k1 = k
    · subst e1
      simp only [upd, if_true] at h1 ⊢
      cases h1
      exact .inl ⟨rfl, ho⟩
    · have h1' : st.H k1 = some o1 := by simpa [upd, e1] using h1
      exact Objs.mono hle (by simp [upd, e1]) (fun _ _ _ _ hh => hh) (R.obj k1 o1 h1' hm1)
  · intro k1 o1 b h1 hm1 hb
    simp only [upd] at h1 hb
    split at hb
    · simp at hb
    · rename_i e1
      rw [if_neg e1] at h1
      exact R.own k1 o1 b h1 hm1 hb
end

end Go.Ab
