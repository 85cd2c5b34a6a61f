/- Each plain operation does what the abstract view says: part 9 (append). -/
import Derived.Test.YtfbjnipamfbgmaaAbSound8
set_option linter.unusedSimpArgs false
set_option linter.unusedVariables false
namespace Go.Ab
section
variable {P : Program} {base : Nat} {G A : Nat → Prop} {w0 : Base} {N : Nat} {st : St} {σ : Nat → Option Nat} {a : Act} {w : World} {o : Oper} {r : CallRes} {ρ : Nat → Option AObj} {fr : Nat → Bool} {d : Nat} {c : Prop} {v : PV} {Δ : List (Nat × Option AObj)}

/-- Rows of leaves, cell by cell at an address. -/
theorem cells_of {E : Env} {ys : List (List L)} {e : Nat} (he : ∀ x ∈ ys, x.length = e) (ad : Addr) (g : Nat → Nat → Value)
    (hk : ∀ j t x r, ys[j]? = some r → r[t]? = some x → K E x (g j t)) (hw : ∀ j t, j < ys.length → t < e → w.cell? (ad.add (j * e + t)) = some (g j t)) :
    ∃ cells : List Value, cells.length = ys.length * e ∧ F2 (K E) ys.flatten cells ∧ ∀ i u, cells[i]? = some u → w.cell? (ad.add i) = some u := by
  have hfl := flatten_length he
  rcases Nat.eq_zero_or_pos e with h0 | hpos
  · refine ⟨[], by simp [h0], ?_, by simp⟩
    have : ys.flatten = [] := List.eq_nil_of_length_eq_zero (by rw [hfl, h0, Nat.mul_zero])
    rw [this]; exact .nil
  · have hdm : ∀ i, i < ys.length * e → i / e < ys.length ∧ i % e < e ∧ i / e * e + i % e = i := fun i hi =>
      ⟨Nat.div_lt_of_lt_mul (by rw [Nat.mul_comm]; exact hi), Nat.mod_lt _ hpos, by rw [Nat.mul_comm]; exact Nat.div_add_mod i e⟩
    refine ⟨(List.range (ys.length * e)).map fun i => g (i / e) (i % e), by simp, ?_, ?_⟩
    · apply F2.of_get
      · simp [hfl]
      · intro i x u hx hu
        have hi : i < ys.length * e := by rw [← hfl]; exact (List.getElem?_eq_some_iff.mp hx).1
        simp [hi] at hu
        subst hu
        obtain ⟨h1, h2, h3⟩ := hdm i hi
        have hr : ys[i / e]? = some ys[i / e] := List.getElem?_eq_getElem h1
        have ht : ys[i / e][i % e]? = some (ys[i / e][i % e]'(by rw [he _ (List.getElem_mem h1)]; exact h2)) := List.getElem?_eq_getElem _
        have := flatten_get he hr ht
        rw [h3, hx] at this
        cases this
        exact hk _ _ _ _ hr ht
    · intro i u hu
      have hi : i < ys.length * e := by simpa using (List.getElem?_eq_some_iff.mp hu).1
      simp [hi] at hu
      subst hu
      obtain ⟨h1, h2, h3⟩ := hdm i hi
      have := hw _ _ h1 h2
      rw [h3] at this
      exact this

/-- The rows that append takes over. -/
structure News (P : Program) (E : Env) (w : World) (e : Nat) (y : Value) (pl : Bool) (ys : List (List L)) (cells : List Value) : Prop where
  len : (Builtin.lenOf y).run P w = .ok ys.length w
  row : ∀ x ∈ ys, x.length = e
  pl : pl = true → ∀ r ∈ ys, ∀ x ∈ r, x.pure = true
  F : F2 (K E) ys.flatten cells
  clen : cells.length = ys.length * e
  run : ∀ w', w'.heap = w.heap → (Builtin.firstCells e ys.length y).run P w' = .ok ⟨cells⟩ w'

theorem one_of_F2 {E : Env} {xs : List L} {cells : List Value} (h : F2 (K E) xs cells) (hb : ∀ x ∈ xs, x ≠ .bad) : ∀ u ∈ cells, u.oneCell' = true := by
  induction h with
  | nil => simp
  | cons hab _ ih =>
    intro u hu
    rcases List.mem_cons.mp hu with rfl | hu
    · exact K_oneCell hab (hb _ (by simp))
    · exact ih (fun x hx => hb x (by simp [hx])) u hu

theorem pure_ne_bad {x : L} (h : x.pure = true) : x ≠ .bad := by rintro rfl; simp [L.pure] at h

theorem cell?_heap {w w' : World} (h : w'.heap = w.heap) (x : Addr) : w'.cell? x = w.cell? x := by simp only [World.cell?, h]

theorem KV_pure {rd : Bool → Addr → Value → Prop} {x : L} {y : Value} (h : KV rd x y) : x.pure = true := by cases h <;> rfl

theorem news_own (R : Rel base G A w0 N st σ a w) {k off n : Nat} {ob : AObj} {y : Value} (hk : st.H k = some ob) (hm3 : ob.m ≠ 3) (h : K (env st.H σ (may base G A) w) (.sl k off n) y) (hn : off + n ≤ ob.es.length) :
    ∃ cells, News P (env st.H σ (may base G A) w) w ob.e y ob.pl ((ob.es.drop off).take n) cells := by
  obtain ⟨ad, cap, rfl, hcm, hh⟩ := K_sl h hk hm3
  have hlen : ((ob.es.drop off).take n).length = n := by simp; omega
  have hsub : ∀ x ∈ (ob.es.drop off).take n, x ∈ ob.es := fun x hx => List.mem_of_mem_drop (List.mem_of_mem_take hx)
  rcases R.obj k ob hk hm3 with ⟨hs, hes⟩ | ⟨b, c, ty, hs, h2, h3, h4, h5, h6⟩
  · have hn0 : n = 0 := by rw [hes] at hn; simp at hn; omega
    subst hn0
    refine ⟨[], ⟨by simp [Builtin.lenOf], by simp, by simp, by simp; exact .nil, by simp, ?_⟩⟩
    intro w' _
    cases ad <;> simp [Builtin.firstCells, loadCells, loadCellsFrom]
  · by_cases hn0 : n = 0
    · subst hn0
      refine ⟨[], ⟨by simp [Builtin.lenOf], by simp, by simp, by simp; exact .nil, by simp, ?_⟩⟩
      intro w' _
      cases ad <;> simp [Builtin.firstCells, loadCells, loadCellsFrom]
    · rcases hh with ⟨h, _⟩ | ⟨b', hb', rfl, _, _⟩
      · exact absurd h hn0
      · rw [hs] at hb'; cases hb'
        have hget : ∀ j, ((ob.es.drop off).take n)[j]? = if j < n then ob.es[off + j]? else none := by
          intro j; rw [List.getElem?_take]; split <;> simp
        have he : ∀ x ∈ (ob.es.drop off).take n, x.length = ob.e := fun x hx => h3 x (hsub x hx)
        obtain ⟨cells, c1, c2, c3⟩ := cells_of (w := w) (E := env st.H σ (may base G A) w) he ⟨b, off * ob.e, none⟩ (fun j t => c.getD ((off + j) * ob.e + t) undef) (by
          intro j t x r hr hx
          rw [hget] at hr
          split at hr
          · obtain ⟨u, hu, hK⟩ := h6 (off + j) t x r hr hx
            rw [Array.getD_eq_getD_getElem?, hu]
            exact hK
          · cases hr) (by
          intro j t hj ht
          rw [hlen] at hj
          rw [addr_add]
          simp only [World.cell?, h2]
          have hjl : off + j < ob.es.length := by omega
          have hr : ob.es[off + j]? = some ob.es[off + j] := List.getElem?_eq_getElem hjl
          have hx : ob.es[off + j][t]? = some (ob.es[off + j][t]'(by rw [h3 _ (List.getElem_mem hjl)]; exact ht)) := List.getElem?_eq_getElem _
          obtain ⟨u, hu, hK⟩ := h6 (off + j) t _ _ hr hx
          rw [show off * ob.e + (j * ob.e + t) = (off + j) * ob.e + t from by rw [Nat.add_mul]; omega]
          rw [Array.getD_eq_getD_getElem?, hu]
          simp)
        refine ⟨cells, ⟨by simp [Builtin.lenOf, hlen], he, fun hp r hr x hx => h5 hp r (hsub r hr) x hx, c2, c1, ?_⟩⟩
        · intro w' hw'
          refine run_first c1 (.inr ⟨_, _, by rw [hlen], fun i u hu => ?_⟩)
          rw [cell?_heap hw']
          exact c3 i u hu

theorem news_vs {E : Env} (hrd : ∀ q ad u, E.rd q ad u → w.cell? ad = some u) {q : Bool} {ys : List (List L)} {e : Nat} {y : Value} (h : K E (.vs q ys) y) (he : ∀ r ∈ ys, r.length = e) :
    ∃ cells, News P E w e y true ys cells := by
  cases h with
  | @vs _ _ ad cap ad' e' f hcl hm had he' hr hk =>
    rcases had with rfl | rfl
    · refine ⟨[], ⟨by simp [Builtin.lenOf], by simp, by simp, by simp; exact .nil, by simp, ?_⟩⟩
      intro w' _
      cases ad <;> simp [Builtin.firstCells, loadCells, loadCellsFrom]
    · by_cases hne : ys = []
      · subst hne
        refine ⟨[], ⟨by simp [Builtin.lenOf], by simp, by simp, by simp; exact .nil, by simp, ?_⟩⟩
        intro w' _
        simp [Builtin.firstCells, loadCells, loadCellsFrom]
      · have hee : e' = e := by
          obtain ⟨z, hz⟩ := List.exists_mem_of_ne_nil _ hne
          rw [← he' z hz, he z hz]
        subst hee
        have hpure : ∀ r ∈ ys, ∀ x ∈ r, x.pure = true := by
          intro r hr' x hx
          obtain ⟨j, hj, rfl⟩ := List.getElem_of_mem hr'
          obtain ⟨t, ht, rfl⟩ := List.getElem_of_mem hx
          exact KV_pure (hk j t hj ht)
        obtain ⟨cells, c1, c2, c3⟩ := cells_of (w := w) (E := E) he ad' f (by
          intro j t x r hr' hx
          obtain ⟨hj, rfl⟩ := List.getElem?_eq_some_iff.mp hr'
          obtain ⟨ht, rfl⟩ := List.getElem?_eq_some_iff.mp hx
          exact K_of_KV (hk j t hj ht)) (fun j t hj ht => hrd _ _ _ (hr j t hj ht))
        refine ⟨cells, ⟨by simp [Builtin.lenOf], he, fun _ => hpure, c2, c1, ?_⟩⟩
        · intro w' hw'
          refine run_first c1 (.inr ⟨_, _, rfl, fun i u hu => ?_⟩)
          rw [cell?_heap hw']
          exact c3 i u hu

theorem News.one {E : Env} {e : Nat} {y : Value} {pl : Bool} {ys : List (List L)} {cells : List Value} (W : News P E w e y pl ys cells) (hb : pl = true ∨ ∀ r ∈ ys, ∀ x ∈ r, x ≠ .bad) : ∀ u ∈ cells, u.oneCell' = true := by
  refine one_of_F2 W.F ?_
  intro x hx
  obtain ⟨r, hr, hx⟩ := List.mem_flatten.mp hx
  rcases hb with hb | hb
  · exact pure_ne_bad (W.pl hb r hr x hx)
  · exact hb r hr x hx

theorem news_ok (R : Rel base G A w0 N st σ a w) (S : Sees st ρ fr d) {e : Nat} {p : PV} {y : Value} (hp : KP (env st.H σ (may base G A) w) p y) {c : Prop} {pl : Bool} {ys : List (List L)} (h : newsOf e ρ p = some (c, pl, ys)) (hc : c) :
    ∃ cells, News P (env st.H σ (may base G A) w) w e y pl ys cells ∧ ∀ u ∈ cells, u.oneCell' = true := by
  unfold newsOf at h
  split at h
  · rename_i k off n
    split at h
    · rename_i ob hk
      split at h
      · rename_i he
        simp only [Option.some.injEq, Prod.mk.injEq] at h
        obtain ⟨rfl, rfl, rfl⟩ := h
        subst he
        obtain ⟨cells, W⟩ := news_own (P := P) R (S.sub _ _ hk).1 (S.sub _ _ hk).2 hp hc.1
        exact ⟨cells, W, W.one (hc.2.imp id fun h r hr x hx => h r (List.mem_of_mem_drop (List.mem_of_mem_take hr)) x hx)⟩
      · cases h
    · cases h
  · simp only [Option.some.injEq, Prod.mk.injEq] at h
    obtain ⟨rfl, rfl, rfl⟩ := h
    obtain ⟨cells, W⟩ := news_vs (P := P) (E := env st.H σ (may base G A) w) (fun q ad u hh => hh.1) hp hc
    exact ⟨cells, W, W.one (.inl rfl)⟩
  · simp only [Option.some.injEq, Prod.mk.injEq] at h
    obtain ⟨rfl, rfl, rfl⟩ := h
    obtain ⟨ad, rfl⟩ := hp
    refine ⟨[], ⟨by simp [Builtin.lenOf], by simp, by simp, by simp; exact .nil, by simp, ?_⟩, by simp⟩
    intro w' _
    cases ad <;> simp [Builtin.firstCells, loadCells, loadCellsFrom]
  · cases h

theorem F2_flatten_get {E : Env} {es : List (List L)} {e : Nat} {cells : List Value} (hF : F2 (K E) es.flatten cells) (he : ∀ x ∈ es, x.length = e) : ∀ j t x r, es[j]? = some r → r[t]? = some x → ∃ y, cells[j * e + t]? = some y ∧ K E x y := by
  intro j t x r hr hx
  exact hF.get (flatten_get he hr hx)

/-- An object that is read only from now on, and perhaps less of it. -/
theorem Rel.retire (R : Rel base G A w0 N st σ a w) {k n : Nat} {ob : AObj} (hk : st.H k = some ob) (hm : ob.m ≠ 2) (hm3 : ob.m ≠ 3) (hn : ob.m = 0 ∨ (ob.m = 1 ∧ n = ob.es.length)) :
    Rel base G A w0 N ⟨st.T, upd st.H k (some ⟨2, ob.pl, ob.e, ob.es.take n⟩)⟩ σ a w := by
  have hle : (env st.H σ (may base G A) w).Le (env (upd st.H k (some ⟨2, ob.pl, ob.e, ob.es.take n⟩)) σ (may base G A) w) := by
    constructor
    · rintro q ad u ⟨h1, h2, h3⟩
      refine ⟨h1, h2, ?_⟩
      intro k' o' h' hm'
      simp only [upd] at h'
      split at h'
      · rename_i e1; subst e1; exact h3 _ ob hk hm3
      · exact h3 k' o' h' hm'
    · rintro k' ⟨o', ho', hm'⟩
      simp only [env, upd]
      refine .inr ⟨?_, trivial, ?_, Nat.le_refl _⟩
      · by_cases e1 : k' = k
        · subst e1; exact ⟨_, if_pos rfl, by simp⟩
        · exact ⟨o', by simp [e1, ho'], hm'⟩
      · split
        · rename_i e1; subst e1; simp [hk]
        · rfl
    · rintro k' ⟨o', ho', hm'⟩
      have hne : k' ≠ k := by rintro rfl; rw [hk] at ho'; cases ho'; exact hm3 hm'
      exact ⟨o', by simp [upd, hne, ho'], hm'⟩
  refine R.turn hle ?_ ?_ ?_ (fun _ _ _ => rfl) (Nat.le_refl _) rfl rfl rfl (fun _ => Nat.le_refl _) (fun i o1 _ h hm => by
    by_cases e1 : i = k
    · subst e1; exact ⟨ob, hk, hm3, rfl⟩
    · exact ⟨o1, by simpa [upd, e1] using h, hm, rfl⟩)
  · intro k1 k2 o1 o2 b g1 g2 g3 g4
    simp only [upd] at g1 g2
    have hsz : (⟨2, ob.pl, ob.e, ob.es.take n⟩ : AObj).sz ≤ ob.sz := by
      simp only [AObj.sz, List.length_take]; exact Nat.mul_le_mul_right _ (Nat.min_le_right _ _)
    split at g1 <;> split at g2
    · rename_i e1 e2; exact .inl (e1.trans e2.symm)
    · rename_i e1 e2
      subst e1
      cases g1
      rcases R.inj k1 k2 ob o2 b hk g2 g3 g4 with h | h | h | ⟨h, _⟩ | ⟨h, _⟩ | ⟨h1, h2, h3⟩
      · exact absurd h.symm e2
      · exact absurd h hm3
      · exact .inr (.inr (.inl h))
      · exact absurd h hm
      · exact absurd h hm
      · exact .inr (.inr (.inr (.inl ⟨rfl, h2⟩)))
    · rename_i e1 e2
      subst e2
      cases g2
      rcases R.inj k1 k2 o1 ob b g1 hk g3 g4 with h | h | h | ⟨_, h⟩ | ⟨h1, h2, h3⟩ | ⟨_, h, _⟩
      · exact absurd h e1
      · exact .inr (.inl h)
      · exact absurd h hm3
      · exact absurd h hm
      · exact .inr (.inr (.inr (.inl ⟨h1, rfl⟩)))
      · exact absurd h hm
    · exact R.inj k1 k2 o1 o2 b g1 g2 g3 g4
  · intro k1 o1 h1 hm1
    by_cases e1 : k1 = k
    · subst e1
      simp only [upd, if_true, Option.some.injEq] at h1
      subst h1
      rcases R.obj k1 ob hk hm3 with ⟨h, h'⟩ | ⟨b, c, ty, q1, q2, q3, q4, q5, q6⟩
      · exact .inl ⟨h, by simp [h']⟩
      · refine .inr ⟨b, c, ty, q1, q2, fun x hx => q3 x (List.mem_of_mem_take hx), ?_, fun hp r hr x hx => q5 hp r (List.mem_of_mem_take hr) x hx, ?_⟩
        · simp only [List.length_take]
          exact Nat.le_trans (Nat.mul_le_mul_right _ (Nat.min_le_right _ _)) q4
        · intro j t x r hr hx
          simp only [List.getElem?_take] at hr
          split at hr
          · obtain ⟨y, hy, hK⟩ := q6 j t x r hr hx
            exact ⟨y, hy, hK.mono hle⟩
          · cases hr
    · have h1' : st.H k1 = some o1 := by simpa [upd, e1] using h1
      exact Objs.mono hle rfl (fun _ _ _ _ hh => hh) (R.obj k1 o1 h1' hm1)
  · intro k1 o1 b h1 hm1 hb
    simp only [upd] at h1
    split at h1
    · rename_i e1; subst e1; exact R.own _ ob b hk hm3 hb
    · exact R.own k1 o1 b h1 hm1 hb

/-- A part of a block, written anew: what it holds then. -/
theorem seg_get {cc new : Array Value} {vs : List Value} {at_ : Nat} (hfit : at_ + vs.length ≤ cc.size) (hnew : new = (cc.toList.take at_ ++ vs ++ cc.toList.drop (at_ + vs.length)).toArray) :
    new.size = cc.size ∧ ∀ i, new[i]? = if at_ ≤ i ∧ i < at_ + vs.length then vs[i - at_]? else cc[i]? := by
  subst hnew
  refine ⟨by simp; omega, ?_⟩
  intro i
  simp only [List.getElem?_toArray, List.append_assoc]
  by_cases hi1 : i < at_
  · rw [List.getElem?_append_left (by simp; omega), if_neg (by omega), List.getElem?_take, if_pos hi1]
    simp
  · rw [List.getElem?_append_right (by simp; omega)]
    have hmin : (cc.toList.take at_).length = at_ := by simp; omega
    rw [hmin]
    by_cases hi2 : i < at_ + vs.length
    · rw [if_pos ⟨by omega, hi2⟩, List.getElem?_append_left (by omega)]
    · rw [if_neg (by omega), List.getElem?_append_right (by omega)]
      simp only [List.getElem?_drop, Array.getElem?_toList]
      congr 1
      omega

/-- More rows behind those of an object that has retired, in its own block. -/
theorem Rel.extend (R : Rel base G A w0 N st σ a w) {k d b : Nat} {ob nb : AObj} (hk : st.H k = some ob) (hm : ob.m = 2) (hd : st.H d = none) (hd' : 1000 ≤ d) (hb : σ k = some b)
    (hall : ∀ k2 o2, st.H k2 = some o2 → o2.m ≠ 3 → σ k2 = some b → o2.m = 2 ∧ o2.sz ≤ ob.sz) (hnm : nb.m = 1) (hsz : ob.sz ≤ nb.sz)
    {cc new : Array Value} {ty : TypeId} (h2 : w.heap[b]? = some (.cells cc ty (0, 0))) (hns : new.size = cc.size) (hold : ∀ i, i < ob.sz → new[i]? = cc[i]?)
    (he : ∀ x ∈ nb.es, x.length = nb.e) (hfit : nb.sz ≤ cc.size) (hpl : nb.pl = true → ∀ r ∈ nb.es, ∀ x ∈ r, x.pure = true)
    (hc : ∀ j t x r, nb.es[j]? = some r → r[t]? = some x → ∃ y, new[j * nb.e + t]? = some y ∧ K (env st.H σ (may base G A) w) x y) :
    Rel base G A w0 N ⟨st.T, upd st.H d (some nb)⟩ (upd σ d (some b)) a (w.setRow b new) := by
  have hkd : k ≠ d := by rintro rfl; rw [hk] at hd; cases hd
  have hother : ∀ b', b' ≠ b → (w.setRow b new).heap[b']? = w.heap[b']? := fun b' h => setRow_other w b b' new h
  have hsame : (w.setRow b new).heap[b]? = some (.cells new ty (0, 0)) := setRow_heap w b cc new ty (0, 0) h2
  have hle : (env st.H σ (may base G A) w).Le (env (upd st.H d (some nb)) (upd σ d (some b)) (may base G A) (w.setRow b new)) := by
    constructor
    · rintro q ad u ⟨g1, g2, g3⟩
      have hne : ad.block ≠ b := fun e' => g3 k ob hk (by rw [hm]; simp) (by rw [hb, e'])
      refine ⟨(cell_setRow_other w b new ad hne).trans g1, g2, ?_⟩
      intro k' o' h' hm'
      simp only [upd] at h' ⊢
      split at h'
      · rename_i e1; rw [if_pos e1]; intro e2; cases e2; exact hne rfl
      · rename_i e1; rw [if_neg e1]; exact g3 k' o' h' hm'
    · rintro k' ⟨o', ho', hm'⟩
      have hne : k' ≠ d := by rintro rfl; rw [hd] at ho'; cases ho'
      simp only [env, upd, if_neg hne]
      refine .inr ⟨⟨o', ho', hm'⟩, trivial, trivial, ?_⟩
      cases hs' : σ k' with
      | none => simp
      | some b' =>
        simp only [cellsAt]
        by_cases hbb : b' = b
        · subst hbb; rw [hsame, h2]; simp [hns]
        · rw [hother b' hbb]; exact Nat.le_refl _
    · rintro k' ⟨o', ho', hm'⟩
      have hne : k' ≠ d := by rintro rfl; rw [hd] at ho'; cases ho'
      exact ⟨o', by simp [upd, hne, ho'], hm'⟩
  refine R.turn hle ?_ ?_ ?_ ?_ (by simp) rfl rfl rfl (cellsAt_setRow w h2 hns) (fun i o1 hi h hm => ⟨o1, by simpa [upd, show i ≠ d by omega] using h, hm, by simp [upd, show i ≠ d by omega]⟩)
  · intro k1 k2 o1 o2 b1 g1 g2 g3 g4
    simp only [upd] at g1 g2 g3 g4
    split at g1 <;> split at g2
    · rename_i e1 e2; exact .inl (e1.trans e2.symm)
    · rename_i e1 e2
      rw [if_pos e1] at g3; rw [if_neg e2] at g4
      cases g1; cases g3
      by_cases hm2 : o2.m = 3
      · exact .inr (.inr (.inl hm2))
      · obtain ⟨q1, q2⟩ := hall k2 o2 g2 hm2 g4
        exact .inr (.inr (.inr (.inr (.inr ⟨hnm, q1, Nat.le_trans q2 hsz⟩))))
    · rename_i e1 e2
      rw [if_neg e1] at g3; rw [if_pos e2] at g4
      cases g2; cases g4
      by_cases hm1 : o1.m = 3
      · exact .inr (.inl hm1)
      · obtain ⟨q1, q2⟩ := hall k1 o1 g1 hm1 g3
        exact .inr (.inr (.inr (.inr (.inl ⟨q1, hnm, Nat.le_trans q2 hsz⟩))))
    · rename_i e1 e2
      rw [if_neg e1] at g3; rw [if_neg e2] at g4
      exact R.inj k1 k2 o1 o2 b1 g1 g2 g3 g4
  · intro k1 o1 g1 hm1
    by_cases e1 : k1 = d
    · subst e1
      simp only [upd, if_true, Option.some.injEq] at g1 ⊢
      subst g1
      refine .inr ⟨b, new, ty, rfl, hsame, he, by rw [hns]; exact hfit, hpl, ?_⟩
      intro j t x r hr hx
      obtain ⟨y, hy, hK⟩ := hc j t x r hr hx
      exact ⟨y, hy, hK.mono hle⟩
    · have g1' : st.H k1 = some o1 := by simpa [upd, e1] using g1
      have hs1 : upd σ d (some b) k1 = σ k1 := by simp [upd, e1]
      by_cases hbk : σ k1 = some b
      · obtain ⟨q1, q2⟩ := hall k1 o1 g1' hm1 hbk
        rw [hs1]
        rcases R.obj k1 o1 g1' hm1 with ⟨h, _⟩ | ⟨b', c', ty', p1, p2, p3, p4, p5, p6⟩
        · rw [hbk] at h; cases h
        · rw [hbk] at p1; cases p1
          rw [h2] at p2; cases p2
          refine .inr ⟨b, new, ty, hbk, hsame, p3, by rw [hns]; exact p4, p5, ?_⟩
          intro j t x r hr hx
          obtain ⟨y, hy, hK⟩ := p6 j t x r hr hx
          have hjl := (List.getElem?_eq_some_iff.mp hr).1
          have htl := (List.getElem?_eq_some_iff.mp hx).1
          rw [p3 r (List.mem_of_getElem? hr)] at htl
          have hlt : j * o1.e + t < o1.sz := by
            have : (j + 1) * o1.e ≤ o1.es.length * o1.e := Nat.mul_le_mul_right _ hjl
            rw [Nat.succ_mul] at this
            simp only [AObj.sz]
            omega
          exact ⟨y, by rw [hold _ (by omega)]; exact hy, hK.mono hle⟩
      · refine Objs.mono hle hs1 ?_ (R.obj k1 o1 g1' hm1)
        intro b1 c1 ty1 hb1 hh1
        rw [hother b1 (by rintro rfl; exact hbk hb1)]
        exact hh1
  · intro k1 o1 b1 g1 hm1 g3
    simp only [upd] at g1 g3
    split at g1
    · rename_i e1; rw [if_pos e1] at g3; cases g3; exact R.own k ob b hk (by rw [hm]; simp) hb
    · rename_i e1; rw [if_neg e1] at g3; exact R.own k1 o1 b1 g1 hm1 g3
  · intro b1 hb1 hG
    apply hother
    rintro rfl
    rcases R.own k ob b1 hk (by rw [hm]; simp) hb with h | h
    · omega
    · exact hG h
end
end Go.Ab
