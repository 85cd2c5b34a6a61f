/- Forgetting: what is no longer looked at, other names for the objects, and objects that are only read from here on. -/
import Derived.Test.YtfbjnipamfbgmaaAbReg3
set_option linter.unusedSimpArgs false
set_option linter.unusedVariables false
namespace Go.Ab

/-- x' tells no more than x. g: the elder name of each object; fz: which objects are only read from here on. -/
inductive WL (st : St) (g : Nat → Nat) (fz : Nat → Prop) (dom : Nat → Prop) : L → L → Prop where
  | bad (x : L) : WL st g fz dom x .bad
  | same {x : L} (h : x.pure = true) : WL st g fz dom x x
  | pv (q : Bool) (cs : List L) : WL st g fz dom (.pv q cs) (.pv q cs)
  | sl {k off len : Nat} (h : dom k) : WL st g fz dom (.sl (g k) off len) (.sl k off len)
  | ptr {k e o : Nat} (h : dom k) : WL st g fz dom (.ptr (g k) e o) (.ptr k e o)
  | clos {f : Nat} {ks : List Nat} (h : ∀ k ∈ ks, dom k) : WL st g fz dom (.clos f (ks.map g)) (.clos f ks)
  | fsl {k off len : Nat} {ob : AObj} (q : Bool) (hf : fz k) (hH : st.H k = some ob) (hm : ob.m ≤ 1) (hp : ob.pl = true) (hl : off + len ≤ ob.es.length) : WL st g fz dom (.sl k off len) (.vs q ((ob.es.drop off).take len))
  | fptr {k e o : Nat} {ob : AObj} {cs : List L} (q : Bool) (hf : fz k) (hH : st.H k = some ob) (hm : ob.m ≤ 1) (hp : ob.pl = true) (he : ob.es[e]? = some cs) : WL st g fz dom (.ptr k e o) (.pv q (cs.drop o))

inductive WP (st : St) (g : Nat → Nat) (fz : Nat → Prop) (dom : Nat → Prop) : PV → PV → Prop where
  | bad (x : PV) : WP st g fz dom x (.l .bad)
  | l {x x' : L} (h : WL st g fz dom x x') : WP st g fz dom (.l x) (.l x')
  | agg {xs xs' : List L} (h : F2 (WL st g fz dom) xs xs') : WP st g fz dom (.agg xs) (.agg xs')
  | nil : WP st g fz dom (.tup []) (.tup [])

structure WO (st : St) (g : Nat → Nat) (fz : Nat → Prop) (dom : Nat → Prop) (o o' : AObj) : Prop where
  m : o.m ≤ 1
  m' : o'.m = 0
  e : o'.e = o.e
  es : (o.pl = true ∧ o'.es = o.es) ∨ (F2 (F2 (WL st g fz dom)) o.es o'.es ∧ (o'.pl = true → ∀ r ∈ o'.es, ∀ x ∈ r, x.pure = true))

structure Wk0 (g : Nat → Nat) (fz : Nat → Prop) (st st' : St) : Prop where
  T : ∀ t, WP st g fz (fun k => (st'.H k).isSome = true) (st.T t) (st'.T t)
  H : ∀ k o', st'.H k = some o' → ∃ o, st.H (g k) = some o ∧ ¬ fz (g k) ∧ WO st g fz (fun k => (st'.H k).isSome = true) o o'
  inj : ∀ k k', (st'.H k).isSome = true → (st'.H k').isSome = true → g k = g k' → k = k'

structure Wk (g : Nat → Nat) (fz : Nat → Prop) (st st' : St) : Prop extends Wk0 g fz st st' where
  pin : ∀ k, k < 1000 → (st'.H k).isSome = true → g k = k

section
variable {base : Nat} {G A : Nat → Prop} {w0 : Base} {N : Nat} {st st' : St} {σ : Nat → Option Nat} {a : Act} {w : World} {g : Nat → Nat} {fz : Nat → Prop}

theorem Wk0.dom (W : Wk0 g fz st st') {k : Nat} (h : (st'.H k).isSome = true) : ∃ o o', st.H (g k) = some o ∧ st'.H k = some o' ∧ o.m ≤ 1 ∧ o'.m = 0 ∧ o'.e = o.e ∧ ¬ fz (g k) := by
  obtain ⟨o', ho'⟩ := Option.isSome_iff_exists.mp h
  obtain ⟨o, ho, hf, hw⟩ := W.H k o' ho'
  exact ⟨o, o', ho, ho', hw.m, hw.m', hw.e, hf⟩

theorem Wk0.rd (W : Wk0 g fz st st') : ∀ q ad v, (env st.H σ (may base G A) w).rd q ad v → (env st'.H (fun k => σ (g k)) (may base G A) w).rd q ad v := by
  rintro q ad v ⟨h1, h2, h3⟩
  refine ⟨h1, h2, fun k o' hk _ => ?_⟩
  obtain ⟨o, _, ho, _, hm, _⟩ := W.dom (k := k) (by rw [hk]; rfl)
  exact h3 (g k) o ho (by omega)

/-- A block that is only read from here on. -/
theorem Wk0.frozen (W : Wk0 g fz st st') (R : Rel base G A w0 N st σ a w) {k : Nat} {ob : AObj} (hf : fz k) (hH : st.H k = some ob) (hm : ob.m ≤ 1) {b : Nat} (hb : σ k = some b) (q : Bool) {ad : Addr} {u : Value} (had : ad.block = b) (hc : w.cell? ad = some u) :
    (env st'.H (fun k => σ (g k)) (may base G A) w).rd q ad u := by
  refine ⟨hc, fun _ => ?_, fun k' o' hk' _ hs => ?_⟩
  · rw [had]
    rcases R.own k ob b hH (by omega) hb with h | h
    · exact .inl h
    · exact .inr (.inl h)
  · obtain ⟨o, _, ho, _, hm', _, _, hnf⟩ := W.dom (k := k') (by rw [hk']; rfl)
    simp only at hs
    rw [had] at hs
    rcases R.inj (g k') k o ob b ho hH hs hb with h | h | h | ⟨h, _⟩ | ⟨h, _⟩ | ⟨_, h, _⟩
    · rw [h] at hnf; exact hnf hf
    · omega
    · omega
    · omega
    · omega
    · omega

theorem Wk0.fsl (W : Wk0 g fz st st') (R : Rel base G A w0 N st σ a w) {k off len : Nat} {ob : AObj} (q : Bool) (hf : fz k) (hH : st.H k = some ob) (hm : ob.m ≤ 1) (hpl : ob.pl = true) (hlen : off + len ≤ ob.es.length) {y : Value}
    (h : K (env st.H σ (may base G A) w) (.sl k off len) y) : KV (env st'.H (fun k => σ (g k)) (may base G A) w).rd (.vs q ((ob.es.drop off).take len)) y := by
  have hm3 : ob.m ≠ 3 := by omega
  obtain ⟨ad, cap, rfl, hcm, hh⟩ := K_sl h hH hm3
  have hl : ((ob.es.drop off).take len).length = len := by simp; omega
  by_cases h0 : len = 0
  · subst h0
    have : (ob.es.drop off).take 0 = [] := rfl
    rw [this]
    exact KV.vs (xs := []) ⟨0, 0, none⟩ 0 (fun _ _ => undef) (Nat.zero_le _) hcm (.inl rfl) (by simp) (by intro j t hj; simp at hj) (by intro j t hj; simp at hj)
  · rcases hh with ⟨h1, _⟩ | ⟨b, hb, rfl, h1, h2⟩
    · exact absurd h1 h0
    · rcases R.obj k ob hH hm3 with ⟨h3, _⟩ | ⟨b', cc, ty, q1, q2, q3, q4, q5, q6⟩
      · rw [hb] at h3; cases h3
      · rw [hb] at q1; cases q1
        have hres : KV (env st'.H (fun k => σ (g k)) (may base G A) w).rd (.vs q ((ob.es.drop off).take len)) (.slice (some ⟨b, off * ob.e, none⟩) ((ob.es.drop off).take len).length cap) := by
          have hg : ∀ j t, j < len → t < ob.e → ∃ u x, cc[(off + j) * ob.e + t]? = some u ∧ (ob.es[off + j]?.bind (·[t]?)) = some x ∧ K (env st.H σ (may base G A) w) x u ∧ x.pure = true := by
            intro j t hj ht
            have hjl : off + j < ob.es.length := by omega
            have hr : ob.es[off + j]? = some ob.es[off + j] := List.getElem?_eq_getElem hjl
            have hx : ob.es[off + j][t]? = some (ob.es[off + j][t]'(by rw [q3 _ (List.getElem_mem hjl)]; exact ht)) := List.getElem?_eq_getElem _
            obtain ⟨u, hu, hK⟩ := q6 _ _ _ _ hr hx
            exact ⟨u, _, hu, by rw [hr]; exact hx, hK, q5 hpl _ (List.getElem_mem hjl) _ (List.getElem_mem _)⟩
          refine KV.vs ⟨b, off * ob.e, none⟩ ob.e (fun j t => cc.getD ((off + j) * ob.e + t) undef) (by omega) hcm (.inr rfl) (fun x hx => q3 x (List.mem_of_mem_drop (List.mem_of_mem_take hx))) ?_ ?_
          · intro j t hj ht
            rw [hl] at hj
            obtain ⟨u, x, hu, _, _, _⟩ := hg j t hj ht
            refine W.frozen R hf hH hm hb q (by rw [addr_add]) ?_
            rw [addr_add]
            simp only [World.cell?, q2]
            rw [show off * ob.e + (j * ob.e + t) = (off + j) * ob.e + t from by rw [Nat.add_mul]; omega, Array.getD_eq_getD_getElem?, hu]
            simp
          · intro j t hj ht
            rw [hl] at hj
            have e1 : ((ob.es.drop off).take len)[j] = ob.es[off + j]'(by omega) := by simp
            rw [e1, q3 _ (List.getElem_mem _)] at ht
            obtain ⟨u, x, hu, hx, hK, hp⟩ := hg j t hj ht
            have hjl : off + j < ob.es.length := by omega
            rw [List.getElem?_eq_getElem hjl, Option.bind_some] at hx
            obtain ⟨htl, rfl⟩ := List.getElem?_eq_some_iff.mp hx
            simp only [Array.getD_eq_getD_getElem?, hu, Option.getD_some]
            have := (KV_of_K hp hK).mono W.rd
            simpa using this
        rw [hl] at hres
        exact hres

theorem Wk0.L (W : Wk0 g fz st st') (R : Rel base G A w0 N st σ a w) {x x' : L} (hw : WL st g fz (fun k => (st'.H k).isSome = true) x x') {y : Value} (h : K (env st.H σ (may base G A) w) x y) :
    K (env st'.H (fun k => σ (g k)) (may base G A) w) x' y := by
  cases hw with
  | bad => trivial
  | same hp => exact K_of_KV ((KV_of_K hp h).mono W.rd)
  | pv q cs =>
    obtain ⟨ad, f, rfl, hh⟩ := h
    exact ⟨ad, f, rfl, fun t ht => ⟨W.rd _ _ _ (hh t ht).1, (hh t ht).2.mono W.rd⟩⟩
  | sl hd =>
    obtain ⟨o, o', ho, ho', hm, hm', he, _⟩ := W.dom hd
    obtain ⟨ad, cap, rfl, hc, hh⟩ := K_sl h ho (by omega)
    refine K_sl_mk ho' (by omega) hc (hh.imp id ?_)
    rintro ⟨b, hb, h1, h2, h3⟩
    exact ⟨b, hb, by rw [he]; exact h1, h2, by rw [he]; exact h3⟩
  | ptr hd =>
    obtain ⟨o, o', ho, ho', hm, hm', he, _⟩ := W.dom hd
    obtain ⟨b, hb, rfl⟩ := K_ptr h ho (by omega)
    rw [← he]
    exact K_ptr_mk ho' (by omega) hb
  | clos hd =>
    obtain ⟨ys, rfl, hF⟩ := h
    refine ⟨ys, rfl, ?_⟩
    rename_i ks
    generalize hks : ks.map g = ks' at hF
    induction hF generalizing ks with
    | nil =>
      rw [List.map_eq_nil_iff] at hks
      subst hks
      exact .nil
    | cons hab _ ih =>
      cases ks with
      | nil => cases hks
      | cons k ks =>
        simp only [List.map_cons, List.cons.injEq] at hks
        obtain ⟨rfl, hks⟩ := hks
        refine .cons ?_ (ih (fun k hk => hd k (by simp [hk])) hks)
        obtain ⟨o, o', ho, ho', hm, hm', he, _⟩ := W.dom (hd k (by simp))
        rcases hab with ⟨⟨o1, ho1, hm1⟩, _⟩ | ⟨_, b, hb, rfl⟩
        · rw [ho] at ho1; cases ho1; omega
        · exact .inr ⟨⟨o', ho', by omega⟩, b, hb, rfl⟩
  | fsl q hf hH hm hp hl => exact W.fsl R q hf hH hm hp hl h
  | fptr q hf hH hm hp he =>
    rename_i k e oo ob cs
    obtain ⟨b, hb, rfl⟩ := K_ptr h hH (by omega)
    obtain ⟨ys, hF, hys⟩ := R.reads hH (by omega) hb he
    refine ⟨⟨b, e * ob.e + oo, none⟩, fun t => ys.getD (oo + t) undef, rfl, ?_⟩
    intro t ht
    have ht' : oo + t < cs.length := by simp at ht; omega
    obtain ⟨u, hu, hK⟩ := hF.get (List.getElem?_eq_getElem ht')
    have hu' : ys.getD (oo + t) undef = u := by rw [List.getD_eq_getElem?_getD, hu]; rfl
    constructor
    · refine W.frozen R hf hH hm hb q (by rw [addr_add]) ?_
      simp only [addr_add, hu', Nat.add_assoc]
      exact hys _ _ hu
    · have hpure : cs[oo + t].pure = true := by
        rcases R.obj k ob hH (by omega) with ⟨h3, _⟩ | ⟨_, _, _, _, _, _, _, q5, _⟩
        · rw [hb] at h3; cases h3
        · exact q5 hp cs (List.mem_of_getElem? he) _ (List.getElem_mem _)
      have := (KV_of_K hpure hK).mono W.rd
      simp only [hu', List.getElem_drop]
      exact this

theorem F2.map_rel {α α' β : Type} {R : α → β → Prop} {S : α' → β → Prop} {V : α → α' → Prop} (hv : ∀ a a' b, V a a' → R a b → S a' b) {as : List α} {as' : List α'} {bs : List β} (h : F2 V as as') (k : F2 R as bs) : F2 S as' bs := by
  induction h generalizing bs with
  | nil => cases k; exact .nil
  | cons hab _ ih =>
    cases k with
    | cons h1 h2 => exact .cons (hv _ _ _ hab h1) (ih h2)

theorem Wk0.P (W : Wk0 g fz st st') (R : Rel base G A w0 N st σ a w) {x x' : PV} (hw : WP st g fz (fun k => (st'.H k).isSome = true) x x') {y : Value} (h : KP (env st.H σ (may base G A) w) x y) :
    KP (env st'.H (fun k => σ (g k)) (may base G A) w) x' y := by
  cases hw with
  | bad => trivial
  | l hl => exact W.L R hl h
  | agg hF =>
    obtain ⟨ys, rfl, hh⟩ := h
    exact ⟨ys, rfl, F2.map_rel (R := K (env st.H σ (may base G A) w)) (S := K (env st'.H (fun k => σ (g k)) (may base G A) w)) (fun x x' y hv hk => W.L R hv hk) hF hh⟩
  | nil =>
    obtain ⟨ys, rfl, hF⟩ := h
    cases hF
    exact ⟨[], rfl, .nil⟩

theorem Rel.weak0 (R : Rel base G A w0 N st σ a w) (W : Wk0 g fz st st') {s0 : Nat → Option Nat} (hpin : ∀ k, k < 1000 → (st'.H k).isSome = true → σ (g k) = s0 k) : Rel base G A { w0 with s0 := s0 } N st' (fun k => σ (g k)) a w := by
  refine ⟨?_, ?_, ?_, fun t => W.P R (W.T t) (R.tmp t), R.keep, R.size, R.os, R.tape, R.output, R.defs, R.n, R.grow, ?_⟩
  · intro k k' o o' b hk hk' hb hb'
    obtain ⟨o1, _, ho1, _, hm1, _⟩ := W.dom (k := k) (by rw [hk]; rfl)
    obtain ⟨o2, _, ho2, _, hm2, _⟩ := W.dom (k := k') (by rw [hk']; rfl)
    rcases R.inj (g k) (g k') o1 o2 b ho1 ho2 hb hb' with h | h | h | ⟨h, _⟩ | ⟨h, _⟩ | ⟨_, h, _⟩
    · exact .inl (W.inj k k' (by rw [hk]; rfl) (by rw [hk']; rfl) h)
    all_goals omega
  · intro k o' hk hm
    obtain ⟨o, ho, hnf, hw⟩ := W.H k o' hk
    rcases R.obj (g k) o ho (by have := hw.m; omega) with ⟨h1, h2⟩ | ⟨b, c, ty, h1, h2, h3, h4, h5, h6⟩
    · refine .inl ⟨h1, ?_⟩
      rcases hw.es with ⟨_, h⟩ | ⟨h, _⟩
      · rw [h, h2]
      · have := h.length; rw [h2] at this; exact List.eq_nil_of_length_eq_zero (by simpa using this.symm)
    · refine .inr ⟨b, c, ty, h1, h2, ?_, ?_, ?_, ?_⟩
      · rcases hw.es with ⟨_, h⟩ | ⟨h, _⟩
        · rw [h, hw.e]; exact h3
        · rw [hw.e]
          intro x hx
          obtain ⟨i, hi⟩ := List.mem_iff_getElem?.mp hx
          have hl := h.length
          have hil : i < o.es.length := by rw [hl]; exact (List.getElem?_eq_some_iff.mp hi).1
          obtain ⟨x', hx', hF⟩ := h.get (List.getElem?_eq_getElem hil)
          rw [hi] at hx'; cases hx'
          rw [← hF.length]
          exact h3 _ (List.getElem_mem _)
      · rcases hw.es with ⟨_, h⟩ | ⟨h, _⟩
        · rw [h, hw.e]; exact h4
        · rw [← h.length, hw.e]; exact h4
      · rcases hw.es with ⟨hp, h⟩ | ⟨_, h⟩
        · intro _; rw [h]; exact h5 hp
        · exact h
      · intro j t x r hr hx
        rcases hw.es with ⟨hp, h⟩ | ⟨h, _⟩
        · rw [h] at hr
          obtain ⟨y, hy, hK⟩ := h6 j t x r hr hx
          have hxp := h5 hp r (List.mem_of_getElem? hr) x (List.mem_of_getElem? hx)
          exact ⟨y, by rw [hw.e]; exact hy, K_of_KV ((KV_of_K hxp hK).mono W.rd)⟩
        · have hjl : j < o.es.length := by rw [h.length]; exact (List.getElem?_eq_some_iff.mp hr).1
          obtain ⟨r', hr', hF⟩ := h.get (List.getElem?_eq_getElem hjl)
          rw [hr] at hr'; cases hr'
          have htl : t < (o.es[j]).length := by rw [hF.length]; exact (List.getElem?_eq_some_iff.mp hx).1
          obtain ⟨x', hx', hW⟩ := hF.get (List.getElem?_eq_getElem htl)
          rw [hx] at hx'; cases hx'
          obtain ⟨y, hy, hK⟩ := h6 j t _ _ (List.getElem?_eq_getElem hjl) (List.getElem?_eq_getElem htl)
          exact ⟨y, by rw [hw.e]; exact hy, W.L R hW hK⟩
  · intro k o' b hk hm hb
    obtain ⟨o, _, ho, _, hmo, _⟩ := W.dom (k := k) (by rw [hk]; rfl)
    exact R.own (g k) o b ho (by omega) hb
  · intro i o' hi h _
    exact hpin i hi (by rw [h]; rfl)

theorem Rel.weak (R : Rel base G A w0 N st σ a w) (W : Wk g fz st st') : Rel base G A w0 N st' (fun k => σ (g k)) a w := by
  refine R.weak0 W.toWk0 (s0 := w0.s0) ?_
  intro k hk h
  obtain ⟨o, _, ho, _, hmo, _⟩ := W.toWk0.dom h
  have e := W.pin k hk h
  rw [e] at ho ⊢
  exact R.pin k o hk ho (by omega)
end
end Go.Ab
