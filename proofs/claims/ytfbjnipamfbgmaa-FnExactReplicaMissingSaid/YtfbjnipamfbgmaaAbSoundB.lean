/- A call: what the callee is told of the caller's state. -/
import Derived.Test.YtfbjnipamfbgmaaAbSoundA
set_option linter.unusedSimpArgs false
set_option linter.unusedVariables false
namespace Go.Ab
section
variable {P : Program} {base : Nat} {G A : Nat → Prop} {w0 : Base} {N : Nat} {st : St} {σ : Nat → Option Nat} {a : Act} {w : World} {o : Oper} {r : CallRes} {ρ : Nat → Option AObj} {fr : Nat → Bool} {d : Nat} {c : Prop} {v : PV} {Δ : List (Nat × Option AObj)}

/-- The blocks that the callee may hand back. -/
def handA (base : Nat) (G A : Nat → Prop) (st : St) (σ : Nat → Option Nat) (b : Nat) : Prop := (base ≤ b ∨ G b ∨ A b) ∧ ∀ k o, st.H k = some o → o.m ≠ 3 → σ k ≠ some b

def insOf (ks : List Nat) (ρ : Nat → Option AObj) : List AObj := (callIns ks ρ).map (inO ks)

def insσ (ks : List Nat) (σ : Nat → Option Nat) (i : Nat) : Option Nat := (ks[i]?).bind σ

abbrev envI (base : Nat) (G A : Nat → Prop) (st : St) (σ : Nat → Option Nat) (ks : List Nat) (ρ : Nat → Option AObj) (w : World) : Env :=
  env (fun k => (insOf ks ρ)[k]?) (insσ ks σ) (fun q b => q = true → handA base G A st σ b) w

abbrev envC (base : Nat) (G A : Nat → Prop) (st : St) (σ : Nat → Option Nat) (w : World) : Env := env st.H σ (may base G A) w

theorem insOf_get {ks : List Nat} {i : Nat} {o' : AObj} (hk : (ks.all fun k => (ρ k).isSome) = true) (h : (insOf ks ρ)[i]? = some o') : ∃ k ob, ks[i]? = some k ∧ ρ k = some ob ∧ o' = inO ks ob := by
  simp only [insOf, callIns, List.getElem?_map, Option.map_eq_some_iff] at h
  obtain ⟨ob, ⟨k, hki, rfl⟩, rfl⟩ := h
  have := List.all_eq_true.mp hk k (List.mem_of_getElem? hki)
  obtain ⟨ob, hob⟩ := Option.isSome_iff_exists.mp this
  exact ⟨k, ob, hki, hob, by rw [hob]; rfl⟩

theorem insOf_of {ks : List Nat} {i k : Nat} {ob : AObj} (hi : ks[i]? = some k) (hk : ρ k = some ob) : (insOf ks ρ)[i]? = some (inO ks ob) := by
  simp [insOf, callIns, hi, hk]

theorem insOf_length (ks : List Nat) (ρ : Nat → Option AObj) : (insOf ks ρ).length = ks.length := by simp [insOf, callIns]

theorem inO_m (ks : List Nat) (o : AObj) : (inO ks o).m = o.m := by unfold inO; split <;> rfl
theorem inO_e (ks : List Nat) (o : AObj) : (inO ks o).e = o.e := by unfold inO; split <;> rfl

theorem idx_some {ks : List Nat} {k i : Nat} (h : idx ks k = some i) : ks[i]? = some k := by
  unfold idx at h
  rw [List.idxOf?_eq_some_iff] at h
  obtain ⟨hlt, he, _⟩ := h
  rw [List.getElem?_eq_getElem hlt, he]

theorem idx_none {ks : List Nat} {k : Nat} (h : idx ks k = none) : k ∉ ks := by
  unfold idx at h
  rwa [List.idxOf?_eq_none_iff] at h

theorem insσ_get {ks : List Nat} {i k : Nat} (hi : ks[i]? = some k) : insσ ks σ i = σ k := by simp [insσ, hi]

/-- What the call's conditions say. -/
structure CallCond (st : St) (ρ : Nat → Option AObj) (fr : Nat → Bool) (d : Nat) (ks : List Nat) : Prop where
  S : Sees st ρ fr d
  all : (ks.all fun k => (ρ k).isSome) = true
  nd : ks.Nodup
  ok : ∀ o ∈ callIns ks ρ, inOk ks o

theorem CallCond.at {ks : List Nat} (C : CallCond st ρ fr d ks) {k : Nat} (h : k ∈ ks) : ∃ ob, ρ k = some ob ∧ st.H k = some ob ∧ ob.m = 0 ∧ inOk ks ob := by
  have := List.all_eq_true.mp C.all k h
  obtain ⟨ob, hob⟩ := Option.isSome_iff_exists.mp this
  have hok := C.ok ob (by simp only [callIns, List.mem_map]; exact ⟨k, h, by rw [hob]; rfl⟩)
  exact ⟨ob, hob, (C.S.sub _ _ hob).1, hok.1, hok⟩

theorem rd_in {ks : List Nat} (C : CallCond st ρ fr d ks) : ∀ q ad u, (envC base G A st σ w).rd q ad u → (envI base G A st σ ks ρ w).rd q ad u := by
  rintro q ad u ⟨h1, h2, h3⟩
  refine ⟨h1, fun hq => ⟨h2 hq, h3⟩, ?_⟩
  intro i o' hi hm
  obtain ⟨k, ob, hki, hob, rfl⟩ := insOf_get C.all hi
  rw [insσ_get hki]
  exact h3 k ob (C.S.sub _ _ hob).1 (C.S.sub _ _ hob).2

theorem K_in {ks : List Nat} (C : CallCond st ρ fr d ks) {x : L} {y : Value} (h : K (envC base G A st σ w) x y) (hx : x.pure = true ∨ (∃ k off len i, x = .sl k off len ∧ idx ks k = some i) ∨ (∃ k e o i, x = .ptr k e o ∧ idx ks k = some i) ∨ (∃ f cs, x = .clos f cs ∧ ∀ k ∈ cs, (idx ks k).isSome = true)) :
    K (envI base G A st σ ks ρ w) (inL ks x) y := by
  rcases hx with hx | ⟨k, off, len, i, rfl, hi⟩ | ⟨k, e, o, i, rfl, hi⟩ | ⟨f, cs, rfl, hi⟩
  · have : inL ks x = x := by cases x <;> first | rfl | simp [L.pure] at hx
    rw [this]
    exact K_of_KV ((KV_of_K hx h).mono (rd_in C))
  · have hki := idx_some hi
    obtain ⟨ob, hob, hH, hm, _⟩ := C.at (List.mem_of_getElem? hki)
    obtain ⟨ad, cap, rfl, hc, hh⟩ := K_sl h hH (by rw [hm]; simp)
    simp only [inL, hi, Option.getD_some]
    refine K_sl_mk (insOf_of hki hob) (by rw [inO_m, hm]; simp) hc (hh.imp id ?_)
    rintro ⟨b, hb, h1, h2, h3⟩
    exact ⟨b, by rw [insσ_get hki]; exact hb, by rw [inO_e]; exact h1, h2, by rw [inO_e]; exact h3⟩
  · have hki := idx_some hi
    obtain ⟨ob, hob, hH, hm, _⟩ := C.at (List.mem_of_getElem? hki)
    obtain ⟨b, hb, rfl⟩ := K_ptr h hH (by rw [hm]; simp)
    simp only [inL, hi, Option.getD_some]
    have := K_ptr_mk (w := w) (σ := insσ ks σ) (H := fun k => (insOf ks ρ)[k]?) (rd := fun q b => q = true → handA base G A st σ b) (k := i) (e := e) (o := o) (insOf_of hki hob) (by rw [inO_m, hm]; simp) (by rw [insσ_get hki]; exact hb)
    rw [inO_e] at this
    exact this
  · obtain ⟨ys, rfl, hF⟩ := h
    refine ⟨ys, rfl, ?_⟩
    induction hF with
    | nil => exact .nil
    | cons hab _ ih =>
      refine .cons ?_ (ih fun k hk => hi k (by simp [hk]))
      rename_i k z _ _ _
      obtain ⟨i, hi'⟩ := Option.isSome_iff_exists.mp (hi k (by simp))
      have hki := idx_some hi'
      obtain ⟨ob, hob, hH, hm, _⟩ := C.at (List.mem_of_getElem? hki)
      simp only [hi', Option.getD_some]
      rcases hab with ⟨⟨o1, ho1, hm1⟩, _⟩ | ⟨_, b, hb, rfl⟩
      · rw [hH] at ho1; cases ho1; rw [hm] at hm1; cases hm1
      · exact .inr ⟨⟨_, insOf_of hki hob, by rw [inO_m, hm]; simp⟩, b, by show insσ ks σ i = some b; rw [insσ_get hki]; exact hb, rfl⟩

theorem ins_objs {ks : List Nat} (R : Rel base G A w0 N st σ a w) (C : CallCond st ρ fr d ks) : Objs (fun k => (insOf ks ρ)[k]?) (insσ ks σ) (fun q b => q = true → handA base G A st σ b) w := by
  intro i o' hi _
  obtain ⟨k, ob, hki, hob, rfl⟩ := insOf_get C.all hi
  obtain ⟨ob', hob', hH, hm, hok⟩ := C.at (List.mem_of_getElem? hki)
  rw [hob] at hob'; cases hob'
  have hes : (inO ks ob).es = if ob.pl then ob.es else ob.es.map fun x => x.map (inL ks) := by unfold inO; split <;> simp [*]
  have hpl : (inO ks ob).pl = ob.pl := by unfold inO; split <;> rfl
  rcases R.obj k ob hH (by rw [hm]; simp) with ⟨h1, h2⟩ | ⟨b, cc, ty, h1, h2, h3, h4, h5, h6⟩
  · refine .inl ⟨by rw [insσ_get hki]; exact h1, ?_⟩
    rw [hes, h2]; split <;> rfl
  · refine .inr ⟨b, cc, ty, by rw [insσ_get hki]; exact h1, h2, ?_, ?_, ?_, ?_⟩
    · rw [hes, inO_e]
      split
      · exact h3
      · intro x hx
        simp only [List.mem_map] at hx
        obtain ⟨x', hx', rfl⟩ := hx
        simpa using h3 x' hx'
    · rw [hes, inO_e]
      split
      · exact h4
      · simpa using h4
    · rw [hpl, hes]
      intro hp
      rw [if_pos hp]
      exact h5 hp
    · rw [hes, inO_e]
      intro j t x r hr hx
      split at hr
      · rename_i hp
        obtain ⟨y, hy, hK⟩ := h6 j t x r hr hx
        have hxp := h5 hp r (List.mem_of_getElem? hr) x (List.mem_of_getElem? hx)
        refine ⟨y, hy, ?_⟩
        have := K_in C hK (.inl hxp)
        rwa [show inL ks x = x from by cases x <;> first | rfl | simp [L.pure] at hxp] at this
      · rename_i hp
        simp only [List.getElem?_map, Option.map_eq_some_iff] at hr
        obtain ⟨r', hr', rfl⟩ := hr
        simp only [List.getElem?_map, Option.map_eq_some_iff] at hx
        obtain ⟨x', hx', rfl⟩ := hx
        obtain ⟨y, hy, hK⟩ := h6 j t x' r' hr' hx'
        refine ⟨y, hy, ?_⟩
        by_cases hbad : x' = .bad
        · subst hbad; exact trivial
        refine K_in C hK ?_
        have hin : inLOk ks x' := by
          rcases hok.2 with h | h
          · exact absurd h hp
          · exact h r' (List.mem_of_getElem? hr') x' (List.mem_of_getElem? hx')
        cases x' <;> first | exact .inl rfl | skip
        · obtain ⟨i', hi'⟩ := Option.isSome_iff_exists.mp hin
          exact .inr (.inl ⟨_, _, _, i', rfl, hi'⟩)
        · obtain ⟨i', hi'⟩ := Option.isSome_iff_exists.mp hin
          exact .inr (.inr (.inl ⟨_, _, _, i', rfl, hi'⟩))
        · exact hin.elim
        · exact .inr (.inr (.inr ⟨_, _, rfl, hin⟩))
        · exact absurd rfl hbad

theorem ins_inj {ks : List Nat} (R : Rel base G A w0 N st σ a w) (C : CallCond st ρ fr d ks) : Inj (fun k => (insOf ks ρ)[k]?) (insσ ks σ) := by
  intro i1 i2 o1 o2 b h1 h2 hb1 hb2
  obtain ⟨k1, ob1, hk1, hob1, rfl⟩ := insOf_get C.all h1
  obtain ⟨k2, ob2, hk2, hob2, rfl⟩ := insOf_get C.all h2
  rw [insσ_get hk1] at hb1
  rw [insσ_get hk2] at hb2
  obtain ⟨ob1', e1, hH1, hm1, _⟩ := C.at (List.mem_of_getElem? hk1)
  obtain ⟨ob2', e2, hH2, hm2, _⟩ := C.at (List.mem_of_getElem? hk2)
  rcases R.inj k1 k2 ob1' ob2' b hH1 hH2 hb1 hb2 with h | h | h | ⟨h, _⟩ | ⟨h, _⟩ | ⟨h, _⟩
  · subst h
    obtain ⟨l1, e1'⟩ := List.getElem?_eq_some_iff.mp hk1
    obtain ⟨l2, e2'⟩ := List.getElem?_eq_some_iff.mp hk2
    exact .inl ((List.getElem_inj C.nd).mp (e1'.trans e2'.symm))
  · rw [hm1] at h; cases h
  · rw [hm2] at h; cases h
  · rw [hm1] at h; cases h
  · rw [hm1] at h; cases h
  · rw [hm1] at h; cases h
end
end Go.Ab
