/- A call: what the caller holds behind it. -/
import Derived.Test.YtfbjnipamfbgmaaAbSoundC
set_option linter.unusedSimpArgs false
set_option linter.unusedVariables false
namespace Go.Ab
section
variable {P : Program} {base : Nat} {G A : Nat → Prop} {w0 : Base} {N : Nat} {st : St} {σ : Nat → Option Nat} {a : Act} {w : World} {o : Oper} {r : CallRes} {ρ : Nat → Option AObj} {fr : Nat → Bool} {d : Nat} {c : Prop} {v : PV} {Δ : List (Nat × Option AObj)}

theorem updL_not {α : Type} : ∀ {l : List (Nat × α)} {f : Nat → α} {k : Nat}, (∀ p ∈ l, p.1 ≠ k) → updL f l k = f k
  | [], _, _, _ => rfl
  | (k', v) :: l, f, k, h => by
    rw [updL, updL_not (fun p hp => h p (by simp [hp]))]
    have := h (k', v) (by simp)
    simp [upd, Ne.symm this]

theorem updL_mem {α : Type} : ∀ {l : List (Nat × α)} {f : Nat → α} {k : Nat} {v : α}, (l.map (·.1)).Nodup → (k, v) ∈ l → updL f l k = v
  | [], _, _, _, _, h => by simp at h
  | (k', v') :: l, f, k, v, hnd, h => by
    simp only [List.map_cons, List.nodup_cons] at hnd
    rcases List.mem_cons.mp h with h | h
    · cases h
      rw [updL, updL_not]
      · simp [upd]
      · intro p hp e
        exact hnd.1 (by rw [← e]; exact List.mem_map_of_mem hp)
    · rw [updL]
      exact updL_mem hnd.2 h

theorem key_inj {d i j : Nat} (h : key d i = key d j) : i = j := by unfold key at h; omega

theorem key_nodup (d m : Nat) : ((List.range m).map (key d)).Nodup := List.Pairwise.map (key d) (fun _ _ h e => h (key_inj e)) List.nodup_range

/-- The changes that a call makes to the objects. -/
def callΔ (ks : List Nat) (d : Nat) (outs : List (Option AObj)) (news : List AObj) : List (Nat × Option AObj) :=
  (ks.zipIdx.map fun (k, i) => (k, some (backO (back ks d) ((outs[i]?).join)))) ++ news.zipIdx.map fun (o, j) => (key d j, some (renO (back ks d) o))

theorem callΔ_keys (ks : List Nat) (d : Nat) (outs : List (Option AObj)) (news : List AObj) : (callΔ ks d outs news).map (·.1) = ks ++ (List.range news.length).map (key d) := by
  simp only [callΔ, List.map_append, List.map_map]
  congr 1
  · apply List.ext_getElem?
    intro i
    simp [List.getElem?_zipIdx]
    cases ks[i]? <;> rfl
  · apply List.ext_getElem?
    intro i
    simp only [List.getElem?_map, List.getElem?_zipIdx, Nat.zero_add]
    by_cases h : i < news.length
    · simp [h]
    · simp [h]

structure CallKeys (st : St) (ρ : Nat → Option AObj) (fr : Nat → Bool) (d : Nat) (ks : List Nat) (m : Nat) : Prop where
  C : CallCond st ρ fr d ks
  fresh : ∀ j, j < m → st.H (key d j) = none
  big : ∀ j, j < m → 1000 ≤ key d j

theorem callΔ_nodup {ks : List Nat} {outs : List (Option AObj)} {news : List AObj} (C : CallKeys st ρ fr d ks news.length) : ((callΔ ks d outs news).map (·.1)).Nodup := by
  rw [callΔ_keys, List.nodup_append]
  refine ⟨C.C.nd, key_nodup d _, ?_⟩
  · intro k hk k' hk' e
    subst e
    obtain ⟨j, hj, rfl⟩ := List.mem_map.mp hk'
    obtain ⟨ob, _, hH, _⟩ := C.C.at hk
    rw [C.fresh j (List.mem_range.mp hj)] at hH
    cases hH

theorem callΔ_old {ks : List Nat} {outs : List (Option AObj)} {news : List AObj} (C : CallKeys st ρ fr d ks news.length) {i k : Nat} (hi : ks[i]? = some k) :
    updL st.H (callΔ ks d outs news) k = some (backO (back ks d) ((outs[i]?).join)) := by
  refine updL_mem (callΔ_nodup C) ?_
  simp only [callΔ, List.mem_append]
  refine .inl (List.mem_map.mpr ⟨(k, i), ?_, rfl⟩)
  rw [List.mem_zipIdx_iff_getElem?]
  exact hi

theorem callΔ_new {ks : List Nat} {outs : List (Option AObj)} {news : List AObj} (C : CallKeys st ρ fr d ks news.length) {j : Nat} {nb : AObj} (hj : news[j]? = some nb) :
    updL st.H (callΔ ks d outs news) (key d j) = some (renO (back ks d) nb) := by
  refine updL_mem (callΔ_nodup C) ?_
  simp only [callΔ, List.mem_append]
  refine .inr (List.mem_map.mpr ⟨(nb, j), ?_, rfl⟩)
  rw [List.mem_zipIdx_iff_getElem?]
  exact hj

theorem callΔ_else {ks : List Nat} {outs : List (Option AObj)} {news : List AObj} {k : Nat} (h1 : k ∉ ks) (h2 : ∀ j, j < news.length → k ≠ key d j) :
    updL st.H (callΔ ks d outs news) k = st.H k := by
  refine updL_not ?_
  intro p hp e
  have : k ∈ (callΔ ks d outs news).map (·.1) := by rw [← e]; exact List.mem_map_of_mem hp
  rw [callΔ_keys] at this
  rcases List.mem_append.mp this with h | h
  · exact h1 h
  · obtain ⟨j, hj, rfl⟩ := List.mem_map.mp h
    exact h2 j (List.mem_range.mp hj) rfl

/-- Where the objects lie behind the call. -/
def callσ (σ : Nat → Option Nat) (ks : List Nat) (d m : Nat) (σ' : Nat → Option Nat) : Nat → Option Nat :=
  updL σ ((List.range m).map fun j => (key d j, σ' (ks.length + j)))

theorem callσ_new {ks : List Nat} {m j : Nat} {σ' : Nat → Option Nat} (hj : j < m) : callσ σ ks d m σ' (key d j) = σ' (ks.length + j) := by
  refine updL_mem ?_ (List.mem_map.mpr ⟨j, List.mem_range.mpr hj, rfl⟩)
  rw [List.map_map]
  exact key_nodup d m

theorem callσ_old {ks : List Nat} {m k : Nat} {σ' : Nat → Option Nat} (h : ∀ j, j < m → k ≠ key d j) : callσ σ ks d m σ' k = σ k := by
  refine updL_not ?_
  intro p hp e
  obtain ⟨j, hj, rfl⟩ := List.mem_map.mp hp
  exact h j (List.mem_range.mp hj) e.symm

/-- A key behind the call: one that was handed over, a new one, or another. -/
theorem key_cases {ks : List Nat} (k m : Nat) : (∃ i : Nat, ks[i]? = some k) ∨ (∃ j, j < m ∧ k = key d j) ∨ (k ∉ ks ∧ ∀ j, j < m → k ≠ key d j) := by
  by_cases h1 : k ∈ ks
  · exact .inl (List.mem_iff_getElem?.mp h1)
  · by_cases h2 : ∃ j, j < m ∧ k = key d j
    · exact .inr (.inl h2)
    · exact .inr (.inr ⟨h1, fun j hj e => h2 ⟨j, hj, e⟩⟩)

theorem renO_m (f : Nat → Nat) (o : AObj) : (renO f o).m = o.m := by unfold renO; split <;> rfl
theorem renO_e (f : Nat → Nat) (o : AObj) : (renO f o).e = o.e := by unfold renO; split <;> rfl
theorem renO_sz (f : Nat → Nat) (o : AObj) : (renO f o).sz = o.sz := by unfold renO; split <;> simp [AObj.sz]

theorem sameE_get : ∀ {os : List AObj} {outs : List (Option AObj)} {i : Nat} {o o' : AObj}, sameE os outs → os[i]? = some o → (outs[i]?).join = some o' → o'.e = o.e
  | o1 :: os, x :: outs, 0, o, o', h, h1, h2 => by
    simp at h1 h2
    subst h1 h2
    exact h.1
  | o1 :: os, x :: outs, i + 1, o, o', h, h1, h2 => by
    simp at h1
    refine sameE_get (os := os) (outs := outs) (i := i) ?_ h1 (by simpa using h2)
    cases x with
    | none => exact h
    | some _ => exact h.2
  | [], _, _, _, _, _, h1, _ => by simp at h1
  | _ :: _, [], _, _, _, _, _, h2 => by simp at h2
end
end Go.Ab
