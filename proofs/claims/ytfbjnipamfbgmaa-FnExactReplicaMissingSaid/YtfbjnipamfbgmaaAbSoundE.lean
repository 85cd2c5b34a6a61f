/- A call: what holds behind it. -/
import Derived.Test.YtfbjnipamfbgmaaAbSoundD
set_option linter.unusedSimpArgs false
set_option linter.unusedVariables false
namespace Go.Ab
section
variable {P : Program} {base : Nat} {G A : Nat → Prop} {w0 : Base} {N : Nat} {st : St} {σ : Nat → Option Nat} {a : Act} {w : World} {o : Oper} {r : CallRes} {ρ : Nat → Option AObj} {fr : Nat → Bool} {d : Nat} {c : Prop} {v : PV} {Δ : List (Nat × Option AObj)}

/-- All that a call's return gives. -/
structure Back (base : Nat) (G A : Nat → Prop) (w0 : Base) (N : Nat) (st : St) (σ : Nat → Option Nat) (a : Act) (w : World) (ρ : Nat → Option AObj) (fr : Nat → Bool) (d : Nat) (ks : List Nat)
    (val : PV) (outs : List (Option AObj)) (news : List AObj) (y : Value) (σ' : Nat → Option Nat) (w' : World) : Prop where
  R : Rel base G A w0 N st σ a w
  C : CallKeys st ρ fr d ks news.length
  se : sameE (callIns ks ρ) outs
  post : PostOk w (handA base G A st σ) (insOf ks ρ) (insσ ks σ) val outs news y σ' w'

variable {ks : List Nat} {val : PV} {outs : List (Option AObj)} {news : List AObj} {y : Value} {σ' : Nat → Option Nat} {w' : World}

abbrev oH (ks : List Nat) (outs : List (Option AObj)) (news : List AObj) : Nat → Option AObj := outH ks.length outs news

theorem Back.conv (X : Back base G A w0 N st σ a w ρ fr d ks val outs news y σ' w') {i : Nat} {ob : AObj} (h : oH ks outs news i = some ob) :
    updL st.H (callΔ ks d outs news) (back ks d i) = some (renO (back ks d) ob) ∧ callσ σ ks d news.length σ' (back ks d i) = σ' i := by
  have h' := h
  simp only [oH, outH] at h
  unfold back
  split at h
  · rename_i hi
    rw [if_pos hi]
    have hki : ks[i]? = some (ks.getD i 0) := by rw [List.getD_eq_getElem?_getD, List.getElem?_eq_getElem hi]; rfl
    obtain ⟨k, hk⟩ : ∃ k, k = ks.getD i 0 := ⟨_, rfl⟩
    rw [← hk] at hki ⊢
    refine ⟨?_, ?_⟩
    · rw [callΔ_old X.C hki, h]; rfl
    · rw [callσ_old, ← insσ_get (σ := σ) hki]
      · exact (X.post.same i ob (by rw [insOf_length]; exact hi) (by rw [insOf_length]; exact h')).symm
      · intro j hj e
        obtain ⟨ob', _, hH, _⟩ := X.C.C.at (List.mem_of_getElem? hki)
        rw [e, X.C.fresh j hj] at hH
        cases hH
  · rename_i hi
    rw [if_neg hi]
    have hj : i - ks.length < news.length := (List.getElem?_eq_some_iff.mp h).1
    exact ⟨callΔ_new X.C h, by rw [callσ_new hj]; congr 1; omega⟩

theorem Back.cases (X : Back base G A w0 N st σ a w ρ fr d ks val outs news y σ' w') {k : Nat} {o2 : AObj} (h : updL st.H (callΔ ks d outs news) k = some o2) :
    (∃ i ob, oH ks outs news i = some ob ∧ o2 = renO (back ks d) ob ∧ back ks d i = k ∧ callσ σ ks d news.length σ' k = σ' i) ∨ (o2.m = 3 ∧ k ∈ ks) ∨
    (k ∉ ks ∧ st.H k = some o2 ∧ callσ σ ks d news.length σ' k = σ k) := by
  rcases key_cases (d := d) (ks := ks) k news.length with ⟨i, hi⟩ | ⟨j, hj, rfl⟩ | ⟨h1, h2⟩
  · rw [callΔ_old X.C hi] at h
    have hil := (List.getElem?_eq_some_iff.mp hi).1
    cases ho : (outs[i]?).join with
    | none => rw [ho] at h; simp only [backO, Option.some.injEq] at h; subst h; exact .inr (.inl ⟨rfl, List.mem_of_getElem? hi⟩)
    | some ob =>
      rw [ho] at h
      simp only [backO, Option.some.injEq] at h
      have hoh : oH ks outs news i = some ob := by simp only [oH, outH, if_pos hil, ho]
      have hb : back ks d i = k := by unfold back; rw [if_pos hil, List.getD_eq_getElem?_getD, hi]; rfl
      have := (X.conv hoh).2
      rw [hb] at this
      exact .inl ⟨i, ob, hoh, h.symm, hb, this⟩
  · have hn : news[j]? = some news[j] := List.getElem?_eq_getElem hj
    rw [callΔ_new X.C hn] at h
    cases h
    have hoh : oH ks outs news (ks.length + j) = some news[j] := by
      simp only [oH, outH]; rw [if_neg (by omega), show ks.length + j - ks.length = j from by omega, hn]
    refine .inl ⟨ks.length + j, _, hoh, rfl, ?_, callσ_new hj⟩
    unfold back; rw [if_neg (by omega)]; congr 1; omega
  · rw [callΔ_else h1 h2] at h
    exact .inr (.inr ⟨h1, h, callσ_old h2⟩)

/-- A block of what comes back is new, or was handed over. -/
theorem Back.block (X : Back base G A w0 N st σ a w ρ fr d ks val outs news y σ' w') {i b : Nat} {ob : AObj} (h : oH ks outs news i = some ob) (hb : σ' i = some b) :
    w.heap.size ≤ b ∨ ∃ j, j < ks.length ∧ insσ ks σ j = some b := by
  by_cases hi : i < ks.length
  · have := X.post.same i ob (by rw [insOf_length]; exact hi) (by rw [insOf_length]; exact h)
    exact .inr ⟨i, hi, by rw [← this, hb]⟩
  · rcases X.post.fresh i b (by rw [insOf_length]; omega) hb with h | ⟨j, hj, _, hs⟩
    · exact .inl h
    · exact .inr ⟨j, by rw [insOf_length] at hj; exact hj, hs⟩

theorem Back.handed (X : Back base G A w0 N st σ a w ρ fr d ks val outs news y σ' w') {j b : Nat} (hj : j < ks.length) (hs : insσ ks σ j = some b) :
    ∃ ob, st.H ks[j] = some ob ∧ ob.m = 0 ∧ σ ks[j] = some b ∧ b < w.heap.size ∧ (base ≤ b ∨ G b) := by
  have hk : ks[j]? = some ks[j] := List.getElem?_eq_getElem hj
  rw [insσ_get hk] at hs
  obtain ⟨ob, _, hH, hm, _⟩ := X.C.C.at (List.mem_of_getElem? hk)
  exact ⟨ob, hH, hm, hs, X.R.lt _ _ _ hH (by rw [hm]; simp) hs, X.R.own _ _ _ hH (by rw [hm]; simp) hs⟩

/-- An object that was not handed over lies apart from all that comes back. -/
theorem Back.apart (X : Back base G A w0 N st σ a w ρ fr d ks val outs news y σ' w') {k b : Nat} {ob : AObj} (hk : st.H k = some ob) (hm : ob.m ≠ 3) (hn : k ∉ ks) (hb : σ k = some b) :
    b < w.heap.size ∧ ∀ j, j < ks.length → insσ ks σ j ≠ some b := by
  refine ⟨X.R.lt _ _ _ hk hm hb, ?_⟩
  intro j hj hs
  obtain ⟨ob', hH, hm', hs', _, _⟩ := X.handed hj hs
  rcases X.R.inj _ k ob' ob b hH hk hs' hb with h | h | h | ⟨h, _⟩ | ⟨h, _⟩ | ⟨h, _⟩
  · exact hn (h ▸ List.getElem_mem hj)
  · rw [hm'] at h; cases h
  · exact hm h
  · rw [hm'] at h; cases h
  · rw [hm'] at h; cases h
  · rw [hm'] at h; cases h

abbrev env2 (base : Nat) (G A : Nat → Prop) (st : St) (σ : Nat → Option Nat) (d : Nat) (ks : List Nat) (outs : List (Option AObj)) (news : List AObj) (σ' : Nat → Option Nat) (w' : World) : Env :=
  env (updL st.H (callΔ ks d outs news)) (callσ σ ks d news.length σ') (may base G A) w'

theorem Back.keepCell (X : Back base G A w0 N st σ a w ρ fr d ks val outs news y σ' w') {b : Nat} (hl : b < w.heap.size) (hn : ∀ j, j < ks.length → insσ ks σ j ≠ some b) : w'.heap[b]? = w.heap[b]? :=
  X.post.keep b hl (fun i hi => hn i (by rw [insOf_length] at hi; exact hi))

theorem Back.le (X : Back base G A w0 N st σ a w ρ fr d ks val outs news y σ' w') : (envC base G A st σ w).Le (env2 base G A st σ d ks outs news σ' w') := by
  constructor
  · rintro q ad u ⟨h1, h2, h3⟩
    have hl := World.block_lt_of_cell? w ad h1
    have hn : ∀ j, j < ks.length → insσ ks σ j ≠ some ad.block := by
      intro j hj hs
      obtain ⟨ob, hH, hm, hs', _, _⟩ := X.handed hj hs
      exact h3 _ ob hH (by rw [hm]; simp) hs'
    refine ⟨(World.cell?_of_block (X.keepCell hl hn)).trans h1, h2, ?_⟩
    intro k o2 hk hm
    rcases X.cases hk with ⟨i, ob, hoh, rfl, _, hs⟩ | ⟨h, _⟩ | ⟨hnk, hH, hs⟩
    · rw [hs]
      intro hb
      rcases X.block hoh hb with h | ⟨j, hj, h⟩
      · omega
      · exact hn j hj h
    · exact absurd h hm
    · rw [hs]; exact h3 k o2 hH hm
  · rintro k ⟨ob, hH, hm⟩
    by_cases hk : k ∈ ks
    · obtain ⟨i, hi⟩ := List.mem_iff_getElem?.mp hk
      have hil := (List.getElem?_eq_some_iff.mp hi).1
      have h2 := callΔ_old (outs := outs) (news := news) X.C hi
      obtain ⟨ob0, hρ, hH0, hm0, _⟩ := X.C.C.at hk
      rw [hH] at hH0; cases hH0
      cases ho : (outs[i]?).join with
      | none =>
        rw [ho] at h2
        exact .inl ⟨_, h2, rfl⟩
      | some o' =>
        rw [ho] at h2
        have hoh : oH ks outs news i = some o' := by simp only [oH, outH, if_pos hil, ho]
        have hb : back ks d i = k := by unfold back; rw [if_pos hil, List.getD_eq_getElem?_getD, hi]; rfl
        have hσ := (X.conv hoh).2
        rw [hb] at hσ
        have hs := X.post.same i o' (by rw [insOf_length]; exact hil) (by rw [insOf_length]; exact hoh)
        rw [insσ_get hi] at hs
        by_cases hm3 : o'.m = 3
        · exact .inl ⟨_, h2, by show (renO _ _).m = 3; rw [renO_m]; exact hm3⟩
        · refine .inr ⟨⟨_, h2, by show (renO _ _).m ≠ 3; rw [renO_m]; exact hm3⟩, by show callσ _ _ _ _ _ _ = σ k; rw [hσ, hs], ?_, ?_⟩
          · have hin : (callIns ks ρ)[i]? = some ob := by simp [callIns, hi, hρ]
            have := sameE_get X.se hin ho
            simp only [env, h2, hH, backO, Option.map_some, Option.getD_some, renO_e]
            exact this
          · simp only [env]
            rw [hσ, hs]
            cases σ k with
            | none => exact Nat.le_refl _
            | some b => exact X.post.grow b
    · have hkey : ∀ j, j < news.length → k ≠ key d j := by
        rintro j hj rfl
        rw [X.C.fresh j hj] at hH; cases hH
      have h2 := callΔ_else (st := st) (outs := outs) (d := d) hk hkey
      have hσ := callσ_old (σ := σ) (ks := ks) (σ' := σ') hkey
      refine .inr ⟨⟨ob, by show updL _ _ _ = _; rw [h2]; exact hH, hm⟩, hσ, by simp only [env, h2], ?_⟩
      simp only [env, hσ]
      cases σ k with
      | none => exact Nat.le_refl _
      | some b => exact X.post.grow b
  · rintro k ⟨ob, hH, hm⟩
    have hk : k ∉ ks := by
      intro hk
      obtain ⟨ob0, _, hH0, hm0, _⟩ := X.C.C.at hk
      rw [hH] at hH0; cases hH0
      rw [hm] at hm0; cases hm0
    have hkey : ∀ j, j < news.length → k ≠ key d j := by
      rintro j hj rfl
      rw [X.C.fresh j hj] at hH; cases hH
    exact ⟨ob, by show updL _ _ _ = _; rw [callΔ_else hk hkey]; exact hH, hm⟩

abbrev envP (base : Nat) (G A : Nat → Prop) (st : St) (σ : Nat → Option Nat) (w : World) (ks : List Nat) (ρ : Nat → Option AObj) (outs : List (Option AObj)) (news : List AObj) (σ' : Nat → Option Nat) (w' : World) : Env :=
  env (outH (insOf ks ρ).length outs news) σ' (fun _ b => w.heap.size ≤ b ∨ handA base G A st σ b ∨ ∃ i, i < (insOf ks ρ).length ∧ insσ ks σ i = some b) w'

theorem Back.rd (X : Back base G A w0 N st σ a w ρ fr d ks val outs news y σ' w') : ∀ q ad u, (envP base G A st σ w ks ρ outs news σ' w').rd q ad u → (env2 base G A st σ d ks outs news σ' w').rd q ad u := by
  rintro q ad u ⟨h1, h2, h3⟩
  rw [insOf_length] at h2
  refine ⟨h1, ?_, ?_⟩
  · intro _
    rcases h2 with h | h | ⟨i, hi, h⟩
    · exact .inl (Nat.le_trans X.R.size h)
    · exact h.1
    · obtain ⟨_, _, _, _, _, hg⟩ := X.handed hi h
      exact hg.imp id .inl
  · intro k o2 hk hm
    rcases X.cases hk with ⟨i, ob, hoh, rfl, _, hs⟩ | ⟨h, _⟩ | ⟨hnk, hH, hs⟩
    · rw [hs]
      exact h3 i ob (by rw [insOf_length]; exact hoh) (by rw [renO_m] at hm; exact hm)
    · exact absurd h hm
    · rw [hs]
      intro hb
      obtain ⟨g1, g2⟩ := X.apart hH hm hnk hb
      rcases h2 with h | h | ⟨i, hi, h⟩
      · omega
      · exact h.2 k o2 hH hm hb
      · exact g2 i hi h

theorem Back.K (X : Back base G A w0 N st σ a w ρ fr d ks val outs news y σ' w') {x : L} {u : Value} (h : K (envP base G A st σ w ks ρ outs news σ' w') x u) : K (env2 base G A st σ d ks outs news σ' w') (renL (back ks d) x) u := by
  have ref : ∀ i, (envP base G A st σ w ks ρ outs news σ' w').live i → ∃ ob, oH ks outs news i = some ob ∧ ob.m ≠ 3 := by
    rintro i ⟨ob, h1, h2⟩
    rw [insOf_length] at h1
    exact ⟨ob, h1, h2⟩
  have refd : ∀ i, (envP base G A st σ w ks ρ outs news σ' w').dead i → (env2 base G A st σ d ks outs news σ' w').dead (back ks d i) := by
    rintro i ⟨ob, h1, h2⟩
    rw [insOf_length] at h1
    exact ⟨_, (X.conv h1).1, by rw [renO_m]; exact h2⟩
  cases x with
  | v x => exact h
  | vs q xs => exact KV.mono X.rd h
  | emp => exact h
  | sl i off len =>
    rcases h with ⟨h1, h2⟩ | ⟨hl, h⟩
    · exact .inl ⟨refd i h1, h2⟩
    · obtain ⟨ob, h1, hm⟩ := ref i hl
      obtain ⟨c1, c2⟩ := X.conv h1
      obtain ⟨ad, cap, rfl, hc, hh⟩ := K_sl (.inr ⟨hl, h⟩) (by rw [insOf_length]; exact h1) hm
      refine K_sl_mk c1 (by rw [renO_m]; exact hm) hc (hh.imp id ?_)
      rintro ⟨b, hb, g1, g2, g3⟩
      exact ⟨b, by rw [c2]; exact hb, by rw [renO_e]; exact g1, g2, by rw [renO_e]; exact g3⟩
  | ptr i e oo =>
    rcases h with ⟨h1, h2⟩ | ⟨hl, h⟩
    · exact .inl ⟨refd i h1, h2⟩
    · obtain ⟨ob, h1, hm⟩ := ref i hl
      obtain ⟨c1, c2⟩ := X.conv h1
      obtain ⟨b, hb, rfl⟩ := K_ptr (.inr ⟨hl, h⟩) (by rw [insOf_length]; exact h1) hm
      have := K_ptr_mk (w := w') (rd := may base G A) (e := e) (o := oo) c1 (by rw [renO_m]; exact hm) (c2.trans hb)
      rw [renO_e] at this
      exact this
  | pv q cs =>
    obtain ⟨ad, f, rfl, hh⟩ := h
    exact ⟨ad, f, rfl, fun t ht => ⟨X.rd _ _ _ (hh t ht).1, (hh t ht).2.mono X.rd⟩⟩
  | clos f ks' =>
    obtain ⟨ys, rfl, hF⟩ := h
    refine ⟨ys, rfl, F2_map_left (hF.mono ?_)⟩
    rintro i z (⟨h1, h2⟩ | ⟨hl, b, hb, rfl⟩)
    · exact .inl ⟨refd i h1, h2⟩
    · obtain ⟨ob, h1, hm⟩ := ref i hl
      obtain ⟨c1, c2⟩ := X.conv h1
      exact .inr ⟨⟨_, c1, by rw [renO_m]; exact hm⟩, b, c2.trans hb, rfl⟩
  | bad => trivial

theorem Back.KP1 (X : Back base G A w0 N st σ a w ρ fr d ks val outs news y σ' w') {p : PV} {u : Value} (h : KP1 (envP base G A st σ w ks ρ outs news σ' w') p u) : KP1 (env2 base G A st σ d ks outs news σ' w') (renP1 (back ks d) p) u := by
  cases p with
  | l x => exact X.K h
  | agg cs =>
    obtain ⟨ys, rfl, hF⟩ := h
    exact ⟨ys, rfl, F2_map_left (hF.mono fun _ _ => X.K)⟩
  | tup _ => exact h

theorem Back.KP (X : Back base G A w0 N st σ a w ρ fr d ks val outs news y σ' w') {p : PV} {u : Value} (h : KP (envP base G A st σ w ks ρ outs news σ' w') p u) : KP (env2 base G A st σ d ks outs news σ' w') (renP (back ks d) p) u := by
  cases p with
  | l x => exact X.K h
  | agg cs =>
    obtain ⟨ys, rfl, hF⟩ := h
    exact ⟨ys, rfl, F2_map_left (hF.mono fun _ _ => X.K)⟩
  | tup ps =>
    obtain ⟨ys, rfl, hF⟩ := h
    exact ⟨ys, rfl, F2_map_left (hF.mono fun _ _ => X.KP1)⟩

theorem back_inj (C : CallKeys st ρ fr d ks news.length) {i j : Nat} {o1 o2 : AObj} (hi : oH ks outs news i = some o1) (hj : oH ks outs news j = some o2) (h : back ks d i = back ks d j) : i = j := by
  have range : ∀ {i : Nat} {o : AObj}, oH ks outs news i = some o → i < ks.length ∨ (ks.length ≤ i ∧ i - ks.length < news.length) := by
    intro i o h
    simp only [oH, outH] at h
    split at h
    · exact .inl (by assumption)
    · exact .inr ⟨by omega, (List.getElem?_eq_some_iff.mp h).1⟩
  have old : ∀ {i : Nat} (hi : i < ks.length), back ks d i = ks[i] := by
    intro i hi; unfold back; rw [if_pos hi, List.getD_eq_getElem?_getD, List.getElem?_eq_getElem hi]; rfl
  have new : ∀ {i : Nat}, ks.length ≤ i → back ks d i = key d (i - ks.length) := by
    intro i hi; unfold back; rw [if_neg (by omega)]
  have mix : ∀ {i j : Nat} (hi : i < ks.length), j < news.length → ks[i] ≠ key d j := by
    intro i j hi hj e
    obtain ⟨ob, _, hH, _⟩ := C.C.at (List.getElem_mem hi)
    rw [e, C.fresh j hj] at hH; cases hH
  rcases range hi with h1 | ⟨h1, h1'⟩ <;> rcases range hj with h2 | ⟨h2, h2'⟩
  · rw [old h1, old h2] at h
    exact (List.getElem_inj C.C.nd).mp h
  · rw [old h1, new h2] at h
    exact absurd h (mix h1 h2')
  · rw [new h1, old h2] at h
    exact absurd h.symm (mix h2 h1')
  · rw [new h1, new h2] at h
    have := key_inj h
    omega

theorem Back.rel (X : Back base G A w0 N st σ a w ρ fr d ks val outs news y σ' w') : Rel base G A w0 N ⟨st.T, updL st.H (callΔ ks d outs news)⟩ (callσ σ ks d news.length σ') a w' := by
  refine X.R.turn X.le ?_ ?_ ?_ ?_ X.post.size X.post.os X.post.tape X.post.output X.post.grow ?_
  · intro k1 k2 o1 o2 b h1 h2 hb1 hb2
    rcases X.cases h1 with ⟨i, ob1, hoh1, rfl, e1, hs1⟩ | ⟨h, _⟩ | ⟨hn1, hH1, hs1⟩
    · rcases X.cases h2 with ⟨j, ob2, hoh2, rfl, e2, hs2⟩ | ⟨h, _⟩ | ⟨hn2, hH2, hs2⟩
      · rw [hs1] at hb1; rw [hs2] at hb2
        rw [renO_m, renO_m, renO_sz, renO_sz]
        have := X.post.inj i j ob1 ob2 b (by rw [insOf_length]; exact hoh1) (by rw [insOf_length]; exact hoh2) hb1 hb2
        exact this.imp (fun h => by rw [← e1, ← e2, h]) id
      · exact .inr (.inr (.inl h))
      · by_cases hm2 : o2.m = 3
        · exact .inr (.inr (.inl hm2))
        · rw [hs1] at hb1; rw [hs2] at hb2
          obtain ⟨g1, g2⟩ := X.apart hH2 hm2 hn2 hb2
          rcases X.block hoh1 hb1 with h | ⟨j, hj, h⟩
          · omega
          · exact absurd h (g2 j hj)
    · exact .inr (.inl h)
    · by_cases hm1 : o1.m = 3
      · exact .inr (.inl hm1)
      · rcases X.cases h2 with ⟨j, ob2, hoh2, rfl, e2, hs2⟩ | ⟨h, _⟩ | ⟨hn2, hH2, hs2⟩
        · rw [hs1] at hb1; rw [hs2] at hb2
          obtain ⟨g1, g2⟩ := X.apart hH1 hm1 hn1 hb1
          rcases X.block hoh2 hb2 with h | ⟨j, hj, h⟩
          · omega
          · exact absurd h (g2 j hj)
        · exact .inr (.inr (.inl h))
        · rw [hs1] at hb1; rw [hs2] at hb2
          exact X.R.inj k1 k2 o1 o2 b hH1 hH2 hb1 hb2
  · intro k o2 hk hm
    rcases X.cases hk with ⟨i, ob, hoh, rfl, e1, hs⟩ | ⟨h, _⟩ | ⟨hnk, hH, hs⟩
    · rw [renO_m] at hm
      show ObjOk _ w' (callσ σ ks d news.length σ' k) _
      rw [hs]
      have hpl : (renO (back ks d) ob).pl = ob.pl := by unfold renO; split <;> rfl
      have hes : (renO (back ks d) ob).es = if ob.pl then ob.es else ob.es.map fun x => x.map (renL (back ks d)) := by unfold renO; split <;> simp [*]
      rcases X.post.obj i ob (by rw [insOf_length]; exact hoh) hm with ⟨h1, h2⟩ | ⟨b, cc, ty, h1, h2, h3, h4, h5, h6⟩
      · exact .inl ⟨h1, by rw [hes, h2]; split <;> rfl⟩
      · refine .inr ⟨b, cc, ty, h1, h2, ?_, ?_, ?_, ?_⟩
        · rw [hes, renO_e]
          split
          · exact h3
          · intro x hx
            obtain ⟨x', hx', rfl⟩ := List.mem_map.mp hx
            simpa using h3 x' hx'
        · rw [hes, renO_e]
          split
          · exact h4
          · simpa using h4
        · rw [hpl, hes]
          intro hp
          rw [if_pos hp]
          exact h5 hp
        · rw [hes, renO_e]
          intro j t x r hr hx
          split at hr
          · rename_i hp
            obtain ⟨u, hu, hK⟩ := h6 j t x r hr hx
            have hxp := h5 hp r (List.mem_of_getElem? hr) x (List.mem_of_getElem? hx)
            exact ⟨u, hu, K_of_KV ((KV_of_K hxp hK).mono X.rd)⟩
          · simp only [List.getElem?_map, Option.map_eq_some_iff] at hr
            obtain ⟨r', hr', rfl⟩ := hr
            simp only [List.getElem?_map, Option.map_eq_some_iff] at hx
            obtain ⟨x', hx', rfl⟩ := hx
            obtain ⟨u, hu, hK⟩ := h6 j t x' r' hr' hx'
            exact ⟨u, hu, X.K hK⟩
    · exact absurd h hm
    · refine Objs.mono X.le hs ?_ (X.R.obj k o2 hH hm)
      intro b c1 ty1 hb1 hh1
      obtain ⟨g1, g2⟩ := X.apart hH hm hnk hb1
      rw [X.keepCell g1 g2]
      exact hh1
  · intro k o2 b hk hm hb
    rcases X.cases hk with ⟨i, ob, hoh, rfl, e1, hs⟩ | ⟨h, _⟩ | ⟨hnk, hH, hs⟩
    · rw [hs] at hb
      rcases X.block hoh hb with h | ⟨j, hj, h⟩
      · exact .inl (Nat.le_trans X.R.size h)
      · obtain ⟨_, _, _, _, _, hg⟩ := X.handed hj h
        exact hg
    · exact absurd h hm
    · rw [hs] at hb
      exact X.R.own k o2 b hH hm hb
  · intro b hb hG
    refine X.keepCell (Nat.lt_of_lt_of_le hb X.R.size) ?_
    intro j hj hs
    obtain ⟨_, _, _, _, _, hg⟩ := X.handed hj hs
    rcases hg with h | h
    · omega
    · exact hG h
  · intro k o2 hk1000 hk hm
    rcases X.cases hk with ⟨i, ob, hoh, rfl, e1, hs⟩ | ⟨h, _⟩ | ⟨hnk, hH, hs⟩
    · rcases Nat.lt_or_ge i ks.length with hi | hi
      · have hki : ks[i]? = some ks[i] := List.getElem?_eq_getElem hi
        have hb : back ks d i = ks[i] := by unfold back; rw [if_pos hi, List.getD_eq_getElem?_getD, hki]; rfl
        obtain ⟨ob1, _, hH1, hm1, _⟩ := X.C.C.at (List.getElem_mem hi)
        have hsame := X.post.same i ob (by rw [insOf_length]; exact hi) (by rw [insOf_length]; exact hoh)
        rw [insσ_get hki] at hsame
        rw [hb] at e1
        subst e1
        exact ⟨ob1, hH1, by omega, hs.trans hsame⟩
      · have hj : i - ks.length < news.length := by
          simp only [oH, outH, if_neg (show ¬ i < ks.length by omega)] at hoh
          exact (List.getElem?_eq_some_iff.mp hoh).1
        have hb : back ks d i = key d (i - ks.length) := by unfold back; rw [if_neg (by omega)]
        have := X.C.big _ hj
        rw [← hb, e1] at this
        omega
    · exact absurd h hm
    · exact ⟨o2, hH, hm, hs⟩

theorem updL_skip (same : List Nat) : ∀ (l1 l2 : List (Nat × Option AObj)) (f : Nat → Option AObj), (l1.map (·.1)).Nodup → (∀ x ∈ l1, x.1 ∈ same → f x.1 = x.2) →
    updL f ((l1.filter fun x => !same.contains x.1) ++ l2) = updL f (l1 ++ l2)
  | [], _, _, _, _ => rfl
  | (k, v) :: l1, l2, f, hn, h => by
    simp only [List.map_cons, List.nodup_cons] at hn
    have hnot : ∀ x ∈ l1, x.1 ≠ k := fun x hx e => hn.1 (by rw [← e]; exact List.mem_map_of_mem hx)
    by_cases hk : k ∈ same
    · have e : upd f k v = f := by
        funext j
        unfold upd
        split
        · rename_i e; subst e; exact (h (j, v) (by simp) hk).symm
        · rfl
      rw [List.filter_cons_of_neg (by simp [hk]), List.cons_append]
      simp only [updL, e]
      exact updL_skip same l1 l2 f hn.2 fun x hx => h x (by simp [hx])
    · rw [List.filter_cons_of_pos (by simp [hk]), List.cons_append, List.cons_append]
      simp only [updL]
      refine updL_skip same l1 l2 _ hn.2 fun x hx hs => ?_
      unfold upd
      rw [if_neg (hnot x hx)]
      exact h x (by simp [hx]) hs

theorem good_call (R : Rel base G A w0 N st σ a w) (S : Sees st ρ fr d) (hd : ∀ x, o.dst = some x → x < N) {g : Operand} {xs : Array Operand} {ts : Array TypeId} {g' : Opd} {xs' : List Opd}
    (ho : o.op = .call { callee := .value g, args := xs, argTypes := ts }) (hg : opd g = some g') (hxs : xs.toList.mapM opd = some xs')
    (hs : sem P r (.call g' xs') st.T ρ fr d = some (c, v, Δ)) (hc : c) : Good P base G A w0 N (st.put o.dst v Δ) o a w := by
  have h1 := opd_ok R.tmp hg
  simp only [sem] at hs
  split at hs
  · rename_i f cs hp
    rw [hp] at h1
    obtain ⟨caps, hv, hcaps⟩ := h1
    split at hs
    · rename_i hcond
      obtain ⟨hall, hfr⟩ := hcond
      simp only [Option.some.injEq, Prod.mk.injEq] at hs
      obtain ⟨rfl, rfl, rfl⟩ := hs
      obtain ⟨⟨hargs, ⟨hnd, hins, hse⟩, hcallable, hcall⟩, hsame⟩ := hc
      have C : CallCond st ρ fr d r.ks := ⟨S, hall, hnd, hins⟩
      have CK : CallKeys st ρ fr d r.ks r.news.length := ⟨C, fun j hj => S.new j (List.all_eq_true.mp hfr j (List.mem_range.mpr hj)), fun j hj => S.big j (List.all_eq_true.mp hfr j (List.mem_range.mpr hj))⟩
      have hF : F2 (fun p y => KP (envC base G A st σ w) p y) (callArgs st.T xs' cs) (xs.toList.map a.eval ++ caps) := by
        unfold callArgs
        refine F2.append (F2_map_left (F2_map_right (mapM_opd R.tmp hxs))) (F2_map_left (hcaps.mono ?_))
        rintro k z (h | ⟨hl, b, hb, rfl⟩)
        · exact .inl h
        · exact .inr ⟨hl, b, hb, by simp⟩
      have hF2 : F2 (KP1 (envI base G A st σ r.ks ρ w)) ((callArgs st.T xs' cs).map (argP r.ks ρ)) (xs.toList.map a.eval ++ caps) := by
        revert hargs
        generalize xs.toList.map a.eval ++ caps = ys at hF
        generalize callArgs st.T xs' cs = ps at hF
        intro hargs
        induction hF with
        | nil => exact .nil
        | cons hab _ ih => exact .cons (argP_ok R C hab (hargs _ (by simp))) (ih fun p hp => hargs p (by simp [hp]))
      have hlt : ∀ i b, i < (insOf r.ks ρ).length → insσ r.ks σ i = some b → b < w.heap.size := by
        intro i b hi hb
        rw [insOf_length] at hi
        have hk : r.ks[i]? = some r.ks[i] := List.getElem?_eq_getElem hi
        rw [insσ_get hk] at hb
        obtain ⟨ob, _, hH, hm, _⟩ := C.at (List.mem_of_getElem? hk)
        exact R.lt _ _ _ hH (by rw [hm]; simp) hb
      have hcalls := hcall w (handA base G A st σ) (insσ r.ks σ) (xs.toList.map a.eval ++ caps) (ins_inj R C) (ins_objs R C) hlt hF2
      intro Q
      have hrun : (execOp a.eval o).run P w = .ok (.enter f (xs.toList.map a.eval ++ caps).toArray) w := by
        obtain ⟨fn, hfn, hname, hbody⟩ := hcallable
        have hb : fn.body.isNone = false := by cases h : fn.body <;> simp_all
        unfold execOp
        rw [ho]
        simp only [resolve, hv, Deferred.ofValue, Sem.run_bind, Sem.run_pure, Result.andThen_ok, invoke, callFunc, run_program]
        simp only [hfn]
        rw [if_neg (by simpa using hname), if_neg (by simp [hb])]
        simp only [Sem.run_pure]
        congr 2
        simp [← Array.toList_map]
      unfold Oper.wp
      rw [hrun, Oper.upon_enter]
      refine hcalls.mono ?_
      rintro e w' ⟨y, σ', rfl, hpost⟩
      have X : Back base G A w0 N st σ a w ρ fr d r.ks r.val r.outs r.news y σ' w' := ⟨R, CK, hse, hpost⟩
      refine ⟨callσ σ r.ks d r.news.length σ', ?_⟩
      have := X.rel.put hd (v := renP (back r.ks d) r.val) (val := y) (X.KP hpost.val)
      rw [put_put] at this
      have hkeys : ((callBack r.ks d r.outs).map (·.1)) = r.ks := by
        apply List.ext_getElem?
        intro i
        simp only [callBack, List.map_map, List.getElem?_map, List.getElem?_zipIdx, Option.map_map]
        cases r.ks[i]? <;> rfl
      have hskip := updL_skip r.same (callBack r.ks d r.outs) (r.news.zipIdx.map fun (o, j) => (key d j, some (renO (back r.ks d) o))) st.H (by rw [hkeys]; exact hnd) (by
        intro x hx hs
        have := hsame x hx hs
        obtain ⟨_, _, hx2⟩ : ∃ q, q ∈ r.ks.zipIdx ∧ (q.1, some (backO (back r.ks d) ((r.outs[q.2]?).join))) = x := by simpa [callBack] using hx
        rw [← hx2] at this ⊢
        exact (S.sub _ _ this).1)
      have e : st.put o.dst (renP (back r.ks d) r.val) (((callBack r.ks d r.outs).filter fun x => !r.same.contains x.1) ++ r.news.zipIdx.map fun (o, j) => (key d j, some (renO (back r.ks d) o))) =
          st.put o.dst (renP (back r.ks d) r.val) (callΔ r.ks d r.outs r.news) := by
        unfold St.put
        rw [hskip]
        rfl
      rw [e]
      exact this
    · cases hs
  · cases hs
end
end Go.Ab
