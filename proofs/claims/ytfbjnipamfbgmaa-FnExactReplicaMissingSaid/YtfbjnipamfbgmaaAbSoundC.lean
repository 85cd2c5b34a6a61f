/- A call: what the callee is told of its arguments. -/
import Derived.Test.YtfbjnipamfbgmaaAbSoundB
set_option linter.unusedSimpArgs false
set_option linter.unusedVariables false
namespace Go.Ab
section
variable {P : Program} {base : Nat} {G A : Nat → Prop} {w0 : Base} {N : Nat} {st : St} {σ : Nat → Option Nat} {a : Act} {w : World} {o : Oper} {r : CallRes} {ρ : Nat → Option AObj} {fr : Nat → Bool} {d : Nat} {c : Prop} {v : PV} {Δ : List (Nat × Option AObj)}

/-- A block of the caller's that was not handed over may be read. -/
theorem rd_own {ks : List Nat} (R : Rel base G A w0 N st σ a w) (C : CallCond st ρ fr d ks) {k b : Nat} {ob : AObj} (hk : st.H k = some ob) (hm : ob.m ≠ 3) (hn : k ∉ ks) (hb : σ k = some b) {ad : Addr} {u : Value} (had : ad.block = b) (hc : w.cell? ad = some u) :
    (envI base G A st σ ks ρ w).rd false ad u := by
  refine ⟨hc, (fun h => by cases h), ?_⟩
  intro i o' hi _ hs
  obtain ⟨k', ob', hki, hob, rfl⟩ := insOf_get C.all hi
  rw [insσ_get hki, had] at hs
  obtain ⟨ob1, e1, hH1, hm1, _⟩ := C.at (List.mem_of_getElem? hki)
  rcases R.inj k' k ob1 ob b hH1 hk hs hb with h | h | h | ⟨h, _⟩ | ⟨h, _⟩ | ⟨h, _⟩
  · subst h; exact hn (List.mem_of_getElem? hki)
  · rw [hm1] at h; cases h
  · exact hm h
  · rw [hm1] at h; cases h
  · rw [hm1] at h; cases h
  · rw [hm1] at h; cases h

theorem vw_sl {ks : List Nat} (R : Rel base G A w0 N st σ a w) (C : CallCond st ρ fr d ks) {k off len : Nat} {y : Value} (h : K (envC base G A st σ w) (.sl k off len) y) (hok : vw1Ok ks ρ (.sl k off len)) :
    KV (envI base G A st σ ks ρ w).rd (vw1 ρ (.sl k off len)) y := by
  simp only [vw1Ok] at hok
  simp only [vw1]
  split at hok
  · rename_i ob hob
    obtain ⟨hn, hlen, hpl⟩ := hok
    replace hn := idx_none hn
    obtain ⟨hH, hm⟩ := C.S.sub _ _ hob
    obtain ⟨ad, cap, rfl, hcm, hh⟩ := K_sl h hH hm
    have hl : ((ob.es.drop off).take len).length = len := by simp; omega
    by_cases h0 : len = 0
    · subst h0
      have : (ob.es.drop off).take 0 = [] := rfl
      rw [this]
      exact KV.vs (xs := []) ⟨0, 0, none⟩ 0 (fun _ _ => undef) (Nat.zero_le _) hcm (.inl rfl) (by simp) (by intro j t hj; simp at hj) (by intro j t hj; simp at hj)
    · rcases hh with ⟨h1, _⟩ | ⟨b, hb, rfl, h1, h2⟩
      · exact absurd h1 h0
      · rcases R.obj k ob hH hm with ⟨h3, _⟩ | ⟨b', cc, ty, q1, q2, q3, q4, q5, q6⟩
        · rw [hb] at h3; cases h3
        · rw [hb] at q1; cases q1
          have hres : KV (envI base G A st σ ks ρ w).rd (.vs false ((ob.es.drop off).take len)) (.slice (some ⟨b, off * ob.e, none⟩) ((ob.es.drop off).take len).length cap) := by
            have hg : ∀ j t, j < len → t < ob.e → ∃ u x, cc[(off + j) * ob.e + t]? = some u ∧ (ob.es[off + j]?.bind (·[t]?)) = some x ∧ K (envC base G A st σ w) x u ∧ x.pure = true := by
              intro j t hj ht
              have hjl : off + j < ob.es.length := by omega
              have hr : ob.es[off + j]? = some ob.es[off + j] := List.getElem?_eq_getElem hjl
              have hx : ob.es[off + j][t]? = some (ob.es[off + j][t]'(by rw [q3 _ (List.getElem_mem hjl)]; exact ht)) := List.getElem?_eq_getElem _
              obtain ⟨u, hu, hK⟩ := q6 _ _ _ _ hr hx
              exact ⟨u, _, hu, by rw [hr]; exact hx, hK, q5 hpl _ (List.getElem_mem hjl) _ (List.getElem_mem _)⟩
            refine KV.vs ⟨b, off * ob.e, none⟩ ob.e (fun j t => cc.getD ((off + j) * ob.e + t) undef) (by omega) hcm (.inr rfl) (fun x hx => q3 x (List.mem_of_mem_drop (List.mem_of_mem_take hx))) ?_ ?_
            · intro j t hj ht
              rw [hl] at hj
              obtain ⟨u, x, hu, _, _, _⟩ := hg j t hj ht
              refine rd_own R C hH hm hn hb (by rw [addr_add]) ?_
              rw [addr_add]
              simp only [World.cell?, q2]
              rw [show off * ob.e + (j * ob.e + t) = (off + j) * ob.e + t from by rw [Nat.add_mul]; omega, Array.getD_eq_getD_getElem?, hu]
              simp
            · intro j t hj ht
              rw [hl] at hj
              have e1 : ((ob.es.drop off).take len)[j] = ob.es[off + j]'(by omega) := by simp
              rw [e1, q3 _ (List.getElem_mem _)] at ht
              obtain ⟨u, x, hu, hx, hK, hp⟩ := hg j t hj ht
              have hjl : off + j < ob.es.length := by omega
              rw [List.getElem?_eq_getElem hjl, Option.bind_some] at hx
              obtain ⟨htl, rfl⟩ := List.getElem?_eq_some_iff.mp hx
              simp only [Array.getD_eq_getD_getElem?, hu, Option.getD_some]
              have := (KV_of_K hp hK).mono (rd_in (w := w) C)
              simpa using this
          rw [hl] at hres
          exact hres
  · exact hok.elim

theorem vw1_ok {ks : List Nat} (R : Rel base G A w0 N st σ a w) (C : CallCond st ρ fr d ks) {x : L} {y : Value} (h : K (envC base G A st σ w) x y) (hok : vw1Ok ks ρ x) :
    KV (envI base G A st σ ks ρ w).rd (vw1 ρ x) y := by
  cases x with
  | v x => exact (KV_of_K rfl h).mono (rd_in C)
  | vs q xs => exact (KV_of_K rfl h).mono (rd_in C)
  | emp => exact (KV_of_K rfl h).mono (rd_in C)
  | sl k off len => exact vw_sl R C h hok
  | ptr k e o => exact hok.elim
  | pv q cs => exact hok.elim
  | clos f ks => exact hok.elim
  | bad => exact hok.elim

theorem vw_ok {ks : List Nat} (R : Rel base G A w0 N st σ a w) (C : CallCond st ρ fr d ks) {x : L} {y : Value} (h : K (envC base G A st σ w) x y) (hok : vwOk ks ρ x) :
    K (envI base G A st σ ks ρ w) (vw ρ x) y := by
  cases x with
  | v x => exact K_of_KV (vw1_ok R C h hok)
  | vs q xs => exact K_of_KV (vw1_ok R C h hok)
  | emp => exact K_of_KV (vw1_ok R C h hok)
  | sl k off len => exact K_of_KV (vw1_ok R C h hok)
  | pv q cs =>
    obtain ⟨ad, f, rfl, hh⟩ := h
    exact ⟨ad, f, rfl, fun t ht => ⟨rd_in C _ _ _ (hh t ht).1, (hh t ht).2.mono (rd_in C)⟩⟩
  | clos f ks => exact hok.elim
  | bad => exact hok.elim
  | ptr k e oo =>
    simp only [vwOk] at hok
    simp only [vw]
    split at hok
    · rename_i ob hob
      split at hok
      · rename_i cs hcs
        obtain ⟨hnk, hok⟩ := hok
        replace hnk := idx_none hnk
        obtain ⟨hH, hm⟩ := C.S.sub _ _ hob
        obtain ⟨b, hb, rfl⟩ := K_ptr h hH hm
        obtain ⟨ys, hF, hys⟩ := R.reads hH hm hb hcs
        refine ⟨⟨b, e * ob.e + oo, none⟩, fun t => ys.getD (oo + t) undef, rfl, ?_⟩
        intro t ht
        have ht' : oo + t < cs.length := by simp at ht; omega
        obtain ⟨u, hu, hK⟩ := hF.get (List.getElem?_eq_getElem ht')
        have hu' : ys.getD (oo + t) undef = u := by rw [List.getD_eq_getElem?_getD, hu]; rfl
        have hmem : cs[oo + t] ∈ cs.drop oo := List.mem_iff_getElem?.mpr ⟨t, by simp [ht']⟩
        constructor
        · refine rd_own R C hH hm hnk hb (by rw [addr_add]) ?_
          simp only [addr_add, hu', Nat.add_assoc]
          exact hys _ _ hu
        · have := vw1_ok R C hK (hok _ hmem)
          simp only [hu', List.getElem_map, List.getElem_drop]
          exact this
      · exact hok.elim
    · exact hok.elim

theorem arg_ok {ks : List Nat} (R : Rel base G A w0 N st σ a w) (C : CallCond st ρ fr d ks) {x : L} {y : Value} (h : K (envC base G A st σ w) x y) (hok : argOk ks ρ x) :
    K (envI base G A st σ ks ρ w) (argL ks ρ x) y := by
  cases x with
  | sl k off len =>
    simp only [argOk] at hok
    simp only [argL]
    split at hok
    · rename_i i hi
      have := K_in C h (.inr (.inl ⟨k, off, len, i, rfl, hi⟩))
      simpa [inL, hi] using this
    · exact vw_ok R C h hok
  | ptr k e o =>
    simp only [argOk] at hok
    simp only [argL]
    split at hok
    · rename_i i hi
      have := K_in C h (.inr (.inr (.inl ⟨k, e, o, i, rfl, hi⟩)))
      simpa [inL, hi] using this
    · exact vw_ok R C h hok
  | v x => exact vw_ok R C h hok
  | vs q xs => exact vw_ok R C h hok
  | emp => exact vw_ok R C h hok
  | pv q cs => exact vw_ok R C h hok
  | clos f ks' => exact vw_ok R C h hok
  | bad => exact vw_ok R C h hok

theorem argP_ok {ks : List Nat} (R : Rel base G A w0 N st σ a w) (C : CallCond st ρ fr d ks) {p : PV} {y : Value} (h : KP (envC base G A st σ w) p y) (hok : argPOk ks ρ p) :
    KP1 (envI base G A st σ ks ρ w) (argP ks ρ p) y := by
  cases p with
  | l x => exact arg_ok R C h hok
  | agg cs =>
    obtain ⟨ys, rfl, hF⟩ := h
    refine ⟨ys, rfl, ?_⟩
    replace hok : ∀ x ∈ cs, argOk ks ρ x := hok
    induction hF with
    | nil => exact .nil
    | cons hab _ ih => exact .cons (arg_ok R C hab (hok _ (by simp))) (ih fun x hx => hok x (by simp [hx]))
  | tup _ => exact hok.elim
end
end Go.Ab
