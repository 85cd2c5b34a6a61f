/- Each plain operation does what the abstract view says: part 6 (slices, strings, comparisons of structs). -/
import Derived.Test.YtfbjnipamfbgmaaAbSound5
set_option linter.unusedSimpArgs false
set_option linter.unusedVariables false
namespace Go.Ab
section
variable {P : Program} {base : Nat} {G A : Nat → Prop} {w0 : Base} {N : Nat} {st : St} {σ : Nat → Option Nat} {a : Act} {w : World} {o : Oper} {r : CallRes} {ρ : Nat → Option AObj} {fr : Nat → Bool} {d : Nat} {c : Prop} {v : PV} {Δ : List (Nat × Option AObj)}

/-- A bound of a slice expression: what it is, as the model reckons it. -/
theorem bnd_ok {E : Env} (ht : ∀ t, KP E (st.T t) (a.tmps.getD t undef)) {dflt n : Int} {x : Option Operand} {y : Option Opd} (hx : opdO x = some y) (h : bnd dflt st.T y = some n) :
    (x = none ∧ n = dflt) ∨ ∃ z k, x = some z ∧ a.eval z = .int k n := by
  cases x with
  | none =>
    simp only [opdO, Option.some.injEq] at hx; subst hx
    simp only [bnd, Option.some.injEq] at h
    exact .inl ⟨rfl, h.symm⟩
  | some z =>
    simp only [opdO, Option.map_eq_some_iff] at hx
    obtain ⟨y', hy', rfl⟩ := hx
    have h1 := opd_ok ht hy'
    simp only [bnd] at h
    split at h
    · rename_i k m hp
      cases h
      rw [hp] at h1
      exact .inr ⟨z, k, rfl, h1.1⟩
    · cases h

theorem run_bounds {E : Env} (ht : ∀ t, KP E (st.T t) (a.tmps.getD t undef)) {lo hi : Option Operand} {lo' hi' : Option Opd} (hlo : opdO lo = some lo') (hhi : opdO hi = some hi') {len cap : Nat} {l h : Int}
    (h1 : bnd 0 st.T lo' = some l) (h2 : bnd len st.T hi' = some h) (h0 : 0 ≤ l) (hle : l ≤ h) (hc : h ≤ cap) (isS : Bool) (w : World) :
    (Instr.sliceBounds isS len cap (lo.map a.eval) (hi.map a.eval) none).run P w = .ok (l.toNat, h.toNat, cap) w := by
  rcases bnd_ok ht hhi h2 with ⟨rfl, rfl⟩ | ⟨z, k, rfl, hz⟩ <;> rcases bnd_ok ht hlo h1 with ⟨rfl, rfl⟩ | ⟨z', k', rfl, hz'⟩
  · simp [Instr.sliceBounds]
  · simp [Instr.sliceBounds, hz', run_sliceBound (P := P) w k' l len _ h0 hle]
  · simp [Instr.sliceBounds, hz, run_sliceBound (P := P) w k h cap _ (Int.le_trans h0 hle) hc]
  · simp [Instr.sliceBounds, hz, run_sliceBound (P := P) w k h cap _ (Int.le_trans h0 hle) hc, hz', run_sliceBound (P := P) w k' l h.toNat _ h0 (by omega)]

theorem good_slice (R : Rel base G A w0 N st σ a w) (S : Sees st ρ fr d) (hd : ∀ x, o.dst = some x → x < N) {t e : TypeId} {n : Nat} {x : Operand} {x' : Opd} {lo hi : Option Operand} {lo' hi' : Option Opd} (ho : o.op = .slice t x lo hi none) (ht : P.underlying t = some (.slice e)) (hn : sizeP P e = some n)
    (hx : opd x = some x') (hlo : opdO lo = some lo') (hhi : opdO hi = some hi')
    (hs : sem P r (.slice n x' lo' hi') st.T ρ fr d = some (c, v, Δ)) (hc : c) : Good P base G A w0 N (st.put o.dst v Δ) o a w := by
  have h1 := opd_ok R.tmp hx
  have main : ∀ (ad : Option Addr) (len cap : Nat) (l h : Int), a.eval x = .slice ad len cap → bnd 0 st.T lo' = some l → bnd len st.T hi' = some h → 0 ≤ l → l ≤ h → h ≤ cap →
      (execOp a.eval o).run P w = .ok (.value (.slice (if cap = l.toNat then ad else ad.map (·.add (l.toNat * n))) (h.toNat - l.toNat) (cap - l.toNat))) w := by
    intro ad len cap l h hv b1 b2 c1 c2 c3
    unfold execOp; rw [ho]
    simp only [hv, Instr.sliceAt, Sem.run_bind, run_underlying ht, Result.andThen_ok, Instr.slice, run_bounds R.tmp hlo hhi b1 b2 c1 c2 c3, run_sizeOf hn, Sem.run_pure, Option.map_none]
  simp only [sem] at hs
  split at hs
  · rename_i k off len hp
    rw [hp] at h1
    split at hs
    · rename_i l h ob b1 b2 hk
      split at hs
      · rename_i hob
        simp only [Option.some.injEq, Prod.mk.injEq] at hs
        obtain ⟨rfl, rfl, rfl⟩ := hs
        obtain ⟨c1, c2, c3⟩ := hc
        obtain ⟨hkk, hm3⟩ := S.sub _ _ hk
        obtain ⟨ad, cap, hv, hcm, hh⟩ := K_sl h1 hkk hm3
        subst hob
        refine good_value R hd (main ad len cap l h hv b1 b2 c1 c2 (by rcases hh with ⟨rfl, rfl⟩ | ⟨_, _, _, h', _⟩ <;> omega)) ?_
        refine K_sl_mk hkk hm3 (by omega) ?_
        rcases hh with ⟨h3, h4⟩ | ⟨b, hb, rfl, h4, h5⟩
        · exact .inl ⟨by omega, by omega⟩
        · by_cases hcap : cap = l.toNat
          · exact .inl ⟨by omega, by omega⟩
          · refine .inr ⟨b, hb, ?_, by omega, ?_⟩
            · rw [if_neg hcap]
              simp only [Option.map_some, addr_add, Nat.add_mul]
            · refine Nat.le_trans (Nat.mul_le_mul_right _ ?_) h5
              omega
      · cases hs
    · cases hs
  · rename_i q xs hp
    rw [hp] at h1
    split at hs
    · rename_i l h b1 b2
      simp only [Option.some.injEq, Prod.mk.injEq] at hs
      obtain ⟨rfl, rfl, rfl⟩ := hs
      obtain ⟨⟨c1, c2, c3⟩, c4⟩ := hc
      generalize hv : a.eval x = z at h1
      have hK : KV (env st.H σ (may base G A) w).rd (.vs q xs) z := h1
      cases hK with
      | @vs _ _ ad cap ad' e' f hcl hm had he hr hkv =>
        refine good_value R hd (main ad xs.length cap l h hv b1 b2 c1 c2 (by omega)) ?_
        have hlen : ((xs.drop l.toNat).take (h.toNat - l.toNat)).length = h.toNat - l.toNat := by simp; omega
        by_cases hemp : h.toNat - l.toNat = 0
        · have hnil : (xs.drop l.toNat).take (h.toNat - l.toNat) = [] := by rw [hemp]; rfl
          rw [hnil, hemp]
          have : ∀ ad'' c', c' ≤ maxLen → KV (env st.H σ (may base G A) w).rd (.vs q []) (.slice ad'' ([] : List (List L)).length c') := by
            intro ad'' c' hc'
            exact .vs ad' 0 (fun _ _ => undef) (Nat.zero_le _) hc' (.inl rfl) (by simp) (by intro j t hj; simp at hj) (by intro j t hj; simp at hj)
          exact this _ _ (by omega)
        · have hne : xs ≠ [] := by rintro rfl; simp at c3; omega
          have hle' : e' = n := by
            obtain ⟨y, hy⟩ := List.exists_mem_of_ne_nil _ hne
            rw [← he y hy, c4 y hy]
          subst hle'
          have had' : ad = some ad' := by rcases had with h | h; · exact absurd h hne
                                          · exact h
          subst had'
          have hcap : cap ≠ l.toNat := by omega
          rw [if_neg hcap]
          have hres : KV (env st.H σ (may base G A) w).rd (.vs q ((xs.drop l.toNat).take (h.toNat - l.toNat))) (.slice (some (ad'.add (l.toNat * e'))) ((xs.drop l.toNat).take (h.toNat - l.toNat)).length (cap - l.toNat)) := ?_
          · rw [hlen] at hres; exact hres
          refine KV.vs (ad'.add (l.toNat * e')) e' (fun j t => f (l.toNat + j) t) (by omega) (by omega) (.inr rfl) ?_ ?_ ?_
          · intro y hy; exact he y (List.mem_of_mem_drop (List.mem_of_mem_take hy))
          · intro j t' hj ht'
            have := hr (l.toNat + j) t' (by omega) ht'
            rw [add_add]
            rw [Nat.add_mul, Nat.add_assoc] at this
            exact this
          · intro j t' hj ht'
            have hj' : l.toNat + j < xs.length := by omega
            have e1 : ((xs.drop l.toNat).take (h.toNat - l.toNat))[j] = xs[l.toNat + j] := by simp
            have := hkv (l.toNat + j) t' hj' (by rw [e1] at ht'; exact ht')
            simpa using this
    · cases hs
  · rename_i hp
    rw [hp] at h1
    split at hs
    · rename_i l h b1 b2
      simp only [Option.some.injEq, Prod.mk.injEq] at hs
      obtain ⟨rfl, rfl, rfl⟩ := hs
      obtain ⟨rfl, rfl⟩ := hc
      obtain ⟨ad, hv⟩ := h1
      refine good_value R hd (main ad 0 0 0 0 hv b1 b2 (by omega) (by omega) (by omega)) ⟨ad, by simp⟩
    · cases hs
  · cases hs

theorem good_substr (R : Rel base G A w0 N st σ a w) (hd : ∀ x, o.dst = some x → x < N) {t : TypeId} {x : Operand} {x' : Opd} {lo hi : Option Operand} {lo' hi' : Option Opd} (ho : o.op = .slice t x lo hi none) (ht : P.underlying t = some .string)
    (hx : opd x = some x') (hlo : opdO lo = some lo') (hhi : opdO hi = some hi')
    (hs : sem P r (.substr x' lo' hi') st.T ρ fr d = some (c, v, Δ)) (hc : c) : Good P base G A w0 N (st.put o.dst v Δ) o a w := by
  have h1 := opd_ok R.tmp hx
  simp only [sem] at hs
  split at hs
  · rename_i s hp
    rw [hp] at h1
    obtain ⟨hv, _⟩ := h1
    split at hs
    · rename_i l h b1 b2
      simp only [Option.some.injEq, Prod.mk.injEq] at hs
      obtain ⟨rfl, rfl, rfl⟩ := hs
      obtain ⟨c1, c2, c3⟩ := hc
      refine good_value R hd (val := .string (s.extract l.toNat h.toNat)) ?_ ⟨rfl, rfl⟩
      unfold execOp; rw [ho]
      simp only [hv, Instr.sliceAt, Sem.run_bind, run_underlying ht, Result.andThen_ok, Instr.slice, run_bounds R.tmp hlo hhi b1 b2 c1 c2 c3, Sem.run_pure, Option.map_none, Option.isSome_none, Bool.false_eq_true, if_false]
    · cases hs
  · cases hs

theorem good_iaddr (R : Rel base G A w0 N st σ a w) (S : Sees st ρ fr d) (hd : ∀ x, o.dst = some x → x < N) {t e : TypeId} {n : Nat} {x y : Operand} {x' y' : Opd} (ho : o.op = .indexAddr t x y) (ht : P.underlying t = some (.slice e)) (hn : sizeP P e = some n)
    (hx : opd x = some x') (hy : opd y = some y')
    (hs : sem P r (.iaddr n x' y') st.T ρ fr d = some (c, v, Δ)) (hc : c) : Good P base G A w0 N (st.put o.dst v Δ) o a w := by
  have h1 := opd_ok R.tmp hx
  have h2 := opd_ok R.tmp hy
  have main : ∀ (ad : Addr) (len cap : Nat) (k : IntKind) (i : Int), a.eval x = .slice (some ad) len cap → a.eval y = .int k i → 0 ≤ i → i < len →
      (execOp a.eval o).run P w = .ok (.value (.pointer (some (ad.add (i.toNat * n))))) w := by
    intro ad len cap k i hv hi c1 c2
    unfold execOp; rw [ho]
    simp only [hv, hi, Instr.indexAt, asIntOf, Sem.run_bind, Sem.run_pure, Result.andThen_ok, run_underlying ht]
    simp only [Sem.run_bind, Sem.run_pure, Result.andThen_ok, run_underlying ht, Bool.and_false]
    rw [if_pos ⟨c1, c2⟩]
    simp only [Sem.run_bind, run_sizeOf hn, Result.andThen_ok, Sem.run_pure]
  simp only [sem] at hs
  split at hs
  · rename_i k off len k' i hp hq
    rw [hp] at h1; rw [hq] at h2
    obtain ⟨h2, _⟩ := h2
    split at hs
    · rename_i ob hk
      split at hs
      · rename_i hob
        simp only [Option.some.injEq, Prod.mk.injEq] at hs
        obtain ⟨rfl, rfl, rfl⟩ := hs
        obtain ⟨hkk, hm3⟩ := S.sub _ _ hk
        obtain ⟨ad, cap, hv, hcm, hh⟩ := K_sl h1 hkk hm3
        subst hob
        rcases hh with ⟨h3, h4⟩ | ⟨b, hb, rfl, h4, h5⟩
        · omega
        · refine good_value R hd (main _ _ _ _ _ hv h2 hc.1 hc.2) ?_
          rw [addr_add, ← Nat.add_mul]
          exact K_ptr_mk (o := 0) hkk hm3 hb
      · cases hs
    · cases hs
  · rename_i q xs k' i hp hq
    rw [hp] at h1; rw [hq] at h2
    obtain ⟨h2, _⟩ := h2
    split at hs
    · rename_i cs hcs
      simp only [Option.some.injEq, Prod.mk.injEq] at hs
      obtain ⟨rfl, rfl, rfl⟩ := hs
      obtain ⟨c1, c2⟩ := hc
      have hlt := (List.getElem?_eq_some_iff.mp hcs).1
      generalize hv : a.eval x = z at h1
      have hK : KV (env st.H σ (may base G A) w).rd (.vs q xs) z := h1
      cases hK with
      | @vs _ _ ad cap ad' e' f hcl hm had he hr hkv =>
        have had' : ad = some ad' := by
          rcases had with h | h
          · subst h; simp at hlt
          · exact h
        subst had'
        have hee : e' = n := by rw [← he cs (List.mem_of_getElem? hcs), c2]
        subst hee
        refine good_value R hd (main ad' xs.length cap k' i hv h2 c1 (by omega)) ⟨ad'.add (i.toNat * e'), fun t => f i.toNat t, rfl, ?_⟩
        intro t' ht'
        have e1 : xs[i.toNat] = cs := by
          rw [List.getElem?_eq_getElem hlt] at hcs; cases hcs; rfl
        have g1 := hr i.toNat t' hlt (by omega)
        have g2 := hkv i.toNat t' hlt (by rw [e1]; exact ht')
        rw [add_add]
        refine ⟨g1, ?_⟩
        simpa [e1] using g2
    · cases hs
  · cases hs

theorem good_istr (R : Rel base G A w0 N st σ a w) (hd : ∀ x, o.dst = some x → x < N) {t : TypeId} {x y : Operand} {x' y' : Opd} (ho : o.op = .index t x y) (ht : P.underlying t = some .string)
    (hx : opd x = some x') (hy : opd y = some y')
    (hs : sem P r (.istr x' y') st.T ρ fr d = some (c, v, Δ)) (hc : c) : Good P base G A w0 N (st.put o.dst v Δ) o a w := by
  have h1 := opd_ok R.tmp hx
  have h2 := opd_ok R.tmp hy
  simp only [sem] at hs
  split at hs
  · rename_i s k i hp hq
    rw [hp] at h1; rw [hq] at h2
    obtain ⟨h1, _⟩ := h1
    obtain ⟨h2, _⟩ := h2
    split at hs
    · rename_i b hb
      simp only [Option.some.injEq, Prod.mk.injEq] at hs
      obtain ⟨rfl, rfl, rfl⟩ := hs
      refine good_value R hd (val := .int .u8 b.toNat) ?_ ⟨rfl, rfl⟩
      have hb' : s[i.toNat]? = some b := by
        obtain ⟨hlt, hbb⟩ := Array.getElem?_eq_some_iff.mp hb
        have : i.toNat < s.size := hlt
        rw [getElem?_pos s i.toNat this]
        exact congrArg some hbb
      unfold execOp; rw [ho]
      simp only [h1, h2, Instr.index, asIntOf, Sem.run_bind, Sem.run_pure, Result.andThen_ok, run_underlying ht]
      rw [if_pos hc, hb']
      rfl
    · cases hs
  · cases hs
end
end Go.Ab
