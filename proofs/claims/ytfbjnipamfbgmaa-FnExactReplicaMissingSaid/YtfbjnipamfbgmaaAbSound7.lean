/- Each plain operation does what the abstract view says: part 7 (structs compared, make, append, closures). -/
import Derived.Test.YtfbjnipamfbgmaaAbSound6
set_option linter.unusedSimpArgs false
set_option linter.unusedVariables false
namespace Go.Ab
section
variable {P : Program} {base : Nat} {G A : Nat → Prop} {w0 : Base} {N : Nat} {st : St} {σ : Nat → Option Nat} {a : Act} {w : World} {o : Oper} {r : CallRes} {ρ : Nat → Option AObj} {fr : Nat → Bool} {d : Nat} {c : Prop} {v : PV} {Δ : List (Nat × Option AObj)}

theorem eqLs_length : ∀ {ks : List EK} {xs ys : List L} {b : Bool}, eqLs ks xs ys = some b → xs.length = ks.length ∧ ys.length = ks.length
  | [], [], [], _, _ => ⟨rfl, rfl⟩
  | k :: ks, x :: xs, y :: ys, b, h => by
    simp only [eqLs] at h
    split at h
    · rename_i b1 b2 h1 h2
      have := eqLs_length h2
      simp [this]
    · cases h
  | [], [], _ :: _, _, h => by simp [eqLs] at h
  | [], _ :: _, _, _, h => by simp [eqLs] at h
  | _ :: _, [], _, _, h => by simp [eqLs] at h
  | _ :: _, _ :: _, [], _, h => by simp [eqLs] at h

theorem eqLs_append : ∀ {k1 k2 : List EK} {xs ys : List L} {b : Bool}, eqLs (k1 ++ k2) xs ys = some b →
    ∃ b1 b2, eqLs k1 (xs.take k1.length) (ys.take k1.length) = some b1 ∧ eqLs k2 (xs.drop k1.length) (ys.drop k1.length) = some b2 ∧ b = (b1 && b2)
  | [], k2, xs, ys, b, h => ⟨true, b, by simp [eqLs], by simpa using h, by simp⟩
  | k :: k1, k2, x :: xs, y :: ys, b, h => by
    simp only [List.cons_append, eqLs] at h
    split at h
    · rename_i b1 b2 h1 h2
      cases h
      obtain ⟨c1, c2, g1, g2, rfl⟩ := eqLs_append h2
      exact ⟨b1 && c1, c2, by simp [eqLs, h1, g1], by simpa using g2, by rw [Bool.and_assoc]⟩
    · cases h
  | _ :: _, _, [], _, _, h => by simp [eqLs] at h
  | _ :: _, _, _ :: _, [], _, h => by simp [eqLs] at h

def IsVal (P : Program) (t : TypeId) (cells : List Value) (v : Value) : Prop := (aggP P t = some true ∧ v = .agg ⟨cells⟩) ∨ (aggP P t = some false ∧ cells = [v])

theorem run_part {t : TypeId} {n off : Nat} {xs : List Value} (hn : sizeP P t = some n) {g : Bool} (hg : aggP P t = some g) (h1 : g = true ∨ n = 1) (hl : off + n ≤ xs.length) (w : World) :
    ∃ v, (part t ⟨xs⟩ off).run P w = .ok v w ∧ IsVal P t ((xs.drop off).take n) v := by
  cases g with
  | true =>
    refine ⟨.agg ⟨(xs.drop off).take n⟩, ?_, .inl ⟨hg, rfl⟩⟩
    simp [part, run_isAgg hg, run_sizeOf hn]
  | false =>
    have hn1 : n = 1 := by simpa using h1
    obtain ⟨u, hu1⟩ : ∃ u, (xs.drop off).take n = [u] := List.length_eq_one_iff.mp (by simp; omega)
    have hget : xs[off]? = some u := by
      have := congrArg (·[0]?) hu1
      simpa [hn1] using this
    exact ⟨u, by simp [part, run_isAgg hg, hget], .inr ⟨hg, hu1⟩⟩

theorem eqKinds_agg {d : Nat} {t : TypeId} {ks : List EK} (h : eqKinds P d t = some ks) : ∃ g, aggP P t = some g ∧ (g = true ∨ ks.length = 1) := by
  cases d with
  | zero => simp [eqKinds] at h
  | succ d =>
    simp only [eqKinds] at h
    split at h
    · rename_i hu; cases h; exact ⟨false, by simp [aggP, hu], .inr rfl⟩
    · rename_i hu; cases h; exact ⟨false, by simp [aggP, hu], .inr rfl⟩
    · rename_i hu; cases h; exact ⟨false, by simp [aggP, hu], .inr rfl⟩
    · rename_i hu; exact ⟨true, by simp [aggP, hu], .inl rfl⟩
    · cases h

theorem run_eqs {E : Env} : ∀ (d : Nat) (t : TypeId) (ks : List EK), eqKinds P d t = some ks → ∀ d', d ≤ d' → ∀ (xs ys : List L) (xs' ys' : List Value) (b : Bool) (u v : Value),
    eqLs ks xs ys = some b → F2 (K E) xs xs' → F2 (K E) ys ys' → IsVal P t xs' u → IsVal P t ys' v → ∀ w, (Op.equalIn d' t u v).run P w = .ok b w
  | 0, _, _, h => by simp [eqKinds] at h
  | d + 1, t, ks, h => by
    intro d' hd' xs ys xs' ys' b u v he hx hy hu hv w
    obtain ⟨d', rfl⟩ : ∃ m, d' = m + 1 := ⟨d' - 1, by omega⟩
    have hl := eqLs_length he
    have hlx := hx.length
    have hly := hy.length
    have scal : ∀ k, ks = [k] → aggP P t = some false → ∃ x y, xs = [x] ∧ ys = [y] ∧ K E x u ∧ K E y v ∧ eqL k x y = some b := by
      intro k hk hg
      subst hk
      obtain ⟨x, rfl⟩ := List.length_eq_one_iff.mp hl.1
      obtain ⟨y, rfl⟩ := List.length_eq_one_iff.mp hl.2
      have hu' : xs' = [u] := by rcases hu with ⟨h1, _⟩ | ⟨_, h2⟩; · rw [hg] at h1; cases h1
                                 · exact h2
      have hv' : ys' = [v] := by rcases hv with ⟨h1, _⟩ | ⟨_, h2⟩; · rw [hg] at h1; cases h1
                                 · exact h2
      subst hu' hv'
      cases hx with
      | cons hx _ => cases hy with
        | cons hy _ =>
          refine ⟨x, y, rfl, rfl, hx, hy, ?_⟩
          simp only [eqLs] at he
          split at he
          · rename_i b1 b2 g1 g2
            cases g2
            cases he
            simpa using g1
          · cases he
    simp only [eqKinds] at h
    split at h
    · rename_i k hut
      cases h
      obtain ⟨x, y, rfl, rfl, h1, h2, h3⟩ := scal _ rfl (by simp [aggP, hut])
      unfold eqL at h3
      split at h3 <;> first | cases h3 | skip
      · rename_i k0 k1 m k2 n hk0
        split at h3
        · rename_i hkk
          obtain ⟨rfl, rfl⟩ := hkk
          cases h3
          obtain ⟨rfl, _⟩ := h1
          obtain ⟨rfl, _⟩ := h2
          simp only [Op.equalIn, Sem.run_bind, run_underlying hut, Result.andThen_ok, if_true, Sem.run_pure]
          by_cases hmn : m = n <;> simp [hmn]
        · cases h3
      all_goals (rename_i hk0; cases hk0)
    · rename_i hut
      cases h
      obtain ⟨x, y, rfl, rfl, h1, h2, h3⟩ := scal _ rfl (by simp [aggP, hut])
      unfold eqL at h3
      split at h3 <;> first | cases h3 | skip
      · rename_i hk0; cases hk0
      · rename_i k0 m n
        obtain ⟨rfl, _⟩ := h1
        obtain ⟨rfl, _⟩ := h2
        simp only [Op.equalIn, Sem.run_bind, run_underlying hut, Result.andThen_ok, Sem.run_pure]
        cases m <;> cases n <;> rfl
      · rename_i hk0; cases hk0
    · rename_i hut
      cases h
      obtain ⟨x, y, rfl, rfl, h1, h2, h3⟩ := scal _ rfl (by simp [aggP, hut])
      unfold eqL at h3
      split at h3 <;> first | cases h3 | skip
      · rename_i hk0; cases hk0
      · rename_i hk0; cases hk0
      · obtain ⟨rfl, _⟩ := h1
        obtain ⟨rfl, _⟩ := h2
        rw [run_equalIn_string _ _ _ _ _ hut, toList_beq]
    · rename_i fs hut
      split at h
      · rename_i hst
        have hg : aggP P t = some true := by simp [aggP, hut]
        have hu' : u = .agg ⟨xs'⟩ := by rcases hu with ⟨_, h2⟩ | ⟨h1, _⟩; · exact h2
                                        · rw [hg] at h1; cases h1
        have hv' : v = .agg ⟨ys'⟩ := by rcases hv with ⟨_, h2⟩ | ⟨h1, _⟩; · exact h2
                                        · rw [hg] at h1; cases h1
        subst hu' hv'
        have hfo : P.fieldsOf t = fs := by simp [Program.fieldsOf, hut]
        rw [run_equalIn_agg w d' t ⟨xs'⟩ ⟨ys'⟩ (by rw [hfo]; exact hut) hst, hfo]
        have key : ∀ (fl : List Field) (off : Nat) (ks : List EK) (b : Bool), off ≤ xs.length → off ≤ ys.length → eqGo P (eqKinds P d) fl off = some ks → eqLs ks (xs.drop off) (ys.drop off) = some b →
            ∀ w, (Op.eqFields d' ⟨xs'⟩ ⟨ys'⟩ fl).run P w = .ok b w := by
          intro fl
          induction fl with
          | nil =>
            intro off ks b _ _ hk hb w
            simp only [eqGo, Option.some.injEq] at hk
            subst hk
            have := eqLs_length hb
            cases hxd : xs.drop off with
            | cons _ _ => rw [hxd] at this; simp at this
            | nil => cases hyd : ys.drop off with
              | cons _ _ => rw [hyd] at this; simp at this
              | nil => rw [hxd, hyd] at hb; simp [eqLs] at hb; subst hb; rfl
          | cons f fl ih =>
            intro off ks b ho1 ho2 hk hb w
            simp only [eqGo] at hk
            split at hk
            · rename_i hfo
              obtain ⟨hnm, hof⟩ := hfo
              split at hk
              · rename_i k1 n hk1 hn1
                split at hk
                · rename_i hkl
                  simp only [Option.map_eq_some_iff] at hk
                  obtain ⟨k2, hk2, rfl⟩ := hk
                  obtain ⟨b1, b2, g1, g2, rfl⟩ := eqLs_append hb
                  obtain ⟨g, hg', hg2⟩ := eqKinds_agg hk1
                  have gl := eqLs_length hb
                  simp only [List.length_append, List.length_drop] at gl
                  obtain ⟨p, hp1, hp2⟩ := run_part (P := P) (xs := xs') (off := off) hn1 hg' (hg2.imp id fun h => by omega) (by omega) w
                  obtain ⟨q, hq1, hq2⟩ := run_part (P := P) (xs := ys') (off := off) hn1 hg' (hg2.imp id fun h => by omega) (by omega) w
                  have hx' := ((hx.append_inv off).2.append_inv n).1
                  have hy' := ((hy.append_inv off).2.append_inv n).1
                  rw [hkl] at g1 g2
                  have hr := run_eqs d f.type k1 hk1 d' (by omega) _ _ _ _ b1 p q g1 hx' hy' hp2 hq2 w
                  have hrest := ih (off + n) k2 b2 (by omega) (by omega) hk2 (by simpa [List.drop_drop] using g2) w
                  simp only [Op.eqFields, hof]
                  rw [if_pos hnm]
                  simp only [Sem.run_bind, hp1, hq1, hr, Result.andThen_ok]
                  cases b1
                  · simp
                  · simpa using hrest
                · cases hk
              · cases hk
            · cases hk
        exact key fs.toList 0 ks b (Nat.zero_le _) (Nat.zero_le _) h (by simpa using he) w
      · cases h
    · cases h

theorem good_eqs (R : Rel base G A w0 N st σ a w) (hd : ∀ x, o.dst = some x → x < N) {neg : Bool} {t u : TypeId} {ks : List EK} {x y : Operand} {x' y' : Opd} (ho : o.op = .binOp (if neg then .neq else .eql) t x y u)
    (hks : eqKinds P 20 t = some ks) {fs : Array Field} (ht : P.underlying t = some (.struct fs)) (hgd : P.eqGuardType P.depth t = false) (hx : opd x = some x') (hy : opd y = some y')
    (hs : sem P r (.eqs neg ks x' y') st.T ρ fr d = some (c, v, Δ)) : Good P base G A w0 N (st.put o.dst v Δ) o a w := by
  have h1 := opd_ok R.tmp hx
  have h2 := opd_ok R.tmp hy
  simp only [sem] at hs
  split at hs
  · rename_i xs ys hp hq
    rw [hp] at h1; rw [hq] at h2
    obtain ⟨xs', h1, hF1⟩ := h1
    obtain ⟨ys', h2, hF2⟩ := h2
    simp only [Option.map_eq_some_iff, Prod.mk.injEq] at hs
    obtain ⟨b, hb, _, rfl, rfl⟩ := hs
    have hg : aggP P t = some true := by simp [aggP, ht]
    have hr := run_eqs 20 t ks hks 10000 (by omega) xs ys xs' ys' b _ _ hb hF1 hF2 (.inl ⟨hg, rfl⟩) (.inl ⟨hg, rfl⟩) w
    refine good_value R hd (val := .bool (if neg then !b else b)) ?_ ⟨rfl, rfl⟩
    unfold execOp; rw [ho]
    cases neg
    · simp only [h1, h2, Sem.run_bind, Bool.false_eq_true, if_false, run_eqGuard_agg w .eql t x y ⟨xs'⟩ ⟨ys'⟩ hgd, Result.andThen_ok, run_eql_struct, hr, Sem.run_pure]
    · simp only [h1, h2, Sem.run_bind, if_true, run_eqGuard_agg w .neq t x y ⟨xs'⟩ ⟨ys'⟩ hgd, Result.andThen_ok, run_neq_struct, hr, Sem.run_pure]
  · cases hs
end
end Go.Ab
