/- Each plain operation does what the abstract view says: part 10 (append, put together). -/
import Derived.Test.YtfbjnipamfbgmaaAbSound9
set_option linter.unusedSimpArgs false
set_option linter.unusedVariables false
namespace Go.Ab
section
variable {P : Program} {base : Nat} {G A : Nat → Prop} {w0 : Base} {N : Nat} {st : St} {σ : Nat → Option Nat} {a : Act} {w : World} {o : Oper} {r : CallRes} {ρ : Nat → Option AObj} {fr : Nat → Bool} {d : Nat} {c : Prop} {v : PV} {Δ : List (Nat × Option AObj)}

/-- A new object without cells. -/
theorem good_airy (R : Rel base G A w0 N st σ a w) (hd : ∀ x, o.dst = some x → x < N) {k : Nat} (hk : st.H k = none) (hk' : 1000 ≤ k) {ob : AObj} (hob : ob.es = []) (hm3 : ob.m ≠ 3) {v : PV} {val : Value}
    (h : (execOp a.eval o).run P w = .ok (.value val) w) (hv : ∀ E : Env, E.live k → KP E v val) : Good P base G A w0 N (st.put o.dst v [(k, some ob)]) o a w := by
  intro Q
  refine Oper.wp_value h ⟨upd σ k none, ?_⟩
  rw [← put_put]
  exact (R.airy hk hk' ob hob).put hd (hv _ ⟨ob, by simp [upd, updL], hm3⟩)

theorem good_app (R : Rel base G A w0 N st σ a w) (S : Sees st ρ fr d) (hd : ∀ x, o.dst = some x → x < N) {t u : TypeId} {x y : Operand} {op : AOp}
    (ho : o.op = .call { callee := .builtin .append, args := #[x, y], argTypes := #[t, u] }) (hcomp : compBuiltin P .append [x, y] [t, u] = some op)
    (hs : sem P r op st.T ρ fr d = some (c, v, Δ)) (hc : c) : Good P base G A w0 N (st.put o.dst v Δ) o a w := by
  simp only [compBuiltin, Option.bind_eq_bind, Option.bind_eq_some_iff, Option.pure_def, Option.some.injEq] at hcomp
  obtain ⟨e, he, e', he', zs, hz, i, hi, x', hx, y', hy, rfl⟩ := hcomp
  have ht := elemP_some he
  have hu := elemP_some he'
  obtain ⟨i', z, hi', hzz, hz1, hz2, hz3, hF, hp, hone⟩ := zeros_some hz
  rw [hi] at hi'; cases hi'
  have h1 := opd_ok R.tmp hx
  have h2 := opd_ok R.tmp hy
  have exec : ∀ val w', (Builtin.append_ #[t, u] o.type #[a.eval x, a.eval y]).run P w = .ok val w' → (execOp a.eval o).run P w = .ok (.value val) w' := by
    intro val w' h
    unfold execOp; rw [ho]
    simp [resolve, invoke, builtin, h]
  simp only [sem] at hs
  split at hs
  · cases hs
  · rename_i cn pl ys hnews
    split at hs
    rotate_left
    · cases hs
    · rename_i hk
      have hdn := S.at hk
      have hdn' := S.at' hk
      split at hs
      · rename_i hp1
        simp only [Option.some.injEq, Prod.mk.injEq] at hs
        obtain ⟨rfl, rfl, rfl⟩ := hs
        obtain ⟨c0, c1, c2⟩ := hc
        obtain ⟨cells, W, hone⟩ := news_ok (P := P) R S h2 hnews c0
        rw [hp1] at h1
        obtain ⟨ad, hv⟩ := h1
        by_cases hy0 : ys = []
        · subst hy0
          have hcl : cells = [] := List.eq_nil_of_length_eq_zero (by rw [W.clen]; simp)
          subst hcl
          have hr := run_append_there (ty := o.type) ht hu hi (sb := ad) (sLen := 0) (sCap := 0) (w' := w) W.len (by rw [← hz3]; exact W.run w rfl) (Nat.le_refl _) (by cases ad <;> rfl)
          refine good_airy R hd hdn hdn' (ob := ⟨0, pl, zs.length, []⟩) rfl (by simp) (val := .slice ad 0 0) (exec _ _ (by rw [hv]; exact hr)) ?_
          intro E hl
          exact .inr ⟨hl, ad, 0, rfl, Nat.zero_le _, .inl ⟨rfl, rfl⟩⟩
        · have hpos : 0 < ys.length := List.length_pos_iff.mpr hy0
          have hfo : (Builtin.firstCells i.size 0 (.slice ad 0 0)).run P w.drew = .ok ⟨[]⟩ w.drew := by cases ad <;> simp [Builtin.firstCells, loadCells, loadCellsFrom]
          have hr := run_append_new (ty := o.type) ht hu hi hzz (s := .slice ad 0 0) (sb := ad) (sLen := 0) (sCap := 0) rfl W.len (by rw [← hz3]; exact W.run w.drew rfl) hfo (by omega) (by omega) (by simpa using c2)
          have hcap := grownCap_ge w (0 + ys.length) 0 e
          have hcap2 := grownCap_le_maxLen w (0 + ys.length) 0 e (by omega)
          refine good_alloc R hd hdn hdn' (by simp) (w1 := w.drew) rfl rfl rfl rfl (exec _ _ (by rw [hv]; exact hr)) (ob := ⟨0, pl, zs.length, ys⟩) W.row ?_ W.pl ?_ ?_
          · simp only [Array.size_append, List.size_toArray, List.length_nil, W.clen]; omega
          · intro j t' x' r' hr' hx'
            obtain ⟨y1, hy1, hK⟩ := F2_flatten_get W.F W.row j t' x' r' hr' hx'
            refine ⟨y1, ?_, hK⟩
            have hlt := (List.getElem?_eq_some_iff.mp hy1).1
            simp only
            rw [Array.getElem?_append_left (by simp; omega)]
            simpa using hy1
          · intro E g1 g2 g3 g4
            refine .inr ⟨g1, _, _, by rw [Nat.zero_add], hcap2, .inr ⟨_, g2, by simp, by omega, ?_⟩⟩
            rw [g3, g4]
            simp only [Array.size_append, List.size_toArray, List.length_nil, W.clen, size_zeroCells, hz1, ← hz3, Nat.zero_add]
            rw [← Nat.add_mul]
            exact Nat.mul_le_mul_right _ (by omega)
      · rename_i k n hp1
        split at hs
        · rename_i ob hkr
          split at hs
          · rename_i hcond
            obtain ⟨hobe, hm2, hkd⟩ := hcond
            simp only [Option.some.injEq, Prod.mk.injEq] at hs
            obtain ⟨rfl, rfl, rfl⟩ := hs
            obtain ⟨c0, c1, c2, c3, c4⟩ := hc
            obtain ⟨hkk, hm3⟩ := S.sub _ _ hkr
            obtain ⟨cells, W, hone⟩ := news_ok (P := P) R S h2 hnews c0
            rw [hp1] at h1
            have h1K : K (env st.H σ (may base G A) w) (.sl k 0 n) (a.eval x) := h1
            obtain ⟨ad, cap, hv, hcm, hh⟩ := K_sl h1 hkk hm3
            have hes : (ob.es.take n ++ ys).length = n + ys.length := by simp; omega
            -- the elder object retires
            have R1 := R.retire (n := n) hkk hm2 hm3 (c2.imp id id)
            have hd1 : (upd st.H k (some ⟨2, ob.pl, ob.e, ob.es.take n⟩)) d = none := by simp [upd, Ne.symm hkd, hdn]
            have hput : ∀ vv : PV, st.put o.dst vv [(k, some ⟨2, ob.pl, ob.e, ob.es.take n⟩), (d, some ⟨1, ob.pl && pl, zs.length, ob.es.take n ++ ys⟩)] =
                (⟨st.T, upd st.H k (some ⟨2, ob.pl, ob.e, ob.es.take n⟩)⟩ : St).put o.dst vv [(d, some ⟨1, ob.pl && pl, zs.length, ob.es.take n ++ ys⟩)] := by intro vv; cases o.dst <;> rfl
            have hsameE : env (upd st.H k (some (⟨2, ob.pl, ob.e, ob.es.take n⟩ : AObj))) σ (may base G A) w = env st.H σ (may base G A) w := by
              simp only [env]
              congr 1
              · funext q ad' u'
                have : (∀ k' o', upd st.H k (some (⟨2, ob.pl, ob.e, ob.es.take n⟩ : AObj)) k' = some o' → o'.m ≠ 3 → σ k' ≠ some ad'.block) ↔ (∀ k' o', st.H k' = some o' → o'.m ≠ 3 → σ k' ≠ some ad'.block) := by
                  constructor
                  · intro h k' o' h' hm'
                    by_cases e1 : k' = k
                    · subst e1; exact h _ ⟨2, ob.pl, ob.e, ob.es.take n⟩ (by simp [upd]) (by simp)
                    · exact h k' o' (by simp [upd, e1, h']) hm'
                  · intro h k' o' h' hm'
                    simp only [upd] at h'
                    split at h'
                    · rename_i e1; subst e1; exact h _ ob hkk hm3
                    · exact h k' o' h' hm'
                rw [this]
              · funext k'
                by_cases e1 : k' = k
                · subst e1
                  apply propext
                  constructor
                  · intro _; exact ⟨ob, hkk, hm3⟩
                  · intro _; exact ⟨_, by simp [upd]; rfl, by simp⟩
                · simp [upd, e1]
              · funext k'
                by_cases e1 : k' = k
                · subst e1
                  apply propext
                  constructor
                  · rintro ⟨o', h', h''⟩; simp [upd] at h'; subst h'; simp at h''
                  · rintro ⟨o', h', h''⟩; rw [hkk] at h'; cases h'; exact absurd h'' hm3
                · simp [upd, e1]
              · funext k'
                simp only [upd]
                split
                · rename_i e1; subst e1; simp [hkk]
                · rfl
            have hrow : ∀ x ∈ ob.es.take n ++ ys, x.length = zs.length := by
              intro x hx
              rcases List.mem_append.mp hx with hx | hx
              · rcases R.obj k ob hkk hm3 with ⟨_, h'⟩ | ⟨_, _, _, _, _, q3, _⟩
                · rw [h'] at hx; simp at hx
                · rw [q3 x (List.mem_of_mem_take hx), hobe]
              · exact W.row x hx
            have hpure : (ob.pl && pl) = true → ∀ r ∈ ob.es.take n ++ ys, ∀ x ∈ r, x.pure = true := by
              intro hpp r hr x hx
              simp at hpp
              rcases List.mem_append.mp hr with hr | hr
              · rcases R.obj k ob hkk hm3 with ⟨_, h'⟩ | ⟨_, _, _, _, _, _, _, q5, _⟩
                · rw [h'] at hr; simp at hr
                · exact q5 hpp.1 r (List.mem_of_mem_take hr) x hx
              · exact W.pl hpp.2 r hr x hx
            by_cases hroom : n + ys.length ≤ cap
            · -- there is room
              rcases hh with ⟨hn0, hcap0⟩ | ⟨b, hb, rfl, hncap, hsz⟩
              · -- no room was asked: nothing is appended to nothing
                have hn : n = 0 := by exact_mod_cast hn0
                subst hn
                have hy0 : ys = [] := List.eq_nil_of_length_eq_zero (by omega)
                subst hy0
                have hcl : cells = [] := List.eq_nil_of_length_eq_zero (by rw [W.clen]; simp)
                subst hcl
                subst hcap0
                have hr := run_append_there (ty := o.type) ht hu hi (sb := ad) (sLen := 0) (sCap := 0) (w' := w) W.len (by rw [← hz3]; exact W.run w rfl) (Nat.le_refl _) (by cases ad <;> simp [storeCells])
                rw [hput]
                refine good_airy R1 hd hd1 hdn' (by simp) (by simp) (val := .slice ad 0 0) (exec _ _ (by rw [hv]; exact hr)) ?_
                intro E hl
                exact .inr ⟨hl, ad, 0, rfl, Nat.zero_le _, .inl ⟨rfl, rfl⟩⟩
              · have R1obj := R.obj k ob hkk hm3
                rw [hb] at R1obj
                rcases R1obj with ⟨h, _⟩ | ⟨b', cc, ty, q1, q2, q3, q4, q5, q6⟩
                · cases h
                · cases q1
                  rw [hobe] at hsz
                  have hcap : cap * zs.length ≤ cc.size := by
                    simp only [cellsAt, q2, Nat.zero_add] at hsz
                    exact hsz
                  have hnfit : n * zs.length + cells.length ≤ cc.size := by
                    rw [W.clen, ← Nat.add_mul]
                    exact Nat.le_trans (Nat.mul_le_mul_right _ hroom) hcap
                  have hst := run_storeCells_at P b (n * zs.length) ty cells 0 cc w q2 (by simpa using hnfit) hone
                  simp only [Nat.add_zero] at hst
                  obtain ⟨new, hnew⟩ : ∃ new, new = (cc.toList.take (n * zs.length) ++ cells ++ cc.toList.drop (n * zs.length + cells.length)).toArray := ⟨_, rfl⟩
                  rw [← hnew] at hst
                  obtain ⟨s1, s2⟩ := seg_get hnfit hnew
                  have hr := run_append_there (ty := o.type) ht hu hi (sb := some ⟨b, 0 * zs.length, none⟩) (sLen := n) (sCap := cap) (w' := w.setRow b new) W.len (by rw [← hz3]; exact W.run w rfl) hroom (by
                    simp only [addr_add, Nat.zero_mul, Nat.zero_add, ← hz3]; exact hst)
                  rw [hobe] at hv
                  intro Q
                  refine Oper.wp_value (exec _ _ (by rw [hv]; exact hr)) ⟨upd σ d (some b), ?_⟩
                  rw [hput, ← put_put]
                  have hobsz : n * zs.length ≤ ob.sz := by simp only [AObj.sz, hobe]; exact Nat.mul_le_mul_right _ c1
                  have hminlen : min n ob.es.length = n := Nat.min_eq_left c1
                  have hall : ∀ k2 o2, (upd st.H k (some (⟨2, ob.pl, ob.e, ob.es.take n⟩ : AObj))) k2 = some o2 → o2.m ≠ 3 → σ k2 = some b → o2.m = 2 ∧ o2.sz ≤ (⟨2, ob.pl, ob.e, ob.es.take n⟩ : AObj).sz := by
                    intro k2 o2 g1 gm g2
                    simp only [upd] at g1
                    split at g1
                    · cases g1; exact ⟨rfl, Nat.le_refl _⟩
                    · rename_i e1
                      rcases R.inj k k2 ob o2 b hkk g1 hb g2 with h | h | h | ⟨h, _⟩ | ⟨h, _⟩ | ⟨h1, h2, h3⟩
                      · exact absurd h.symm e1
                      · exact absurd h hm3
                      · exact absurd h gm
                      · exact absurd h hm2
                      · exact absurd h hm2
                      · refine ⟨h2, ?_⟩
                        rcases c2 with c2 | ⟨_, c2⟩
                        · rw [c2] at h1; cases h1
                        · simp only [AObj.sz, List.length_take, hminlen] at h3 ⊢
                          rw [c2]; exact h3
                  have hk1 : (upd st.H k (some (⟨2, ob.pl, ob.e, ob.es.take n⟩ : AObj))) k = some ⟨2, ob.pl, ob.e, ob.es.take n⟩ := by simp [upd]
                  have R2 := R1.extend (k := k) (d := d) (b := b) (nb := ⟨1, ob.pl && pl, zs.length, ob.es.take n ++ ys⟩) hk1 rfl hd1 hdn' hb hall rfl
                    (by simp only [AObj.sz, List.length_take, hminlen, hes, hobe]; exact Nat.mul_le_mul_right _ (by omega)) q2 s1
                    (by
                      intro i' hi'
                      simp only [AObj.sz, List.length_take, hminlen, hobe] at hi'
                      rw [s2, if_neg (by omega)])
                    hrow (by simp only [AObj.sz, hes]; rw [Nat.add_mul, ← W.clen]; exact hnfit) hpure (by
                      rw [hsameE]
                      intro j t' x1 r1 hr1 hx1
                      simp only at hr1
                      by_cases hj : j < n
                      · rw [List.getElem?_append_left (by simp; omega), List.getElem?_take, if_pos hj] at hr1
                        obtain ⟨y1, hy1, hK⟩ := q6 j t' x1 r1 hr1 hx1
                        have htl := (List.getElem?_eq_some_iff.mp hx1).1
                        rw [q3 r1 (List.mem_of_getElem? hr1), hobe] at htl
                        have hlt : j * zs.length + t' < n * zs.length := by
                          have : (j + 1) * zs.length ≤ n * zs.length := Nat.mul_le_mul_right _ hj
                          rw [Nat.succ_mul] at this
                          omega
                        refine ⟨y1, ?_, hK⟩
                        simp only
                        rw [s2, if_neg (by omega), ← hobe]
                        exact hy1
                      · rw [List.getElem?_append_right (by simp; omega), List.length_take, hminlen] at hr1
                        obtain ⟨y1, hy1, hK⟩ := F2_flatten_get W.F W.row (j - n) t' x1 r1 hr1 hx1
                        have hyl := (List.getElem?_eq_some_iff.mp hy1).1
                        have hjn : j * zs.length = n * zs.length + (j - n) * zs.length := by rw [← Nat.add_mul]; congr 1; omega
                        refine ⟨y1, ?_, hK⟩
                        simp only
                        rw [s2, if_pos ⟨by omega, by omega⟩, show j * zs.length + t' - n * zs.length = (j - n) * zs.length + t' from by omega]
                        exact hy1)
                  refine R2.put hd (K_sl_mk (ob := ⟨1, ob.pl && pl, zs.length, ob.es.take n ++ ys⟩) (by simp [upd, updL]) (by simp) hcm (.inr ⟨b, by simp [upd], rfl, hroom, ?_⟩))
                  simp only [cellsAt, setRow_heap w b cc new ty (0, 0) q2, s1, Nat.zero_add]
                  exact hcap
            · -- it grows
              obtain ⟨olds, O⟩ := news_own (P := P) (y := a.eval x) R hkk hm3 h1K (by omega)
              have hOrows : ((ob.es.drop 0).take n) = ob.es.take n := by simp
              rw [hOrows] at O
              have hOlen : (ob.es.take n).length = n := by simp; omega
              have ofo := O.run w.drew rfl
              rw [hOlen, hobe, hz3] at ofo
              have oclen := O.clen
              rw [hOlen, hobe] at oclen
              have hr := run_append_new (ty := o.type) ht hu hi hzz (s := a.eval x) (sb := ad) (sLen := n) (sCap := cap) hv W.len (by rw [← hz3]; exact W.run w.drew rfl) ofo (by omega) c3 c4
              have hcap := grownCap_ge w (n + ys.length) cap e
              have hcap2 := grownCap_le_maxLen w (n + ys.length) cap e c3
              rw [hput]
              refine good_alloc R1 hd hd1 hdn' (by simp) (w1 := w.drew) rfl rfl rfl rfl (exec _ _ hr) (ob := ⟨1, ob.pl && pl, zs.length, ob.es.take n ++ ys⟩) hrow ?_ hpure ?_ ?_
              · simp only [Array.size_append, List.size_toArray, oclen, W.clen, hes]; rw [Nat.add_mul]; omega
              · rw [hsameE]
                intro j t' x1 r1 hr1 hx1
                have hFF : F2 (K (env st.H σ (may base G A) w)) (ob.es.take n ++ ys).flatten (olds ++ cells) := by
                  rw [List.flatten_append]; exact O.F.append W.F
                obtain ⟨y1, hy1, hK⟩ := F2_flatten_get hFF hrow j t' x1 r1 hr1 hx1
                refine ⟨y1, ?_, hK⟩
                have hlt := (List.getElem?_eq_some_iff.mp hy1).1
                simp only
                rw [Array.getElem?_append_left (by simpa using hlt)]
                simpa using hy1
              · intro E g1 g2 g3 g4
                refine .inr ⟨g1, _, _, rfl, hcap2, .inr ⟨_, g2, by simp, by omega, ?_⟩⟩
                rw [g3, g4]
                simp only [Array.size_append, List.size_toArray, oclen, W.clen, size_zeroCells, hz1, ← hz3, Nat.zero_add]
                rw [← Nat.add_mul, ← Nat.add_mul]
                exact Nat.mul_le_mul_right _ (by omega)
          · cases hs
        · cases hs
      · cases hs
end
end Go.Ab
