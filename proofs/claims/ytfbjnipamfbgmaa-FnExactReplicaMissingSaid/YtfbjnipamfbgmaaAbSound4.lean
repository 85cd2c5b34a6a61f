/- Each plain operation does what the abstract view says: part 4 (cells read and written). -/
import Derived.Test.YtfbjnipamfbgmaaAbSound3
set_option linter.unusedSimpArgs false
set_option linter.unusedVariables false
namespace Go.Ab
section
variable {P : Program} {base : Nat} {G A : Nat → Prop} {w0 : Base} {N : Nat} {st : St} {σ : Nat → Option Nat} {a : Act} {w : World} {o : Oper} {r : CallRes} {ρ : Nat → Option AObj} {fr : Nat → Bool} {d : Nat} {c : Prop} {v : PV} {Δ : List (Nat × Option AObj)}

theorem add_add (x : Addr) (m n : Nat) : (x.add m).add n = x.add (m + n) := by
  unfold Addr.add
  by_cases hm : m = 0 <;> by_cases hn : n = 0 <;> simp [hm, hn]
  omega

theorem addr_add (b off n : Nat) : (⟨b, off, none⟩ : Addr).add n = ⟨b, off + n, none⟩ := by
  unfold Addr.add; split <;> simp_all

/-- The cells of an object, read. -/
theorem Rel.reads (R : Rel base G A w0 N st σ a w) {k b : Nat} {ob : AObj} (hk : st.H k = some ob) (hm3 : ob.m ≠ 3) (hb : σ k = some b) {e : Nat} {cs : List L} (he : ob.es[e]? = some cs) :
    ∃ ys : List Value, F2 (K (env st.H σ (may base G A) w)) cs ys ∧ ∀ j y, ys[j]? = some y → w.cell? ⟨b, e * ob.e + j, none⟩ = some y := by
  rcases R.obj k ob hk hm3 with ⟨h, _⟩ | ⟨b', c, ty, h1, h2, h3, h4, h5, h6⟩
  · rw [hb] at h; cases h
  · rw [hb] at h1; cases h1
    have hl : cs.length = ob.e := h3 cs (List.mem_of_getElem? he)
    have hel : e < ob.es.length := (List.getElem?_eq_some_iff.mp he).1
    have hin : ∀ j, j < cs.length → e * ob.e + j < c.size := by
      intro j hj
      have : (e + 1) * ob.e ≤ ob.es.length * ob.e := Nat.mul_le_mul_right _ hel
      rw [Nat.succ_mul] at this
      omega
    refine ⟨(List.range cs.length).map fun j => c.getD (e * ob.e + j) undef, ?_, ?_⟩
    · apply F2.of_get
      · simp
      · intro j x y hx hy
        have hj := (List.getElem?_eq_some_iff.mp hx).1
        obtain ⟨y', hy', hK⟩ := h6 e j x cs he hx
        simp [hj] at hy
        rw [hy'] at hy
        simp at hy
        subst hy
        exact hK
    · intro j y hy
      have hj : j < cs.length := by simpa using (List.getElem?_eq_some_iff.mp hy).1
      simp [hj] at hy
      simp only [World.cell?, h2]
      obtain ⟨x, hx⟩ : ∃ x, cs[j]? = some x := ⟨_, List.getElem?_eq_getElem hj⟩
      obtain ⟨y', hy', hK⟩ := h6 e j x cs he hx
      rw [hy'] at hy ⊢
      simp at hy
      simp [hy]

theorem pv_reads {E : Env} {q : Bool} {cs : List L} {y : Value} (h : K E (.pv q cs) y) : ∃ (x : Addr) (ys : List Value), y = .pointer (some x) ∧ F2 (K E) cs ys ∧ ∀ j u, ys[j]? = some u → E.rd q (x.add j) u := by
  obtain ⟨x, f, rfl, hh⟩ := h
  refine ⟨x, (List.range cs.length).map f, rfl, ?_, ?_⟩
  · apply F2.of_get
    · simp
    · intro j z u hz hu
      have hj := (List.getElem?_eq_some_iff.mp hz).1
      simp [hj] at hu
      subst hu
      have := (hh j hj).2
      rw [List.getElem?_eq_getElem hj] at hz
      cases hz
      exact K_of_KV this
  · intro j u hu
    have hj : j < cs.length := by simpa using (List.getElem?_eq_some_iff.mp hu).1
    simp [hj] at hu
    subst hu
    exact (hh j hj).1

/-- A load of cells that lie there. -/
theorem run_load_cells {t : TypeId} {n : Nat} {g : Bool} (hn : sizeP P t = some n) (hg : aggP P t = some g) (h1 : g = true ∨ n = 1) {x : Addr} {ys : List Value} (hl : ys.length = n) (hy : ∀ j u, ys[j]? = some u → w.cell? (x.add j) = some u) :
    ∃ val, (Instr.loadAt t (.pointer (some x))).run P w = .ok val w ∧ (g = true → val = .agg ⟨ys⟩) ∧ (g = false → ys = [val]) := by
  cases g with
  | true =>
    refine ⟨.agg ⟨ys⟩, ?_, fun _ => rfl, (fun h => by cases h)⟩
    have hc := run_loadCells_list (P := P) w x ys hy
    rw [hl] at hc
    simp only [Instr.loadAt, Instr.sureAddr, Sem.run_bind, Sem.run_pure, Result.andThen_ok, loadVar, run_isAgg hg, if_true, run_sizeOf hn, hc]
  | false =>
    have hn1 : n = 1 := by simpa using h1
    obtain ⟨u, rfl⟩ : ∃ u, ys = [u] := List.length_eq_one_iff.mp (by rw [hl, hn1])
    refine ⟨u, ?_, (fun h => by cases h), fun _ => rfl⟩
    have hc := hy 0 u rfl
    have : x.add 0 = x := by simp [Addr.add]
    rw [this] at hc
    simp only [Instr.loadAt, Instr.sureAddr, Sem.run_bind, Sem.run_pure, Result.andThen_ok, loadVar, run_isAgg hg, Bool.false_eq_true, if_false, run_load, hc]

theorem one_ok {E : Env} {g : Bool} {cs : List L} {ys : List Value} {p : PV} {val : Value} (h : one g cs = some p) (hF : F2 (K E) cs ys) (hv1 : g = true → val = .agg ⟨ys⟩) (hv2 : g = false → ys = [val]) : KP E p val := by
  unfold one at h
  cases g with
  | true =>
    simp at h; subst h
    rw [hv1 rfl]
    exact ⟨ys, rfl, hF⟩
  | false =>
    simp only [Bool.false_eq_true, if_false] at h
    split at h
    · rename_i x
      cases h
      have := hv2 rfl
      subst this
      cases hF with
      | cons h _ => exact h
    · cases h

theorem good_load (R : Rel base G A w0 N st σ a w) (S : Sees st ρ fr d) (hd : ∀ x, o.dst = some x → x < N) {t : TypeId} {x : Operand} {op : AOp} (ho : o.op = .load t x) (hcomp : compOp P o.op = some op)
    (hs : sem P r op st.T ρ fr d = some (c, v, Δ)) (hc : c) : Good P base G A w0 N (st.put o.dst v Δ) o a w := by
  rw [ho] at hcomp
  simp only [compOp, Option.bind_eq_bind, Option.bind_eq_some_iff] at hcomp
  obtain ⟨n, hn, g, hg, hcomp⟩ := hcomp
  split at hcomp
  · rename_i hgn
    have hgn' : g = true ∨ n = 1 := by simpa using hgn
    simp only [Option.bind_eq_some_iff, Option.pure_def, Option.some.injEq] at hcomp
    obtain ⟨y, hy, rfl⟩ := hcomp
    have hx := opd_ok R.tmp hy
    simp only [sem] at hs
    have main : ∀ (ad : Addr) (cs : List L) (ys : List Value) (p : PV), a.eval x = .pointer (some ad) → cs.length = n → F2 (K (env st.H σ (may base G A) w)) cs ys → (∀ j u, ys[j]? = some u → w.cell? (ad.add j) = some u) →
        one g cs = some p → (v, Δ) = (p, ([] : List (Nat × Option AObj))) → Good P base G A w0 N (st.put o.dst v Δ) o a w := by
      intro ad cs ys p h1 h2 h3 h4 h5 h6
      cases h6
      obtain ⟨val, hr, hv1, hv2⟩ := run_load_cells hn hg hgn' (by rw [← h3.length, h2]) h4
      refine good_value R hd (val := val) ?_ (one_ok h5 h3 hv1 hv2)
      unfold execOp
      rw [ho]
      simp only [h1, Sem.run_bind, hr, Result.andThen_ok, Sem.run_pure]
    split at hs
    · rename_i k e oo hp
      rw [hp] at hx
      split at hs
      · rename_i ob hk
        split at hs
        · rename_i cs he
          simp only [Option.map_eq_some_iff, Prod.mk.injEq] at hs
          obtain ⟨p, hp1, rfl, rfl, rfl⟩ := hs
          obtain ⟨hkk, hm3⟩ := S.sub _ _ hk
          obtain ⟨b, hb, hval⟩ := K_ptr hx hkk hm3
          obtain ⟨ys, hF, hys⟩ := R.reads hkk hm3 hb he
          refine main _ ((cs.drop oo).take n) ((ys.drop oo).take n) p hval (by simp; omega) ((hF.append_inv oo).2.append_inv n).1 ?_ hp1 rfl
          intro j u hu
          rw [addr_add, Nat.add_assoc]
          apply hys
          rw [List.getElem?_take] at hu
          split at hu
          · simpa using hu
          · cases hu
        · cases hs
      · cases hs
    · rename_i q cs hp
      rw [hp] at hx
      simp only [Option.map_eq_some_iff, Prod.mk.injEq] at hs
      obtain ⟨p, hp1, rfl, rfl, rfl⟩ := hs
      obtain ⟨ad, ys, hval, hF, hys⟩ := pv_reads hx
      refine main ad (cs.take n) (ys.take n) p hval (by simp; omega) (hF.append_inv n).1 ?_ hp1 rfl
      intro j u hu
      rw [List.getElem?_take] at hu
      split at hu
      · exact (hys j u hu).1
      · cases hu
    · cases hs
  · cases hcomp

theorem good_store (R : Rel base G A w0 N st σ a w) (S : Sees st ρ fr d) (hd : ∀ x, o.dst = some x → x < N) {t : TypeId} {x y : Operand} {op : AOp} (ho : o.op = .store t x y) (hcomp : compOp P o.op = some op)
    (hs : sem P r op st.T ρ fr d = some (c, v, Δ)) (hc : c) : Good P base G A w0 N (st.put o.dst v Δ) o a w := by
  rw [ho] at hcomp
  simp only [compOp, Option.bind_eq_bind, Option.bind_eq_some_iff, Option.pure_def, Option.some.injEq] at hcomp
  obtain ⟨n, hn, x', hx', y', hy', rfl⟩ := hcomp
  have hx := opd_ok R.tmp hx'
  have hy := opd_ok R.tmp hy'
  simp only [sem] at hs
  split at hs
  · rename_i k e oo hp
    rw [hp] at hx
    split at hs
    · rename_i ob hk
      split at hs
      · rename_i cs he
        split at hs
        · rename_i hh
          obtain ⟨hok, hlen, hfit, hm⟩ := hh
          simp only [Option.some.injEq, Prod.mk.injEq] at hs
          obtain ⟨rfl, rfl, rfl⟩ := hs
          obtain ⟨hkk, hm3⟩ := S.sub _ _ hk
          obtain ⟨b, hb, hval⟩ := K_ptr hx hkk hm3
          have hF := cells_F2 hy hok
          have hFl : (y'.ev st.T).cells.length = (a.eval y).cells.size := by have := hF.length; simpa using this
          rcases R.obj k ob hkk hm3 with ⟨h, _⟩ | ⟨b', cc, ty, h1, h2, h3, h4, h5, h6⟩
          · rw [hb] at h; cases h
          · rw [hb] at h1; cases h1
            have hel : e < ob.es.length := (List.getElem?_eq_some_iff.mp he).1
            have hcl : cs.length = ob.e := h3 cs (List.mem_of_getElem? he)
            have hin : e * ob.e + oo + n ≤ cc.size := by
              have : (e + 1) * ob.e ≤ ob.es.length * ob.e := Nat.mul_le_mul_right _ hel
              rw [Nat.succ_mul] at this
              omega
            have hone : ∀ u ∈ (a.eval y).cells.toList, u.oneCell' = true := by
              intro u hu
              obtain ⟨j, hj⟩ := List.mem_iff_getElem?.mp hu
              have hjl : j < (y'.ev st.T).cells.length := by rw [hF.length]; exact (List.getElem?_eq_some_iff.mp hj).1
              obtain ⟨u', hu', hK⟩ := hF.get (List.getElem?_eq_getElem hjl)
              rw [hj] at hu'; cases hu'
              exact K_oneCell hK (hc _ (List.getElem_mem hjl))
            have hst := run_storeCells_at P b (e * ob.e + oo) ty (a.eval y).cells.toList 0 cc w h2 (by simp; omega) hone
            simp only [Nat.add_zero] at hst
            obtain ⟨new, hnew⟩ : ∃ new, new = (cc.toList.take (e * ob.e + oo) ++ (a.eval y).cells.toList ++ cc.toList.drop (e * ob.e + oo + (a.eval y).cells.toList.length)).toArray := ⟨_, rfl⟩
            rw [← hnew] at hst
            have hnsz : new.size = cc.size := by rw [hnew]; simp; omega
            have hget : ∀ i, new[i]? = if e * ob.e + oo ≤ i ∧ i < e * ob.e + oo + n then (a.eval y).cells[i - (e * ob.e + oo)]? else cc[i]? := by
              intro i
              rw [hnew]
              simp only [List.getElem?_toArray, List.append_assoc]
              by_cases hi1 : i < e * ob.e + oo
              · rw [List.getElem?_append_left (by simp; omega), if_neg (by omega), List.getElem?_take, if_pos hi1]
                simp
              · rw [List.getElem?_append_right (by simp; omega)]
                have hmin : (cc.toList.take (e * ob.e + oo)).length = e * ob.e + oo := by simp; omega
                rw [hmin]
                by_cases hi2 : i < e * ob.e + oo + n
                · rw [if_pos ⟨by omega, hi2⟩, List.getElem?_append_left (by simp; omega)]
                  simp
                · rw [if_neg (by omega), List.getElem?_append_right (by simp; omega)]
                  simp only [List.getElem?_drop, Array.length_toList, Array.getElem?_toList]
                  congr 1
                  omega
            intro Q
            refine Oper.wp_skip (w' := w.setRow b new) ?_ ?_
            · unfold execOp
              rw [ho]
              simp only [hval, Instr.storeAt, Instr.sureAddr, Sem.run_bind, Sem.run_pure, Result.andThen_ok, storeVar, run_sizeOf hn]
              rw [if_neg (by omega)]
              simp only [hst, Result.andThen_ok]
            · refine ⟨σ, ?_⟩
              have hcell : ∀ ad : Addr, ad.block ≠ b → (w.setRow b new).cell? ad = w.cell? ad := fun ad h => cell_setRow_other w b new ad h
              have hother : ∀ b', b' ≠ b → (w.setRow b new).heap[b']? = w.heap[b']? := fun b' h => setRow_other w b b' new h
              have hsame : (w.setRow b new).heap[b]? = some (.cells new ty (0, 0)) := setRow_heap w b cc new ty (0, 0) h2
              have hle : (env st.H σ (may base G A) w).Le (env (upd st.H k (some { ob with pl := ob.pl && pures (y'.ev st.T).cells, es := ob.es.set e (splice cs oo (y'.ev st.T).cells) })) σ (may base G A) (w.setRow b new)) := by
                constructor
                · rintro q ad u ⟨g1, g2, g3⟩
                  refine ⟨by rw [hcell ad (fun e' => g3 k ob hkk hm3 (by rw [hb, e']))]; exact g1, g2, ?_⟩
                  intro k' o' h' hm'
                  simp only [upd] at h'
                  split at h'
                  · rename_i e1; subst e1; exact g3 _ ob hkk hm3
                  · exact g3 k' o' h' hm'
                · rintro k' ⟨o', ho', hm'⟩
                  simp only [env, upd]
                  refine .inr ⟨?_, trivial, ?_, ?_⟩
                  · by_cases e1 : k' = k
                    · subst e1; refine ⟨_, if_pos rfl, ?_⟩; exact hm3
                    · exact ⟨o', by simp [e1, ho'], hm'⟩
                  · split
                    · rename_i e1; subst e1; simp [hkk]
                    · rfl
                  · cases hs' : σ k' with
                    | none => simp
                    | some b' =>
                      simp only [cellsAt]
                      by_cases hbb : b' = b
                      · subst hbb; rw [hsame, h2]; simp [hnsz]
                      · rw [hother b' hbb]; exact Nat.le_refl _
                · rintro k' ⟨o', ho', hm'⟩
                  have hne : k' ≠ k := by rintro rfl; rw [hkk] at ho'; cases ho'; exact hm3 hm'
                  exact ⟨o', by simp [upd, hne, ho'], hm'⟩
              rw [show st.put o.dst (.l .bad) [(k, some { ob with pl := ob.pl && pures (y'.ev st.T).cells, es := ob.es.set e (splice cs oo (y'.ev st.T).cells) })] =
                (⟨st.T, upd st.H k (some { ob with pl := ob.pl && pures (y'.ev st.T).cells, es := ob.es.set e (splice cs oo (y'.ev st.T).cells) })⟩ : St).put o.dst (.l .bad) [] from (put_put _ _ _ _).symm]
              refine Rel.put ?_ hd (show KP _ (.l .bad) undef from trivial)
              refine R.turn hle ?_ ?_ ?_ ?_ (by simp) rfl rfl rfl (cellsAt_setRow w h2 hnsz) (fun i o1 _ h hm => by
                by_cases e1 : i = k
                · subst e1; exact ⟨ob, hkk, hm3, rfl⟩
                · exact ⟨o1, by simpa [upd, e1] using h, hm, rfl⟩)
              · intro k1 k2 o1 o2 b1 g1 g2 g3 g4
                simp only [upd] at g1 g2
                have hszz : ({ ob with pl := ob.pl && pures (y'.ev st.T).cells, es := ob.es.set e (splice cs oo (y'.ev st.T).cells) } : AObj).sz = ob.sz := by simp [AObj.sz]
                have cv : ∀ (k' : Nat) (o' : AObj), (if k' = k then some ({ ob with pl := ob.pl && pures (y'.ev st.T).cells, es := ob.es.set e (splice cs oo (y'.ev st.T).cells) } : AObj) else st.H k') = some o' → ∃ o'', st.H k' = some o'' ∧ o''.m = o'.m ∧ o''.sz = o'.sz := by
                  intro k' o' h
                  split at h
                  · rename_i e1; subst e1; cases h; exact ⟨ob, hkk, rfl, hszz.symm⟩
                  · exact ⟨o', h, rfl, rfl⟩
                obtain ⟨o1', f1, f2, f5⟩ := cv k1 o1 g1
                obtain ⟨o2', f3, f4, f6⟩ := cv k2 o2 g2
                have := R.inj k1 k2 o1' o2' b1 f1 f3 g3 g4
                rw [f2, f4, f5, f6] at this
                exact this
              · intro k1 o1 g1 hm1
                by_cases e1 : k1 = k
                · subst e1
                  simp only [upd, if_true, Option.some.injEq] at g1
                  subst g1
                  refine .inr ⟨b, new, ty, hb, hsame, ?_, ?_, ?_, ?_⟩
                  · intro z hz
                    rcases List.mem_or_eq_of_mem_set hz with hz | rfl
                    · exact h3 z hz
                    · simp [splice]; omega
                  · simpa [hnsz] using h4
                  · intro hpl z hz u hu
                    simp at hpl
                    rcases List.mem_or_eq_of_mem_set hz with hz | rfl
                    · exact h5 hpl.1 z hz u hu
                    · simp only [splice, List.mem_append] at hu
                      rcases hu with hu | hu | hu
                      · exact h5 hpl.1 cs (List.mem_of_getElem? he) u (List.mem_of_mem_take hu)
                      · exact pures_iff.mp hpl.2 u hu
                      · exact h5 hpl.1 cs (List.mem_of_getElem? he) u (List.mem_of_mem_drop hu)
                  · intro j t' z r' hr hz
                    simp only at hr
                    rw [List.getElem?_set] at hr
                    have hrl : t' < ob.e := by
                      split at hr
                      · cases hr; have := (List.getElem?_eq_some_iff.mp hz).1; simp [splice] at this; omega
                      · have := (List.getElem?_eq_some_iff.mp hz).1; rw [h3 r' (List.mem_of_getElem? hr)] at this; exact this
                    split at hr
                    · rename_i ej
                      subst ej
                      cases hr
                      simp only [splice] at hz
                      simp only
                      rw [hget]
                      by_cases hj1 : t' < oo
                      · rw [if_neg (by omega)]
                        rw [List.getElem?_append_left (by simp; omega), List.getElem?_take, if_pos hj1] at hz
                        obtain ⟨u, hu, hK⟩ := h6 e t' z cs he hz
                        exact ⟨u, hu, hK.mono hle⟩
                      · have hml : (cs.take oo).length = oo := by simp; omega
                        rw [List.getElem?_append_right (by rw [hml]; omega), hml] at hz
                        by_cases hj2 : t' < oo + n
                        · rw [if_pos (by omega)]
                          rw [List.getElem?_append_left (by omega)] at hz
                          obtain ⟨u, hu, hK⟩ := hF.get hz
                          refine ⟨u, ?_, hK.mono hle⟩
                          rw [show e * ob.e + t' - (e * ob.e + oo) = t' - oo from by omega]
                          simpa using hu
                        · rw [if_neg (by omega)]
                          rw [List.getElem?_append_right (by omega), List.getElem?_drop] at hz
                          rw [show oo + (y'.ev st.T).cells.length + (t' - oo - (y'.ev st.T).cells.length) = t' from by omega] at hz
                          obtain ⟨u, hu, hK⟩ := h6 e t' z cs he hz
                          exact ⟨u, hu, hK.mono hle⟩
                    · rename_i ej
                      obtain ⟨u, hu, hK⟩ := h6 j t' z r' hr hz
                      refine ⟨u, ?_, hK.mono hle⟩
                      simp only
                      rw [hget, if_neg ?_]
                      · exact hu
                      · intro ⟨q1, q2⟩
                        rcases Nat.lt_or_gt_of_ne ej with hlt | hgt
                        · have : (e + 1) * ob.e ≤ j * ob.e := Nat.mul_le_mul_right _ hlt
                          rw [Nat.succ_mul] at this
                          omega
                        · have : (j + 1) * ob.e ≤ e * ob.e := Nat.mul_le_mul_right _ hgt
                          rw [Nat.succ_mul] at this
                          omega
                · have g1' : st.H k1 = some o1 := by simpa [upd, e1] using g1
                  refine Objs.mono hle rfl ?_ (R.obj k1 o1 g1' hm1)
                  intro b1 c1 ty1 hb1 hh1
                  have hne : b1 ≠ b := by
                    intro e2
                    subst e2
                    rcases R.inj k1 k o1 ob b1 g1' hkk hb1 hb with e3 | e3 | e3 | ⟨_, e3⟩ | ⟨_, e3, _⟩ | ⟨_, e3, _⟩
                    · exact e1 e3
                    · exact hm1 e3
                    · exact hm3 e3
                    · rw [hm] at e3; cases e3
                    · rw [hm] at e3; cases e3
                    · rw [hm] at e3; cases e3
                  rw [hother b1 hne]
                  exact hh1
              · intro k1 o1 b1 g1 hm1 g3
                simp only [upd] at g1
                split at g1
                · rename_i e1; subst e1; exact R.own _ ob b1 hkk hm3 g3
                · exact R.own k1 o1 b1 g1 hm1 g3
              · intro b1 hb1 hG
                apply hother
                intro e2
                subst e2
                rcases R.own k ob b1 hkk hm3 hb with h | h
                · omega
                · exact hG h
        · cases hs
      · cases hs
    · cases hs
  · cases hs
end
end Go.Ab
