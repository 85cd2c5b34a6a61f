/- Each plain operation does what the abstract view says: part 3. -/
import Derived.Test.YtfbjnipamfbgmaaAbSound2
set_option linter.unusedSimpArgs false
set_option linter.unusedVariables false
namespace Go.Ab
section
variable {P : Program} {base : Nat} {G A : Nat → Prop} {w0 : Base} {N : Nat} {st : St} {σ : Nat → Option Nat} {a : Act} {w : World} {o : Oper} {r : CallRes} {ρ : Nat → Option AObj} {fr : Nat → Bool} {d : Nat} {c : Prop} {v : PV} {Δ : List (Nat × Option AObj)}

theorem run_places (fs : List Field) (w : World) (h : ∀ f ∈ fs, (sizeP P f.type).isSome = true) :
    (fs.mapM fun f => (do pure (f.offset, ← sizeOf f.type) : Sem (Nat × Nat))).run P w = .ok (fs.map fun f => (f.offset, (sizeP P f.type).getD 0)) w := by
  induction fs with
  | nil => simp
  | cons f fs ih =>
    obtain ⟨n, hn⟩ := Option.isSome_iff_exists.mp (h f (by simp))
    have ih' := ih (fun f hf => h f (by simp [hf]))
    simp only [List.mapM_cons, Sem.run_bind, run_sizeOf hn, Result.andThen_ok, Sem.run_pure, ih', List.map_cons, hn, Option.getD_some]

theorem F2_map_right {α β γ : Type} {R : α → γ → Prop} {f : β → γ} {as : List α} {bs : List β} (h : F2 (fun a b => R a (f b)) as bs) : F2 R as (bs.map f) := by
  induction h with
  | nil => exact .nil
  | cons hab _ ih => exact .cons hab ih

theorem F2_map_left {α β γ : Type} {R : γ → β → Prop} {f : α → γ} {as : List α} {bs : List β} (h : F2 (fun a b => R (f a) b) as bs) : F2 R (as.map f) bs := by
  induction h with
  | nil => exact .nil
  | cons hab _ ih => exact .cons hab ih

theorem good_build (R : Rel base G A w0 N st σ a w) (hd : ∀ x, o.dst = some x → x < N) {t : TypeId} {ps : Array (Nat × Operand)} {op : AOp} (ho : o.op = .build t ps) (hcomp : compOp P o.op = some op)
    (hs : sem P r op st.T ρ fr d = some (c, v, Δ)) : Good P base G A w0 N (st.put o.dst v Δ) o a w := by
  rw [ho] at hcomp
  simp only [compOp, Option.bind_eq_bind, Option.bind_eq_some_iff] at hcomp
  obtain ⟨zs, hz, hcomp⟩ := hcomp
  split at hcomp
  · rename_i fs hu
    split at hcomp
    · rename_i hall
      simp only [Option.bind_eq_some_iff, Option.pure_def, Option.some.injEq] at hcomp
      obtain ⟨qs, hqs, rfl⟩ := hcomp
      obtain ⟨i, z, hi, hzz, hz1, hz2, hz3, hF, hp, _⟩ := zeros_some hz
      simp only [sem] at hs
      split at hs
      · rename_i cs hcs
        simp only [Option.some.injEq, Prod.mk.injEq] at hs
        obtain ⟨_, rfl, rfl⟩ := hs
        have hpl : (fs.mapM fun f => (do pure (f.offset, ← sizeOf f.type) : Sem (Nat × Nat))).run P w = .ok (fs.map fun f => (f.offset, (sizeP P f.type).getD 0)) w := by
          rw [Array.mapM_eq_mapM_toList]
          have h := run_places (P := P) fs.toList w (fun f hf => List.all_eq_true.mp hall f hf)
          simp only [Sem.run_map, h, Result.andThen_ok]
          rw [← Array.toList_map, Array.toArray_toList]
        have hF2 : F2 (fun (q : Nat × Nat × Opd) (p : Nat × Operand) => (fs.map fun f => (f.offset, (sizeP P f.type).getD 0))[p.1]? = some (q.1, q.2.1) ∧ opd p.2 = some q.2.2) qs ps.toList := by
          refine mapM_F2 ?_ hqs
          rintro ⟨i, x⟩ ⟨off, n, y⟩ h
          simp only [Option.bind_eq_some_iff, Option.some.injEq, Prod.mk.injEq] at h
          obtain ⟨f, hf, n', hn', y', hy', rfl, rfl, rfl⟩ := h
          refine ⟨?_, hy'⟩
          simp [hf, hn']
        have hF3 : F2 (fun (q : Nat × Nat × PV) (p : Nat × Value) => (fs.map fun f => (f.offset, (sizeP P f.type).getD 0))[p.1]? = some (q.1, q.2.1) ∧ KP (env st.H σ (may base G A) w) q.2.2 p.2)
            (qs.map fun (off, n, x) => (off, n, x.ev st.T)) (ps.toList.map fun (i, x) => (i, a.eval x)) := by
          refine F2_map_left (F2_map_right (hF2.mono ?_))
          rintro ⟨off, n, y⟩ ⟨i, x⟩ ⟨h1, h2⟩
          exact ⟨h1, opd_ok R.tmp h2⟩
        obtain ⟨ys, h1, h2, h3⟩ := fill_ok hF3 (hF (env st.H σ (may base G A) w)) hcs
        refine good_value R hd (val := .agg ys) ?_ ⟨ys.toList, rfl, h2⟩
        unfold execOp
        rw [ho]
        simp only [Instr.build, Sem.run_bind, zeroValue, typeInfo, run_program, Result.andThen_ok, hi, Sem.run_pure, hzz, run_underlying hu]
        rw [hpl]
        simp only [Result.andThen_ok, Array.toList_map, h1, Sem.run_pure]
      · cases hs
    · cases hcomp
  · cases hcomp

theorem flatten_get {α : Type} {es : List (List α)} {e j t : Nat} {r : List α} {x : α} (he : ∀ y ∈ es, y.length = e) (hr : es[j]? = some r) (hx : r[t]? = some x) : es.flatten[j * e + t]? = some x := by
  induction es generalizing j with
  | nil => simp at hr
  | cons y es ih =>
    have hy := he y (by simp)
    have he' : ∀ z ∈ es, z.length = e := fun z hz => he z (by simp [hz])
    cases j with
    | zero =>
      simp at hr; subst hr
      simp only [List.flatten_cons, Nat.zero_mul, Nat.zero_add]
      rw [List.getElem?_append_left (List.getElem?_eq_some_iff.mp hx).1]
      exact hx
    | succ j =>
      simp at hr
      simp only [List.flatten_cons]
      rw [List.getElem?_append_right (by rw [hy, Nat.succ_mul]; omega), hy, show (j + 1) * e + t - e = j * e + t from by rw [Nat.succ_mul]; omega]
      exact ih he' hr

theorem flatten_length {α : Type} {es : List (List α)} {e : Nat} (he : ∀ y ∈ es, y.length = e) : es.flatten.length = es.length * e := by
  induction es with
  | nil => simp
  | cons y es ih => simp only [List.flatten_cons, List.length_append, List.length_cons, Nat.succ_mul, ih (fun z hz => he z (by simp [hz])), he y (by simp)]; omega

theorem flatten_set {es : List (List L)} {e i : Nat} {xs : List L} (he : ∀ y ∈ es, y.length = e) (hi : i < es.length) (hx : xs.length = e) : (es.set i xs).flatten = splice es.flatten (i * e) xs := by
  induction es generalizing i with
  | nil => simp at hi
  | cons y es ih =>
    have hy := he y (by simp)
    have he' : ∀ z ∈ es, z.length = e := fun z hz => he z (by simp [hz])
    cases i with
    | zero => simp [splice, hx, ← hy]
    | succ i =>
      simp only [List.set_cons_succ, List.flatten_cons, ih he' (by simpa using hi)]
      unfold splice
      rw [show (i + 1) * e = y.length + i * e from by rw [Nat.succ_mul, hy]; omega, List.take_length_add_append, Nat.add_assoc, List.drop_length_add_append, List.append_assoc]

theorem fillE_fillL {e : Nat} : ∀ {qs : List (Nat × PV)} {es es' : List (List L)}, (∀ y ∈ es, y.length = e) → fillE e es qs = some es' →
    fillL es.flatten (qs.map fun q => (q.1 * e, e, q.2)) = some es'.flatten ∧ (∀ y ∈ es', y.length = e) ∧ es'.length = es.length
  | [], es, es', he, h => by simp only [fillE, Option.some.injEq] at h; subst h; exact ⟨rfl, he, rfl⟩
  | (i, p) :: qs, es, es', he, h => by
    simp only [fillE] at h
    split at h
    · rename_i hh
      obtain ⟨h0, h1, h2⟩ := hh
      have he2 : ∀ y ∈ es.set i p.cells, y.length = e := by
        intro y hy
        rcases List.mem_or_eq_of_mem_set hy with hy | rfl
        · exact he y hy
        · exact h1
      obtain ⟨k1, k2, k3⟩ := fillE_fillL he2 h
      refine ⟨?_, k2, by simpa using k3⟩
      simp only [List.map_cons, fillL]
      rw [if_pos ⟨h0, h1, by rw [flatten_length he, ← Nat.succ_mul]; exact Nat.mul_le_mul_right e h2⟩, ← flatten_set he h2 h1]
      exact k1
    · cases h

theorem flatten_replicate_get {α : Type} {zs : List α} {n i : Nat} (hi : i < n * zs.length) : (List.replicate n zs).flatten[i]? = zs[i % zs.length]? := by
  have hpos : 0 < zs.length := by rcases Nat.eq_zero_or_pos zs.length with h | h; · rw [h] at hi; simp at hi
                                  · exact h
  have hj : i / zs.length < n := Nat.div_lt_of_lt_mul (by rw [Nat.mul_comm]; exact hi)
  have ht : i % zs.length < zs.length := Nat.mod_lt _ hpos
  have h := flatten_get (es := List.replicate n zs) (e := zs.length) (j := i / zs.length) (t := i % zs.length) (r := zs) (x := zs[i % zs.length]) (by intro y hy; rw [List.eq_of_mem_replicate hy]) (by simp [hj]) (by simp [ht])
  rw [Nat.mul_comm, Nat.div_add_mod] at h
  rw [h]
  simp [ht]

theorem zeros_rep {E : Env} {zs : List L} {zc : Array Value} (hF : F2 (K E) zs zc.toList) (n : Nat) (hz : zc.size = zs.length) :
    F2 (K E) (List.replicate n zs).flatten (((Array.range (n * zs.length)).map (zc[· % zc.size]!)).toList) := by
  apply F2.of_get
  · rw [flatten_length (e := zs.length) (by intro y hy; rw [List.eq_of_mem_replicate hy])]
    simp
  · intro i x y hx hy
    have hi : i < n * zs.length := by
      have := (List.getElem?_eq_some_iff.mp hx).1
      rwa [flatten_length (e := zs.length) (by intro y hy; rw [List.eq_of_mem_replicate hy]), List.length_replicate] at this
    rw [flatten_replicate_get hi] at hx
    obtain ⟨y', hy', hk⟩ := hF.get hx
    have : y = y' := by
      simp [hi] at hy
      rw [hz] at hy
      have hlt : i % zs.length < zc.size := by
        have := (List.getElem?_eq_some_iff.mp hx).1
        omega
      have h2 : zc[i % zs.length]? = some y' := by simpa using hy'
      rw [getElem!_pos zc _ hlt] at hy
      rw [Array.getElem?_eq_getElem hlt] at h2
      cases h2
      exact hy.symm
    subst this
    exact hk

theorem elemP_some {t e : TypeId} (h : elemP P t = some e) : P.underlying t = some (.slice e) := by
  unfold elemP at h
  split at h
  · rename_i e' hu; cases h; exact hu
  · cases h

theorem good_bsl (R : Rel base G A w0 N st σ a w) (S : Sees st ρ fr d) (hd : ∀ x, o.dst = some x → x < N) {t : TypeId} {n : Nat} {ps : Array (Nat × Operand)} {op : AOp} (ho : o.op = .buildSlice t n ps) (hcomp : compOp P o.op = some op)
    (hs : sem P r op st.T ρ fr d = some (c, v, Δ)) : Good P base G A w0 N (st.put o.dst v Δ) o a w := by
  rw [ho] at hcomp
  simp only [compOp, Option.bind_eq_bind, Option.bind_eq_some_iff] at hcomp
  obtain ⟨e, he, zs, hz, hcomp⟩ := hcomp
  have hu := elemP_some he
  obtain ⟨i, z, hi, hzz, hz1, hz2, hz3, hF, hp, _⟩ := zeros_some hz
  split at hcomp
  · rename_i hsz
    simp only [Option.bind_eq_some_iff, Option.pure_def, Option.some.injEq] at hcomp
    obtain ⟨qs, hqs, rfl⟩ := hcomp
    simp only [sem] at hs
    split at hs
    · rename_i es hes
      split at hs
      rotate_left
      · cases hs
      rename_i hk
      have hrep : ∀ y ∈ List.replicate n zs, y.length = zs.length := by intro y hy; rw [List.eq_of_mem_replicate hy]
      obtain ⟨k1, k2, k3⟩ := fillE_fillL hrep hes
      have hF2 : F2 (fun (q : Nat × Opd) (p : Nat × Operand) => q.1 = p.1 ∧ opd p.2 = some q.2) qs ps.toList := by
        refine mapM_F2 ?_ hqs
        rintro ⟨i, x⟩ ⟨j, y⟩ h
        simp only [Option.bind_eq_some_iff, Option.some.injEq, Prod.mk.injEq] at h
        obtain ⟨y', hy', rfl, rfl⟩ := h
        exact ⟨rfl, hy'⟩
      have hF3 : F2 (fun (q : Nat × Nat × PV) (p : Nat × Value) => (fun i : Nat => some (i * zs.length, zs.length)) p.1 = some (q.1, q.2.1) ∧ KP (env st.H σ (may base G A) w) q.2.2 p.2)
          ((qs.map fun x => (x.1, x.2.ev st.T)).map fun q => (q.1 * zs.length, zs.length, q.2)) (ps.toList.map fun x => (x.1, a.eval x.2)) := by
        refine F2_map_left (F2_map_left (F2_map_right (hF2.mono ?_)))
        rintro ⟨i, y⟩ ⟨j, x⟩ ⟨h1, h2⟩
        simp only at h1
        subst h1
        exact ⟨rfl, opd_ok R.tmp h2⟩
      have hzr := zeros_rep (hF (env st.H σ (may base G A) w)) n (by rw [hz1, hz3])
      obtain ⟨ys, h1, h2, h3⟩ := fill_ok (place := fun i => some (i * zs.length, zs.length)) hF3 hzr k1
      have hsz' : ys.size = n * zs.length := by rw [h3]; simp
      have hrun : (execOp a.eval o).run P w = .ok (.value (.slice (some ⟨w.heap.size, 0, none⟩) n n)) (w.alloc (.cells ys e)) := by
        unfold execOp
        rw [ho]
        simp only [Instr.buildSlice, Sem.run_bind, run_underlying hu, Result.andThen_ok, sizeOf, typeInfo, run_program, hi, Sem.run_pure]
        rw [if_neg (by rw [← hz3]; omega)]
        simp only [Array.toList_map, hz3] at h1 ⊢
        by_cases h0 : n * i.size = 0
        · have h1' := h1
          rw [h0] at h1'
          rw [if_pos h0]
          simp only [Sem.run_bind, Sem.run_pure, Result.andThen_ok, h0]
          have e0 : ∀ f : Nat → Value, (Array.range 0).map f = #[] := fun f => by simp
          rw [e0] at h1' ⊢
          rw [h1']
          simp only [Sem.run_bind, newRow, run_newObj, Result.andThen_ok, Sem.run_pure]
          rfl
        · rw [if_neg h0]
          simp only [Sem.run_bind, Sem.run_pure, Result.andThen_ok, zeroValue, typeInfo, run_program, hi, hzz, h1, newRow, run_newObj]
          rfl
      cases n with
      | zero =>
        simp only [Option.some.injEq, Prod.mk.injEq] at hs
        obtain ⟨_, rfl, rfl⟩ := hs
        intro Q
        refine Oper.wp_value hrun ⟨σ, ?_⟩
        have R2 : Rel base G A w0 N st σ a (w.alloc (.cells ys e)) := by
          have hle : (env st.H σ (may base G A) w).Le (env st.H σ (may base G A) (w.alloc (.cells ys e))) := by
            constructor
            · rintro q ad v ⟨hc, hr, ho⟩
              exact ⟨(World.cell?_alloc_lt w _ ad (World.block_lt_of_cell? w ad hc)).trans hc, hr, ho⟩
            · rintro k' ⟨o', ho', hm⟩
              refine .inr ⟨⟨o', ho', hm⟩, rfl, rfl, ?_⟩
              simp only [env]
              cases hs' : σ k' with
              | none => simp
              | some b =>
                have := R.lt k' o' b ho' hm hs'
                simp only [cellsAt, World.alloc, Array.getElem?_push]
                rw [if_neg (by omega)]
                exact Nat.le_refl _
            · exact fun k' h => h
          have hold : ∀ b, b < w.heap.size → (w.alloc (.cells ys e)).heap[b]? = w.heap[b]? := fun b hb => by
            simp only [World.alloc, Array.getElem?_push]; rw [if_neg (by omega)]
          refine R.turn hle R.inj ?_ R.own (fun b hb _ => hold b (Nat.lt_of_lt_of_le hb R.size)) (by simp) rfl rfl rfl (cellsAt_alloc w _) (fun i o1 _ h hm => ⟨o1, h, hm, rfl⟩)
          intro k1 o1 h1' hm1
          refine Objs.mono hle rfl ?_ (R.obj k1 o1 h1' hm1)
          intro b c' ty' hb hh
          rw [hold b (R.lt k1 o1 b h1' hm1 hb)]
          exact hh
        exact R2.put hd ⟨_, rfl⟩
      | succ n =>
        simp only [Option.some.injEq, Prod.mk.injEq] at hs
        obtain ⟨_, rfl, rfl⟩ := hs
        refine good_alloc R hd (S.at hk) (S.at' hk) (by simp) (c := ys) (ty := e) (w1 := w) rfl rfl rfl rfl hrun k2 ?_ ?_ ?_ ?_
        · rw [hsz', k3]; simp
        · intro hpl r hr x hx
          have := List.all_eq_true.mp hpl r hr
          exact pures_iff.mp this x hx
        · intro j t' x r' hr hx
          obtain ⟨y, hy, hk'⟩ := h2.get (flatten_get k2 hr hx)
          exact ⟨y, by simpa using hy, hk'⟩
        · intro E h1 h2 h3 h4
          have hpos : 0 < zs.length := by omega
          have hle : n + 1 ≤ (n + 1) * zs.length := Nat.le_mul_of_pos_right _ hpos
          refine .inr ⟨h1, _, _, rfl, by unfold maxLen; omega, .inr ⟨_, h2, by simp, Nat.le_refl _, ?_⟩⟩
          rw [h4, h3, hsz']
          simp
    · cases hs
  · cases hcomp
end
end Go.Ab
