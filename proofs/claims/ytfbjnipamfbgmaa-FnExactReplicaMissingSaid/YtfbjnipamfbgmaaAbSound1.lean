/- Each plain operation does what the abstract view says: part 1. -/
import Derived.Test.YtfbjnipamfbgmaaAbRel
set_option linter.unusedSimpArgs false
set_option linter.unusedVariables false
namespace Go.Ab

theorem Oper.wp_value {P : Program} {o : Oper} {a : Act} {w w' : World} {v : Value} {K : Act → World → Prop} {Q : Exit → Act → World → Prop}
    (h : (execOp a.eval o).run P w = .ok (.value v) w') (k : K (a.put o.dst v) w') : o.wp P a w K Q := by
  unfold Oper.wp
  rw [h]
  exact k

theorem Oper.wp_skip {P : Program} {o : Oper} {a : Act} {w w' : World} {K : Act → World → Prop} {Q : Exit → Act → World → Prop}
    (h : (execOp a.eval o).run P w = .ok .skip w') (k : K (a.put o.dst undef) w') : o.wp P a w K Q := by
  unfold Oper.wp
  rw [h]
  exact k

section
variable {P : Program} {base : Nat} {G A : Nat → Prop} {w0 : Base} {N : Nat} {st : St} {σ : Nat → Option Nat} {a : Act} {w : World} {o : Oper} {Q : Exit → Act → World → Prop}

/-- What is to be shown of an operation. -/
def Good (P : Program) (base : Nat) (G A : Nat → Prop) (w0 : Base) (N : Nat) (st' : St) (o : Oper) (a : Act) (w : World) : Prop :=
  ∀ Q : Exit → Act → World → Prop, o.wp P a w (fun a' w' => ∃ σ', Rel base G A w0 N st' σ' a' w') Q

theorem good_value (R : Rel base G A w0 N st σ a w) (hd : ∀ x, o.dst = some x → x < N) {v : PV} {val : Value}
    (h : (execOp a.eval o).run P w = .ok (.value val) w) (hv : KP (env st.H σ (may base G A) w) v val) : Good P base G A w0 N (st.put o.dst v []) o a w :=
  fun _ => Oper.wp_value h ⟨σ, R.put hd hv⟩

theorem put_put (st : St) (d : Option Nat) (v : PV) (Δ : List (Nat × Option AObj)) : (⟨st.T, updL st.H Δ⟩ : St).put d v [] = st.put d v Δ := by
  cases d <;> rfl

theorem KP1_of_KP {E : Env} {p : PV} {y : Value} (h : KP E p y) (hp : ∀ ps, p ≠ .tup ps) : KP1 E p y := by
  cases p with
  | l x => exact h
  | agg cs => exact h
  | tup ps => exact absurd rfl (hp ps)

theorem K_oneCell {E : Env} {x : L} {y : Value} (h : K E x y) (hb : x ≠ .bad) : y.oneCell' = true := by
  cases x <;> first | exact absurd rfl hb | skip
  · obtain ⟨rfl, hl⟩ := h; cases y <;> first | rfl | simp [lit] at hl
  · cases h; rfl
  · obtain ⟨b, rfl⟩ := h; rfl
  · rcases h with h | ⟨_, _, _, rfl, _⟩
    · exact h.2
    · rfl
  · rcases h with h | ⟨_, _, _, rfl⟩
    · exact h.2
    · rfl
  · obtain ⟨_, _, rfl, _⟩ := h; rfl
  · obtain ⟨_, rfl, _⟩ := h; rfl

theorem cells_F2 {E : Env} {p : PV} {y : Value} (h : KP E p y) (hb : p.ok = true) : F2 (K E) p.cells y.cells.toList := by
  cases p with
  | l x =>
    have h1 : y.oneCell' = true := K_oneCell h (by rintro rfl; simp [PV.ok] at hb)
    have : y.cells = #[y] := by cases y <;> first | rfl | simp [Value.oneCell'] at h1
    rw [this]
    exact .cons h .nil
  | agg cs =>
    obtain ⟨ys, rfl, hh⟩ := h
    exact hh
  | tup _ => simp [PV.ok] at hb

/-- A new object of an operation's own. -/
theorem good_alloc (R : Rel base G A w0 N st σ a w) (hd : ∀ x, o.dst = some x → x < N) {k : Nat} (hk : st.H k = none) (hk' : 1000 ≤ k) {c : Array Value} {ty : TypeId} {ob : AObj} (hm3 : ob.m ≠ 3) {v : PV} {val : Value} {w1 : World}
    (hw : w1.heap = w.heap) (hw1 : w1.os = w.os) (hw2 : w1.tape = w.tape) (hw3 : w1.output = w.output)
    (h : (execOp a.eval o).run P w = .ok (.value val) (w1.alloc (.cells c ty)))
    (he : ∀ x ∈ ob.es, x.length = ob.e) (hsz : ob.es.length * ob.e ≤ c.size) (hpl : ob.pl = true → ∀ r ∈ ob.es, ∀ x ∈ r, x.pure = true)
    (hc : ∀ j t x r, ob.es[j]? = some r → r[t]? = some x → ∃ y, c[j * ob.e + t]? = some y ∧ K (env st.H σ (may base G A) w) x y)
    (hv : ∀ E : Env, E.live k → E.σ k = some w.heap.size → E.ez k = ob.e → E.sz k = c.size → KP E v val) : Good P base G A w0 N (st.put o.dst v [(k, some ob)]) o a w := by
  intro Q
  refine Oper.wp_value h ⟨upd σ k (some w.heap.size), ?_⟩
  have R1 : Rel base G A w0 N st σ a w1 := R.same hw hw1 hw2 hw3
  have hE : env st.H σ (may base G A) w1 = env st.H σ (may base G A) w := by simp only [env, World.cell?, cellsAt, hw]
  have R2 := R1.alloc (k := k) hk hk' (c := c) (ty := ty) (o := ob) he hsz hpl (by rw [hE]; exact hc)
  have hs : w1.heap.size = w.heap.size := by rw [hw]
  rw [hs] at R2
  have R3 := R2.put hd (v := v) (val := val) (hv _ ⟨ob, by simp [upd], hm3⟩ (by simp [env, upd]) (by simp [env, upd]) (by
    simp only [env, upd, if_true, cellsAt]
    rw [← hs, heap_alloc_new w1 _]))
  rw [← put_put]
  exact R3

theorem mapM_opd {E : Env} (ht : ∀ t, KP E (st.T t) (a.tmps.getD t undef)) {l : List Operand} {l' : List Opd} (h : l.mapM opd = some l') : F2 (fun y x => KP E (y.ev st.T) (a.eval x)) l' l :=
  mapM_F2 (R := fun (y : Opd) (x : Operand) => KP E (y.ev st.T) (a.eval x)) (fun _ _ hh => opd_ok ht hh) h

theorem sizeP_some {t : TypeId} {n : Nat} (h : sizeP P t = some n) : ∃ i, P.info? t = some i ∧ i.size = n := by
  simp only [sizeP, Option.map_eq_some_iff] at h
  exact h

theorem run_sizeOf {t : TypeId} {n : Nat} (h : sizeP P t = some n) (w : World) : (sizeOf t).run P w = .ok n w := by
  obtain ⟨i, hi, rfl⟩ := sizeP_some h
  simp [sizeOf, typeInfo, hi]

theorem run_isAgg {t : TypeId} {g : Bool} (h : aggP P t = some g) (w : World) : (isAgg t).run P w = .ok g w := by
  unfold aggP at h
  unfold isAgg
  split at h
  · rename_i fs hu; cases h; simp [run_underlying hu]
  · rename_i n e hu; cases h; simp [run_underlying hu]
  · rename_i d h1 h2 hu
    cases h
    simp only [Sem.run_bind, run_underlying hu, Result.andThen_ok]
    cases d <;> first | rfl | (exact absurd rfl (h1 _)) | (exact absurd rfl (h2 _ _))
  · cases h

theorem zeros_some {t : TypeId} {zs : List L} (h : zeros P t = some zs) : ∃ i z, P.info? t = some i ∧ i.zero = some z ∧ z.cells.size = i.size ∧ 0 < i.size ∧ zs.length = i.size ∧ (∀ E, F2 (K E) zs z.cells.toList) ∧
    (∀ x ∈ zs, x.pure = true) ∧ (∀ y ∈ z.cells.toList, y.oneCell' = true) := by
  simp only [zeros, Option.bind_eq_some_iff] at h
  obtain ⟨i, hi, z, hz, h⟩ := h
  split at h
  · rename_i hh
    have hF : ∀ E, F2 (K E) zs z.cells.toList := fun E => mapM_F2 (fun _ _ h => (leafOf_ok h).1) h
    have hF2 : F2 (fun (x : L) (y : Value) => x.pure = true ∧ y.oneCell' = true) zs z.cells.toList := mapM_F2 (fun _ _ h => ⟨(leafOf_ok (E := ⟨fun _ _ _ => False, fun _ => none, fun _ => False, fun _ => False, fun _ => 0, fun _ => 0⟩) h).2.1, (leafOf_ok (E := ⟨fun _ _ _ => False, fun _ => none, fun _ => False, fun _ => False, fun _ => 0, fun _ => 0⟩) h).2.2.1⟩) h
    have hl := hF2.length
    refine ⟨i, z, hi, hz, hh.1, hh.2, by rw [hl]; simp [hh.1], hF, ?_, ?_⟩
    · intro x hx
      obtain ⟨j, hj⟩ := List.mem_iff_getElem?.mp hx
      obtain ⟨y, _, hy⟩ := hF2.get hj
      exact hy.1
    · intro y hy
      obtain ⟨j, hj⟩ := List.mem_iff_getElem?.mp hy
      have hjl : j < zs.length := by rw [hl]; exact (List.getElem?_eq_some_iff.mp hj).1
      obtain ⟨y', hy', h'⟩ := hF2.get (List.getElem?_eq_getElem hjl)
      rw [hj] at hy'; cases hy'
      exact h'.2
  · cases h
end

end Go.Ab
