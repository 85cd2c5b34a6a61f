/- Each plain operation does what the abstract view says: part 8 (make, closures, append). -/
import Derived.Test.YtfbjnipamfbgmaaAbSound7
set_option linter.unusedSimpArgs false
set_option linter.unusedVariables false
namespace Go.Ab
section
variable {P : Program} {base : Nat} {G A : Nat → Prop} {w0 : Base} {N : Nat} {st : St} {σ : Nat → Option Nat} {a : Act} {w : World} {o : Oper} {r : CallRes} {ρ : Nat → Option AObj} {fr : Nat → Bool} {d : Nat} {c : Prop} {v : PV} {Δ : List (Nat × Option AObj)}

theorem good_mk (R : Rel base G A w0 N st σ a w) (S : Sees st ρ fr d) (hd : ∀ x, o.dst = some x → x < N) {t : TypeId} {x y : Operand} {op : AOp} (ho : o.op = .makeSlice t x y) (hcomp : compOp P o.op = some op)
    (hs : sem P r op st.T ρ fr d = some (c, v, Δ)) (hc : c) : Good P base G A w0 N (st.put o.dst v Δ) o a w := by
  rw [ho] at hcomp
  simp only [compOp, Option.bind_eq_bind, Option.bind_eq_some_iff, Option.pure_def, Option.some.injEq] at hcomp
  obtain ⟨e, he, zs, hz, i, hi, x', hx, y', hy, rfl⟩ := hcomp
  have hu := elemP_some he
  obtain ⟨i', z, hi', hzz, hz1, hz2, hz3, hF, hp, _⟩ := zeros_some hz
  rw [hi] at hi'; cases hi'
  have h1 := opd_ok R.tmp hx
  have h2 := opd_ok R.tmp hy
  simp only [sem] at hs
  split at hs
  · rename_i k1 n k2 m hp1 hp2
    split at hs
    rotate_left
    · cases hs
    rename_i hk
    rw [hp1] at h1; rw [hp2] at h2
    obtain ⟨h1, _⟩ := h1
    obtain ⟨h2, _⟩ := h2
    simp only [Option.some.injEq, Prod.mk.injEq] at hs
    obtain ⟨rfl, rfl, rfl⟩ := hs
    obtain ⟨c1, c2, c3, c4⟩ := hc
    obtain ⟨n, rfl⟩ := Int.eq_ofNat_of_zero_le c1
    obtain ⟨m, rfl⟩ := Int.eq_ofNat_of_zero_le (Int.le_trans c1 c2)
    have wn : IntKind.i64.wrap (n : Int) = n := inK_wrap ⟨by simp [IntKind.min, IntKind.signed, IntKind.bits] <;> omega, by simp [IntKind.max, IntKind.signed, IntKind.bits] <;> omega⟩
    have wm : IntKind.i64.wrap (m : Int) = m := inK_wrap ⟨by simp [IntKind.min, IntKind.signed, IntKind.bits] <;> omega, by simp [IntKind.max, IntKind.signed, IntKind.bits] <;> omega⟩
    obtain ⟨cells, hcells⟩ : ∃ cells, cells = (Array.range (m * zs.length)).map (z.cells[· % z.cells.size]!) := ⟨_, rfl⟩
    have hFz := zeros_rep (hF (env st.H σ (may base G A) w)) m (by rw [hz1, hz3])
    rw [← hcells] at hFz
    have hcs : cells.size = m * zs.length := by rw [hcells]; simp
    have hrun : (execOp a.eval o).run P w = .ok (.value (.slice (some ⟨w.heap.size, 0, none⟩) n m)) (w.alloc (.cells cells e)) := by
      unfold execOp; rw [ho]
      have t1 : ¬ ((i.bytes : Int) * (m : Int) > 2 ^ 48) := by rw [Int.mul_comm]; omega
      simp only [h1, h2, Instr.makeSlice, Sem.run_bind, run_underlying hu, Result.andThen_ok, asInt, asIntOf, Sem.run_pure, typeInfo, run_program, hi, wn, wm]
      rw [if_neg (by simp; omega)]
      simp only [Sem.run_bind, run_askRoom, Result.andThen_ok, sizeOf, typeInfo, run_program, hi, Sem.run_pure]
      simp only [Int.toNat_natCast]
      by_cases h0 : m * i.size = 0
      · rw [if_pos h0]
        simp only [Sem.run_bind, Sem.run_pure, Result.andThen_ok, h0, newRow, run_newObj]
        have e0 : ∀ f : Nat → Value, (Array.range 0).map f = #[] := fun f => by simp
        rw [hcells, hz3, h0, e0, e0]
        rfl
      · rw [if_neg h0]
        simp only [Sem.run_bind, Sem.run_pure, Result.andThen_ok, zeroValue, typeInfo, run_program, hi, hzz, newRow, run_newObj]
        rw [hcells, hz3]
        rfl
    have hrep : ∀ k, ∀ y ∈ List.replicate k zs, y.length = zs.length := by intro k y hy; rw [List.eq_of_mem_replicate hy]
    refine good_alloc R hd (S.at hk) (S.at' hk) (by simp) (c := cells) (ty := e) (w1 := w) rfl rfl rfl rfl hrun (hrep _) ?_ ?_ ?_ ?_
    · rw [hcs]; simp; exact Nat.mul_le_mul_right _ (by omega)
    · intro hpl r hr x hx; rw [List.eq_of_mem_replicate hr] at hx; exact hp x hx
    · intro j t' x r' hr hx
      have hj : j < n := by have := (List.getElem?_eq_some_iff.mp hr).1; simpa using this
      have hr' : (List.replicate m zs)[j]? = some r' := by
        rw [List.getElem?_replicate] at hr ⊢
        simp only [Int.toNat_natCast] at hr
        rw [if_pos (by omega)] at hr ⊢
        exact hr
      obtain ⟨y, hy, hk'⟩ := hFz.get (flatten_get (hrep m) hr' hx)
      exact ⟨y, by simpa using hy, hk'⟩
    · intro E g1 g2 g3 g4
      refine .inr ⟨g1, _, _, rfl, by unfold maxLen; omega, .inr ⟨_, g2, by simp, by omega, ?_⟩⟩
      rw [g4, g3, hcs]
      simp
  · cases hs

theorem good_fn (R : Rel base G A w0 N st σ a w) (hd : ∀ x, o.dst = some x → x < N) {f : Nat} {ks : Array Operand} {ys : List Opd} (ho : o.op = .makeFunc (.func f) #[] ks) (hks : ks.toList.mapM opd = some ys)
    (hs : sem P r (.fn f ys) st.T ρ fr d = some (c, v, Δ)) : Good P base G A w0 N (st.put o.dst v Δ) o a w := by
  simp only [sem] at hs
  split at hs
  · rename_i hall
    simp only [Option.some.injEq, Prod.mk.injEq] at hs
    obtain ⟨_, rfl, rfl⟩ := hs
    have hF := mapM_opd R.tmp hks
    refine good_value R hd (val := .func (.func f) #[] ⟨ks.toList.map a.eval⟩) ?_ ⟨ks.toList.map a.eval, rfl, ?_⟩
    · unfold execOp; rw [ho]
      simp [Instr.makeFunc, ← Array.toList_map]
    · generalize ks.toList = kl at hF
      clear hks ho
      induction hF with
      | nil => exact .nil
      | @cons y x ys' xs' hyx _ ih =>
        simp only [List.map_cons, List.all_cons, Bool.and_eq_true] at hall
        obtain ⟨h1, h2⟩ := hall
        split at h1
        · rename_i k hp
          simp only [hp, List.map_cons, List.filterMap_cons, id]
          rw [hp] at hyx
          rcases hyx with hyx | ⟨hl, b, hb, hv⟩
          · exact .cons (.inl hyx) (ih h2)
          · refine .cons (.inr ⟨hl, b, hb, ?_⟩) (ih h2)
            rw [hv]; simp
        · simp at h1
  · cases hs

/-- What append reads of its second operand. -/
theorem run_first {size n : Nat} {y : Value} {cells : List Value} (hl : cells.length = n * size)
    (hy : (cells = [] ∧ ∃ b c, y = .slice b n c ∧ n * size = 0) ∨ ∃ b c, y = .slice (some b) n c ∧ ∀ j u, cells[j]? = some u → w.cell? (b.add j) = some u) :
    (Builtin.firstCells size n y).run P w = .ok ⟨cells⟩ w := by
  rcases hy with ⟨rfl, b, c, rfl, h0⟩ | ⟨b, c, rfl, h⟩
  · cases b with
    | none => rfl
    | some b => simp [Builtin.firstCells, h0, loadCells, loadCellsFrom]
  · have := run_loadCells_list (P := P) w b cells h
    rw [hl] at this
    simpa [Builtin.firstCells] using this

theorem run_append_there {t u ty e e' : TypeId} {i : TypeInfo} (ht : P.underlying t = some (.slice e)) (hu : P.underlying u = some (.slice e')) (hi : P.info? e = some i)
    {sb : Option Addr} {sLen sCap n : Nat} {y : Value} {cells : List Value} (hn : (Builtin.lenOf y).run P w = .ok n w) (hf : (Builtin.firstCells i.size n y).run P w = .ok ⟨cells⟩ w) (hroom : sLen + n ≤ sCap) {w' : World}
    (hst : ((match sb with | some a => storeCells (a.add (sLen * i.size)) cells | none => pure ()) : Sem Unit).run P w = .ok () w') :
    (Builtin.append_ #[t, u] ty #[.slice sb sLen sCap, y]).run P w = .ok (.slice sb (sLen + n) sCap) w' := by
  cases sb with
  | none =>
    simp only [Sem.run_pure, Result.ok.injEq, true_and] at hst
    subst hst
    simp [Builtin.append_, run_underlying ht, run_underlying hu, sizeOf, typeInfo, hi, hn, hroom, hf]
  | some a =>
    simp only at hst
    simp [Builtin.append_, run_underlying ht, run_underlying hu, sizeOf, typeInfo, hi, hn, hroom, hf, hst]

theorem run_append_new {t u ty e e' : TypeId} {i : TypeInfo} {z : Value} (ht : P.underlying t = some (.slice e)) (hu : P.underlying u = some (.slice e')) (hi : P.info? e = some i) (hz : i.zero = some z)
    {s : Value} {sb : Option Addr} {sLen sCap n : Nat} (hs : s = .slice sb sLen sCap) {y : Value} {olds cells : List Value} (hn : (Builtin.lenOf y).run P w = .ok n w) (hf : (Builtin.firstCells i.size n y).run P w.drew = .ok ⟨cells⟩ w.drew)
    (ho : (Builtin.firstCells i.size sLen s).run P w.drew = .ok ⟨olds⟩ w.drew) (hroom : sCap < sLen + n) (h63 : sLen + n ≤ maxLen) (hb : (sLen + n) * i.bytes ≤ 140737488355328) :
    (Builtin.append_ #[t, u] ty #[s, y]).run P w = .ok (.slice (some ⟨w.heap.size, 0, none⟩) (sLen + n) (grownCap w (sLen + n) sCap e))
      (w.drew.alloc (.cells (⟨olds⟩ ++ ⟨cells⟩ ++ Builtin.zeroCells z.cells (grownCap w (sLen + n) sCap e - (sLen + n))) e)) := by
  subst hs
  have hn' : ¬ (sLen + n ≤ sCap) := by omega
  have h63' : ¬ (9223372036854775807 < ((sLen : Int) + (n : Int))) := by unfold maxLen at h63; omega
  have h48' : ¬ (281474976710656 < Builtin.nextslicecap (sLen + n) sCap * i.bytes) := by
    have := growslice_fits hroom hb
    omega
  simp [Builtin.append_, run_underlying ht, run_underlying hu, sizeOf, typeInfo, zeroValue, hi, hz, hn, hn', h63', h48', Question.forced, hf, ho, newRow, grownCap]
  congr 2
  apply Array.ext'
  simp
end
end Go.Ab
