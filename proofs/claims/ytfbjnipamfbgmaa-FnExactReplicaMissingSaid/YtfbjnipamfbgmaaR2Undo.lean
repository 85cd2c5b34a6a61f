import Derived.Test.YtfbjnipamfbgmaaR2Log2
set_option linter.unusedSimpArgs false
set_option linter.unusedVariables false
namespace Go.Proofs
open Go Go.Ab

theorem validVec_false {v : List Int} {i : Nat} {n : Int} (h : v[i]? = some n) (hn : inRange n 0 99 = false) : validVec v = false := by
  rw [validVec, all_false h hn, Bool.false_and]

theorem specValidVector_ok (q : Bool) (v : List Int) : CallOk Try.prog 93 [.l (.vs q (v.map ics))] [] (.l (.v (.bool (validVec v)))) [] [] := by
  refine CallOk.short 0 ⟨_, Try.func93, rfl, rfl⟩ rfl fun hshort => ?_
  have hshort : v.length ≤ 9223372036854775807 := by simpa [maxLen] using hshort
  refine callOk_pure1 (fn := Try.f93) (r := .t 2) follows Try.func93 rfl c93_eq (Nat.le_of_ble_eq_true rfl) (by kernel_rfl) rfl (.v _) ?_
  simp only [c93, List.length_map, ↓WA, WB, ↓reduceIte, opU, foot, PK, LK, footsApart, footP, footL, List.flatMap_cons, List.flatMap_nil, List.filter_nil, key, Nat.mul_zero, Nat.mul_one, opS, sem, mkT, binI, binS, eqLs, eqL, B, I, one, pures, PV.ok, PV.cells, fillL, fillE, List.replicate, cellV, cellO, cellR, newsOf, callArgs, splice, L.pure, not_false_eq_true, decide_true, Int.natCast_nonneg, Int.cast_ofNat_Int, implies_true, reduceCtorEq, Nat.reduceBEq, Nat.reduceEqDiff, Nat.reduceAdd, Nat.reduceLeDiff, Nat.reduceLT, Nat.reduceSub, Nat.reduceMul]
  show AW _ _ (.loop _) _ _
  refine AW.count v.length (fun i st => (v.take i).all (fun n => inRange n 0 99) = true ∧ st = ⟨mkL [(0, .l (.vs q (v.map ics))), (3, .l (.v (.int .i64 (i : Int))))], fun _ => none⟩) ?_ ?_
  · refine Lo.plain [(0, .l (.vs q (v.map ics))), (3, .l (.v (.int .i64 ((0 : Nat) : Int))))] ?_ rfl ⟨rfl, rfl⟩
    simp only [↓WA, WB, ↓reduceIte, opU, foot, PK, LK, footsApart, footP, footL, List.flatMap_cons, List.flatMap_nil, List.filter_nil, key, Nat.mul_zero, Nat.mul_one, opS, sem, mkT, binI, binS, eqLs, eqL, B, I, one, pures, PV.ok, PV.cells, fillL, fillE, List.replicate, cellV, cellO, cellR, newsOf, callArgs, splice, L.pure, not_false_eq_true, decide_true, Int.natCast_nonneg, Int.cast_ofNat_Int, implies_true, reduceCtorEq, Nat.reduceBEq, Nat.reduceEqDiff, Nat.reduceAdd, Nat.reduceLeDiff, Nat.reduceLT, Nat.reduceSub, Nat.reduceMul]
  · rintro i st hi ⟨hall, rfl⟩
    simp only [mkL]
    refine AW_of_wps _ _ _ ?_
    simp only [List.length_map, ↓WA, WB, ↓reduceIte, opU, foot, PK, LK, footsApart, footP, footL, List.flatMap_cons, List.flatMap_nil, List.filter_nil, key, Nat.mul_zero, Nat.mul_one, opS, sem, mkT, binI, binS, eqLs, eqL, B, I, one, pures, PV.ok, PV.cells, fillL, fillE, List.replicate, cellV, cellO, cellR, newsOf, callArgs, splice, L.pure, not_false_eq_true, decide_true, Int.natCast_nonneg, Int.cast_ofNat_Int, implies_true, reduceCtorEq, Nat.reduceBEq, Nat.reduceEqDiff, Nat.reduceAdd, Nat.reduceLeDiff, Nat.reduceLT, Nat.reduceSub, Nat.reduceMul]
    split
    · rename_i hlt
      obtain ⟨x, hx⟩ := get_some (l := v) (i := i) (by omega)
      have hx' := get_map (f := ics) hx
      simp only [hx', ics, ↓WA, WB, ↓reduceIte, opU, foot, PK, LK, footsApart, footP, footL, List.flatMap_cons, List.flatMap_nil, List.filter_nil, key, Nat.mul_zero, Nat.mul_one, opS, sem, mkT, binI, binS, eqLs, eqL, B, I, one, pures, PV.ok, PV.cells, fillL, fillE, List.replicate, cellV, cellO, cellR, newsOf, callArgs, splice, L.pure, not_false_eq_true, decide_true, Int.natCast_nonneg, Int.cast_ofNat_Int, implies_true, reduceCtorEq, Nat.reduceBEq, Nat.reduceEqDiff, Nat.reduceAdd, Nat.reduceLeDiff, Nat.reduceLT, Nat.reduceSub, Nat.reduceMul]
      refine CS.plain (inRange_ok _ _ _) rfl rfl ?_
      simp only [↓WA, WB, ↓reduceIte, opU, foot, PK, LK, footsApart, footP, footL, List.flatMap_cons, List.flatMap_nil, List.filter_nil, key, Nat.mul_zero, Nat.mul_one, opS, sem, mkT, binI, binS, eqLs, eqL, B, I, one, pures, PV.ok, PV.cells, fillL, fillE, List.replicate, cellV, cellO, cellR, newsOf, callArgs, splice, L.pure, not_false_eq_true, decide_true, Int.natCast_nonneg, Int.cast_ofNat_Int, implies_true, reduceCtorEq, Nat.reduceBEq, Nat.reduceEqDiff, Nat.reduceAdd, Nat.reduceLeDiff, Nat.reduceLT, Nat.reduceSub, Nat.reduceMul]
      split
      · rename_i h
        rw [validVec_false hx (by simpa using h)]
      · rename_i h
        refine ⟨by rw [inK64]; omega, by omega, ?_⟩
        refine Lo.plain [(0, .l (.vs q (v.map ics))), (3, .l (.v (.int .i64 ((i + 1 : Nat) : Int))))] ?_ rfl ⟨all_take hx hall (by simpa using h), rfl⟩
        simp only [↓WA, WB, ↓reduceIte, opU, foot, PK, LK, footsApart, footP, footL, List.flatMap_cons, List.flatMap_nil, List.filter_nil, key, Nat.mul_zero, Nat.mul_one, opS, sem, mkT, binI, binS, eqLs, eqL, B, I, one, pures, PV.ok, PV.cells, fillL, fillE, List.replicate, cellV, cellO, cellR, newsOf, callArgs, splice, L.pure, not_false_eq_true, decide_true, Int.natCast_nonneg, Int.cast_ofNat_Int, implies_true, reduceCtorEq, Nat.reduceBEq, Nat.reduceEqDiff, Nat.reduceAdd, Nat.reduceLeDiff, Nat.reduceLT, Nat.reduceSub, Nat.reduceMul]
        simp
    · have : i = v.length := by omega
      subst this
      rw [List.take_length] at hall
      refine bEq ?_
      simp [validVec, hall]
      omega

theorem implValidVector_ok (q : Bool) (v : List Int) : CallOk Try.prog 96 [.l (.vs q (v.map ics))] [] (.l (.v (.bool (validVec v)))) [] [] := by
  refine CallOk.short 0 ⟨_, Try.func96, rfl, rfl⟩ rfl fun hshort => ?_
  have hshort : v.length ≤ 9223372036854775807 := by simpa [maxLen] using hshort
  refine callOk_pure1 (fn := Try.f96) (r := .t 2) follows Try.func96 rfl c96_eq (Nat.le_of_ble_eq_true rfl) (by kernel_rfl) rfl (.v _) ?_
  simp only [c96, List.length_map, ↓WA, WB, ↓reduceIte, opU, foot, PK, LK, footsApart, footP, footL, List.flatMap_cons, List.flatMap_nil, List.filter_nil, key, Nat.mul_zero, Nat.mul_one, opS, sem, mkT, binI, binS, eqLs, eqL, B, I, one, pures, PV.ok, PV.cells, fillL, fillE, List.replicate, cellV, cellO, cellR, newsOf, callArgs, splice, L.pure, not_false_eq_true, decide_true, Int.natCast_nonneg, Int.cast_ofNat_Int, implies_true, reduceCtorEq, Nat.reduceBEq, Nat.reduceEqDiff, Nat.reduceAdd, Nat.reduceLeDiff, Nat.reduceLT, Nat.reduceSub, Nat.reduceMul]
  show AW _ _ (.loop _) _ _
  refine AW.count v.length (fun i st => (v.take i).all (fun n => inRange n 0 99) = true ∧ st = ⟨mkL [(0, .l (.vs q (v.map ics))), (5, .l (.vs q (v.map ics))), (6, .l (.v (.int .i64 v.length))), (7, .l (.v (.int .i64 (i : Int))))], fun _ => none⟩) ?_ ?_
  · refine Lo.plain [(0, .l (.vs q (v.map ics))), (5, .l (.vs q (v.map ics))), (6, .l (.v (.int .i64 v.length))), (7, .l (.v (.int .i64 ((0 : Nat) : Int))))] ?_ rfl ⟨rfl, rfl⟩
    simp only [↓WA, WB, ↓reduceIte, opU, foot, PK, LK, footsApart, footP, footL, List.flatMap_cons, List.flatMap_nil, List.filter_nil, key, Nat.mul_zero, Nat.mul_one, opS, sem, mkT, binI, binS, eqLs, eqL, B, I, one, pures, PV.ok, PV.cells, fillL, fillE, List.replicate, cellV, cellO, cellR, newsOf, callArgs, splice, L.pure, not_false_eq_true, decide_true, Int.natCast_nonneg, Int.cast_ofNat_Int, implies_true, reduceCtorEq, Nat.reduceBEq, Nat.reduceEqDiff, Nat.reduceAdd, Nat.reduceLeDiff, Nat.reduceLT, Nat.reduceSub, Nat.reduceMul]
  · rintro i st hi ⟨hall, rfl⟩
    simp only [mkL]
    refine AW_of_wps _ _ _ ?_
    simp only [List.length_map, ↓WA, WB, ↓reduceIte, opU, foot, PK, LK, footsApart, footP, footL, List.flatMap_cons, List.flatMap_nil, List.filter_nil, key, Nat.mul_zero, Nat.mul_one, opS, sem, mkT, binI, binS, eqLs, eqL, B, I, one, pures, PV.ok, PV.cells, fillL, fillE, List.replicate, cellV, cellO, cellR, newsOf, callArgs, splice, L.pure, not_false_eq_true, decide_true, Int.natCast_nonneg, Int.cast_ofNat_Int, implies_true, reduceCtorEq, Nat.reduceBEq, Nat.reduceEqDiff, Nat.reduceAdd, Nat.reduceLeDiff, Nat.reduceLT, Nat.reduceSub, Nat.reduceMul]
    split
    · rename_i hlt
      obtain ⟨x, hx⟩ := get_some (l := v) (i := i) (by omega)
      have hx' := get_map (f := ics) hx
      simp only [hx', ics, ↓WA, WB, ↓reduceIte, opU, foot, PK, LK, footsApart, footP, footL, List.flatMap_cons, List.flatMap_nil, List.filter_nil, key, Nat.mul_zero, Nat.mul_one, opS, sem, mkT, binI, binS, eqLs, eqL, B, I, one, pures, PV.ok, PV.cells, fillL, fillE, List.replicate, cellV, cellO, cellR, newsOf, callArgs, splice, L.pure, not_false_eq_true, decide_true, Int.natCast_nonneg, Int.cast_ofNat_Int, implies_true, reduceCtorEq, Nat.reduceBEq, Nat.reduceEqDiff, Nat.reduceAdd, Nat.reduceLeDiff, Nat.reduceLT, Nat.reduceSub, Nat.reduceMul]
      have fin : inRange x 0 99 = true → ∀ (T : Nat → PV) (H : Nat → Option AObj), T 0 = .l (.vs q (v.map ics)) → T 5 = .l (.vs q (v.map ics)) → T 6 = .l (.v (.int .i64 v.length)) → T 7 = .l (.v (.int .i64 ((i : Int) + 1))) →
          inK .i64 ((i : Int) + 1) ∧ i < v.length ∧ Lo (fun st => (v.take (i + 1)).all (fun n => inRange n 0 99) = true ∧ st = ⟨mkL [(0, .l (.vs q (v.map ics))), (5, .l (.vs q (v.map ics))), (6, .l (.v (.int .i64 v.length))), (7, .l (.v (.int .i64 ((i + 1 : Nat) : Int))))], fun _ => none⟩) ⟨T, H⟩ := by
        intro h T H e1 e2 e3 e4
        refine ⟨by rw [inK64]; omega, by omega, ?_⟩
        refine Lo.plain [(0, .l (.vs q (v.map ics))), (5, .l (.vs q (v.map ics))), (6, .l (.v (.int .i64 v.length))), (7, .l (.v (.int .i64 ((i + 1 : Nat) : Int))))] ?_ rfl ⟨all_take hx hall h, rfl⟩
        simp [e1, e2, e3, e4]
      repeat' split
      all_goals first
        | (rw [validVec_false hx (by simp [inRange]; omega)]; done)
        | (refine fin (by simp [inRange]; omega) _ _ ?_ ?_ ?_ ?_ <;> simp only [↓WA, WB, ↓reduceIte, opU, foot, PK, LK, footsApart, footP, footL, List.flatMap_cons, List.flatMap_nil, List.filter_nil, key, Nat.mul_zero, Nat.mul_one, opS, sem, mkT, binI, binS, eqLs, eqL, B, I, one, pures, PV.ok, PV.cells, fillL, fillE, List.replicate, cellV, cellO, cellR, newsOf, callArgs, splice, L.pure, not_false_eq_true, decide_true, Int.natCast_nonneg, Int.cast_ofNat_Int, implies_true, reduceCtorEq, Nat.reduceBEq, Nat.reduceEqDiff, Nat.reduceAdd, Nat.reduceLeDiff, Nat.reduceLT, Nat.reduceSub, Nat.reduceMul]; done)
    · have : i = v.length := by omega
      subst this
      rw [List.take_length] at hall
      refine bEq ?_
      simp [validVec, hall]
      omega

end Go.Proofs
