import Derived.Test.YtfbjnipamfbgmaaR2Vopi
import Derived.Test.YtfbjnipamfbgmaaAbLog
set_option linter.unusedSimpArgs false
set_option linter.unusedVariables false
namespace Go.Proofs
open Go Go.Ab

theorem specValidLog_ok (q : Bool) (s : List DOp) (ht : ∀ o ∈ s, o.text.size < 2 ^ 62) : CallOk Try.prog 60 [.l (.vs q (s.map DOp.cs))] [] (.l (.v (.bool (validLog s)))) [] [] := by
  refine CallOk.short 0 ⟨_, Try.func60, rfl, rfl⟩ rfl fun hshort => ?_
  have hshort : s.length ≤ 9223372036854775807 := by simpa [maxLen] using hshort
  refine callOk_pure1 (fn := Try.f60) (r := .t 2) follows Try.func60 rfl c60_eq (Nat.le_of_ble_eq_true rfl) (by kernel_rfl) rfl (.v _) ?_
  simp only [c60, List.length_map, ↓WA, WB, ↓reduceIte, opU, foot, PK, LK, footsApart, footP, footL, List.flatMap_cons, List.flatMap_nil, List.filter_nil, key, Nat.mul_zero, Nat.mul_one, opS, sem, mkT, binI, binS, eqLs, eqL, B, I, one, pures, PV.ok, PV.cells, fillL, fillE, List.replicate, cellV, cellO, cellR, newsOf, callArgs, splice, L.pure, not_false_eq_true, decide_true, Int.natCast_nonneg, Int.cast_ofNat_Int, implies_true, reduceCtorEq, Nat.reduceBEq, Nat.reduceEqDiff, Nat.reduceAdd, Nat.reduceLeDiff, Nat.reduceLT, Nat.reduceSub, Nat.reduceMul]
  show AW _ _ (.loop _) _ _
  refine AW.count s.length (fun i st => (List.range i).all (okAt validOp opLess s) = true ∧ st = ⟨mkL [(0, .l (.vs q (s.map DOp.cs))), (3, .l (.v (.int .i64 (i : Int))))], fun _ => none⟩) ?_ ?_
  · refine Lo.plain [(0, .l (.vs q (s.map DOp.cs))), (3, .l (.v (.int .i64 ((0 : Nat) : Int))))] ?_ rfl ⟨rfl, rfl⟩
    simp only [↓WA, WB, ↓reduceIte, opU, foot, PK, LK, footsApart, footP, footL, List.flatMap_cons, List.flatMap_nil, List.filter_nil, key, Nat.mul_zero, Nat.mul_one, opS, sem, mkT, binI, binS, eqLs, eqL, B, I, one, pures, PV.ok, PV.cells, fillL, fillE, List.replicate, cellV, cellO, cellR, newsOf, callArgs, splice, L.pure, not_false_eq_true, decide_true, Int.natCast_nonneg, Int.cast_ofNat_Int, implies_true, reduceCtorEq, Nat.reduceBEq, Nat.reduceEqDiff, Nat.reduceAdd, Nat.reduceLeDiff, Nat.reduceLT, Nat.reduceSub, Nat.reduceMul]
  · rintro i st hi ⟨hall, rfl⟩
    simp only [mkL]
    refine AW_of_wps _ _ _ ?_
    simp only [List.length_map, ↓WA, WB, ↓reduceIte, opU, foot, PK, LK, footsApart, footP, footL, List.flatMap_cons, List.flatMap_nil, List.filter_nil, key, Nat.mul_zero, Nat.mul_one, opS, sem, mkT, binI, binS, eqLs, eqL, B, I, one, pures, PV.ok, PV.cells, fillL, fillE, List.replicate, cellV, cellO, cellR, newsOf, callArgs, splice, L.pure, not_false_eq_true, decide_true, Int.natCast_nonneg, Int.cast_ofNat_Int, implies_true, reduceCtorEq, Nat.reduceBEq, Nat.reduceEqDiff, Nat.reduceAdd, Nat.reduceLeDiff, Nat.reduceLT, Nat.reduceSub, Nat.reduceMul]
    split
    · rename_i hlt
      obtain ⟨x, hx⟩ := get_some (l := s) (i := i) (by omega)
      have hx' := get_map (f := DOp.cs) hx
      have hbad : okAt validOp opLess s i = false → validLog s = false := fun h => by rw [validLog, okAll_false (by omega) h, Bool.false_and]
      simp only [hx', DOp.cs, ↓WA, WB, ↓reduceIte, opU, foot, PK, LK, footsApart, footP, footL, List.flatMap_cons, List.flatMap_nil, List.filter_nil, key, Nat.mul_zero, Nat.mul_one, opS, sem, mkT, binI, binS, eqLs, eqL, B, I, one, pures, PV.ok, PV.cells, fillL, fillE, List.replicate, cellV, cellO, cellR, newsOf, callArgs, splice, L.pure, not_false_eq_true, decide_true, Int.natCast_nonneg, Int.cast_ofNat_Int, implies_true, reduceCtorEq, Nat.reduceBEq, Nat.reduceEqDiff, Nat.reduceAdd, Nat.reduceLeDiff, Nat.reduceLT, Nat.reduceSub, Nat.reduceMul]
      refine CS.plain (specValidOp_ok x (by have := ht x (List.mem_of_getElem? hx); omega)) rfl rfl ?_
      simp only [↓WA, WB, ↓reduceIte, opU, foot, PK, LK, footsApart, footP, footL, List.flatMap_cons, List.flatMap_nil, List.filter_nil, key, Nat.mul_zero, Nat.mul_one, opS, sem, mkT, binI, binS, eqLs, eqL, B, I, one, pures, PV.ok, PV.cells, fillL, fillE, List.replicate, cellV, cellO, cellR, newsOf, callArgs, splice, L.pure, not_false_eq_true, decide_true, Int.natCast_nonneg, Int.cast_ofNat_Int, implies_true, reduceCtorEq, Nat.reduceBEq, Nat.reduceEqDiff, Nat.reduceAdd, Nat.reduceLeDiff, Nat.reduceLT, Nat.reduceSub, Nat.reduceMul]
      split
      rotate_left
      · rename_i h
        rw [hbad (by simp_all [okAt])]
      rename_i hv
      have hv : validOp x = true := by simpa using hv
      split
      · rename_i hpos
        obtain ⟨j, rfl⟩ : ∃ j, i = j + 1 := ⟨i - 1, by omega⟩
        obtain ⟨y, hy⟩ := get_some (l := s) (i := j) (by omega)
        have hy' := get_map (f := DOp.cs) hy
        have e : ((j + 1 : Nat) : Int) - 1 = (j : Int) := by omega
        rw [e]
        simp only [hx', hy', DOp.cs, ↓WA, WB, ↓reduceIte, opU, foot, PK, LK, footsApart, footP, footL, List.flatMap_cons, List.flatMap_nil, List.filter_nil, key, Nat.mul_zero, Nat.mul_one, opS, sem, mkT, binI, binS, eqLs, eqL, B, I, one, pures, PV.ok, PV.cells, fillL, fillE, List.replicate, cellV, cellO, cellR, newsOf, callArgs, splice, L.pure, not_false_eq_true, decide_true, Int.natCast_nonneg, Int.cast_ofNat_Int, implies_true, reduceCtorEq, Nat.reduceBEq, Nat.reduceEqDiff, Nat.reduceAdd, Nat.reduceLeDiff, Nat.reduceLT, Nat.reduceSub, Nat.reduceMul]
        refine ⟨by rw [inK64]; omega, ?_⟩
        refine CS.plain (stampLess_ok y.id x.id) rfl rfl ?_
        have hk : okAt validOp opLess s (j + 1) = stampLess y.id x.id := by simp [okAt, hx, hy, hv, opLess]
        simp only [↓WA, WB, ↓reduceIte, opU, foot, PK, LK, footsApart, footP, footL, List.flatMap_cons, List.flatMap_nil, List.filter_nil, key, Nat.mul_zero, Nat.mul_one, opS, sem, mkT, binI, binS, eqLs, eqL, B, I, one, pures, PV.ok, PV.cells, fillL, fillE, List.replicate, cellV, cellO, cellR, newsOf, callArgs, splice, L.pure, not_false_eq_true, decide_true, Int.natCast_nonneg, Int.cast_ofNat_Int, implies_true, reduceCtorEq, Nat.reduceBEq, Nat.reduceEqDiff, Nat.reduceAdd, Nat.reduceLeDiff, Nat.reduceLT, Nat.reduceSub, Nat.reduceMul]
        split
        · rename_i h
          rw [hbad (by rw [hk]; simpa using h)]
        · rename_i h
          refine ⟨by rw [inK64]; omega, by omega, ?_⟩
          refine Lo.plain [(0, .l (.vs q (s.map DOp.cs))), (3, .l (.v (.int .i64 ((j + 1 + 1 : Nat) : Int))))] ?_ rfl ⟨range_all_succ hall (by rw [hk]; simpa using h), rfl⟩
          simp only [↓WA, WB, ↓reduceIte, opU, foot, PK, LK, footsApart, footP, footL, List.flatMap_cons, List.flatMap_nil, List.filter_nil, key, Nat.mul_zero, Nat.mul_one, opS, sem, mkT, binI, binS, eqLs, eqL, B, I, one, pures, PV.ok, PV.cells, fillL, fillE, List.replicate, cellV, cellO, cellR, newsOf, callArgs, splice, L.pure, not_false_eq_true, decide_true, Int.natCast_nonneg, Int.cast_ofNat_Int, implies_true, reduceCtorEq, Nat.reduceBEq, Nat.reduceEqDiff, Nat.reduceAdd, Nat.reduceLeDiff, Nat.reduceLT, Nat.reduceSub, Nat.reduceMul]
          simp
      · have : i = 0 := by omega
        subst this
        refine ⟨by rw [inK64]; omega, by omega, ?_⟩
        refine Lo.plain [(0, .l (.vs q (s.map DOp.cs))), (3, .l (.v (.int .i64 ((0 + 1 : Nat) : Int))))] ?_ rfl ⟨range_all_succ hall (by simp [okAt, hx, hv]), rfl⟩
        simp only [↓WA, WB, ↓reduceIte, opU, foot, PK, LK, footsApart, footP, footL, List.flatMap_cons, List.flatMap_nil, List.filter_nil, key, Nat.mul_zero, Nat.mul_one, opS, sem, mkT, binI, binS, eqLs, eqL, B, I, one, pures, PV.ok, PV.cells, fillL, fillE, List.replicate, cellV, cellO, cellR, newsOf, callArgs, splice, L.pure, not_false_eq_true, decide_true, Int.natCast_nonneg, Int.cast_ofNat_Int, implies_true, reduceCtorEq, Nat.reduceBEq, Nat.reduceEqDiff, Nat.reduceAdd, Nat.reduceLeDiff, Nat.reduceLT, Nat.reduceSub, Nat.reduceMul]
        simp
    · rename_i hge
      have : i = s.length := by omega
      subst this
      simp [validLog, okAll, hall]
      omega

theorem implValidLog_ok (q : Bool) (s : List DOp) (ht : ∀ o ∈ s, o.text.size < 2 ^ 62) : CallOk Try.prog 36 [.l (.vs q (s.map DOp.cs))] [] (.l (.v (.bool (validLog s)))) [] [] := by
  refine CallOk.short 0 ⟨_, Try.func36, rfl, rfl⟩ rfl fun hshort => ?_
  have hshort : s.length ≤ 9223372036854775807 := by simpa [maxLen] using hshort
  refine callOk_pure1 (fn := Try.f36) (r := .t 2) follows Try.func36 rfl c36_eq (Nat.le_of_ble_eq_true rfl) (by kernel_rfl) rfl (.v _) ?_
  simp only [c36, List.length_map, ↓WA, WB, ↓reduceIte, opU, foot, PK, LK, footsApart, footP, footL, List.flatMap_cons, List.flatMap_nil, List.filter_nil, key, Nat.mul_zero, Nat.mul_one, opS, sem, mkT, binI, binS, eqLs, eqL, B, I, one, pures, PV.ok, PV.cells, fillL, fillE, List.replicate, cellV, cellO, cellR, newsOf, callArgs, splice, L.pure, not_false_eq_true, decide_true, Int.natCast_nonneg, Int.cast_ofNat_Int, implies_true, reduceCtorEq, Nat.reduceBEq, Nat.reduceEqDiff, Nat.reduceAdd, Nat.reduceLeDiff, Nat.reduceLT, Nat.reduceSub, Nat.reduceMul]
  show AW _ _ (.loop _) _ _
  refine AW.count s.length (fun i st => (List.range i).all (okAt validOp opLess s) = true ∧ st = ⟨mkL [(0, .l (.vs q (s.map DOp.cs))), (5, .l (.vs q (s.map DOp.cs))), (6, .l (.v (.int .i64 s.length))), (7, .l (.v (.int .i64 (i : Int))))], fun _ => none⟩) ?_ ?_
  · refine Lo.plain [(0, .l (.vs q (s.map DOp.cs))), (5, .l (.vs q (s.map DOp.cs))), (6, .l (.v (.int .i64 s.length))), (7, .l (.v (.int .i64 ((0 : Nat) : Int))))] ?_ rfl ⟨rfl, rfl⟩
    simp only [↓WA, WB, ↓reduceIte, opU, foot, PK, LK, footsApart, footP, footL, List.flatMap_cons, List.flatMap_nil, List.filter_nil, key, Nat.mul_zero, Nat.mul_one, opS, sem, mkT, binI, binS, eqLs, eqL, B, I, one, pures, PV.ok, PV.cells, fillL, fillE, List.replicate, cellV, cellO, cellR, newsOf, callArgs, splice, L.pure, not_false_eq_true, decide_true, Int.natCast_nonneg, Int.cast_ofNat_Int, implies_true, reduceCtorEq, Nat.reduceBEq, Nat.reduceEqDiff, Nat.reduceAdd, Nat.reduceLeDiff, Nat.reduceLT, Nat.reduceSub, Nat.reduceMul]
  · rintro i st hi ⟨hall, rfl⟩
    simp only [mkL]
    refine AW_of_wps _ _ _ ?_
    simp only [List.length_map, ↓WA, WB, ↓reduceIte, opU, foot, PK, LK, footsApart, footP, footL, List.flatMap_cons, List.flatMap_nil, List.filter_nil, key, Nat.mul_zero, Nat.mul_one, opS, sem, mkT, binI, binS, eqLs, eqL, B, I, one, pures, PV.ok, PV.cells, fillL, fillE, List.replicate, cellV, cellO, cellR, newsOf, callArgs, splice, L.pure, not_false_eq_true, decide_true, Int.natCast_nonneg, Int.cast_ofNat_Int, implies_true, reduceCtorEq, Nat.reduceBEq, Nat.reduceEqDiff, Nat.reduceAdd, Nat.reduceLeDiff, Nat.reduceLT, Nat.reduceSub, Nat.reduceMul]
    split
    · rename_i hlt
      obtain ⟨x, hx⟩ := get_some (l := s) (i := i) (by omega)
      have hx' := get_map (f := DOp.cs) hx
      have hbad : okAt validOp opLess s i = false → validLog s = false := fun h => by rw [validLog, okAll_false (by omega) h, Bool.false_and]
      simp only [hx', DOp.cs, ↓WA, WB, ↓reduceIte, opU, foot, PK, LK, footsApart, footP, footL, List.flatMap_cons, List.flatMap_nil, List.filter_nil, key, Nat.mul_zero, Nat.mul_one, opS, sem, mkT, binI, binS, eqLs, eqL, B, I, one, pures, PV.ok, PV.cells, fillL, fillE, List.replicate, cellV, cellO, cellR, newsOf, callArgs, splice, L.pure, not_false_eq_true, decide_true, Int.natCast_nonneg, Int.cast_ofNat_Int, implies_true, reduceCtorEq, Nat.reduceBEq, Nat.reduceEqDiff, Nat.reduceAdd, Nat.reduceLeDiff, Nat.reduceLT, Nat.reduceSub, Nat.reduceMul]
      refine CS.plain (implValidOp_ok x (by have := ht x (List.mem_of_getElem? hx); omega)) rfl rfl ?_
      simp only [↓WA, WB, ↓reduceIte, opU, foot, PK, LK, footsApart, footP, footL, List.flatMap_cons, List.flatMap_nil, List.filter_nil, key, Nat.mul_zero, Nat.mul_one, opS, sem, mkT, binI, binS, eqLs, eqL, B, I, one, pures, PV.ok, PV.cells, fillL, fillE, List.replicate, cellV, cellO, cellR, newsOf, callArgs, splice, L.pure, not_false_eq_true, decide_true, Int.natCast_nonneg, Int.cast_ofNat_Int, implies_true, reduceCtorEq, Nat.reduceBEq, Nat.reduceEqDiff, Nat.reduceAdd, Nat.reduceLeDiff, Nat.reduceLT, Nat.reduceSub, Nat.reduceMul]
      split
      rotate_left
      · rename_i h
        rw [hbad (by simp_all [okAt])]
      rename_i hv
      have hv : validOp x = true := by simpa using hv
      split
      · rename_i hpos
        obtain ⟨j, rfl⟩ : ∃ j, i = j + 1 := ⟨i - 1, by omega⟩
        obtain ⟨y, hy⟩ := get_some (l := s) (i := j) (by omega)
        have hy' := get_map (f := DOp.cs) hy
        have e : ((j + 1 : Nat) : Int) - 1 = (j : Int) := by omega
        rw [e]
        simp only [hx', hy', DOp.cs, ↓WA, WB, ↓reduceIte, opU, foot, PK, LK, footsApart, footP, footL, List.flatMap_cons, List.flatMap_nil, List.filter_nil, key, Nat.mul_zero, Nat.mul_one, opS, sem, mkT, binI, binS, eqLs, eqL, B, I, one, pures, PV.ok, PV.cells, fillL, fillE, List.replicate, cellV, cellO, cellR, newsOf, callArgs, splice, L.pure, not_false_eq_true, decide_true, Int.natCast_nonneg, Int.cast_ofNat_Int, implies_true, reduceCtorEq, Nat.reduceBEq, Nat.reduceEqDiff, Nat.reduceAdd, Nat.reduceLeDiff, Nat.reduceLT, Nat.reduceSub, Nat.reduceMul]
        refine ⟨by rw [inK64]; omega, ?_⟩
        refine CS.plain (StampLess_ok y.id x.id) rfl rfl ?_
        have hk : okAt validOp opLess s (j + 1) = stampLess y.id x.id := by simp [okAt, hx, hy, hv, opLess]
        simp only [↓WA, WB, ↓reduceIte, opU, foot, PK, LK, footsApart, footP, footL, List.flatMap_cons, List.flatMap_nil, List.filter_nil, key, Nat.mul_zero, Nat.mul_one, opS, sem, mkT, binI, binS, eqLs, eqL, B, I, one, pures, PV.ok, PV.cells, fillL, fillE, List.replicate, cellV, cellO, cellR, newsOf, callArgs, splice, L.pure, not_false_eq_true, decide_true, Int.natCast_nonneg, Int.cast_ofNat_Int, implies_true, reduceCtorEq, Nat.reduceBEq, Nat.reduceEqDiff, Nat.reduceAdd, Nat.reduceLeDiff, Nat.reduceLT, Nat.reduceSub, Nat.reduceMul]
        split
        · rename_i h
          rw [hbad (by rw [hk]; simpa using h)]
        · rename_i h
          refine ⟨by rw [inK64]; omega, by omega, ?_⟩
          refine Lo.plain [(0, .l (.vs q (s.map DOp.cs))), (5, .l (.vs q (s.map DOp.cs))), (6, .l (.v (.int .i64 s.length))), (7, .l (.v (.int .i64 ((j + 1 + 1 : Nat) : Int))))] ?_ rfl ⟨range_all_succ hall (by rw [hk]; simpa using h), rfl⟩
          simp only [↓WA, WB, ↓reduceIte, opU, foot, PK, LK, footsApart, footP, footL, List.flatMap_cons, List.flatMap_nil, List.filter_nil, key, Nat.mul_zero, Nat.mul_one, opS, sem, mkT, binI, binS, eqLs, eqL, B, I, one, pures, PV.ok, PV.cells, fillL, fillE, List.replicate, cellV, cellO, cellR, newsOf, callArgs, splice, L.pure, not_false_eq_true, decide_true, Int.natCast_nonneg, Int.cast_ofNat_Int, implies_true, reduceCtorEq, Nat.reduceBEq, Nat.reduceEqDiff, Nat.reduceAdd, Nat.reduceLeDiff, Nat.reduceLT, Nat.reduceSub, Nat.reduceMul]
          simp
      · have : i = 0 := by omega
        subst this
        refine ⟨by rw [inK64]; omega, by omega, ?_⟩
        refine Lo.plain [(0, .l (.vs q (s.map DOp.cs))), (5, .l (.vs q (s.map DOp.cs))), (6, .l (.v (.int .i64 s.length))), (7, .l (.v (.int .i64 ((0 + 1 : Nat) : Int))))] ?_ rfl ⟨range_all_succ hall (by simp [okAt, hx, hv]), rfl⟩
        simp only [↓WA, WB, ↓reduceIte, opU, foot, PK, LK, footsApart, footP, footL, List.flatMap_cons, List.flatMap_nil, List.filter_nil, key, Nat.mul_zero, Nat.mul_one, opS, sem, mkT, binI, binS, eqLs, eqL, B, I, one, pures, PV.ok, PV.cells, fillL, fillE, List.replicate, cellV, cellO, cellR, newsOf, callArgs, splice, L.pure, not_false_eq_true, decide_true, Int.natCast_nonneg, Int.cast_ofNat_Int, implies_true, reduceCtorEq, Nat.reduceBEq, Nat.reduceEqDiff, Nat.reduceAdd, Nat.reduceLeDiff, Nat.reduceLT, Nat.reduceSub, Nat.reduceMul]
        simp
    · rename_i hge
      have : i = s.length := by omega
      subst this
      simp [validLog, okAll, hall]
      omega

end Go.Proofs
