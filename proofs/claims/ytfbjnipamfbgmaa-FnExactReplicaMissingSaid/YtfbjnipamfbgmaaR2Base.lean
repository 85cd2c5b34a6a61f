import Derived.Test.YtfbjnipamfbgmaaR2Code
import Derived.Test.YtfbjnipamfbgmaaAbUtil
set_option linter.unusedSimpArgs false
set_option linter.unusedVariables false
namespace Go.Proofs
open Go Go.Ab
theorem follows : Try.prog.follows .mixedOrders = true := by decide

theorem inRange_ok (n lo hi : Int) : CallOk Try.prog 101 [.l (.v (.int .i64 n)), .l (.v (.int .i64 lo)), .l (.v (.int .i64 hi))] [] (.l (.v (.bool (inRange n lo hi)))) [] [] := by
  refine callOk_pure1 (fn := Try.f101) (r := .t 6) follows Try.func101 rfl c101_eq (Nat.le_of_ble_eq_true rfl) (by kernel_rfl) rfl (.v _) ?_
  simp only [c101, ↓WA, WB, ↓reduceIte, opU, foot, PK, LK, footsApart, footP, footL, List.flatMap_cons, List.flatMap_nil, List.filter_nil, List.range_succ, List.range_zero, key, Nat.mul_zero, Nat.mul_one, opS, sem, mkT, binI, binS, eqLs, eqL, B, I, one, pures, PV.ok, PV.cells, fillL, fillE, List.replicate, cellV, cellO, cellR, newsOf, callArgs, splice, L.pure, not_false_eq_true, decide_true, Int.natCast_nonneg, Int.cast_ofNat_Int, implies_true, reduceCtorEq, Nat.reduceBEq, Nat.reduceEqDiff, Nat.reduceAdd, Nat.reduceLeDiff, Nat.reduceLT, Nat.reduceSub, Nat.reduceMul]
  split
  all_goals (refine bEq ?_; simp only [Bool.and_eq_true, Bool.or_eq_true, Bool.not_eq_true', Bool.not_eq_true, decide_eq_true_eq, decide_eq_false_iff_not, Bool.false_eq_true, false_iff, true_iff, iff_false, iff_true, inRange] at *; omega)

theorem isZero_ok (s : Stamp) : CallOk Try.prog 104 [.agg s.cs] [] (.l (.v (.bool (isZero s)))) [] [] := by
  refine callOk_pure1 (fn := Try.f104) (r := .t 2) follows Try.func104 rfl c104_eq (Nat.le_of_ble_eq_true rfl) (by kernel_rfl) rfl (.v _) ?_
  simp only [c104, Stamp.cs, ↓WA, WB, ↓reduceIte, opU, foot, PK, LK, footsApart, footP, footL, List.flatMap_cons, List.flatMap_nil, List.filter_nil, List.range_succ, List.range_zero, key, Nat.mul_zero, Nat.mul_one, opS, sem, mkT, binI, binS, eqLs, eqL, B, I, one, pures, PV.ok, PV.cells, fillL, fillE, List.replicate, cellV, cellO, cellR, newsOf, callArgs, splice, L.pure, not_false_eq_true, decide_true, Int.natCast_nonneg, Int.cast_ofNat_Int, implies_true, reduceCtorEq, Nat.reduceBEq, Nat.reduceEqDiff, Nat.reduceAdd, Nat.reduceLeDiff, Nat.reduceLT, Nat.reduceSub, Nat.reduceMul]
  rfl

theorem stampLess_ok (s t : Stamp) : CallOk Try.prog 100 [.agg s.cs, .agg t.cs] [] (.l (.v (.bool (stampLess s t)))) [] [] := by
  refine callOk_pure1 (fn := Try.f100) (r := .t 4) follows Try.func100 rfl c100_eq (Nat.le_of_ble_eq_true rfl) (by kernel_rfl) rfl (.v _) ?_
  simp only [c100, Stamp.cs, ↓WA, WB, ↓reduceIte, opU, foot, PK, LK, footsApart, footP, footL, List.flatMap_cons, List.flatMap_nil, List.filter_nil, List.range_succ, List.range_zero, key, Nat.mul_zero, Nat.mul_one, opS, sem, mkT, binI, binS, eqLs, eqL, B, I, one, pures, PV.ok, PV.cells, fillL, fillE, List.replicate, cellV, cellO, cellR, newsOf, callArgs, splice, L.pure, not_false_eq_true, decide_true, Int.natCast_nonneg, Int.cast_ofNat_Int, implies_true, reduceCtorEq, Nat.reduceBEq, Nat.reduceEqDiff, Nat.reduceAdd, Nat.reduceLeDiff, Nat.reduceLT, Nat.reduceSub, Nat.reduceMul]
  repeat' split
  all_goals (refine bEq ?_; simp only [Bool.and_eq_true, Bool.or_eq_true, Bool.not_eq_true', Bool.not_eq_true, decide_eq_true_eq, decide_eq_false_iff_not, Bool.false_eq_true, false_iff, true_iff, iff_false, iff_true, stampLess] at *; omega)

theorem validStamp_ok (s : Stamp) : CallOk Try.prog 102 [.agg s.cs] [] (.l (.v (.bool (validStamp s)))) [] [] := by
  refine callOk_pure1 (fn := Try.f102) (r := .t 2) follows Try.func102 rfl c102_eq (Nat.le_of_ble_eq_true rfl) (by kernel_rfl) rfl (.v _) ?_
  simp only [c102, Stamp.cs, ↓WA, WB, ↓reduceIte, opU, foot, PK, LK, footsApart, footP, footL, List.flatMap_cons, List.flatMap_nil, List.filter_nil, List.range_succ, List.range_zero, key, Nat.mul_zero, Nat.mul_one, opS, sem, mkT, binI, binS, eqLs, eqL, B, I, one, pures, PV.ok, PV.cells, fillL, fillE, List.replicate, cellV, cellO, cellR, newsOf, callArgs, splice, L.pure, not_false_eq_true, decide_true, Int.natCast_nonneg, Int.cast_ofNat_Int, implies_true, reduceCtorEq, Nat.reduceBEq, Nat.reduceEqDiff, Nat.reduceAdd, Nat.reduceLeDiff, Nat.reduceLT, Nat.reduceSub, Nat.reduceMul]
  refine CS.plain (inRange_ok _ _ _) rfl rfl ?_
  simp only [↓WA, WB, ↓reduceIte, opU, foot, PK, LK, footsApart, footP, footL, List.flatMap_cons, List.flatMap_nil, List.filter_nil, List.range_succ, List.range_zero, key, Nat.mul_zero, Nat.mul_one, opS, sem, mkT, binI, binS, eqLs, eqL, B, I, one, pures, PV.ok, PV.cells, fillL, fillE, List.replicate, cellV, cellO, cellR, newsOf, callArgs, splice, L.pure, not_false_eq_true, decide_true, Int.natCast_nonneg, Int.cast_ofNat_Int, implies_true, reduceCtorEq, Nat.reduceBEq, Nat.reduceEqDiff, Nat.reduceAdd, Nat.reduceLeDiff, Nat.reduceLT, Nat.reduceSub, Nat.reduceMul]
  split
  · refine CS.plain (inRange_ok _ _ _) rfl rfl ?_
    simp only [↓WA, WB, ↓reduceIte, opU, foot, PK, LK, footsApart, footP, footL, List.flatMap_cons, List.flatMap_nil, List.filter_nil, List.range_succ, List.range_zero, key, Nat.mul_zero, Nat.mul_one, opS, sem, mkT, binI, binS, eqLs, eqL, B, I, one, pures, PV.ok, PV.cells, fillL, fillE, List.replicate, cellV, cellO, cellR, newsOf, callArgs, splice, L.pure, not_false_eq_true, decide_true, Int.natCast_nonneg, Int.cast_ofNat_Int, implies_true, reduceCtorEq, Nat.reduceBEq, Nat.reduceEqDiff, Nat.reduceAdd, Nat.reduceLeDiff, Nat.reduceLT, Nat.reduceSub, Nat.reduceMul]
    simp [validStamp, *]
  · simp_all [validStamp]

theorem isAuthor_ok (n : Int) : CallOk Try.prog 73 [.l (.v (.int .i64 n))] [] (.l (.v (.bool (inRange n 0 2)))) [] [] := by
  refine callOk_pure1 (fn := Try.f73) (r := .t 2) follows Try.func73 rfl c73_eq (Nat.le_of_ble_eq_true rfl) (by kernel_rfl) rfl (.v _) ?_
  simp only [c73, ↓WA, WB, ↓reduceIte, opU, foot, PK, LK, footsApart, footP, footL, List.flatMap_cons, List.flatMap_nil, List.filter_nil, List.range_succ, List.range_zero, key, Nat.mul_zero, Nat.mul_one, opS, sem, mkT, binI, binS, eqLs, eqL, B, I, one, pures, PV.ok, PV.cells, fillL, fillE, List.replicate, cellV, cellO, cellR, newsOf, callArgs, splice, L.pure, not_false_eq_true, decide_true, Int.natCast_nonneg, Int.cast_ofNat_Int, implies_true, reduceCtorEq, Nat.reduceBEq, Nat.reduceEqDiff, Nat.reduceAdd, Nat.reduceLeDiff, Nat.reduceLT, Nat.reduceSub, Nat.reduceMul]
  split
  all_goals (refine bEq ?_; simp only [Bool.and_eq_true, Bool.or_eq_true, Bool.not_eq_true', Bool.not_eq_true, decide_eq_true_eq, decide_eq_false_iff_not, Bool.false_eq_true, false_iff, true_iff, iff_false, iff_true, inRange] at *; omega)

theorem ValidStamp_ok (s : Stamp) : CallOk Try.prog 111 [.agg s.cs] [] (.l (.v (.bool (validStamp s)))) [] [] := by
  refine callOk_pure1 (fn := Try.f111) (r := .t 2) follows Try.func111 rfl c111_eq (Nat.le_of_ble_eq_true rfl) (by kernel_rfl) rfl (.v _) ?_
  simp only [c111, Stamp.cs, ↓WA, WB, ↓reduceIte, opU, foot, PK, LK, footsApart, footP, footL, List.flatMap_cons, List.flatMap_nil, List.filter_nil, List.range_succ, List.range_zero, key, Nat.mul_zero, Nat.mul_one, opS, sem, mkT, binI, binS, eqLs, eqL, B, I, one, pures, PV.ok, PV.cells, fillL, fillE, List.replicate, cellV, cellO, cellR, newsOf, callArgs, splice, L.pure, not_false_eq_true, decide_true, Int.natCast_nonneg, Int.cast_ofNat_Int, implies_true, reduceCtorEq, Nat.reduceBEq, Nat.reduceEqDiff, Nat.reduceAdd, Nat.reduceLeDiff, Nat.reduceLT, Nat.reduceSub, Nat.reduceMul]
  split
  · split
    · refine CS.plain (isAuthor_ok _) rfl rfl ?_
      simp only [↓WA, WB, ↓reduceIte, opU, foot, PK, LK, footsApart, footP, footL, List.flatMap_cons, List.flatMap_nil, List.filter_nil, List.range_succ, List.range_zero, key, Nat.mul_zero, Nat.mul_one, opS, sem, mkT, binI, binS, eqLs, eqL, B, I, one, pures, PV.ok, PV.cells, fillL, fillE, List.replicate, cellV, cellO, cellR, newsOf, callArgs, splice, L.pure, not_false_eq_true, decide_true, Int.natCast_nonneg, Int.cast_ofNat_Int, implies_true, reduceCtorEq, Nat.reduceBEq, Nat.reduceEqDiff, Nat.reduceAdd, Nat.reduceLeDiff, Nat.reduceLT, Nat.reduceSub, Nat.reduceMul]
      refine bEq ?_
      simp_all [validStamp, inRange]
    · refine bEq ?_
      simp_all [validStamp, inRange]
      omega
  · refine bEq ?_
    simp_all [validStamp, inRange]
    omega

theorem StampLess_ok (s t : Stamp) : CallOk Try.prog 40 [.agg s.cs, .agg t.cs] [] (.l (.v (.bool (stampLess s t)))) [] [] := by
  refine callOk_pure1 (fn := Try.f40) (r := .t 4) follows Try.func40 rfl c40_eq (Nat.le_of_ble_eq_true rfl) (by kernel_rfl) rfl (.v _) ?_
  simp only [c40, Stamp.cs, ↓WA, WB, ↓reduceIte, opU, foot, PK, LK, footsApart, footP, footL, List.flatMap_cons, List.flatMap_nil, List.filter_nil, List.range_succ, List.range_zero, key, Nat.mul_zero, Nat.mul_one, opS, sem, mkT, binI, binS, eqLs, eqL, B, I, one, pures, PV.ok, PV.cells, fillL, fillE, List.replicate, cellV, cellO, cellR, newsOf, callArgs, splice, L.pure, not_false_eq_true, decide_true, Int.natCast_nonneg, Int.cast_ofNat_Int, implies_true, reduceCtorEq, Nat.reduceBEq, Nat.reduceEqDiff, Nat.reduceAdd, Nat.reduceLeDiff, Nat.reduceLT, Nat.reduceSub, Nat.reduceMul]
  repeat' split
  all_goals (refine bEq ?_; simp only [Bool.and_eq_true, Bool.or_eq_true, Bool.not_eq_true', Bool.not_eq_true, decide_eq_true_eq, decide_eq_false_iff_not, Bool.false_eq_true, false_iff, true_iff, iff_false, iff_true, stampLess] at *; omega)

theorem validWord_ok (s : ByteArray) (hs : s.size < 2 ^ 63) : CallOk Try.prog 105 [.l (.v (.string s))] [] (.l (.v (.bool (validWord s)))) [] [] := by
  refine callOk_pure1 (fn := Try.f105) (r := .t 2) follows Try.func105 rfl c105_eq (Nat.le_of_ble_eq_true rfl) (by kernel_rfl) rfl (.v _) ?_
  simp only [c105, ↓WA, WB, ↓reduceIte, opU, foot, PK, LK, footsApart, footP, footL, List.flatMap_cons, List.flatMap_nil, List.filter_nil, List.range_succ, List.range_zero, key, Nat.mul_zero, Nat.mul_one, opS, sem, mkT, binI, binS, eqLs, eqL, B, I, one, pures, PV.ok, PV.cells, fillL, fillE, List.replicate, cellV, cellO, cellR, newsOf, callArgs, splice, L.pure, not_false_eq_true, decide_true, Int.natCast_nonneg, Int.cast_ofNat_Int, implies_true, reduceCtorEq, Nat.reduceBEq, Nat.reduceEqDiff, Nat.reduceAdd, Nat.reduceLeDiff, Nat.reduceLT, Nat.reduceSub, Nat.reduceMul]
  show AW _ _ (.loop _) _ _
  refine AW.loop (fun n st => ∃ i : Nat, n = s.size - i ∧ i ≤ s.size ∧ (s.data.toList.take i).all lower = true ∧ st = ⟨mkL [(0, .l (.v (.string s))), (3, .l (.v (.int .i64 (i : Int))))], fun _ => none⟩) ?_ ?_ (n := s.size)
  · refine Lo.plain [(0, .l (.v (.string s))), (3, .l (.v (.int .i64 ((0 : Nat) : Int))))] ?_ rfl ⟨0, rfl, Nat.zero_le _, by simp, rfl⟩
    simp only [↓WA, WB, ↓reduceIte, opU, foot, PK, LK, footsApart, footP, footL, List.flatMap_cons, List.flatMap_nil, List.filter_nil, List.range_succ, List.range_zero, key, Nat.mul_zero, Nat.mul_one, opS, sem, mkT, binI, binS, eqLs, eqL, B, I, one, pures, PV.ok, PV.cells, fillL, fillE, List.replicate, cellV, cellO, cellR, newsOf, callArgs, splice, L.pure, not_false_eq_true, decide_true, Int.natCast_nonneg, Int.cast_ofNat_Int, implies_true, reduceCtorEq, Nat.reduceBEq, Nat.reduceEqDiff, Nat.reduceAdd, Nat.reduceLeDiff, Nat.reduceLT, Nat.reduceSub, Nat.reduceMul]
  · rintro n st ⟨i, rfl, hi, hall, rfl⟩
    simp only [mkL]
    refine AW_of_wps _ _ _ ?_
    simp only [↓WA, WB, ↓reduceIte, opU, foot, PK, LK, footsApart, footP, footL, List.flatMap_cons, List.flatMap_nil, List.filter_nil, List.range_succ, List.range_zero, key, Nat.mul_zero, Nat.mul_one, opS, sem, mkT, binI, binS, eqLs, eqL, B, I, one, pures, PV.ok, PV.cells, fillL, fillE, List.replicate, cellV, cellO, cellR, newsOf, callArgs, splice, L.pure, not_false_eq_true, decide_true, Int.natCast_nonneg, Int.cast_ofNat_Int, implies_true, reduceCtorEq, Nat.reduceBEq, Nat.reduceEqDiff, Nat.reduceAdd, Nat.reduceLeDiff, Nat.reduceLT, Nat.reduceSub, Nat.reduceMul]
    split
    · rename_i hlt
      have hget : s.data[i]? = some (s.data[i]'(by have : s.data.size = s.size := rfl; omega)) := Array.getElem?_eq_getElem _
      generalize s.data[i]'_ = x at hget
      have hget' : s.data.toList[i]? = some x := by simpa using hget
      simp only [hget, ↓WA, WB, ↓reduceIte, opU, foot, PK, LK, footsApart, footP, footL, List.flatMap_cons, List.flatMap_nil, List.filter_nil, List.range_succ, List.range_zero, key, Nat.mul_zero, Nat.mul_one, opS, sem, mkT, binI, binS, eqLs, eqL, B, I, one, pures, PV.ok, PV.cells, fillL, fillE, List.replicate, cellV, cellO, cellR, newsOf, callArgs, splice, L.pure, not_false_eq_true, decide_true, Int.natCast_nonneg, Int.cast_ofNat_Int, implies_true, reduceCtorEq, Nat.reduceBEq, Nat.reduceEqDiff, Nat.reduceAdd, Nat.reduceLeDiff, Nat.reduceLT, Nat.reduceSub, Nat.reduceMul]
      have hw : lower x = false → validWord s = false := fun h => by simp [validWord, all_false hget' h]
      split
      · split
        · rw [hw (by simp [lower]; omega)]
        · refine ⟨by rw [inK64]; omega, s.size - (i + 1), by omega, ?_⟩
          refine Lo.plain [(0, .l (.v (.string s))), (3, .l (.v (.int .i64 (i + 1 : Nat))))] ?_ rfl ⟨i + 1, rfl, by omega, all_take hget' hall (by simp [lower]; omega), rfl⟩
          simp only [↓WA, WB, ↓reduceIte, opU, foot, PK, LK, footsApart, footP, footL, List.flatMap_cons, List.flatMap_nil, List.filter_nil, List.range_succ, List.range_zero, key, Nat.mul_zero, Nat.mul_one, opS, sem, mkT, binI, binS, eqLs, eqL, B, I, one, pures, PV.ok, PV.cells, fillL, fillE, List.replicate, cellV, cellO, cellR, newsOf, callArgs, splice, L.pure, not_false_eq_true, decide_true, Int.natCast_nonneg, Int.cast_ofNat_Int, implies_true, reduceCtorEq, Nat.reduceBEq, Nat.reduceEqDiff, Nat.reduceAdd, Nat.reduceLeDiff, Nat.reduceLT, Nat.reduceSub, Nat.reduceMul]
          simp
      · rw [hw (by simp [lower]; omega)]
    · refine CS.plain (inRange_ok _ _ _) rfl rfl ?_
      simp only [↓WA, WB, ↓reduceIte, opU, foot, PK, LK, footsApart, footP, footL, List.flatMap_cons, List.flatMap_nil, List.filter_nil, List.range_succ, List.range_zero, key, Nat.mul_zero, Nat.mul_one, opS, sem, mkT, binI, binS, eqLs, eqL, B, I, one, pures, PV.ok, PV.cells, fillL, fillE, List.replicate, cellV, cellO, cellR, newsOf, callArgs, splice, L.pure, not_false_eq_true, decide_true, Int.natCast_nonneg, Int.cast_ofNat_Int, implies_true, reduceCtorEq, Nat.reduceBEq, Nat.reduceEqDiff, Nat.reduceAdd, Nat.reduceLeDiff, Nat.reduceLT, Nat.reduceSub, Nat.reduceMul]
      rename_i hge
      have : i = s.size := by omega
      subst this
      rw [List.take_of_length_le (by simp)] at hall
      simp [validWord, hall]

theorem isWord_ok (s : ByteArray) (hs : s.size < 2 ^ 63) : CallOk Try.prog 113 [.l (.v (.string s))] [] (.l (.v (.bool (validWord s)))) [] [] := by
  refine callOk_pure1 (fn := Try.f113) (r := .t 2) follows Try.func113 rfl c113_eq (Nat.le_of_ble_eq_true rfl) (by kernel_rfl) rfl (.v _) ?_
  simp only [c113, ↓WA, WB, ↓reduceIte, opU, foot, PK, LK, footsApart, footP, footL, List.flatMap_cons, List.flatMap_nil, List.filter_nil, List.range_succ, List.range_zero, key, Nat.mul_zero, Nat.mul_one, opS, sem, mkT, binI, binS, eqLs, eqL, B, I, one, pures, PV.ok, PV.cells, fillL, fillE, List.replicate, cellV, cellO, cellR, newsOf, callArgs, splice, L.pure, not_false_eq_true, decide_true, Int.natCast_nonneg, Int.cast_ofNat_Int, implies_true, reduceCtorEq, Nat.reduceBEq, Nat.reduceEqDiff, Nat.reduceAdd, Nat.reduceLeDiff, Nat.reduceLT, Nat.reduceSub, Nat.reduceMul]
  show AW _ _ (.loop _) _ _
  refine AW.loop (fun n st => ∃ i : Nat, n = s.size - i ∧ i ≤ s.size ∧ (s.data.toList.take i).all lower = true ∧ st = ⟨mkL [(0, .l (.v (.string s))), (3, .l (.v (.int .i64 (i : Int))))], fun _ => none⟩) ?_ ?_ (n := s.size)
  · refine Lo.plain [(0, .l (.v (.string s))), (3, .l (.v (.int .i64 ((0 : Nat) : Int))))] ?_ rfl ⟨0, rfl, Nat.zero_le _, by simp, rfl⟩
    simp only [↓WA, WB, ↓reduceIte, opU, foot, PK, LK, footsApart, footP, footL, List.flatMap_cons, List.flatMap_nil, List.filter_nil, List.range_succ, List.range_zero, key, Nat.mul_zero, Nat.mul_one, opS, sem, mkT, binI, binS, eqLs, eqL, B, I, one, pures, PV.ok, PV.cells, fillL, fillE, List.replicate, cellV, cellO, cellR, newsOf, callArgs, splice, L.pure, not_false_eq_true, decide_true, Int.natCast_nonneg, Int.cast_ofNat_Int, implies_true, reduceCtorEq, Nat.reduceBEq, Nat.reduceEqDiff, Nat.reduceAdd, Nat.reduceLeDiff, Nat.reduceLT, Nat.reduceSub, Nat.reduceMul]
  · rintro n st ⟨i, rfl, hi, hall, rfl⟩
    simp only [mkL]
    refine AW_of_wps _ _ _ ?_
    simp only [↓WA, WB, ↓reduceIte, opU, foot, PK, LK, footsApart, footP, footL, List.flatMap_cons, List.flatMap_nil, List.filter_nil, List.range_succ, List.range_zero, key, Nat.mul_zero, Nat.mul_one, opS, sem, mkT, binI, binS, eqLs, eqL, B, I, one, pures, PV.ok, PV.cells, fillL, fillE, List.replicate, cellV, cellO, cellR, newsOf, callArgs, splice, L.pure, not_false_eq_true, decide_true, Int.natCast_nonneg, Int.cast_ofNat_Int, implies_true, reduceCtorEq, Nat.reduceBEq, Nat.reduceEqDiff, Nat.reduceAdd, Nat.reduceLeDiff, Nat.reduceLT, Nat.reduceSub, Nat.reduceMul]
    split
    · rename_i hlt
      have hget : s.data[i]? = some (s.data[i]'(by have : s.data.size = s.size := rfl; omega)) := Array.getElem?_eq_getElem _
      generalize s.data[i]'_ = x at hget
      have hget' : s.data.toList[i]? = some x := by simpa using hget
      simp only [hget, ↓WA, WB, ↓reduceIte, opU, foot, PK, LK, footsApart, footP, footL, List.flatMap_cons, List.flatMap_nil, List.filter_nil, List.range_succ, List.range_zero, key, Nat.mul_zero, Nat.mul_one, opS, sem, mkT, binI, binS, eqLs, eqL, B, I, one, pures, PV.ok, PV.cells, fillL, fillE, List.replicate, cellV, cellO, cellR, newsOf, callArgs, splice, L.pure, not_false_eq_true, decide_true, Int.natCast_nonneg, Int.cast_ofNat_Int, implies_true, reduceCtorEq, Nat.reduceBEq, Nat.reduceEqDiff, Nat.reduceAdd, Nat.reduceLeDiff, Nat.reduceLT, Nat.reduceSub, Nat.reduceMul]
      have hw : lower x = false → validWord s = false := fun h => by simp [validWord, all_false hget' h]
      split
      rotate_left
      · rw [hw (by simp [lower]; omega)]
      · split
        · rw [hw (by simp [lower]; omega)]
        · refine ⟨by rw [inK64]; omega, s.size - (i + 1), by omega, ?_⟩
          refine Lo.plain [(0, .l (.v (.string s))), (3, .l (.v (.int .i64 (i + 1 : Nat))))] ?_ rfl ⟨i + 1, rfl, by omega, all_take hget' hall (by simp [lower]; omega), rfl⟩
          simp only [↓WA, WB, ↓reduceIte, opU, foot, PK, LK, footsApart, footP, footL, List.flatMap_cons, List.flatMap_nil, List.filter_nil, List.range_succ, List.range_zero, key, Nat.mul_zero, Nat.mul_one, opS, sem, mkT, binI, binS, eqLs, eqL, B, I, one, pures, PV.ok, PV.cells, fillL, fillE, List.replicate, cellV, cellO, cellR, newsOf, callArgs, splice, L.pure, not_false_eq_true, decide_true, Int.natCast_nonneg, Int.cast_ofNat_Int, implies_true, reduceCtorEq, Nat.reduceBEq, Nat.reduceEqDiff, Nat.reduceAdd, Nat.reduceLeDiff, Nat.reduceLT, Nat.reduceSub, Nat.reduceMul]
          simp
    · rename_i hge
      have : i = s.size := by omega
      subst this
      rw [List.take_of_length_le (by simp)] at hall
      split <;> (refine bEq ?_; simp [validWord, hall, inRange]; omega)

theorem toStamp_ok (s : Stamp) : CallOk Try.prog 20 [.agg s.cs] [] (.agg s.cs) [] [] := by
  refine callOk_pure1 (fn := Try.f20) (r := .c 2 2 true) follows Try.func20 rfl c20_eq (Nat.le_of_ble_eq_true rfl) (by kernel_rfl) rfl s.hb ?_
  simp only [c20, Stamp.cs, ↓WA, WB, ↓reduceIte, opU, foot, PK, LK, footsApart, footP, footL, List.flatMap_cons, List.flatMap_nil, List.filter_nil, List.range_succ, List.range_zero, key, Nat.mul_zero, Nat.mul_one, opS, sem, mkT, binI, binS, eqLs, eqL, B, I, one, pures, PV.ok, PV.cells, fillL, fillE, List.replicate, cellV, cellO, cellR, newsOf, callArgs, splice, L.pure, not_false_eq_true, decide_true, Int.natCast_nonneg, Int.cast_ofNat_Int, implies_true, reduceCtorEq, Nat.reduceBEq, Nat.reduceEqDiff, Nat.reduceAdd, Nat.reduceLeDiff, Nat.reduceLT, Nat.reduceSub, Nat.reduceMul]

theorem eqStamp_ok (s t : Stamp) : CallOk Try.prog 17 [.agg s.cs, .agg t.cs] [] (.l (.v (.bool (decide (s = t))))) [] [] := by
  refine callOk_pure1 (fn := Try.f17) (r := .t 4) follows Try.func17 rfl c17_eq (Nat.le_of_ble_eq_true rfl) (by kernel_rfl) rfl (.v _) ?_
  simp only [c17, Stamp.cs, ↓WA, WB, ↓reduceIte, opU, foot, PK, LK, footsApart, footP, footL, List.flatMap_cons, List.flatMap_nil, List.filter_nil, List.range_succ, List.range_zero, key, Nat.mul_zero, Nat.mul_one, opS, sem, mkT, binI, binS, eqLs, eqL, B, I, one, pures, PV.ok, PV.cells, fillL, fillE, List.replicate, cellV, cellO, cellR, newsOf, callArgs, splice, L.pure, not_false_eq_true, decide_true, Int.natCast_nonneg, Int.cast_ofNat_Int, implies_true, reduceCtorEq, Nat.reduceBEq, Nat.reduceEqDiff, Nat.reduceAdd, Nat.reduceLeDiff, Nat.reduceLT, Nat.reduceSub, Nat.reduceMul]
  obtain ⟨q, a⟩ := s
  obtain ⟨q', a'⟩ := t
  repeat' split
  all_goals simp_all
end Go.Proofs
