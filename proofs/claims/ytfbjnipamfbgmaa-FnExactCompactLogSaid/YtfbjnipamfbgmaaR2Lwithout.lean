import Derived.Test.YtfbjnipamfbgmaaR2Mark
set_option linter.unusedSimpArgs false
set_option linter.unusedVariables false
namespace Go.Proofs
open Go Go.Ab

theorem eqOpS_emp : CallOk Try.prog 18 [.l .emp, .l .emp] [] (.l (.v (.bool true))) [] [] :=
  CallOk.args (.cons (emp_vs false) (.cons (emp_vs false) .nil)) (eqOpS_ok false false [] [])

set_option maxRecDepth 20000 in
theorem FnExactLogWithout_ok (q : Bool) (s : List DOp) (id : Stamp) (ht : ∀ o ∈ s, o.text.size < 2 ^ 62) (hl : s.length * 104 ≤ 140737488355328) : CallOk Try.prog 6 [.l (.vs q (s.map DOp.cs)), .agg id.cs] [] (.l (.v (.bool true))) [] [] := by
  refine callOk_pure1 (fn := Try.f6) (r := .t 4) follows Try.func6 rfl c6_eq (Nat.le_of_ble_eq_true rfl) (by kernel_rfl) rfl (.v _) ?_
  simp only [c6, Stamp.cs, ↓WA, WB, ↓reduceIte, opU, foot, PK, LK, footsApart, footP, footL, List.flatMap_cons, List.flatMap_nil, List.filter_nil, key, Nat.mul_zero, Nat.mul_one, opS, sem, mkT, binI, binS, eqLs, eqL, B, I, one, pures, PV.ok, PV.cells, fillL, fillE, List.replicate, cellV, cellO, cellR, newsOf, callArgs, splice, L.pure, not_false_eq_true, decide_true, Int.natCast_nonneg, Int.cast_ofNat_Int, implies_true, reduceCtorEq, Nat.reduceBEq, Nat.reduceEqDiff, Nat.reduceAdd, Nat.reduceLeDiff, Nat.reduceLT, Nat.reduceSub, Nat.reduceMul]
  refine CS.plain (szOpS_ok q s 1048576 (by omega) (by omega) ht) rfl rfl ?_
  simp only [↓WA, WB, ↓reduceIte, opU, foot, PK, LK, footsApart, footP, footL, List.flatMap_cons, List.flatMap_nil, List.filter_nil, key, Nat.mul_zero, Nat.mul_one, opS, sem, mkT, binI, binS, eqLs, eqL, B, I, one, pures, PV.ok, PV.cells, fillL, fillE, List.replicate, cellV, cellO, cellR, newsOf, callArgs, splice, L.pure, not_false_eq_true, decide_true, Int.natCast_nonneg, Int.cast_ofNat_Int, implies_true, reduceCtorEq, Nat.reduceBEq, Nat.reduceEqDiff, Nat.reduceAdd, Nat.reduceLeDiff, Nat.reduceLT, Nat.reduceSub, Nat.reduceMul]
  split
  · trivial
  refine CS.new (toOpS_ok q s hl) ?_ rfl rfl ?_ ?_
  · simp [argP, argL, argPOk, argOk, idx_nil, vw, vw1, vwOk, vw1Ok, vis_same, vis_ne, fre_same, fre_ne, fre_none, vis_none]
  · simp [argP, argL, argPOk, argOk, idx_nil, vw, vw1, vwOk, vw1Ok, vis_same, vis_ne, fre_same, fre_ne, fre_none, vis_none]
  simp only [↓WA, WB, ↓reduceIte, opU, foot, PK, LK, footsApart, footP, footL, List.flatMap_cons, List.flatMap_nil, List.filter_nil, key, Nat.mul_zero, Nat.mul_one, opS, sem, mkT, binI, binS, eqLs, eqL, B, I, one, pures, PV.ok, PV.cells, fillL, fillE, List.replicate, cellV, cellO, cellR, newsOf, callArgs, splice, L.pure, not_false_eq_true, decide_true, Int.natCast_nonneg, Int.cast_ofNat_Int, implies_true, reduceCtorEq, Nat.reduceBEq, Nat.reduceEqDiff, Nat.reduceAdd, Nat.reduceLeDiff, Nat.reduceLT, Nat.reduceSub, Nat.reduceMul]
  refine CS.plain (toStamp_ok id) rfl rfl ?_
  simp only [Stamp.cs, ↓WA, WB, ↓reduceIte, opU, foot, PK, LK, footsApart, footP, footL, List.flatMap_cons, List.flatMap_nil, List.filter_nil, key, Nat.mul_zero, Nat.mul_one, opS, sem, mkT, binI, binS, eqLs, eqL, B, I, one, pures, PV.ok, PV.cells, fillL, fillE, List.replicate, cellV, cellO, cellR, newsOf, callArgs, splice, L.pure, not_false_eq_true, decide_true, Int.natCast_nonneg, Int.cast_ofNat_Int, implies_true, reduceCtorEq, Nat.reduceBEq, Nat.reduceEqDiff, Nat.reduceAdd, Nat.reduceLeDiff, Nat.reduceLT, Nat.reduceSub, Nat.reduceMul]
  by_cases hv : validLog s = true
  rotate_left
  · have hv : validLog s = false := by simpa using hv
    refine CS.view (specLogWithout_bad false s id ht hv) ?_ ?_ rfl ?_
    · simp [argP, argL, argPOk, argOk, idx_nil, vw, vw1, vwOk, vw1Ok, vis_same, vis_ne, fre_same, fre_ne, fre_none, vis_none, DOp.obj, take_map]
    · simp [argP, argL, argPOk, argOk, idx_nil, vw, vw1, vwOk, vw1Ok, vis_same, vis_ne, fre_same, fre_ne, fre_none, vis_none, DOp.obj, take_map, Stamp.cs]
    simp only [↓WA, WB, ↓reduceIte, opU, foot, PK, LK, footsApart, footP, footL, List.flatMap_cons, List.flatMap_nil, List.filter_nil, key, Nat.mul_zero, Nat.mul_one, opS, sem, mkT, binI, binS, eqLs, eqL, B, I, one, pures, PV.ok, PV.cells, fillL, fillE, List.replicate, cellV, cellO, cellR, newsOf, callArgs, splice, L.pure, not_false_eq_true, decide_true, Int.natCast_nonneg, Int.cast_ofNat_Int, implies_true, reduceCtorEq, Nat.reduceBEq, Nat.reduceEqDiff, Nat.reduceAdd, Nat.reduceLeDiff, Nat.reduceLT, Nat.reduceSub, Nat.reduceMul]
    refine CS.new (toOpS_ok q s hl) ?_ rfl rfl ?_ ?_
    · simp [argP, argL, argPOk, argOk, idx_nil, vw, vw1, vwOk, vw1Ok, vis_same, vis_ne, fre_same, fre_ne, fre_none, vis_none]
    · simp [argP, argL, argPOk, argOk, idx_nil, vw, vw1, vwOk, vw1Ok, vis_same, vis_ne, fre_same, fre_ne, fre_none, vis_none]
    simp only [↓WA, WB, ↓reduceIte, opU, foot, PK, LK, footsApart, footP, footL, List.flatMap_cons, List.flatMap_nil, List.filter_nil, key, Nat.mul_zero, Nat.mul_one, opS, sem, mkT, binI, binS, eqLs, eqL, B, I, one, pures, PV.ok, PV.cells, fillL, fillE, List.replicate, cellV, cellO, cellR, newsOf, callArgs, splice, L.pure, not_false_eq_true, decide_true, Int.natCast_nonneg, Int.cast_ofNat_Int, implies_true, reduceCtorEq, Nat.reduceBEq, Nat.reduceEqDiff, Nat.reduceAdd, Nat.reduceLeDiff, Nat.reduceLT, Nat.reduceSub, Nat.reduceMul]
    refine CS.plain (toStamp_ok id) rfl rfl ?_
    simp only [Stamp.cs, ↓WA, WB, ↓reduceIte, opU, foot, PK, LK, footsApart, footP, footL, List.flatMap_cons, List.flatMap_nil, List.filter_nil, key, Nat.mul_zero, Nat.mul_one, opS, sem, mkT, binI, binS, eqLs, eqL, B, I, one, pures, PV.ok, PV.cells, fillL, fillE, List.replicate, cellV, cellO, cellR, newsOf, callArgs, splice, L.pure, not_false_eq_true, decide_true, Int.natCast_nonneg, Int.cast_ofNat_Int, implies_true, reduceCtorEq, Nat.reduceBEq, Nat.reduceEqDiff, Nat.reduceAdd, Nat.reduceLeDiff, Nat.reduceLT, Nat.reduceSub, Nat.reduceMul]
    refine CS.view (implLogWithout_bad false s id ht hv) ?_ ?_ rfl ?_
    · simp [argP, argL, argPOk, argOk, idx_nil, vw, vw1, vwOk, vw1Ok, vis_same, vis_ne, fre_same, fre_ne, fre_none, vis_none, DOp.obj, take_map]
    · simp [argP, argL, argPOk, argOk, idx_nil, vw, vw1, vwOk, vw1Ok, vis_same, vis_ne, fre_same, fre_ne, fre_none, vis_none, DOp.obj, take_map, Stamp.cs]
    simp only [↓WA, WB, ↓reduceIte, opU, foot, PK, LK, footsApart, footP, footL, List.flatMap_cons, List.flatMap_nil, List.filter_nil, key, Nat.mul_zero, Nat.mul_one, opS, sem, mkT, binI, binS, eqLs, eqL, B, I, one, pures, PV.ok, PV.cells, fillL, fillE, List.replicate, cellV, cellO, cellR, newsOf, callArgs, splice, L.pure, not_false_eq_true, decide_true, Int.natCast_nonneg, Int.cast_ofNat_Int, implies_true, reduceCtorEq, Nat.reduceBEq, Nat.reduceEqDiff, Nat.reduceAdd, Nat.reduceLeDiff, Nat.reduceLT, Nat.reduceSub, Nat.reduceMul]
    refine CS.plain eqOpS_emp rfl rfl ?_
    simp only [↓WA, WB, ↓reduceIte, opU, foot, PK, LK, footsApart, footP, footL, List.flatMap_cons, List.flatMap_nil, List.filter_nil, key, Nat.mul_zero, Nat.mul_one, opS, sem, mkT, binI, binS, eqLs, eqL, B, I, one, pures, PV.ok, PV.cells, fillL, fillE, List.replicate, cellV, cellO, cellR, newsOf, callArgs, splice, L.pure, not_false_eq_true, decide_true, Int.natCast_nonneg, Int.cast_ofNat_Int, implies_true, reduceCtorEq, Nat.reduceBEq, Nat.reduceEqDiff, Nat.reduceAdd, Nat.reduceLeDiff, Nat.reduceLT, Nat.reduceSub, Nat.reduceMul]
    refine CS.new (toOpS_ok q s hl) ?_ rfl rfl ?_ ?_
    · simp [argP, argL, argPOk, argOk, idx_nil, vw, vw1, vwOk, vw1Ok, vis_same, vis_ne, fre_same, fre_ne, fre_none, vis_none]
    · simp [argP, argL, argPOk, argOk, idx_nil, vw, vw1, vwOk, vw1Ok, vis_same, vis_ne, fre_same, fre_ne, fre_none, vis_none]
    simp only [↓WA, WB, ↓reduceIte, opU, foot, PK, LK, footsApart, footP, footL, List.flatMap_cons, List.flatMap_nil, List.filter_nil, key, Nat.mul_zero, Nat.mul_one, opS, sem, mkT, binI, binS, eqLs, eqL, B, I, one, pures, PV.ok, PV.cells, fillL, fillE, List.replicate, cellV, cellO, cellR, newsOf, callArgs, splice, L.pure, not_false_eq_true, decide_true, Int.natCast_nonneg, Int.cast_ofNat_Int, implies_true, reduceCtorEq, Nat.reduceBEq, Nat.reduceEqDiff, Nat.reduceAdd, Nat.reduceLeDiff, Nat.reduceLT, Nat.reduceSub, Nat.reduceMul]
    refine CS.view (eqOpS_ok false false s s) ?_ ?_ rfl ?_
    · simp [argP, argL, argPOk, argOk, idx_nil, vw, vw1, vwOk, vw1Ok, vis_same, vis_ne, fre_same, fre_ne, fre_none, vis_none, DOp.obj, take_map]
    · simp [argP, argL, argPOk, argOk, idx_nil, vw, vw1, vwOk, vw1Ok, vis_same, vis_ne, fre_same, fre_ne, fre_none, vis_none, DOp.obj, take_map]
    simp only [↓WA, WB, ↓reduceIte, opU, foot, PK, LK, footsApart, footP, footL, List.flatMap_cons, List.flatMap_nil, List.filter_nil, key, Nat.mul_zero, Nat.mul_one, opS, sem, mkT, binI, binS, eqLs, eqL, B, I, one, pures, PV.ok, PV.cells, fillL, fillE, List.replicate, cellV, cellO, cellR, newsOf, callArgs, splice, L.pure, not_false_eq_true, decide_true, Int.natCast_nonneg, Int.cast_ofNat_Int, implies_true, reduceCtorEq, Nat.reduceBEq, Nat.reduceEqDiff, Nat.reduceAdd, Nat.reduceLeDiff, Nat.reduceLT, Nat.reduceSub, Nat.reduceMul]
    refine CS.turn 1024 (markOpS_ok s 1 (by omega) (by omega) (by omega)) ?_ rfl (by simp only [↓WA, WB, ↓reduceIte, opU, foot, PK, LK, footsApart, footP, footL, List.flatMap_cons, List.flatMap_nil, List.filter_nil, key, Nat.mul_zero, Nat.mul_one, opS, sem, mkT, binI, binS, eqLs, eqL, B, I, one, pures, PV.ok, PV.cells, fillL, fillE, List.replicate, cellV, cellO, cellR, newsOf, callArgs, splice, L.pure, not_false_eq_true, decide_true, Int.natCast_nonneg, Int.cast_ofNat_Int, implies_true, reduceCtorEq, Nat.reduceBEq, Nat.reduceEqDiff, Nat.reduceAdd, Nat.reduceLeDiff, Nat.reduceLT, Nat.reduceSub, Nat.reduceMul]) rfl rfl rfl rfl rfl ?_
    · simp [argPOk, argOk, idx, vwOk, vw1Ok]
    simp only [↓WA, WB, ↓reduceIte, opU, foot, PK, LK, footsApart, footP, footL, List.flatMap_cons, List.flatMap_nil, List.filter_nil, key, Nat.mul_zero, Nat.mul_one, opS, sem, mkT, binI, binS, eqLs, eqL, B, I, one, pures, PV.ok, PV.cells, fillL, fillE, List.replicate, cellV, cellO, cellR, newsOf, callArgs, splice, L.pure, not_false_eq_true, decide_true, Int.natCast_nonneg, Int.cast_ofNat_Int, implies_true, reduceCtorEq, Nat.reduceBEq, Nat.reduceEqDiff, Nat.reduceAdd, Nat.reduceLeDiff, Nat.reduceLT, Nat.reduceSub, Nat.reduceMul]
    rw [if_pos (by omega)]
    refine CS.plain eqOpS_emp rfl rfl ?_
    simp only [↓WA, WB, ↓reduceIte, opU, foot, PK, LK, footsApart, footP, footL, List.flatMap_cons, List.flatMap_nil, List.filter_nil, key, Nat.mul_zero, Nat.mul_one, opS, sem, mkT, binI, binS, eqLs, eqL, B, I, one, pures, PV.ok, PV.cells, fillL, fillE, List.replicate, cellV, cellO, cellR, newsOf, callArgs, splice, L.pure, not_false_eq_true, decide_true, Int.natCast_nonneg, Int.cast_ofNat_Int, implies_true, reduceCtorEq, Nat.reduceBEq, Nat.reduceEqDiff, Nat.reduceAdd, Nat.reduceLeDiff, Nat.reduceLT, Nat.reduceSub, Nat.reduceMul]
    refine CS.plain (markOpS_emp 1) rfl rfl ?_
    simp only [↓WA, WB, ↓reduceIte, opU, foot, PK, LK, footsApart, footP, footL, List.flatMap_cons, List.flatMap_nil, List.filter_nil, key, Nat.mul_zero, Nat.mul_one, opS, sem, mkT, binI, binS, eqLs, eqL, B, I, one, pures, PV.ok, PV.cells, fillL, fillE, List.replicate, cellV, cellO, cellR, newsOf, callArgs, splice, L.pure, not_false_eq_true, decide_true, Int.natCast_nonneg, Int.cast_ofNat_Int, implies_true, reduceCtorEq, Nat.reduceBEq, Nat.reduceEqDiff, Nat.reduceAdd, Nat.reduceLeDiff, Nat.reduceLT, Nat.reduceSub, Nat.reduceMul]
    refine CS.plain (heldOpS_emp 1) rfl rfl ?_
    simp only [↓WA, WB, ↓reduceIte, opU, foot, PK, LK, footsApart, footP, footL, List.flatMap_cons, List.flatMap_nil, List.filter_nil, key, Nat.mul_zero, Nat.mul_one, opS, sem, mkT, binI, binS, eqLs, eqL, B, I, one, pures, PV.ok, PV.cells, fillL, fillE, List.replicate, cellV, cellO, cellR, newsOf, callArgs, splice, L.pure, not_false_eq_true, decide_true, Int.natCast_nonneg, Int.cast_ofNat_Int, implies_true, reduceCtorEq, Nat.reduceBEq, Nat.reduceEqDiff, Nat.reduceAdd, Nat.reduceLeDiff, Nat.reduceLT, Nat.reduceSub, Nat.reduceMul]
    rw [if_neg (by omega)]
    refine CS.new (toOpS_ok q s hl) ?_ rfl rfl ?_ ?_
    · simp [argP, argL, argPOk, argOk, idx_nil, vw, vw1, vwOk, vw1Ok, vis_same, vis_ne, fre_same, fre_ne, fre_none, vis_none]
    · simp [argP, argL, argPOk, argOk, idx_nil, vw, vw1, vwOk, vw1Ok, vis_same, vis_ne, fre_same, fre_ne, fre_none, vis_none]
    simp only [↓WA, WB, ↓reduceIte, opU, foot, PK, LK, footsApart, footP, footL, List.flatMap_cons, List.flatMap_nil, List.filter_nil, key, Nat.mul_zero, Nat.mul_one, opS, sem, mkT, binI, binS, eqLs, eqL, B, I, one, pures, PV.ok, PV.cells, fillL, fillE, List.replicate, cellV, cellO, cellR, newsOf, callArgs, splice, L.pure, not_false_eq_true, decide_true, Int.natCast_nonneg, Int.cast_ofNat_Int, implies_true, reduceCtorEq, Nat.reduceBEq, Nat.reduceEqDiff, Nat.reduceAdd, Nat.reduceLeDiff, Nat.reduceLT, Nat.reduceSub, Nat.reduceMul]
    refine CS.plain (toStamp_ok id) rfl rfl ?_
    simp only [Stamp.cs, ↓WA, WB, ↓reduceIte, opU, foot, PK, LK, footsApart, footP, footL, List.flatMap_cons, List.flatMap_nil, List.filter_nil, key, Nat.mul_zero, Nat.mul_one, opS, sem, mkT, binI, binS, eqLs, eqL, B, I, one, pures, PV.ok, PV.cells, fillL, fillE, List.replicate, cellV, cellO, cellR, newsOf, callArgs, splice, L.pure, not_false_eq_true, decide_true, Int.natCast_nonneg, Int.cast_ofNat_Int, implies_true, reduceCtorEq, Nat.reduceBEq, Nat.reduceEqDiff, Nat.reduceAdd, Nat.reduceLeDiff, Nat.reduceLT, Nat.reduceSub, Nat.reduceMul]
    refine CS.view (implLogWithout_bad false s id ht hv) ?_ ?_ rfl ?_
    · simp [argP, argL, argPOk, argOk, idx_nil, vw, vw1, vwOk, vw1Ok, vis_same, vis_ne, fre_same, fre_ne, fre_none, vis_none, DOp.obj, take_map]
    · simp [argP, argL, argPOk, argOk, idx_nil, vw, vw1, vwOk, vw1Ok, vis_same, vis_ne, fre_same, fre_ne, fre_none, vis_none, DOp.obj, take_map, Stamp.cs]
    simp only [↓WA, WB, ↓reduceIte, opU, foot, PK, LK, footsApart, footP, footL, List.flatMap_cons, List.flatMap_nil, List.filter_nil, key, Nat.mul_zero, Nat.mul_one, opS, sem, mkT, binI, binS, eqLs, eqL, B, I, one, pures, PV.ok, PV.cells, fillL, fillE, List.replicate, cellV, cellO, cellR, newsOf, callArgs, splice, L.pure, not_false_eq_true, decide_true, Int.natCast_nonneg, Int.cast_ofNat_Int, implies_true, reduceCtorEq, Nat.reduceBEq, Nat.reduceEqDiff, Nat.reduceAdd, Nat.reduceLeDiff, Nat.reduceLT, Nat.reduceSub, Nat.reduceMul]
    refine CS.plain eqOpS_emp rfl rfl ?_
    simp only [↓WA, WB, ↓reduceIte, opU, foot, PK, LK, footsApart, footP, footL, List.flatMap_cons, List.flatMap_nil, List.filter_nil, key, Nat.mul_zero, Nat.mul_one, opS, sem, mkT, binI, binS, eqLs, eqL, B, I, one, pures, PV.ok, PV.cells, fillL, fillE, List.replicate, cellV, cellO, cellR, newsOf, callArgs, splice, L.pure, not_false_eq_true, decide_true, Int.natCast_nonneg, Int.cast_ofNat_Int, implies_true, reduceCtorEq, Nat.reduceBEq, Nat.reduceEqDiff, Nat.reduceAdd, Nat.reduceLeDiff, Nat.reduceLT, Nat.reduceSub, Nat.reduceMul]
    refine CS.plain (heldOpS_emp 1) rfl rfl ?_
    simp only [↓WA, WB, ↓reduceIte, opU, foot, PK, LK, footsApart, footP, footL, List.flatMap_cons, List.flatMap_nil, List.filter_nil, key, Nat.mul_zero, Nat.mul_one, opS, sem, mkT, binI, binS, eqLs, eqL, B, I, one, pures, PV.ok, PV.cells, fillL, fillE, List.replicate, cellV, cellO, cellR, newsOf, callArgs, splice, L.pure, not_false_eq_true, decide_true, Int.natCast_nonneg, Int.cast_ofNat_Int, implies_true, reduceCtorEq, Nat.reduceBEq, Nat.reduceEqDiff, Nat.reduceAdd, Nat.reduceLeDiff, Nat.reduceLT, Nat.reduceSub, Nat.reduceMul]
    simp
  have hlen := validLog_len hv
  have hwl : (logWithout s id).length ≤ 40 := by
    have := List.length_filter_le (wOk id) s
    rw [logWithout_eq]
    omega
  generalize hr : logWithout s id = r at hwl
  have hspec := specLogWithout_ok false s id ht hv
  have himpl := implLogWithout_ok false s id ht hv
  rw [hr] at hspec himpl
  refine CS.new hspec ?_ ?_ rfl ?_ ?_
  · simp [argP, argL, argPOk, argOk, idx_nil, vw, vw1, vwOk, vw1Ok, vis_same, vis_ne, fre_same, fre_ne, fre_none, vis_none, DOp.obj, take_map]
  · simp [argP, argL, argPOk, argOk, idx_nil, vw, vw1, vwOk, vw1Ok, vis_same, vis_ne, fre_same, fre_ne, fre_none, vis_none, DOp.obj, take_map, Stamp.cs]
  · simp [argP, argL, argPOk, argOk, idx_nil, vw, vw1, vwOk, vw1Ok, vis_same, vis_ne, fre_same, fre_ne, fre_none, vis_none]
  simp only [↓WA, WB, ↓reduceIte, opU, foot, PK, LK, footsApart, footP, footL, List.flatMap_cons, List.flatMap_nil, List.filter_nil, key, Nat.mul_zero, Nat.mul_one, opS, sem, mkT, binI, binS, eqLs, eqL, B, I, one, pures, PV.ok, PV.cells, fillL, fillE, List.replicate, cellV, cellO, cellR, newsOf, callArgs, splice, L.pure, not_false_eq_true, decide_true, Int.natCast_nonneg, Int.cast_ofNat_Int, implies_true, reduceCtorEq, Nat.reduceBEq, Nat.reduceEqDiff, Nat.reduceAdd, Nat.reduceLeDiff, Nat.reduceLT, Nat.reduceSub, Nat.reduceMul]
  refine CS.new (toOpS_ok q s hl) ?_ rfl rfl ?_ ?_
  · simp [argP, argL, argPOk, argOk, idx_nil, vw, vw1, vwOk, vw1Ok, vis_same, vis_ne, fre_same, fre_ne, fre_none, vis_none]
  · simp [argP, argL, argPOk, argOk, idx_nil, vw, vw1, vwOk, vw1Ok, vis_same, vis_ne, fre_same, fre_ne, fre_none, vis_none]
  simp only [↓WA, WB, ↓reduceIte, opU, foot, PK, LK, footsApart, footP, footL, List.flatMap_cons, List.flatMap_nil, List.filter_nil, key, Nat.mul_zero, Nat.mul_one, opS, sem, mkT, binI, binS, eqLs, eqL, B, I, one, pures, PV.ok, PV.cells, fillL, fillE, List.replicate, cellV, cellO, cellR, newsOf, callArgs, splice, L.pure, not_false_eq_true, decide_true, Int.natCast_nonneg, Int.cast_ofNat_Int, implies_true, reduceCtorEq, Nat.reduceBEq, Nat.reduceEqDiff, Nat.reduceAdd, Nat.reduceLeDiff, Nat.reduceLT, Nat.reduceSub, Nat.reduceMul]
  refine CS.plain (toStamp_ok id) rfl rfl ?_
  simp only [Stamp.cs, ↓WA, WB, ↓reduceIte, opU, foot, PK, LK, footsApart, footP, footL, List.flatMap_cons, List.flatMap_nil, List.filter_nil, key, Nat.mul_zero, Nat.mul_one, opS, sem, mkT, binI, binS, eqLs, eqL, B, I, one, pures, PV.ok, PV.cells, fillL, fillE, List.replicate, cellV, cellO, cellR, newsOf, callArgs, splice, L.pure, not_false_eq_true, decide_true, Int.natCast_nonneg, Int.cast_ofNat_Int, implies_true, reduceCtorEq, Nat.reduceBEq, Nat.reduceEqDiff, Nat.reduceAdd, Nat.reduceLeDiff, Nat.reduceLT, Nat.reduceSub, Nat.reduceMul]
  refine CS.new himpl ?_ ?_ rfl ?_ ?_
  · simp [argP, argL, argPOk, argOk, idx_nil, vw, vw1, vwOk, vw1Ok, vis_same, vis_ne, fre_same, fre_ne, fre_none, vis_none, DOp.obj, take_map]
  · simp [argP, argL, argPOk, argOk, idx_nil, vw, vw1, vwOk, vw1Ok, vis_same, vis_ne, fre_same, fre_ne, fre_none, vis_none, DOp.obj, take_map, Stamp.cs]
  · simp [argP, argL, argPOk, argOk, idx_nil, vw, vw1, vwOk, vw1Ok, vis_same, vis_ne, fre_same, fre_ne, fre_none, vis_none]
  simp only [↓WA, WB, ↓reduceIte, opU, foot, PK, LK, footsApart, footP, footL, List.flatMap_cons, List.flatMap_nil, List.filter_nil, key, Nat.mul_zero, Nat.mul_one, opS, sem, mkT, binI, binS, eqLs, eqL, B, I, one, pures, PV.ok, PV.cells, fillL, fillE, List.replicate, cellV, cellO, cellR, newsOf, callArgs, splice, L.pure, not_false_eq_true, decide_true, Int.natCast_nonneg, Int.cast_ofNat_Int, implies_true, reduceCtorEq, Nat.reduceBEq, Nat.reduceEqDiff, Nat.reduceAdd, Nat.reduceLeDiff, Nat.reduceLT, Nat.reduceSub, Nat.reduceMul]
  refine CS.view (eqOpS_ok false false r r) ?_ ?_ rfl ?_
  · simp [argP, argL, argPOk, argOk, idx_nil, vw, vw1, vwOk, vw1Ok, vis_same, vis_ne, fre_same, fre_ne, fre_none, vis_none, DOp.obj, take_map]
  · simp [argP, argL, argPOk, argOk, idx_nil, vw, vw1, vwOk, vw1Ok, vis_same, vis_ne, fre_same, fre_ne, fre_none, vis_none, DOp.obj, take_map]
  simp only [↓WA, WB, ↓reduceIte, opU, foot, PK, LK, footsApart, footP, footL, List.flatMap_cons, List.flatMap_nil, List.filter_nil, key, Nat.mul_zero, Nat.mul_one, opS, sem, mkT, binI, binS, eqLs, eqL, B, I, one, pures, PV.ok, PV.cells, fillL, fillE, List.replicate, cellV, cellO, cellR, newsOf, callArgs, splice, L.pure, not_false_eq_true, decide_true, Int.natCast_nonneg, Int.cast_ofNat_Int, implies_true, reduceCtorEq, Nat.reduceBEq, Nat.reduceEqDiff, Nat.reduceAdd, Nat.reduceLeDiff, Nat.reduceLT, Nat.reduceSub, Nat.reduceMul]
  refine CS.new (toOpS_ok q s hl) ?_ rfl rfl ?_ ?_
  · simp [argP, argL, argPOk, argOk, idx_nil, vw, vw1, vwOk, vw1Ok, vis_same, vis_ne, fre_same, fre_ne, fre_none, vis_none]
  · simp [argP, argL, argPOk, argOk, idx_nil, vw, vw1, vwOk, vw1Ok, vis_same, vis_ne, fre_same, fre_ne, fre_none, vis_none]
  simp only [↓WA, WB, ↓reduceIte, opU, foot, PK, LK, footsApart, footP, footL, List.flatMap_cons, List.flatMap_nil, List.filter_nil, key, Nat.mul_zero, Nat.mul_one, opS, sem, mkT, binI, binS, eqLs, eqL, B, I, one, pures, PV.ok, PV.cells, fillL, fillE, List.replicate, cellV, cellO, cellR, newsOf, callArgs, splice, L.pure, not_false_eq_true, decide_true, Int.natCast_nonneg, Int.cast_ofNat_Int, implies_true, reduceCtorEq, Nat.reduceBEq, Nat.reduceEqDiff, Nat.reduceAdd, Nat.reduceLeDiff, Nat.reduceLT, Nat.reduceSub, Nat.reduceMul]
  refine CS.view (eqOpS_ok false false s s) ?_ ?_ rfl ?_
  · simp [argP, argL, argPOk, argOk, idx_nil, vw, vw1, vwOk, vw1Ok, vis_same, vis_ne, fre_same, fre_ne, fre_none, vis_none, DOp.obj, take_map]
  · simp [argP, argL, argPOk, argOk, idx_nil, vw, vw1, vwOk, vw1Ok, vis_same, vis_ne, fre_same, fre_ne, fre_none, vis_none, DOp.obj, take_map]
  simp only [↓WA, WB, ↓reduceIte, opU, foot, PK, LK, footsApart, footP, footL, List.flatMap_cons, List.flatMap_nil, List.filter_nil, key, Nat.mul_zero, Nat.mul_one, opS, sem, mkT, binI, binS, eqLs, eqL, B, I, one, pures, PV.ok, PV.cells, fillL, fillE, List.replicate, cellV, cellO, cellR, newsOf, callArgs, splice, L.pure, not_false_eq_true, decide_true, Int.natCast_nonneg, Int.cast_ofNat_Int, implies_true, reduceCtorEq, Nat.reduceBEq, Nat.reduceEqDiff, Nat.reduceAdd, Nat.reduceLeDiff, Nat.reduceLT, Nat.reduceSub, Nat.reduceMul]
  refine CS.turn 1024 (markOpS_ok s 1 (by omega) (by omega) (by omega)) ?_ rfl (by simp only [↓WA, WB, ↓reduceIte, opU, foot, PK, LK, footsApart, footP, footL, List.flatMap_cons, List.flatMap_nil, List.filter_nil, key, Nat.mul_zero, Nat.mul_one, opS, sem, mkT, binI, binS, eqLs, eqL, B, I, one, pures, PV.ok, PV.cells, fillL, fillE, List.replicate, cellV, cellO, cellR, newsOf, callArgs, splice, L.pure, not_false_eq_true, decide_true, Int.natCast_nonneg, Int.cast_ofNat_Int, implies_true, reduceCtorEq, Nat.reduceBEq, Nat.reduceEqDiff, Nat.reduceAdd, Nat.reduceLeDiff, Nat.reduceLT, Nat.reduceSub, Nat.reduceMul]) rfl rfl rfl rfl rfl ?_
  · simp [argPOk, argOk, idx, vwOk, vw1Ok]
  simp only [↓WA, WB, ↓reduceIte, opU, foot, PK, LK, footsApart, footP, footL, List.flatMap_cons, List.flatMap_nil, List.filter_nil, key, Nat.mul_zero, Nat.mul_one, opS, sem, mkT, binI, binS, eqLs, eqL, B, I, one, pures, PV.ok, PV.cells, fillL, fillE, List.replicate, cellV, cellO, cellR, newsOf, callArgs, splice, L.pure, not_false_eq_true, decide_true, Int.natCast_nonneg, Int.cast_ofNat_Int, implies_true, reduceCtorEq, Nat.reduceBEq, Nat.reduceEqDiff, Nat.reduceAdd, Nat.reduceLeDiff, Nat.reduceLT, Nat.reduceSub, Nat.reduceMul]
  rw [if_pos (by omega)]
  refine CS.view (eqOpS_ok false false r r) ?_ ?_ rfl ?_
  · simp [argP, argL, argPOk, argOk, idx_nil, vw, vw1, vwOk, vw1Ok, vis_same, vis_ne, fre_same, fre_ne, fre_none, vis_none, DOp.obj, take_map]
  · simp [argP, argL, argPOk, argOk, idx_nil, vw, vw1, vwOk, vw1Ok, vis_same, vis_ne, fre_same, fre_ne, fre_none, vis_none, DOp.obj, take_map]
  simp only [↓WA, WB, ↓reduceIte, opU, foot, PK, LK, footsApart, footP, footL, List.flatMap_cons, List.flatMap_nil, List.filter_nil, key, Nat.mul_zero, Nat.mul_one, opS, sem, mkT, binI, binS, eqLs, eqL, B, I, one, pures, PV.ok, PV.cells, fillL, fillE, List.replicate, cellV, cellO, cellR, newsOf, callArgs, splice, L.pure, not_false_eq_true, decide_true, Int.natCast_nonneg, Int.cast_ofNat_Int, implies_true, reduceCtorEq, Nat.reduceBEq, Nat.reduceEqDiff, Nat.reduceAdd, Nat.reduceLeDiff, Nat.reduceLT, Nat.reduceSub, Nat.reduceMul]
  refine CS.turn 1028 (markOpS_ok r 1 (by omega) (by omega) (by omega)) ?_ rfl (by simp only [↓WA, WB, ↓reduceIte, opU, foot, PK, LK, footsApart, footP, footL, List.flatMap_cons, List.flatMap_nil, List.filter_nil, key, Nat.mul_zero, Nat.mul_one, opS, sem, mkT, binI, binS, eqLs, eqL, B, I, one, pures, PV.ok, PV.cells, fillL, fillE, List.replicate, cellV, cellO, cellR, newsOf, callArgs, splice, L.pure, not_false_eq_true, decide_true, Int.natCast_nonneg, Int.cast_ofNat_Int, implies_true, reduceCtorEq, Nat.reduceBEq, Nat.reduceEqDiff, Nat.reduceAdd, Nat.reduceLeDiff, Nat.reduceLT, Nat.reduceSub, Nat.reduceMul]) rfl rfl rfl rfl rfl ?_
  · simp [argPOk, argOk, idx, vwOk, vw1Ok]
  simp only [↓WA, WB, ↓reduceIte, opU, foot, PK, LK, footsApart, footP, footL, List.flatMap_cons, List.flatMap_nil, List.filter_nil, key, Nat.mul_zero, Nat.mul_one, opS, sem, mkT, binI, binS, eqLs, eqL, B, I, one, pures, PV.ok, PV.cells, fillL, fillE, List.replicate, cellV, cellO, cellR, newsOf, callArgs, splice, L.pure, not_false_eq_true, decide_true, Int.natCast_nonneg, Int.cast_ofNat_Int, implies_true, reduceCtorEq, Nat.reduceBEq, Nat.reduceEqDiff, Nat.reduceAdd, Nat.reduceLeDiff, Nat.reduceLT, Nat.reduceSub, Nat.reduceMul]
  refine CS.view (heldOpS_ok false r.length 1 (by omega) (by omega) (by omega)) ?_ ?_ rfl ?_
  · simp [argP, argL, argPOk, argOk, idx_nil, vw, vw1, vwOk, vw1Ok, vis_same, vis_ne, fre_same, fre_ne, fre_none, vis_none, DOp.obj, take_map, markOps_len]
  · simp [argP, argL, argPOk, argOk, idx_nil, vw, vw1, vwOk, vw1Ok, vis_same, vis_ne, fre_same, fre_ne, fre_none, vis_none, DOp.obj, take_map, markOps_len]
    simp [List.take_of_length_le, markOps_len]
  simp only [↓WA, WB, ↓reduceIte, opU, foot, PK, LK, footsApart, footP, footL, List.flatMap_cons, List.flatMap_nil, List.filter_nil, key, Nat.mul_zero, Nat.mul_one, opS, sem, mkT, binI, binS, eqLs, eqL, B, I, one, pures, PV.ok, PV.cells, fillL, fillE, List.replicate, cellV, cellO, cellR, newsOf, callArgs, splice, L.pure, not_false_eq_true, decide_true, Int.natCast_nonneg, Int.cast_ofNat_Int, implies_true, reduceCtorEq, Nat.reduceBEq, Nat.reduceEqDiff, Nat.reduceAdd, Nat.reduceLeDiff, Nat.reduceLT, Nat.reduceSub, Nat.reduceMul]
  rw [if_neg (by omega), if_neg (by simp)]
  refine CS.new (toOpS_ok q s hl) ?_ rfl rfl ?_ ?_
  · simp [argP, argL, argPOk, argOk, idx_nil, vw, vw1, vwOk, vw1Ok, vis_same, vis_ne, fre_same, fre_ne, fre_none, vis_none]
  · simp [argP, argL, argPOk, argOk, idx_nil, vw, vw1, vwOk, vw1Ok, vis_same, vis_ne, fre_same, fre_ne, fre_none, vis_none]
  simp only [↓WA, WB, ↓reduceIte, opU, foot, PK, LK, footsApart, footP, footL, List.flatMap_cons, List.flatMap_nil, List.filter_nil, key, Nat.mul_zero, Nat.mul_one, opS, sem, mkT, binI, binS, eqLs, eqL, B, I, one, pures, PV.ok, PV.cells, fillL, fillE, List.replicate, cellV, cellO, cellR, newsOf, callArgs, splice, L.pure, not_false_eq_true, decide_true, Int.natCast_nonneg, Int.cast_ofNat_Int, implies_true, reduceCtorEq, Nat.reduceBEq, Nat.reduceEqDiff, Nat.reduceAdd, Nat.reduceLeDiff, Nat.reduceLT, Nat.reduceSub, Nat.reduceMul]
  refine CS.plain (toStamp_ok id) rfl rfl ?_
  simp only [Stamp.cs, ↓WA, WB, ↓reduceIte, opU, foot, PK, LK, footsApart, footP, footL, List.flatMap_cons, List.flatMap_nil, List.filter_nil, key, Nat.mul_zero, Nat.mul_one, opS, sem, mkT, binI, binS, eqLs, eqL, B, I, one, pures, PV.ok, PV.cells, fillL, fillE, List.replicate, cellV, cellO, cellR, newsOf, callArgs, splice, L.pure, not_false_eq_true, decide_true, Int.natCast_nonneg, Int.cast_ofNat_Int, implies_true, reduceCtorEq, Nat.reduceBEq, Nat.reduceEqDiff, Nat.reduceAdd, Nat.reduceLeDiff, Nat.reduceLT, Nat.reduceSub, Nat.reduceMul]
  refine CS.new himpl ?_ ?_ rfl ?_ ?_
  · simp [argP, argL, argPOk, argOk, idx_nil, vw, vw1, vwOk, vw1Ok, vis_same, vis_ne, fre_same, fre_ne, fre_none, vis_none, DOp.obj, take_map]
  · simp [argP, argL, argPOk, argOk, idx_nil, vw, vw1, vwOk, vw1Ok, vis_same, vis_ne, fre_same, fre_ne, fre_none, vis_none, DOp.obj, take_map, Stamp.cs]
  · simp [argP, argL, argPOk, argOk, idx_nil, vw, vw1, vwOk, vw1Ok, vis_same, vis_ne, fre_same, fre_ne, fre_none, vis_none]
  simp only [↓WA, WB, ↓reduceIte, opU, foot, PK, LK, footsApart, footP, footL, List.flatMap_cons, List.flatMap_nil, List.filter_nil, key, Nat.mul_zero, Nat.mul_one, opS, sem, mkT, binI, binS, eqLs, eqL, B, I, one, pures, PV.ok, PV.cells, fillL, fillE, List.replicate, cellV, cellO, cellR, newsOf, callArgs, splice, L.pure, not_false_eq_true, decide_true, Int.natCast_nonneg, Int.cast_ofNat_Int, implies_true, reduceCtorEq, Nat.reduceBEq, Nat.reduceEqDiff, Nat.reduceAdd, Nat.reduceLeDiff, Nat.reduceLT, Nat.reduceSub, Nat.reduceMul]
  refine CS.view (eqOpS_ok false false r r) ?_ ?_ rfl ?_
  · simp [argP, argL, argPOk, argOk, idx_nil, vw, vw1, vwOk, vw1Ok, vis_same, vis_ne, fre_same, fre_ne, fre_none, vis_none, DOp.obj, take_map]
  · simp [argP, argL, argPOk, argOk, idx_nil, vw, vw1, vwOk, vw1Ok, vis_same, vis_ne, fre_same, fre_ne, fre_none, vis_none, DOp.obj, take_map]
  simp only [↓WA, WB, ↓reduceIte, opU, foot, PK, LK, footsApart, footP, footL, List.flatMap_cons, List.flatMap_nil, List.filter_nil, key, Nat.mul_zero, Nat.mul_one, opS, sem, mkT, binI, binS, eqLs, eqL, B, I, one, pures, PV.ok, PV.cells, fillL, fillE, List.replicate, cellV, cellO, cellR, newsOf, callArgs, splice, L.pure, not_false_eq_true, decide_true, Int.natCast_nonneg, Int.cast_ofNat_Int, implies_true, reduceCtorEq, Nat.reduceBEq, Nat.reduceEqDiff, Nat.reduceAdd, Nat.reduceLeDiff, Nat.reduceLT, Nat.reduceSub, Nat.reduceMul]
  refine CS.view (heldOpS_ok false r.length 1 (by omega) (by omega) (by omega)) ?_ ?_ rfl ?_
  · simp [argP, argL, argPOk, argOk, idx_nil, vw, vw1, vwOk, vw1Ok, vis_same, vis_ne, fre_same, fre_ne, fre_none, vis_none, DOp.obj, take_map, markOps_len]
  · simp [argP, argL, argPOk, argOk, idx_nil, vw, vw1, vwOk, vw1Ok, vis_same, vis_ne, fre_same, fre_ne, fre_none, vis_none, DOp.obj, take_map, markOps_len]
    simp [List.take_of_length_le, markOps_len]
  simp only [↓WA, WB, ↓reduceIte, opU, foot, PK, LK, footsApart, footP, footL, List.flatMap_cons, List.flatMap_nil, List.filter_nil, key, Nat.mul_zero, Nat.mul_one, opS, sem, mkT, binI, binS, eqLs, eqL, B, I, one, pures, PV.ok, PV.cells, fillL, fillE, List.replicate, cellV, cellO, cellR, newsOf, callArgs, splice, L.pure, not_false_eq_true, decide_true, Int.natCast_nonneg, Int.cast_ofNat_Int, implies_true, reduceCtorEq, Nat.reduceBEq, Nat.reduceEqDiff, Nat.reduceAdd, Nat.reduceLeDiff, Nat.reduceLT, Nat.reduceSub, Nat.reduceMul]
  rw [if_neg (by omega), if_neg (by simp)]
  trivial
end Go.Proofs
