import Derived.Test.YtfbjnipamfbgmaaR2Base
set_option linter.unusedSimpArgs false
set_option linter.unusedVariables false
namespace Go.Proofs
open Go Go.Ab

theorem szOp_ok (o : DOp) (left : Int) (h0 : 0 ≤ left) (h1 : left ≤ 1048576) (hs : o.text.size < 2 ^ 62) : CallOk Try.prog 59 [.agg o.cs, .l (.v (.int .i64 left))] [] (.l (.v (.int .i64 (szStep o.text.size left)))) [] [] := by
  refine callOk_pure1 (fn := Try.f59) (r := .t 4) follows Try.func59 rfl c59_eq (Nat.le_of_ble_eq_true rfl) (by kernel_rfl) rfl (.v _) ?_
  simp only [c59, DOp.cs, ↓WA, WB, ↓reduceIte, opU, foot, PK, LK, footsApart, footP, footL, List.flatMap_cons, List.flatMap_nil, List.filter_nil, List.range_succ, List.range_zero, key, Nat.mul_zero, Nat.mul_one, opS, sem, mkT, binI, binS, eqLs, eqL, B, I, one, pures, PV.ok, PV.cells, fillL, fillE, List.replicate, cellV, cellO, cellR, newsOf, callArgs, splice, L.pure, not_false_eq_true, decide_true, Int.natCast_nonneg, Int.cast_ofNat_Int, implies_true, reduceCtorEq, Nat.reduceBEq, Nat.reduceEqDiff, Nat.reduceAdd, Nat.reduceLeDiff, Nat.reduceLT, Nat.reduceSub, Nat.reduceMul]
  refine ⟨by rw [inK64]; omega, ?_⟩
  split <;> simp [szStep, *]

theorem szOpS_ok (q : Bool) (s : List DOp) (left : Int) (h0 : 0 ≤ left) (h1 : left ≤ 1048576) (hs : ∀ o ∈ s, o.text.size < 2 ^ 62) : CallOk Try.prog 13 [.l (.vs q (s.map DOp.cs)), .l (.v (.int .i64 left))] [] (.l (.v (.int .i64 (szAll (fun o => szStep o.text.size) s left)))) [] [] := by
  refine CallOk.short 0 ⟨_, Try.func13, rfl, rfl⟩ rfl fun hshort => ?_
  have hshort : s.length ≤ 9223372036854775807 := by simpa [maxLen] using hshort
  refine callOk_pure1 (fn := Try.f13) (r := .t 4) follows Try.func13 rfl c13_eq (Nat.le_of_ble_eq_true rfl) (by kernel_rfl) rfl (.v _) ?_
  simp only [c13, List.length_map, ↓WA, WB, ↓reduceIte, opU, foot, PK, LK, footsApart, footP, footL, List.flatMap_cons, List.flatMap_nil, List.filter_nil, List.range_succ, List.range_zero, key, Nat.mul_zero, Nat.mul_one, opS, sem, mkT, binI, binS, eqLs, eqL, B, I, one, pures, PV.ok, PV.cells, fillL, fillE, List.replicate, cellV, cellO, cellR, newsOf, callArgs, splice, L.pure, not_false_eq_true, decide_true, Int.natCast_nonneg, Int.cast_ofNat_Int, implies_true, reduceCtorEq, Nat.reduceBEq, Nat.reduceEqDiff, Nat.reduceAdd, Nat.reduceLeDiff, Nat.reduceLT, Nat.reduceSub, Nat.reduceMul]
  refine ⟨by rw [inK64]; omega, ?_⟩
  split
  · rw [szAll, if_pos ‹_›]
  rename_i hl
  rw [szAll, if_neg hl]
  generalize hl0 : left - (s.length : Int) = l0
  show AW _ _ (.loop _) _ _
  refine AW.loop (fun n st => ∃ (i : Nat) (l : Int), n = s.length - i ∧ i ≤ s.length ∧ 0 ≤ l ∧ l ≤ 1048576 ∧ (s.drop i).foldl (fun z o => if z < 0 then -1 else szStep o.text.size z) l = s.foldl (fun z o => if z < 0 then -1 else szStep o.text.size z) l0 ∧ st = ⟨mkL [(0, .l (.vs q (s.map DOp.cs))), (1, .l (.v (.int .i64 l))), (5, .l (.v (.int .i64 (i : Int))))], fun _ => none⟩) ?_ ?_ (n := s.length)
  · refine Lo.plain [(0, .l (.vs q (s.map DOp.cs))), (1, .l (.v (.int .i64 l0))), (5, .l (.v (.int .i64 ((0 : Nat) : Int))))] ?_ rfl ⟨0, l0, rfl, Nat.zero_le _, by omega, by omega, rfl, rfl⟩
    simp only [↓WA, WB, ↓reduceIte, opU, foot, PK, LK, footsApart, footP, footL, List.flatMap_cons, List.flatMap_nil, List.filter_nil, List.range_succ, List.range_zero, key, Nat.mul_zero, Nat.mul_one, opS, sem, mkT, binI, binS, eqLs, eqL, B, I, one, pures, PV.ok, PV.cells, fillL, fillE, List.replicate, cellV, cellO, cellR, newsOf, callArgs, splice, L.pure, not_false_eq_true, decide_true, Int.natCast_nonneg, Int.cast_ofNat_Int, implies_true, reduceCtorEq, Nat.reduceBEq, Nat.reduceEqDiff, Nat.reduceAdd, Nat.reduceLeDiff, Nat.reduceLT, Nat.reduceSub, Nat.reduceMul]
  · rintro n st ⟨i, l, rfl, hi, hl1, hl2, hf, rfl⟩
    simp only [mkL]
    refine AW_of_wps _ _ _ ?_
    simp only [List.length_map, ↓WA, WB, ↓reduceIte, opU, foot, PK, LK, footsApart, footP, footL, List.flatMap_cons, List.flatMap_nil, List.filter_nil, List.range_succ, List.range_zero, key, Nat.mul_zero, Nat.mul_one, opS, sem, mkT, binI, binS, eqLs, eqL, B, I, one, pures, PV.ok, PV.cells, fillL, fillE, List.replicate, cellV, cellO, cellR, newsOf, callArgs, splice, L.pure, not_false_eq_true, decide_true, Int.natCast_nonneg, Int.cast_ofNat_Int, implies_true, reduceCtorEq, Nat.reduceBEq, Nat.reduceEqDiff, Nat.reduceAdd, Nat.reduceLeDiff, Nat.reduceLT, Nat.reduceSub, Nat.reduceMul]
    split
    · rename_i hlt
      obtain ⟨x, hx⟩ := get_some (l := s) (i := i) (by omega)
      have hx' := get_map (f := DOp.cs) hx
      simp only [hx', DOp.cs, ↓WA, WB, ↓reduceIte, opU, foot, PK, LK, footsApart, footP, footL, List.flatMap_cons, List.flatMap_nil, List.filter_nil, List.range_succ, List.range_zero, key, Nat.mul_zero, Nat.mul_one, opS, sem, mkT, binI, binS, eqLs, eqL, B, I, one, pures, PV.ok, PV.cells, fillL, fillE, List.replicate, cellV, cellO, cellR, newsOf, callArgs, splice, L.pure, not_false_eq_true, decide_true, Int.natCast_nonneg, Int.cast_ofNat_Int, implies_true, reduceCtorEq, Nat.reduceBEq, Nat.reduceEqDiff, Nat.reduceAdd, Nat.reduceLeDiff, Nat.reduceLT, Nat.reduceSub, Nat.reduceMul]
      refine CS.plain (szOp_ok x l hl1 hl2 (hs x (List.mem_of_getElem? hx))) rfl rfl ?_
      rw [drop_cons hx, List.foldl_cons, if_neg (by omega)] at hf
      simp only [↓WA, WB, ↓reduceIte, opU, foot, PK, LK, footsApart, footP, footL, List.flatMap_cons, List.flatMap_nil, List.filter_nil, List.range_succ, List.range_zero, key, Nat.mul_zero, Nat.mul_one, opS, sem, mkT, binI, binS, eqLs, eqL, B, I, one, pures, PV.ok, PV.cells, fillL, fillE, List.replicate, cellV, cellO, cellR, newsOf, callArgs, splice, L.pure, not_false_eq_true, decide_true, Int.natCast_nonneg, Int.cast_ofNat_Int, implies_true, reduceCtorEq, Nat.reduceBEq, Nat.reduceEqDiff, Nat.reduceAdd, Nat.reduceLeDiff, Nat.reduceLT, Nat.reduceSub, Nat.reduceMul]
      split
      · rename_i hneg
        rw [szStep_ge hneg, szFold_neg] at hf
        rw [← hf]
      · rename_i hnn
        refine ⟨by rw [inK64]; omega, s.length - (i + 1), by omega, ?_⟩
        refine Lo.plain [(0, .l (.vs q (s.map DOp.cs))), (1, .l (.v (.int .i64 (szStep x.text.size l)))), (5, .l (.v (.int .i64 (i + 1 : Nat))))] ?_ rfl ⟨i + 1, _, rfl, by omega, by omega, szStep_le hl2, hf, rfl⟩
        simp only [↓WA, WB, ↓reduceIte, opU, foot, PK, LK, footsApart, footP, footL, List.flatMap_cons, List.flatMap_nil, List.filter_nil, List.range_succ, List.range_zero, key, Nat.mul_zero, Nat.mul_one, opS, sem, mkT, binI, binS, eqLs, eqL, B, I, one, pures, PV.ok, PV.cells, fillL, fillE, List.replicate, cellV, cellO, cellR, newsOf, callArgs, splice, L.pure, not_false_eq_true, decide_true, Int.natCast_nonneg, Int.cast_ofNat_Int, implies_true, reduceCtorEq, Nat.reduceBEq, Nat.reduceEqDiff, Nat.reduceAdd, Nat.reduceLeDiff, Nat.reduceLT, Nat.reduceSub, Nat.reduceMul]
        simp
    · rw [List.drop_of_length_le (by omega)] at hf
      simp at hf
      rw [← hf]

theorem toOp_ok (o : DOp) : CallOk Try.prog 62 [.agg o.cs] [] (.agg o.cs) [] [] := by
  refine callOk_pure1 (fn := Try.f62) (r := .c 2 12 true) follows Try.func62 rfl c62_eq (Nat.le_of_ble_eq_true rfl) (by kernel_rfl) rfl o.hb ?_
  simp only [c62, DOp.cs, ↓WA, WB, ↓reduceIte, opU, foot, PK, LK, footsApart, footP, footL, List.flatMap_cons, List.flatMap_nil, List.filter_nil, List.range_succ, List.range_zero, key, Nat.mul_zero, Nat.mul_one, opS, sem, mkT, binI, binS, eqLs, eqL, B, I, one, pures, PV.ok, PV.cells, fillL, fillE, List.replicate, cellV, cellO, cellR, newsOf, callArgs, splice, L.pure, not_false_eq_true, decide_true, Int.natCast_nonneg, Int.cast_ofNat_Int, implies_true, reduceCtorEq, Nat.reduceBEq, Nat.reduceEqDiff, Nat.reduceAdd, Nat.reduceLeDiff, Nat.reduceLT, Nat.reduceSub, Nat.reduceMul]
  refine CS.plain (toStamp_ok ⟨_, _⟩) rfl rfl ?_
  simp only [Stamp.cs, ↓WA, WB, ↓reduceIte, opU, foot, PK, LK, footsApart, footP, footL, List.flatMap_cons, List.flatMap_nil, List.filter_nil, List.range_succ, List.range_zero, key, Nat.mul_zero, Nat.mul_one, opS, sem, mkT, binI, binS, eqLs, eqL, B, I, one, pures, PV.ok, PV.cells, fillL, fillE, List.replicate, cellV, cellO, cellR, newsOf, callArgs, splice, L.pure, not_false_eq_true, decide_true, Int.natCast_nonneg, Int.cast_ofNat_Int, implies_true, reduceCtorEq, Nat.reduceBEq, Nat.reduceEqDiff, Nat.reduceAdd, Nat.reduceLeDiff, Nat.reduceLT, Nat.reduceSub, Nat.reduceMul]
  refine CS.plain (toStamp_ok ⟨_, _⟩) rfl rfl ?_
  simp only [Stamp.cs, ↓WA, WB, ↓reduceIte, opU, foot, PK, LK, footsApart, footP, footL, List.flatMap_cons, List.flatMap_nil, List.filter_nil, List.range_succ, List.range_zero, key, Nat.mul_zero, Nat.mul_one, opS, sem, mkT, binI, binS, eqLs, eqL, B, I, one, pures, PV.ok, PV.cells, fillL, fillE, List.replicate, cellV, cellO, cellR, newsOf, callArgs, splice, L.pure, not_false_eq_true, decide_true, Int.natCast_nonneg, Int.cast_ofNat_Int, implies_true, reduceCtorEq, Nat.reduceBEq, Nat.reduceEqDiff, Nat.reduceAdd, Nat.reduceLeDiff, Nat.reduceLT, Nat.reduceSub, Nat.reduceMul]
  refine CS.plain (toStamp_ok ⟨_, _⟩) rfl rfl ?_
  simp only [Stamp.cs, ↓WA, WB, ↓reduceIte, opU, foot, PK, LK, footsApart, footP, footL, List.flatMap_cons, List.flatMap_nil, List.filter_nil, List.range_succ, List.range_zero, key, Nat.mul_zero, Nat.mul_one, opS, sem, mkT, binI, binS, eqLs, eqL, B, I, one, pures, PV.ok, PV.cells, fillL, fillE, List.replicate, cellV, cellO, cellR, newsOf, callArgs, splice, L.pure, not_false_eq_true, decide_true, Int.natCast_nonneg, Int.cast_ofNat_Int, implies_true, reduceCtorEq, Nat.reduceBEq, Nat.reduceEqDiff, Nat.reduceAdd, Nat.reduceLeDiff, Nat.reduceLT, Nat.reduceSub, Nat.reduceMul]
  refine CS.plain (toStamp_ok ⟨_, _⟩) rfl rfl ?_
  simp only [Stamp.cs, ↓WA, WB, ↓reduceIte, opU, foot, PK, LK, footsApart, footP, footL, List.flatMap_cons, List.flatMap_nil, List.filter_nil, List.range_succ, List.range_zero, key, Nat.mul_zero, Nat.mul_one, opS, sem, mkT, binI, binS, eqLs, eqL, B, I, one, pures, PV.ok, PV.cells, fillL, fillE, List.replicate, cellV, cellO, cellR, newsOf, callArgs, splice, L.pure, not_false_eq_true, decide_true, Int.natCast_nonneg, Int.cast_ofNat_Int, implies_true, reduceCtorEq, Nat.reduceBEq, Nat.reduceEqDiff, Nat.reduceAdd, Nat.reduceLeDiff, Nat.reduceLT, Nat.reduceSub, Nat.reduceMul]

theorem toOpS_ok (q : Bool) (s : List DOp) (hl : s.length * 104 ≤ 140737488355328) : CallOk Try.prog 15 [.l (.vs q (s.map DOp.cs))] [] (.l (.sl 0 0 s.length)) [] [DOp.obj (s.map DOp.cs)] := by
  refine callOk_new (fn := Try.f15) (r := .t 2) follows Try.func15 rfl c15_eq (Nat.le_of_ble_eq_true rfl) (by kernel_rfl) rfl rfl (rows_hb DOp.hb s) ?_
  simp only [c15, List.length_map, ↓WA, WB, ↓reduceIte, opU, foot, PK, LK, footsApart, footP, footL, List.flatMap_cons, List.flatMap_nil, List.filter_nil, List.range_succ, List.range_zero, key, Nat.mul_zero, Nat.mul_one, opS, sem, mkT, binI, binS, eqLs, eqL, B, I, one, pures, PV.ok, PV.cells, fillL, fillE, List.replicate, cellV, cellO, cellR, newsOf, callArgs, splice, L.pure, not_false_eq_true, decide_true, Int.natCast_nonneg, Int.cast_ofNat_Int, implies_true, reduceCtorEq, Nat.reduceBEq, Nat.reduceEqDiff, Nat.reduceAdd, Nat.reduceLeDiff, Nat.reduceLT, Nat.reduceSub, Nat.reduceMul]
  refine ⟨by omega, ?_⟩
  show AW _ _ (.loop _) _ _
  refine AW.loop (fun n st => ∃ (i : Nat), n = s.length - i ∧ i ≤ s.length ∧ st = ⟨mkL [(0, .l (.vs q (s.map DOp.cs))), (3, .l (.sl 1007 0 s.length)), (4, .l (.v (.int .i64 (i : Int))))], mkH [(1007, DOp.obj (filled DOp.zero DOp.cs s i))]⟩) ?_ ?_ (n := s.length)
  · refine Lo.own [(0, .l (.vs q (s.map DOp.cs))), (3, .l (.sl 1007 0 s.length)), (4, .l (.v (.int .i64 ((0 : Nat) : Int))))] [(1007, 1007, DOp.obj (filled DOp.zero DOp.cs s 0))] ?_ rfl ?_ rfl (by simp) (by simp) ⟨0, rfl, Nat.zero_le _, rfl⟩
    · simp only [gOf, renP, renL, ↓WA, WB, ↓reduceIte, opU, foot, PK, LK, footsApart, footP, footL, List.flatMap_cons, List.flatMap_nil, List.filter_nil, List.range_succ, List.range_zero, key, Nat.mul_zero, Nat.mul_one, opS, sem, mkT, binI, binS, eqLs, eqL, B, I, one, pures, PV.ok, PV.cells, fillL, fillE, List.replicate, cellV, cellO, cellR, newsOf, callArgs, splice, L.pure, not_false_eq_true, decide_true, Int.natCast_nonneg, Int.cast_ofNat_Int, implies_true, reduceCtorEq, Nat.reduceBEq, Nat.reduceEqDiff, Nat.reduceAdd, Nat.reduceLeDiff, Nat.reduceLT, Nat.reduceSub, Nat.reduceMul]
    · simp only [↓WA, WB, ↓reduceIte, opU, foot, PK, LK, footsApart, footP, footL, List.flatMap_cons, List.flatMap_nil, List.filter_nil, List.range_succ, List.range_zero, key, Nat.mul_zero, Nat.mul_one, opS, sem, mkT, binI, binS, eqLs, eqL, B, I, one, pures, PV.ok, PV.cells, fillL, fillE, List.replicate, cellV, cellO, cellR, newsOf, callArgs, splice, L.pure, not_false_eq_true, decide_true, Int.natCast_nonneg, Int.cast_ofNat_Int, implies_true, reduceCtorEq, Nat.reduceBEq, Nat.reduceEqDiff, Nat.reduceAdd, Nat.reduceLeDiff, Nat.reduceLT, Nat.reduceSub, Nat.reduceMul]
      refine ⟨0, Nat.zero_le _, ?_⟩
      simp [filled_zero, DOp.obj, DOp.zero]
  · rintro n st ⟨i, rfl, hi, rfl⟩
    simp only [mkL, mkH]
    refine AW_of_wps _ _ _ ?_
    simp only [List.length_map, ↓WA, WB, ↓reduceIte, opU, foot, PK, LK, footsApart, footP, footL, List.flatMap_cons, List.flatMap_nil, List.filter_nil, List.range_succ, List.range_zero, key, Nat.mul_zero, Nat.mul_one, opS, sem, mkT, binI, binS, eqLs, eqL, B, I, one, pures, PV.ok, PV.cells, fillL, fillE, List.replicate, cellV, cellO, cellR, newsOf, callArgs, splice, L.pure, not_false_eq_true, decide_true, Int.natCast_nonneg, Int.cast_ofNat_Int, implies_true, reduceCtorEq, Nat.reduceBEq, Nat.reduceEqDiff, Nat.reduceAdd, Nat.reduceLeDiff, Nat.reduceLT, Nat.reduceSub, Nat.reduceMul]
    split
    · rename_i hlt
      obtain ⟨x, hx⟩ := get_some (l := s) (i := i) (by omega)
      have hx' := get_map (f := DOp.cs) hx
      have hg := filled_get (z := DOp.zero) (cs := DOp.cs) (s := s) (i := i) (by omega)
      rw [show some DOp.zero = some _ from congrArg some DOp.zero.eq_def] at hg
      simp only [hx', DOp.cs, ↓WA, WB, ↓reduceIte, opU, foot, PK, LK, footsApart, footP, footL, List.flatMap_cons, List.flatMap_nil, List.filter_nil, List.range_succ, List.range_zero, key, Nat.mul_zero, Nat.mul_one, opS, sem, mkT, binI, binS, eqLs, eqL, B, I, one, pures, PV.ok, PV.cells, fillL, fillE, List.replicate, cellV, cellO, cellR, newsOf, callArgs, splice, L.pure, not_false_eq_true, decide_true, Int.natCast_nonneg, Int.cast_ofNat_Int, implies_true, reduceCtorEq, Nat.reduceBEq, Nat.reduceEqDiff, Nat.reduceAdd, Nat.reduceLeDiff, Nat.reduceLT, Nat.reduceSub, Nat.reduceMul]
      refine CS.plain (toOp_ok x) rfl rfl ?_
      simp only [hg, DOp.obj, DOp.cs, ↓WA, WB, ↓reduceIte, opU, foot, PK, LK, footsApart, footP, footL, List.flatMap_cons, List.flatMap_nil, List.filter_nil, List.range_succ, List.range_zero, key, Nat.mul_zero, Nat.mul_one, opS, sem, mkT, binI, binS, eqLs, eqL, B, I, one, pures, PV.ok, PV.cells, fillL, fillE, List.replicate, cellV, cellO, cellR, newsOf, callArgs, splice, L.pure, not_false_eq_true, decide_true, Int.natCast_nonneg, Int.cast_ofNat_Int, implies_true, reduceCtorEq, Nat.reduceBEq, Nat.reduceEqDiff, Nat.reduceAdd, Nat.reduceLeDiff, Nat.reduceLT, Nat.reduceSub, Nat.reduceMul]
      refine ⟨by omega, by rw [inK64]; omega, s.length - (i + 1), by omega, ?_⟩
      refine Lo.own [(0, .l (.vs q (s.map DOp.cs))), (3, .l (.sl 1007 0 s.length)), (4, .l (.v (.int .i64 (i + 1 : Nat))))] [(1007, 1007, DOp.obj (filled DOp.zero DOp.cs s (i + 1)))] ?_ rfl ?_ rfl (by simp) (by simp) ⟨i + 1, rfl, by omega, rfl⟩
      · simp only [gOf, renP, renL, ↓WA, WB, ↓reduceIte, opU, foot, PK, LK, footsApart, footP, footL, List.flatMap_cons, List.flatMap_nil, List.filter_nil, List.range_succ, List.range_zero, key, Nat.mul_zero, Nat.mul_one, opS, sem, mkT, binI, binS, eqLs, eqL, B, I, one, pures, PV.ok, PV.cells, fillL, fillE, List.replicate, cellV, cellO, cellR, newsOf, callArgs, splice, L.pure, not_false_eq_true, decide_true, Int.natCast_nonneg, Int.cast_ofNat_Int, implies_true, reduceCtorEq, Nat.reduceBEq, Nat.reduceEqDiff, Nat.reduceAdd, Nat.reduceLeDiff, Nat.reduceLT, Nat.reduceSub, Nat.reduceMul]
        simp
      · simp only [↓WA, WB, ↓reduceIte, opU, foot, PK, LK, footsApart, footP, footL, List.flatMap_cons, List.flatMap_nil, List.filter_nil, List.range_succ, List.range_zero, key, Nat.mul_zero, Nat.mul_one, opS, sem, mkT, binI, binS, eqLs, eqL, B, I, one, pures, PV.ok, PV.cells, fillL, fillE, List.replicate, cellV, cellO, cellR, newsOf, callArgs, splice, L.pure, not_false_eq_true, decide_true, Int.natCast_nonneg, Int.cast_ofNat_Int, implies_true, reduceCtorEq, Nat.reduceBEq, Nat.reduceEqDiff, Nat.reduceAdd, Nat.reduceLeDiff, Nat.reduceLT, Nat.reduceSub, Nat.reduceMul]
        refine ⟨0, Nat.zero_le _, ?_⟩
        simp only [DOp.obj, ← filled_set hx]
        rfl
    · refine ⟨1007, 0, rfl, ?_, Nat.zero_le _⟩
      rw [upd_same, filled_all (by omega)]
      rfl

theorem eqOp_ok (s t : DOp) : CallOk Try.prog 22 [.agg s.cs, .agg t.cs] [] (.l (.v (.bool (decide (s = t))))) [] [] := by
  refine callOk_pure1 (fn := Try.f22) (r := .t 4) follows Try.func22 rfl c22_eq (Nat.le_of_ble_eq_true rfl) (by kernel_rfl) rfl (.v _) ?_
  obtain ⟨⟨q, a⟩, k, ⟨tq, ta⟩, ⟨fq, fa⟩, ⟨nq, na⟩, v, e, tx⟩ := s
  obtain ⟨⟨q', a'⟩, k', ⟨tq', ta'⟩, ⟨fq', fa'⟩, ⟨nq', na'⟩, v', e', tx'⟩ := t
  simp only [c22, DOp.cs, ↓WA, WB, ↓reduceIte, opU, foot, PK, LK, footsApart, footP, footL, List.flatMap_cons, List.flatMap_nil, List.filter_nil, List.range_succ, List.range_zero, key, Nat.mul_zero, Nat.mul_one, opS, sem, mkT, binI, binS, eqLs, eqL, B, I, one, pures, PV.ok, PV.cells, fillL, fillE, List.replicate, cellV, cellO, cellR, newsOf, callArgs, splice, L.pure, not_false_eq_true, decide_true, Int.natCast_nonneg, Int.cast_ofNat_Int, implies_true, reduceCtorEq, Nat.reduceBEq, Nat.reduceEqDiff, Nat.reduceAdd, Nat.reduceLeDiff, Nat.reduceLT, Nat.reduceSub, Nat.reduceMul]
  refine CS.plain (eqStamp_ok ⟨_, _⟩ ⟨_, _⟩) rfl rfl ?_
  simp only [↓WA, WB, ↓reduceIte, opU, foot, PK, LK, footsApart, footP, footL, List.flatMap_cons, List.flatMap_nil, List.filter_nil, List.range_succ, List.range_zero, key, Nat.mul_zero, Nat.mul_one, opS, sem, mkT, binI, binS, eqLs, eqL, B, I, one, pures, PV.ok, PV.cells, fillL, fillE, List.replicate, cellV, cellO, cellR, newsOf, callArgs, splice, L.pure, not_false_eq_true, decide_true, Int.natCast_nonneg, Int.cast_ofNat_Int, implies_true, reduceCtorEq, Nat.reduceBEq, Nat.reduceEqDiff, Nat.reduceAdd, Nat.reduceLeDiff, Nat.reduceLT, Nat.reduceSub, Nat.reduceMul]
  split
  · refine bEq ?_; grind
  split
  · refine bEq ?_; grind
  refine CS.plain (eqStamp_ok ⟨_, _⟩ ⟨_, _⟩) rfl rfl ?_
  simp only [↓WA, WB, ↓reduceIte, opU, foot, PK, LK, footsApart, footP, footL, List.flatMap_cons, List.flatMap_nil, List.filter_nil, List.range_succ, List.range_zero, key, Nat.mul_zero, Nat.mul_one, opS, sem, mkT, binI, binS, eqLs, eqL, B, I, one, pures, PV.ok, PV.cells, fillL, fillE, List.replicate, cellV, cellO, cellR, newsOf, callArgs, splice, L.pure, not_false_eq_true, decide_true, Int.natCast_nonneg, Int.cast_ofNat_Int, implies_true, reduceCtorEq, Nat.reduceBEq, Nat.reduceEqDiff, Nat.reduceAdd, Nat.reduceLeDiff, Nat.reduceLT, Nat.reduceSub, Nat.reduceMul]
  split
  · refine bEq ?_; grind
  refine CS.plain (eqStamp_ok ⟨_, _⟩ ⟨_, _⟩) rfl rfl ?_
  simp only [↓WA, WB, ↓reduceIte, opU, foot, PK, LK, footsApart, footP, footL, List.flatMap_cons, List.flatMap_nil, List.filter_nil, List.range_succ, List.range_zero, key, Nat.mul_zero, Nat.mul_one, opS, sem, mkT, binI, binS, eqLs, eqL, B, I, one, pures, PV.ok, PV.cells, fillL, fillE, List.replicate, cellV, cellO, cellR, newsOf, callArgs, splice, L.pure, not_false_eq_true, decide_true, Int.natCast_nonneg, Int.cast_ofNat_Int, implies_true, reduceCtorEq, Nat.reduceBEq, Nat.reduceEqDiff, Nat.reduceAdd, Nat.reduceLeDiff, Nat.reduceLT, Nat.reduceSub, Nat.reduceMul]
  split
  · refine bEq ?_; grind
  refine CS.plain (eqStamp_ok ⟨_, _⟩ ⟨_, _⟩) rfl rfl ?_
  simp only [↓WA, WB, ↓reduceIte, opU, foot, PK, LK, footsApart, footP, footL, List.flatMap_cons, List.flatMap_nil, List.filter_nil, List.range_succ, List.range_zero, key, Nat.mul_zero, Nat.mul_one, opS, sem, mkT, binI, binS, eqLs, eqL, B, I, one, pures, PV.ok, PV.cells, fillL, fillE, List.replicate, cellV, cellO, cellR, newsOf, callArgs, splice, L.pure, not_false_eq_true, decide_true, Int.natCast_nonneg, Int.cast_ofNat_Int, implies_true, reduceCtorEq, Nat.reduceBEq, Nat.reduceEqDiff, Nat.reduceAdd, Nat.reduceLeDiff, Nat.reduceLT, Nat.reduceSub, Nat.reduceMul]
  split
  · refine bEq ?_; grind
  split
  · refine bEq ?_; grind
  split
  · refine bEq ?_; grind
  split <;> (refine bEq ?_; grind)

theorem eqOpS_ok (q q' : Bool) (s t : List DOp) : CallOk Try.prog 18 [.l (.vs q (s.map DOp.cs)), .l (.vs q' (t.map DOp.cs))] [] (.l (.v (.bool (decide (s = t))))) [] [] := by
  refine callOk_pure1 (fn := Try.f18) (r := .t 4) follows Try.func18 rfl c18_eq (Nat.le_of_ble_eq_true rfl) (by kernel_rfl) rfl (.v _) ?_
  simp only [c18, List.length_map, ↓WA, WB, ↓reduceIte, opU, foot, PK, LK, footsApart, footP, footL, List.flatMap_cons, List.flatMap_nil, List.filter_nil, List.range_succ, List.range_zero, key, Nat.mul_zero, Nat.mul_one, opS, sem, mkT, binI, binS, eqLs, eqL, B, I, one, pures, PV.ok, PV.cells, fillL, fillE, List.replicate, cellV, cellO, cellR, newsOf, callArgs, splice, L.pure, not_false_eq_true, decide_true, Int.natCast_nonneg, Int.cast_ofNat_Int, implies_true, reduceCtorEq, Nat.reduceBEq, Nat.reduceEqDiff, Nat.reduceAdd, Nat.reduceLeDiff, Nat.reduceLT, Nat.reduceSub, Nat.reduceMul]
  split
  · rename_i h
    have : s ≠ t := fun e => h (by rw [e])
    simp [this]
  rename_i hlen
  have hlen : s.length = t.length := by omega
  show AW _ _ (.loop _) _ _
  refine AW.loop (fun n st => ∃ i : Nat, n = s.length - i ∧ i ≤ s.length ∧ s.take i = t.take i ∧ st = ⟨mkL [(0, .l (.vs q (s.map DOp.cs))), (1, .l (.vs q' (t.map DOp.cs))), (5, .l (.v (.int .i64 (i : Int))))], fun _ => none⟩) ?_ ?_ (n := s.length)
  · refine Lo.plain [(0, .l (.vs q (s.map DOp.cs))), (1, .l (.vs q' (t.map DOp.cs))), (5, .l (.v (.int .i64 ((0 : Nat) : Int))))] ?_ rfl ⟨0, rfl, Nat.zero_le _, rfl, rfl⟩
    simp only [↓WA, WB, ↓reduceIte, opU, foot, PK, LK, footsApart, footP, footL, List.flatMap_cons, List.flatMap_nil, List.filter_nil, List.range_succ, List.range_zero, key, Nat.mul_zero, Nat.mul_one, opS, sem, mkT, binI, binS, eqLs, eqL, B, I, one, pures, PV.ok, PV.cells, fillL, fillE, List.replicate, cellV, cellO, cellR, newsOf, callArgs, splice, L.pure, not_false_eq_true, decide_true, Int.natCast_nonneg, Int.cast_ofNat_Int, implies_true, reduceCtorEq, Nat.reduceBEq, Nat.reduceEqDiff, Nat.reduceAdd, Nat.reduceLeDiff, Nat.reduceLT, Nat.reduceSub, Nat.reduceMul]
  · rintro n st ⟨i, rfl, hi, hall, rfl⟩
    refine AW.short (t := 0) rfl fun hshort => ?_
    simp only [mkL]
    refine AW_of_wps _ _ _ ?_
    simp only [List.length_map, ↓WA, WB, ↓reduceIte, opU, foot, PK, LK, footsApart, footP, footL, List.flatMap_cons, List.flatMap_nil, List.filter_nil, List.range_succ, List.range_zero, key, Nat.mul_zero, Nat.mul_one, opS, sem, mkT, binI, binS, eqLs, eqL, B, I, one, pures, PV.ok, PV.cells, fillL, fillE, List.replicate, cellV, cellO, cellR, newsOf, callArgs, splice, L.pure, not_false_eq_true, decide_true, Int.natCast_nonneg, Int.cast_ofNat_Int, implies_true, reduceCtorEq, Nat.reduceBEq, Nat.reduceEqDiff, Nat.reduceAdd, Nat.reduceLeDiff, Nat.reduceLT, Nat.reduceSub, Nat.reduceMul]
    split
    · rename_i hlt
      obtain ⟨x, hx⟩ := get_some (l := s) (i := i) (by omega)
      obtain ⟨y, hy⟩ := get_some (l := t) (i := i) (by omega)
      have hx' := get_map (f := DOp.cs) hx
      have hy' := get_map (f := DOp.cs) hy
      simp only [hx', hy', DOp.cs, ↓WA, WB, ↓reduceIte, opU, foot, PK, LK, footsApart, footP, footL, List.flatMap_cons, List.flatMap_nil, List.filter_nil, List.range_succ, List.range_zero, key, Nat.mul_zero, Nat.mul_one, opS, sem, mkT, binI, binS, eqLs, eqL, B, I, one, pures, PV.ok, PV.cells, fillL, fillE, List.replicate, cellV, cellO, cellR, newsOf, callArgs, splice, L.pure, not_false_eq_true, decide_true, Int.natCast_nonneg, Int.cast_ofNat_Int, implies_true, reduceCtorEq, Nat.reduceBEq, Nat.reduceEqDiff, Nat.reduceAdd, Nat.reduceLeDiff, Nat.reduceLT, Nat.reduceSub, Nat.reduceMul]
      refine CS.plain (eqOp_ok x y) rfl rfl ?_
      simp only [↓WA, WB, ↓reduceIte, opU, foot, PK, LK, footsApart, footP, footL, List.flatMap_cons, List.flatMap_nil, List.filter_nil, List.range_succ, List.range_zero, key, Nat.mul_zero, Nat.mul_one, opS, sem, mkT, binI, binS, eqLs, eqL, B, I, one, pures, PV.ok, PV.cells, fillL, fillE, List.replicate, cellV, cellO, cellR, newsOf, callArgs, splice, L.pure, not_false_eq_true, decide_true, Int.natCast_nonneg, Int.cast_ofNat_Int, implies_true, reduceCtorEq, Nat.reduceBEq, Nat.reduceEqDiff, Nat.reduceAdd, Nat.reduceLeDiff, Nat.reduceLT, Nat.reduceSub, Nat.reduceMul]
      split
      · rename_i hne
        have : s ≠ t := fun e => by subst e; rw [hx] at hy; cases hy; simp at hne
        simp [this]
      · rename_i he
        simp at he
        refine ⟨by rw [inK64]; have : s.length ≤ maxLen := by simpa using hshort
                   unfold maxLen at this; omega, s.length - (i + 1), by omega, ?_⟩
        refine Lo.plain [(0, .l (.vs q (s.map DOp.cs))), (1, .l (.vs q' (t.map DOp.cs))), (5, .l (.v (.int .i64 (i + 1 : Nat))))] ?_ rfl ⟨i + 1, rfl, by omega, take_succ_eq hx hy hall he, rfl⟩
        simp only [↓WA, WB, ↓reduceIte, opU, foot, PK, LK, footsApart, footP, footL, List.flatMap_cons, List.flatMap_nil, List.filter_nil, List.range_succ, List.range_zero, key, Nat.mul_zero, Nat.mul_one, opS, sem, mkT, binI, binS, eqLs, eqL, B, I, one, pures, PV.ok, PV.cells, fillL, fillE, List.replicate, cellV, cellO, cellR, newsOf, callArgs, splice, L.pure, not_false_eq_true, decide_true, Int.natCast_nonneg, Int.cast_ofNat_Int, implies_true, reduceCtorEq, Nat.reduceBEq, Nat.reduceEqDiff, Nat.reduceAdd, Nat.reduceLeDiff, Nat.reduceLT, Nat.reduceSub, Nat.reduceMul]
        simp
    · rw [eq_of_take hlen (by omega) hall]
      simp
end Go.Proofs
