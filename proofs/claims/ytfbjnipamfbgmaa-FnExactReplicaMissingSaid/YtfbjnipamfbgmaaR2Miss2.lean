import Derived.Test.YtfbjnipamfbgmaaR2Miss
set_option linter.unusedSimpArgs false
set_option linter.unusedVariables false
namespace Go.Proofs
open Go Go.Ab

def mis (r : Rep) (v : List Int) (i : Nat) : List Msg := ((r.log.take i).filter fun o => !vecHas v o.id).map (msgOf r.log)

theorem mis_le (r : Rep) (v : List Int) (i : Nat) : (mis r v i).length ≤ i := by
  have h1 := List.length_filter_le (fun o => !vecHas v o.id) (r.log.take i)
  have h2 := List.length_take_le i r.log
  simp only [mis, List.length_map]
  omega

theorem mis_skip {r : Rep} {v : List Int} {i : Nat} {x : DOp} (hx : r.log[i]? = some x) (h : vecHas v x.id = true) : mis r v (i + 1) = mis r v i := by
  simp [mis, filter_snoc hx, h]

theorem mis_grow {r : Rep} {v : List Int} {i : Nat} {x : DOp} (hx : r.log[i]? = some x) (h : vecHas v x.id = false) : mis r v (i + 1) = mis r v i ++ [msgOf r.log x] := by
  simp [mis, filter_snoc hx, h]

theorem mis_all (r : Rep) (v : List Int) : mis r v r.log.length = missing r v := by simp [mis, missing]

theorem validRep_log {r : Rep} (h : validRep r = true) : validLog r.log = true := by
  simp only [validRep, Bool.and_eq_true] at h; exact h.1.1.2

theorem validVec_len {v : List Int} (h : validVec v = true) : v.length = 3 := by
  simp only [validVec, Bool.and_eq_true, decide_eq_true_eq] at h; exact h.2

theorem specReplicaMissing_bad (q1 q2 q : Bool) (r : Rep) (v : List Int) (hr : repLt r) (hv : validRep r = true → validVec v = false) : CallOk Try.prog 50 [.agg (r.cells q1 q2), .l (.vs q (v.map ics))] [] (.l .emp) [] [] := by
  refine callOk_pure1 (fn := Try.f50) (r := .t 4) follows Try.func50 rfl c50_eq (Nat.le_of_ble_eq_true rfl) (by kernel_rfl) rfl .emp ?_
  simp only [c50, Rep.cells, ↓WA, WB, ↓reduceIte, opU, foot, PK, LK, footsApart, footP, footL, List.flatMap_cons, List.flatMap_nil, List.filter_nil, key, Nat.mul_zero, Nat.mul_one, opS, sem, mkT, binI, binS, eqLs, eqL, B, I, one, pures, PV.ok, PV.cells, fillL, fillE, List.replicate, cellV, cellO, cellR, newsOf, callArgs, splice, L.pure, not_false_eq_true, decide_true, Int.natCast_nonneg, Int.cast_ofNat_Int, implies_true, reduceCtorEq, Nat.reduceBEq, Nat.reduceEqDiff, Nat.reduceAdd, Nat.reduceLeDiff, Nat.reduceLT, Nat.reduceSub, Nat.reduceMul]
  refine CS.plain (specValidReplica_ok' q1 q2 r hr) rfl rfl ?_
  simp only [↓WA, WB, ↓reduceIte, opU, foot, PK, LK, footsApart, footP, footL, List.flatMap_cons, List.flatMap_nil, List.filter_nil, key, Nat.mul_zero, Nat.mul_one, opS, sem, mkT, binI, binS, eqLs, eqL, B, I, one, pures, PV.ok, PV.cells, fillL, fillE, List.replicate, cellV, cellO, cellR, newsOf, callArgs, splice, L.pure, not_false_eq_true, decide_true, Int.natCast_nonneg, Int.cast_ofNat_Int, implies_true, reduceCtorEq, Nat.reduceBEq, Nat.reduceEqDiff, Nat.reduceAdd, Nat.reduceLeDiff, Nat.reduceLT, Nat.reduceSub, Nat.reduceMul]
  by_cases h : validRep r = true
  · simp only [h, ↓WA, WB, ↓reduceIte, opU, foot, PK, LK, footsApart, footP, footL, List.flatMap_cons, List.flatMap_nil, List.filter_nil, key, Nat.mul_zero, Nat.mul_one, opS, sem, mkT, binI, binS, eqLs, eqL, B, I, one, pures, PV.ok, PV.cells, fillL, fillE, List.replicate, cellV, cellO, cellR, newsOf, callArgs, splice, L.pure, not_false_eq_true, decide_true, Int.natCast_nonneg, Int.cast_ofNat_Int, implies_true, reduceCtorEq, Nat.reduceBEq, Nat.reduceEqDiff, Nat.reduceAdd, Nat.reduceLeDiff, Nat.reduceLT, Nat.reduceSub, Nat.reduceMul]
    refine CS.plain (specValidVector_ok q v) rfl rfl ?_
    simp only [hv h, ↓WA, WB, ↓reduceIte, opU, foot, PK, LK, footsApart, footP, footL, List.flatMap_cons, List.flatMap_nil, List.filter_nil, key, Nat.mul_zero, Nat.mul_one, opS, sem, mkT, binI, binS, eqLs, eqL, B, I, one, pures, PV.ok, PV.cells, fillL, fillE, List.replicate, cellV, cellO, cellR, newsOf, callArgs, splice, L.pure, not_false_eq_true, decide_true, Int.natCast_nonneg, Int.cast_ofNat_Int, implies_true, reduceCtorEq, Nat.reduceBEq, Nat.reduceEqDiff, Nat.reduceAdd, Nat.reduceLeDiff, Nat.reduceLT, Nat.reduceSub, Nat.reduceMul]
  · have h : validRep r = false := by simpa using h
    simp only [h, ↓WA, WB, ↓reduceIte, opU, foot, PK, LK, footsApart, footP, footL, List.flatMap_cons, List.flatMap_nil, List.filter_nil, key, Nat.mul_zero, Nat.mul_one, opS, sem, mkT, binI, binS, eqLs, eqL, B, I, one, pures, PV.ok, PV.cells, fillL, fillE, List.replicate, cellV, cellO, cellR, newsOf, callArgs, splice, L.pure, not_false_eq_true, decide_true, Int.natCast_nonneg, Int.cast_ofNat_Int, implies_true, reduceCtorEq, Nat.reduceBEq, Nat.reduceEqDiff, Nat.reduceAdd, Nat.reduceLeDiff, Nat.reduceLT, Nat.reduceSub, Nat.reduceMul]

theorem implReplicaMissing_bad (q1 q2 q : Bool) (r : Rep) (v : List Int) (hr : repLt r) (hv : validRep r = true → validVec v = false) : CallOk Try.prog 52 [.agg (r.cells q1 q2), .l (.vs q (v.map ics))] [] (.l .emp) [] [] := by
  refine callOk_pure1 (fn := Try.f52) (r := .t 4) follows Try.func52 rfl c52_eq (Nat.le_of_ble_eq_true rfl) (by kernel_rfl) rfl .emp ?_
  simp only [c52, Rep.cells, ↓WA, WB, ↓reduceIte, opU, foot, PK, LK, footsApart, footP, footL, List.flatMap_cons, List.flatMap_nil, List.filter_nil, key, Nat.mul_zero, Nat.mul_one, opS, sem, mkT, binI, binS, eqLs, eqL, B, I, one, pures, PV.ok, PV.cells, fillL, fillE, List.replicate, cellV, cellO, cellR, newsOf, callArgs, splice, L.pure, not_false_eq_true, decide_true, Int.natCast_nonneg, Int.cast_ofNat_Int, implies_true, reduceCtorEq, Nat.reduceBEq, Nat.reduceEqDiff, Nat.reduceAdd, Nat.reduceLeDiff, Nat.reduceLT, Nat.reduceSub, Nat.reduceMul]
  refine CS.plain (implValidReplica_ok q1 q2 r hr) rfl rfl ?_
  simp only [↓WA, WB, ↓reduceIte, opU, foot, PK, LK, footsApart, footP, footL, List.flatMap_cons, List.flatMap_nil, List.filter_nil, key, Nat.mul_zero, Nat.mul_one, opS, sem, mkT, binI, binS, eqLs, eqL, B, I, one, pures, PV.ok, PV.cells, fillL, fillE, List.replicate, cellV, cellO, cellR, newsOf, callArgs, splice, L.pure, not_false_eq_true, decide_true, Int.natCast_nonneg, Int.cast_ofNat_Int, implies_true, reduceCtorEq, Nat.reduceBEq, Nat.reduceEqDiff, Nat.reduceAdd, Nat.reduceLeDiff, Nat.reduceLT, Nat.reduceSub, Nat.reduceMul]
  by_cases h : validRep r = true
  · simp only [h, ↓WA, WB, ↓reduceIte, opU, foot, PK, LK, footsApart, footP, footL, List.flatMap_cons, List.flatMap_nil, List.filter_nil, key, Nat.mul_zero, Nat.mul_one, opS, sem, mkT, binI, binS, eqLs, eqL, B, I, one, pures, PV.ok, PV.cells, fillL, fillE, List.replicate, cellV, cellO, cellR, newsOf, callArgs, splice, L.pure, not_false_eq_true, decide_true, Int.natCast_nonneg, Int.cast_ofNat_Int, implies_true, reduceCtorEq, Nat.reduceBEq, Nat.reduceEqDiff, Nat.reduceAdd, Nat.reduceLeDiff, Nat.reduceLT, Nat.reduceSub, Nat.reduceMul]
    refine CS.plain (implValidVector_ok q v) rfl rfl ?_
    simp only [hv h, ↓WA, WB, ↓reduceIte, opU, foot, PK, LK, footsApart, footP, footL, List.flatMap_cons, List.flatMap_nil, List.filter_nil, key, Nat.mul_zero, Nat.mul_one, opS, sem, mkT, binI, binS, eqLs, eqL, B, I, one, pures, PV.ok, PV.cells, fillL, fillE, List.replicate, cellV, cellO, cellR, newsOf, callArgs, splice, L.pure, not_false_eq_true, decide_true, Int.natCast_nonneg, Int.cast_ofNat_Int, implies_true, reduceCtorEq, Nat.reduceBEq, Nat.reduceEqDiff, Nat.reduceAdd, Nat.reduceLeDiff, Nat.reduceLT, Nat.reduceSub, Nat.reduceMul]
  · have h : validRep r = false := by simpa using h
    simp only [h, ↓WA, WB, ↓reduceIte, opU, foot, PK, LK, footsApart, footP, footL, List.flatMap_cons, List.flatMap_nil, List.filter_nil, key, Nat.mul_zero, Nat.mul_one, opS, sem, mkT, binI, binS, eqLs, eqL, B, I, one, pures, PV.ok, PV.cells, fillL, fillE, List.replicate, cellV, cellO, cellR, newsOf, callArgs, splice, L.pure, not_false_eq_true, decide_true, Int.natCast_nonneg, Int.cast_ofNat_Int, implies_true, reduceCtorEq, Nat.reduceBEq, Nat.reduceEqDiff, Nat.reduceAdd, Nat.reduceLeDiff, Nat.reduceLT, Nat.reduceSub, Nat.reduceMul]

theorem specReplicaMissing_ok (q1 q2 q : Bool) (r : Rep) (v : List Int) (hr : repLt r) (hvr : validRep r = true) (hv : validVec v = true) : CallOk Try.prog 50 [.agg (r.cells q1 q2), .l (.vs q (v.map ics))] [] (.l (.sl 0 0 (missing r v).length)) [] [Msg.obj ((missing r v).map Msg.cs)] := by
  have hvl := validRep_log hvr
  have hlen := validLog_len hvl
  have hva := validLog_all hvl
  have hv3 := validVec_len hv
  refine callOk_new (fn := Try.f50) (r := .t 4) follows Try.func50 rfl c50_eq (Nat.le_of_ble_eq_true rfl) (by kernel_rfl) rfl rfl (rows_hb Msg.hb _) ?_
  simp only [c50, Rep.cells, ↓WA, WB, ↓reduceIte, opU, foot, PK, LK, footsApart, footP, footL, List.flatMap_cons, List.flatMap_nil, List.filter_nil, key, Nat.mul_zero, Nat.mul_one, opS, sem, mkT, binI, binS, eqLs, eqL, B, I, one, pures, PV.ok, PV.cells, fillL, fillE, List.replicate, cellV, cellO, cellR, newsOf, callArgs, splice, L.pure, not_false_eq_true, decide_true, Int.natCast_nonneg, Int.cast_ofNat_Int, implies_true, reduceCtorEq, Nat.reduceBEq, Nat.reduceEqDiff, Nat.reduceAdd, Nat.reduceLeDiff, Nat.reduceLT, Nat.reduceSub, Nat.reduceMul]
  refine CS.plain (specValidReplica_ok' q1 q2 r hr) rfl rfl ?_
  simp only [hvr, ↓WA, WB, ↓reduceIte, opU, foot, PK, LK, footsApart, footP, footL, List.flatMap_cons, List.flatMap_nil, List.filter_nil, key, Nat.mul_zero, Nat.mul_one, opS, sem, mkT, binI, binS, eqLs, eqL, B, I, one, pures, PV.ok, PV.cells, fillL, fillE, List.replicate, cellV, cellO, cellR, newsOf, callArgs, splice, L.pure, not_false_eq_true, decide_true, Int.natCast_nonneg, Int.cast_ofNat_Int, implies_true, reduceCtorEq, Nat.reduceBEq, Nat.reduceEqDiff, Nat.reduceAdd, Nat.reduceLeDiff, Nat.reduceLT, Nat.reduceSub, Nat.reduceMul]
  refine CS.plain (specValidVector_ok q v) rfl rfl ?_
  simp only [hv, ↓WA, WB, ↓reduceIte, opU, foot, PK, LK, footsApart, footP, footL, List.flatMap_cons, List.flatMap_nil, List.filter_nil, key, Nat.mul_zero, Nat.mul_one, opS, sem, mkT, binI, binS, eqLs, eqL, B, I, one, pures, PV.ok, PV.cells, fillL, fillE, List.replicate, cellV, cellO, cellR, newsOf, callArgs, splice, L.pure, not_false_eq_true, decide_true, Int.natCast_nonneg, Int.cast_ofNat_Int, implies_true, reduceCtorEq, Nat.reduceBEq, Nat.reduceEqDiff, Nat.reduceAdd, Nat.reduceLeDiff, Nat.reduceLT, Nat.reduceSub, Nat.reduceMul]
  show AW _ _ (.loop _) _ _
  refine AW.empty 5 2000 13 (by simp only [↓WA, WB, ↓reduceIte, opU, foot, PK, LK, footsApart, footP, footL, List.flatMap_cons, List.flatMap_nil, List.filter_nil, key, Nat.mul_zero, Nat.mul_one, opS, sem, mkT, binI, binS, eqLs, eqL, B, I, one, pures, PV.ok, PV.cells, fillL, fillE, List.replicate, cellV, cellO, cellR, newsOf, callArgs, splice, L.pure, not_false_eq_true, decide_true, Int.natCast_nonneg, Int.cast_ofNat_Int, implies_true, reduceCtorEq, Nat.reduceBEq, Nat.reduceEqDiff, Nat.reduceAdd, Nat.reduceLeDiff, Nat.reduceLT, Nat.reduceSub, Nat.reduceMul]) (by simp only [↓WA, WB, ↓reduceIte, opU, foot, PK, LK, footsApart, footP, footL, List.flatMap_cons, List.flatMap_nil, List.filter_nil, key, Nat.mul_zero, Nat.mul_one, opS, sem, mkT, binI, binS, eqLs, eqL, B, I, one, pures, PV.ok, PV.cells, fillL, fillE, List.replicate, cellV, cellO, cellR, newsOf, callArgs, splice, L.pure, not_false_eq_true, decide_true, Int.natCast_nonneg, Int.cast_ofNat_Int, implies_true, reduceCtorEq, Nat.reduceBEq, Nat.reduceEqDiff, Nat.reduceAdd, Nat.reduceLeDiff, Nat.reduceLT, Nat.reduceSub, Nat.reduceMul]) (by omega) ?_
  refine AW.count r.log.length (fun i st => st = ⟨mkL [(1, .l (.vs q (v.map ics))), (2, .l (.ptr 1002 0 0)), (5, .l (.sl 2000 0 (mis r v i).length)), (6, .l (.v (.int .i64 (i : Int))))], mkH [(1002, ⟨0, true, 3, [r.cells q1 q2]⟩), (2000, (Msg.obj ((mis r v i).map Msg.cs)))]⟩) ?_ ?_
  · refine Lo.own [(1, .l (.vs q (v.map ics))), (2, .l (.ptr 1002 0 0)), (5, .l (.sl 2000 0 (mis r v (0 : Nat)).length)), (6, .l (.v (.int .i64 ((0 : Nat) : Int))))] [(1002, 1002, ⟨0, true, 3, [r.cells q1 q2]⟩), (2000, 2000, (Msg.obj ((mis r v 0).map Msg.cs)))] ?_ rfl ?_ rfl (by simp) (by simp) rfl
    · simp only [gOf, renP, renL, ↓WA, WB, ↓reduceIte, opU, foot, PK, LK, footsApart, footP, footL, List.flatMap_cons, List.flatMap_nil, List.filter_nil, key, Nat.mul_zero, Nat.mul_one, opS, sem, mkT, binI, binS, eqLs, eqL, B, I, one, pures, PV.ok, PV.cells, fillL, fillE, List.replicate, cellV, cellO, cellR, newsOf, callArgs, splice, L.pure, not_false_eq_true, decide_true, Int.natCast_nonneg, Int.cast_ofNat_Int, implies_true, reduceCtorEq, Nat.reduceBEq, Nat.reduceEqDiff, Nat.reduceAdd, Nat.reduceLeDiff, Nat.reduceLT, Nat.reduceSub, Nat.reduceMul]
      simp [mis]
    · simp only [Msg.obj, Rep.cells, ↓WA, WB, ↓reduceIte, opU, foot, PK, LK, footsApart, footP, footL, List.flatMap_cons, List.flatMap_nil, List.filter_nil, key, Nat.mul_zero, Nat.mul_one, opS, sem, mkT, binI, binS, eqLs, eqL, B, I, one, pures, PV.ok, PV.cells, fillL, fillE, List.replicate, cellV, cellO, cellR, newsOf, callArgs, splice, L.pure, not_false_eq_true, decide_true, Int.natCast_nonneg, Int.cast_ofNat_Int, implies_true, reduceCtorEq, Nat.reduceBEq, Nat.reduceEqDiff, Nat.reduceAdd, Nat.reduceLeDiff, Nat.reduceLT, Nat.reduceSub, Nat.reduceMul]
      exact ⟨⟨0, Nat.zero_le _, rfl⟩, ⟨0, Nat.zero_le _, rfl⟩⟩
  · rintro i st hi rfl
    have hmi : (mis r v i).length ≤ 40 := Nat.le_trans (mis_le r v i) (by omega)
    simp only [mkL, mkH, Rep.cells]
    refine AW_of_wps _ _ _ ?_
    simp only [List.length_map, ↓WA, WB, ↓reduceIte, opU, foot, PK, LK, footsApart, footP, footL, List.flatMap_cons, List.flatMap_nil, List.filter_nil, key, Nat.mul_zero, Nat.mul_one, opS, sem, mkT, binI, binS, eqLs, eqL, B, I, one, pures, PV.ok, PV.cells, fillL, fillE, List.replicate, cellV, cellO, cellR, newsOf, callArgs, splice, L.pure, not_false_eq_true, decide_true, Int.natCast_nonneg, Int.cast_ofNat_Int, implies_true, reduceCtorEq, Nat.reduceBEq, Nat.reduceEqDiff, Nat.reduceAdd, Nat.reduceLeDiff, Nat.reduceLT, Nat.reduceSub, Nat.reduceMul]
    split
    · rename_i hlt
      obtain ⟨x, hx⟩ := get_some (l := r.log) (i := i) (by omega)
      have hx' := get_map (f := DOp.cs) hx
      have hst := validStamp_iff.mp (log_stamps hva x (List.mem_of_getElem? hx))
      obtain ⟨n, hn⟩ := get_some (l := v) (i := x.id.a.toNat) (by omega)
      simp only [hx', DOp.cs, ↓WA, WB, ↓reduceIte, opU, foot, PK, LK, footsApart, footP, footL, List.flatMap_cons, List.flatMap_nil, List.filter_nil, key, Nat.mul_zero, Nat.mul_one, opS, sem, mkT, binI, binS, eqLs, eqL, B, I, one, pures, PV.ok, PV.cells, fillL, fillE, List.replicate, cellV, cellO, cellR, newsOf, callArgs, splice, L.pure, not_false_eq_true, decide_true, Int.natCast_nonneg, Int.cast_ofNat_Int, implies_true, reduceCtorEq, Nat.reduceBEq, Nat.reduceEqDiff, Nat.reduceAdd, Nat.reduceLeDiff, Nat.reduceLT, Nat.reduceSub, Nat.reduceMul]
      refine CS.plain (specVecHas_ok q v x.id n (by omega) hn) rfl rfl ?_
      simp only [↓WA, WB, ↓reduceIte, opU, foot, PK, LK, footsApart, footP, footL, List.flatMap_cons, List.flatMap_nil, List.filter_nil, key, Nat.mul_zero, Nat.mul_one, opS, sem, mkT, binI, binS, eqLs, eqL, B, I, one, pures, PV.ok, PV.cells, fillL, fillE, List.replicate, cellV, cellO, cellR, newsOf, callArgs, splice, L.pure, not_false_eq_true, decide_true, Int.natCast_nonneg, Int.cast_ofNat_Int, implies_true, reduceCtorEq, Nat.reduceBEq, Nat.reduceEqDiff, Nat.reduceAdd, Nat.reduceLeDiff, Nat.reduceLT, Nat.reduceSub, Nat.reduceMul]
      by_cases hh : vecHas v x.id = true
      · have hm := mis_skip hx hh
        simp only [hh, ↓WA, WB, ↓reduceIte, opU, foot, PK, LK, footsApart, footP, footL, List.flatMap_cons, List.flatMap_nil, List.filter_nil, key, Nat.mul_zero, Nat.mul_one, opS, sem, mkT, binI, binS, eqLs, eqL, B, I, one, pures, PV.ok, PV.cells, fillL, fillE, List.replicate, cellV, cellO, cellR, newsOf, callArgs, splice, L.pure, not_false_eq_true, decide_true, Int.natCast_nonneg, Int.cast_ofNat_Int, implies_true, reduceCtorEq, Nat.reduceBEq, Nat.reduceEqDiff, Nat.reduceAdd, Nat.reduceLeDiff, Nat.reduceLT, Nat.reduceSub, Nat.reduceMul]
        refine ⟨by rw [inK64]; omega, by omega, ?_⟩
        refine Lo.own [(1, .l (.vs q (v.map ics))), (2, .l (.ptr 1002 0 0)), (5, .l (.sl 2000 0 (mis r v (i + 1 : Nat)).length)), (6, .l (.v (.int .i64 ((i + 1 : Nat) : Int))))] [(1002, 1002, ⟨0, true, 3, [r.cells q1 q2]⟩), (2000, 2000, (Msg.obj ((mis r v (i + 1)).map Msg.cs)))] ?_ rfl ?_ rfl (by simp) (by simp) rfl
        · simp only [gOf, renP, renL, hm, ↓WA, WB, ↓reduceIte, opU, foot, PK, LK, footsApart, footP, footL, List.flatMap_cons, List.flatMap_nil, List.filter_nil, key, Nat.mul_zero, Nat.mul_one, opS, sem, mkT, binI, binS, eqLs, eqL, B, I, one, pures, PV.ok, PV.cells, fillL, fillE, List.replicate, cellV, cellO, cellR, newsOf, callArgs, splice, L.pure, not_false_eq_true, decide_true, Int.natCast_nonneg, Int.cast_ofNat_Int, implies_true, reduceCtorEq, Nat.reduceBEq, Nat.reduceEqDiff, Nat.reduceAdd, Nat.reduceLeDiff, Nat.reduceLT, Nat.reduceSub, Nat.reduceMul]
          simp
        · simp only [Msg.obj, hm, Rep.cells, ↓WA, WB, ↓reduceIte, opU, foot, PK, LK, footsApart, footP, footL, List.flatMap_cons, List.flatMap_nil, List.filter_nil, key, Nat.mul_zero, Nat.mul_one, opS, sem, mkT, binI, binS, eqLs, eqL, B, I, one, pures, PV.ok, PV.cells, fillL, fillE, List.replicate, cellV, cellO, cellR, newsOf, callArgs, splice, L.pure, not_false_eq_true, decide_true, Int.natCast_nonneg, Int.cast_ofNat_Int, implies_true, reduceCtorEq, Nat.reduceBEq, Nat.reduceEqDiff, Nat.reduceAdd, Nat.reduceLeDiff, Nat.reduceLT, Nat.reduceSub, Nat.reduceMul]
          simp
      · have hh : vecHas v x.id = false := by simpa using hh
        have hm := mis_grow hx hh
        simp only [hh, hx', DOp.cs, ↓WA, WB, ↓reduceIte, opU, foot, PK, LK, footsApart, footP, footL, List.flatMap_cons, List.flatMap_nil, List.filter_nil, key, Nat.mul_zero, Nat.mul_one, opS, sem, mkT, binI, binS, eqLs, eqL, B, I, one, pures, PV.ok, PV.cells, fillL, fillE, List.replicate, cellV, cellO, cellR, newsOf, callArgs, splice, L.pure, not_false_eq_true, decide_true, Int.natCast_nonneg, Int.cast_ofNat_Int, implies_true, reduceCtorEq, Nat.reduceBEq, Nat.reduceEqDiff, Nat.reduceAdd, Nat.reduceLeDiff, Nat.reduceLT, Nat.reduceSub, Nat.reduceMul]
        refine CS.plain (makeMessage_ok q1 r.log x (by omega)) rfl rfl ?_
        simp only [Msg.obj, Msg.cs, DOp.cs, ↓WA, WB, ↓reduceIte, opU, foot, PK, LK, footsApart, footP, footL, List.flatMap_cons, List.flatMap_nil, List.filter_nil, key, Nat.mul_zero, Nat.mul_one, opS, sem, mkT, binI, binS, eqLs, eqL, B, I, one, pures, PV.ok, PV.cells, fillL, fillE, List.replicate, cellV, cellO, cellR, newsOf, callArgs, splice, L.pure, not_false_eq_true, decide_true, Int.natCast_nonneg, Int.cast_ofNat_Int, implies_true, reduceCtorEq, Nat.reduceBEq, Nat.reduceEqDiff, Nat.reduceAdd, Nat.reduceLeDiff, Nat.reduceLT, Nat.reduceSub, Nat.reduceMul]
        refine ⟨⟨.inl trivial, by simp, .inl trivial, by unfold maxLen; omega, by omega⟩, by rw [inK64]; omega, by omega, ?_⟩
        refine Lo.own [(1, .l (.vs q (v.map ics))), (2, .l (.ptr 1002 0 0)), (5, .l (.sl 2000 0 (mis r v (i + 1 : Nat)).length)), (6, .l (.v (.int .i64 ((i + 1 : Nat) : Int))))] [(1002, 1002, ⟨0, true, 3, [r.cells q1 q2]⟩), (2000, 1042, (Msg.obj ((mis r v (i + 1)).map Msg.cs)))] ?_ rfl ?_ rfl (by simp) (by simp) rfl
        · simp only [gOf, renP, renL, hm, ↓WA, WB, ↓reduceIte, opU, foot, PK, LK, footsApart, footP, footL, List.flatMap_cons, List.flatMap_nil, List.filter_nil, key, Nat.mul_zero, Nat.mul_one, opS, sem, mkT, binI, binS, eqLs, eqL, B, I, one, pures, PV.ok, PV.cells, fillL, fillE, List.replicate, cellV, cellO, cellR, newsOf, callArgs, splice, L.pure, not_false_eq_true, decide_true, Int.natCast_nonneg, Int.cast_ofNat_Int, implies_true, reduceCtorEq, Nat.reduceBEq, Nat.reduceEqDiff, Nat.reduceAdd, Nat.reduceLeDiff, Nat.reduceLT, Nat.reduceSub, Nat.reduceMul]
          simp
        · simp only [Msg.obj, hm, Rep.cells, ↓WA, WB, ↓reduceIte, opU, foot, PK, LK, footsApart, footP, footL, List.flatMap_cons, List.flatMap_nil, List.filter_nil, key, Nat.mul_zero, Nat.mul_one, opS, sem, mkT, binI, binS, eqLs, eqL, B, I, one, pures, PV.ok, PV.cells, fillL, fillE, List.replicate, cellV, cellO, cellR, newsOf, callArgs, splice, L.pure, not_false_eq_true, decide_true, Int.natCast_nonneg, Int.cast_ofNat_Int, implies_true, reduceCtorEq, Nat.reduceBEq, Nat.reduceEqDiff, Nat.reduceAdd, Nat.reduceLeDiff, Nat.reduceLT, Nat.reduceSub, Nat.reduceMul]
          refine ⟨⟨0, Nat.zero_le _, rfl⟩, 1, Nat.le_refl _, ?_⟩
          simp [take_map, Msg.cs, DOp.cs]
    · have : i = r.log.length := by omega
      subst this
      refine ⟨2000, 0, ?_, ?_, Nat.zero_le _⟩
      · simp [mis_all]
      · simp [upd, Msg.obj, mis_all]

theorem implReplicaMissing_ok (q1 q2 q : Bool) (r : Rep) (v : List Int) (hr : repLt r) (hvr : validRep r = true) (hv : validVec v = true) : CallOk Try.prog 52 [.agg (r.cells q1 q2), .l (.vs q (v.map ics))] [] (.l (.sl 0 0 (missing r v).length)) [] [Msg.obj ((missing r v).map Msg.cs)] := by
  have hvl := validRep_log hvr
  have hlen := validLog_len hvl
  have hva := validLog_all hvl
  have hv3 := validVec_len hv
  refine callOk_new (fn := Try.f52) (r := .t 4) follows Try.func52 rfl c52_eq (Nat.le_of_ble_eq_true rfl) (by kernel_rfl) rfl rfl (rows_hb Msg.hb _) ?_
  simp only [c52, Rep.cells, ↓WA, WB, ↓reduceIte, opU, foot, PK, LK, footsApart, footP, footL, List.flatMap_cons, List.flatMap_nil, List.filter_nil, key, Nat.mul_zero, Nat.mul_one, opS, sem, mkT, binI, binS, eqLs, eqL, B, I, one, pures, PV.ok, PV.cells, fillL, fillE, List.replicate, cellV, cellO, cellR, newsOf, callArgs, splice, L.pure, not_false_eq_true, decide_true, Int.natCast_nonneg, Int.cast_ofNat_Int, implies_true, reduceCtorEq, Nat.reduceBEq, Nat.reduceEqDiff, Nat.reduceAdd, Nat.reduceLeDiff, Nat.reduceLT, Nat.reduceSub, Nat.reduceMul]
  refine CS.plain (implValidReplica_ok q1 q2 r hr) rfl rfl ?_
  simp only [hvr, ↓WA, WB, ↓reduceIte, opU, foot, PK, LK, footsApart, footP, footL, List.flatMap_cons, List.flatMap_nil, List.filter_nil, key, Nat.mul_zero, Nat.mul_one, opS, sem, mkT, binI, binS, eqLs, eqL, B, I, one, pures, PV.ok, PV.cells, fillL, fillE, List.replicate, cellV, cellO, cellR, newsOf, callArgs, splice, L.pure, not_false_eq_true, decide_true, Int.natCast_nonneg, Int.cast_ofNat_Int, implies_true, reduceCtorEq, Nat.reduceBEq, Nat.reduceEqDiff, Nat.reduceAdd, Nat.reduceLeDiff, Nat.reduceLT, Nat.reduceSub, Nat.reduceMul]
  refine CS.plain (implValidVector_ok q v) rfl rfl ?_
  simp only [hv, List.length_map, ↓WA, WB, ↓reduceIte, opU, foot, PK, LK, footsApart, footP, footL, List.flatMap_cons, List.flatMap_nil, List.filter_nil, key, Nat.mul_zero, Nat.mul_one, opS, sem, mkT, binI, binS, eqLs, eqL, B, I, one, pures, PV.ok, PV.cells, fillL, fillE, List.replicate, cellV, cellO, cellR, newsOf, callArgs, splice, L.pure, not_false_eq_true, decide_true, Int.natCast_nonneg, Int.cast_ofNat_Int, implies_true, reduceCtorEq, Nat.reduceBEq, Nat.reduceEqDiff, Nat.reduceAdd, Nat.reduceLeDiff, Nat.reduceLT, Nat.reduceSub, Nat.reduceMul]
  show AW _ _ (.loop _) _ _
  refine AW.empty 5 2000 13 (by simp only [↓WA, WB, ↓reduceIte, opU, foot, PK, LK, footsApart, footP, footL, List.flatMap_cons, List.flatMap_nil, List.filter_nil, key, Nat.mul_zero, Nat.mul_one, opS, sem, mkT, binI, binS, eqLs, eqL, B, I, one, pures, PV.ok, PV.cells, fillL, fillE, List.replicate, cellV, cellO, cellR, newsOf, callArgs, splice, L.pure, not_false_eq_true, decide_true, Int.natCast_nonneg, Int.cast_ofNat_Int, implies_true, reduceCtorEq, Nat.reduceBEq, Nat.reduceEqDiff, Nat.reduceAdd, Nat.reduceLeDiff, Nat.reduceLT, Nat.reduceSub, Nat.reduceMul]) (by simp only [↓WA, WB, ↓reduceIte, opU, foot, PK, LK, footsApart, footP, footL, List.flatMap_cons, List.flatMap_nil, List.filter_nil, key, Nat.mul_zero, Nat.mul_one, opS, sem, mkT, binI, binS, eqLs, eqL, B, I, one, pures, PV.ok, PV.cells, fillL, fillE, List.replicate, cellV, cellO, cellR, newsOf, callArgs, splice, L.pure, not_false_eq_true, decide_true, Int.natCast_nonneg, Int.cast_ofNat_Int, implies_true, reduceCtorEq, Nat.reduceBEq, Nat.reduceEqDiff, Nat.reduceAdd, Nat.reduceLeDiff, Nat.reduceLT, Nat.reduceSub, Nat.reduceMul]) (by omega) ?_
  refine AW.count r.log.length (fun i st => st = ⟨mkL [(1, .l (.vs q (v.map ics))), (2, .l (.ptr 1002 0 0)), (5, .l (.sl 2000 0 (mis r v i).length)), (18, .l (.vs q1 (r.log.map DOp.cs))), (19, .l (.v (.int .i64 (r.log.length : Int)))), (20, .l (.v (.int .i64 (i : Int))))], mkH [(1002, ⟨0, true, 3, [r.cells q1 q2]⟩), (2000, (Msg.obj ((mis r v i).map Msg.cs)))]⟩) ?_ ?_
  · refine Lo.own [(1, .l (.vs q (v.map ics))), (2, .l (.ptr 1002 0 0)), (5, .l (.sl 2000 0 (mis r v (0 : Nat)).length)), (18, .l (.vs q1 (r.log.map DOp.cs))), (19, .l (.v (.int .i64 (r.log.length : Int)))), (20, .l (.v (.int .i64 ((0 : Nat) : Int))))] [(1002, 1002, ⟨0, true, 3, [r.cells q1 q2]⟩), (2000, 2000, (Msg.obj ((mis r v 0).map Msg.cs)))] ?_ rfl ?_ rfl (by simp) (by simp) rfl
    · simp only [gOf, renP, renL, ↓WA, WB, ↓reduceIte, opU, foot, PK, LK, footsApart, footP, footL, List.flatMap_cons, List.flatMap_nil, List.filter_nil, key, Nat.mul_zero, Nat.mul_one, opS, sem, mkT, binI, binS, eqLs, eqL, B, I, one, pures, PV.ok, PV.cells, fillL, fillE, List.replicate, cellV, cellO, cellR, newsOf, callArgs, splice, L.pure, not_false_eq_true, decide_true, Int.natCast_nonneg, Int.cast_ofNat_Int, implies_true, reduceCtorEq, Nat.reduceBEq, Nat.reduceEqDiff, Nat.reduceAdd, Nat.reduceLeDiff, Nat.reduceLT, Nat.reduceSub, Nat.reduceMul]
      simp [mis]
    · simp only [Msg.obj, Rep.cells, ↓WA, WB, ↓reduceIte, opU, foot, PK, LK, footsApart, footP, footL, List.flatMap_cons, List.flatMap_nil, List.filter_nil, key, Nat.mul_zero, Nat.mul_one, opS, sem, mkT, binI, binS, eqLs, eqL, B, I, one, pures, PV.ok, PV.cells, fillL, fillE, List.replicate, cellV, cellO, cellR, newsOf, callArgs, splice, L.pure, not_false_eq_true, decide_true, Int.natCast_nonneg, Int.cast_ofNat_Int, implies_true, reduceCtorEq, Nat.reduceBEq, Nat.reduceEqDiff, Nat.reduceAdd, Nat.reduceLeDiff, Nat.reduceLT, Nat.reduceSub, Nat.reduceMul]
      exact ⟨⟨0, Nat.zero_le _, rfl⟩, ⟨0, Nat.zero_le _, rfl⟩⟩
  · rintro i st hi rfl
    have hmi : (mis r v i).length ≤ 40 := Nat.le_trans (mis_le r v i) (by omega)
    simp only [mkL, mkH, Rep.cells]
    refine AW_of_wps _ _ _ ?_
    simp only [List.length_map, ↓WA, WB, ↓reduceIte, opU, foot, PK, LK, footsApart, footP, footL, List.flatMap_cons, List.flatMap_nil, List.filter_nil, key, Nat.mul_zero, Nat.mul_one, opS, sem, mkT, binI, binS, eqLs, eqL, B, I, one, pures, PV.ok, PV.cells, fillL, fillE, List.replicate, cellV, cellO, cellR, newsOf, callArgs, splice, L.pure, not_false_eq_true, decide_true, Int.natCast_nonneg, Int.cast_ofNat_Int, implies_true, reduceCtorEq, Nat.reduceBEq, Nat.reduceEqDiff, Nat.reduceAdd, Nat.reduceLeDiff, Nat.reduceLT, Nat.reduceSub, Nat.reduceMul]
    split
    · rename_i hlt
      obtain ⟨x, hx⟩ := get_some (l := r.log) (i := i) (by omega)
      have hx' := get_map (f := DOp.cs) hx
      simp only [hx', DOp.cs, ↓WA, WB, ↓reduceIte, opU, foot, PK, LK, footsApart, footP, footL, List.flatMap_cons, List.flatMap_nil, List.filter_nil, key, Nat.mul_zero, Nat.mul_one, opS, sem, mkT, binI, binS, eqLs, eqL, B, I, one, pures, PV.ok, PV.cells, fillL, fillE, List.replicate, cellV, cellO, cellR, newsOf, callArgs, splice, L.pure, not_false_eq_true, decide_true, Int.natCast_nonneg, Int.cast_ofNat_Int, implies_true, reduceCtorEq, Nat.reduceBEq, Nat.reduceEqDiff, Nat.reduceAdd, Nat.reduceLeDiff, Nat.reduceLT, Nat.reduceSub, Nat.reduceMul]
      refine CS.plain (implVecHas_ok q v x.id hv (log_stamps hva x (List.mem_of_getElem? hx))) rfl rfl ?_
      simp only [↓WA, WB, ↓reduceIte, opU, foot, PK, LK, footsApart, footP, footL, List.flatMap_cons, List.flatMap_nil, List.filter_nil, key, Nat.mul_zero, Nat.mul_one, opS, sem, mkT, binI, binS, eqLs, eqL, B, I, one, pures, PV.ok, PV.cells, fillL, fillE, List.replicate, cellV, cellO, cellR, newsOf, callArgs, splice, L.pure, not_false_eq_true, decide_true, Int.natCast_nonneg, Int.cast_ofNat_Int, implies_true, reduceCtorEq, Nat.reduceBEq, Nat.reduceEqDiff, Nat.reduceAdd, Nat.reduceLeDiff, Nat.reduceLT, Nat.reduceSub, Nat.reduceMul]
      by_cases hh : vecHas v x.id = true
      · have hm := mis_skip hx hh
        simp only [hh, ↓WA, WB, ↓reduceIte, opU, foot, PK, LK, footsApart, footP, footL, List.flatMap_cons, List.flatMap_nil, List.filter_nil, key, Nat.mul_zero, Nat.mul_one, opS, sem, mkT, binI, binS, eqLs, eqL, B, I, one, pures, PV.ok, PV.cells, fillL, fillE, List.replicate, cellV, cellO, cellR, newsOf, callArgs, splice, L.pure, not_false_eq_true, decide_true, Int.natCast_nonneg, Int.cast_ofNat_Int, implies_true, reduceCtorEq, Nat.reduceBEq, Nat.reduceEqDiff, Nat.reduceAdd, Nat.reduceLeDiff, Nat.reduceLT, Nat.reduceSub, Nat.reduceMul]
        refine ⟨by rw [inK64]; omega, by omega, ?_⟩
        refine Lo.own [(1, .l (.vs q (v.map ics))), (2, .l (.ptr 1002 0 0)), (5, .l (.sl 2000 0 (mis r v (i + 1 : Nat)).length)), (18, .l (.vs q1 (r.log.map DOp.cs))), (19, .l (.v (.int .i64 (r.log.length : Int)))), (20, .l (.v (.int .i64 ((i + 1 : Nat) : Int))))] [(1002, 1002, ⟨0, true, 3, [r.cells q1 q2]⟩), (2000, 2000, (Msg.obj ((mis r v (i + 1)).map Msg.cs)))] ?_ rfl ?_ rfl (by simp) (by simp) rfl
        · simp only [gOf, renP, renL, hm, ↓WA, WB, ↓reduceIte, opU, foot, PK, LK, footsApart, footP, footL, List.flatMap_cons, List.flatMap_nil, List.filter_nil, key, Nat.mul_zero, Nat.mul_one, opS, sem, mkT, binI, binS, eqLs, eqL, B, I, one, pures, PV.ok, PV.cells, fillL, fillE, List.replicate, cellV, cellO, cellR, newsOf, callArgs, splice, L.pure, not_false_eq_true, decide_true, Int.natCast_nonneg, Int.cast_ofNat_Int, implies_true, reduceCtorEq, Nat.reduceBEq, Nat.reduceEqDiff, Nat.reduceAdd, Nat.reduceLeDiff, Nat.reduceLT, Nat.reduceSub, Nat.reduceMul]
          simp
        · simp only [Msg.obj, hm, Rep.cells, ↓WA, WB, ↓reduceIte, opU, foot, PK, LK, footsApart, footP, footL, List.flatMap_cons, List.flatMap_nil, List.filter_nil, key, Nat.mul_zero, Nat.mul_one, opS, sem, mkT, binI, binS, eqLs, eqL, B, I, one, pures, PV.ok, PV.cells, fillL, fillE, List.replicate, cellV, cellO, cellR, newsOf, callArgs, splice, L.pure, not_false_eq_true, decide_true, Int.natCast_nonneg, Int.cast_ofNat_Int, implies_true, reduceCtorEq, Nat.reduceBEq, Nat.reduceEqDiff, Nat.reduceAdd, Nat.reduceLeDiff, Nat.reduceLT, Nat.reduceSub, Nat.reduceMul]
          simp
      · have hh : vecHas v x.id = false := by simpa using hh
        have hm := mis_grow hx hh
        simp only [hh, hx', DOp.cs, ↓WA, WB, ↓reduceIte, opU, foot, PK, LK, footsApart, footP, footL, List.flatMap_cons, List.flatMap_nil, List.filter_nil, key, Nat.mul_zero, Nat.mul_one, opS, sem, mkT, binI, binS, eqLs, eqL, B, I, one, pures, PV.ok, PV.cells, fillL, fillE, List.replicate, cellV, cellO, cellR, newsOf, callArgs, splice, L.pure, not_false_eq_true, decide_true, Int.natCast_nonneg, Int.cast_ofNat_Int, implies_true, reduceCtorEq, Nat.reduceBEq, Nat.reduceEqDiff, Nat.reduceAdd, Nat.reduceLeDiff, Nat.reduceLT, Nat.reduceSub, Nat.reduceMul]
        refine CS.plain (previous_ok q1 r.log x.id (by omega)) rfl rfl ?_
        simp only [Msg.obj, Msg.cs, DOp.cs, ↓WA, WB, ↓reduceIte, opU, foot, PK, LK, footsApart, footP, footL, List.flatMap_cons, List.flatMap_nil, List.filter_nil, key, Nat.mul_zero, Nat.mul_one, opS, sem, mkT, binI, binS, eqLs, eqL, B, I, one, pures, PV.ok, PV.cells, fillL, fillE, List.replicate, cellV, cellO, cellR, newsOf, callArgs, splice, L.pure, not_false_eq_true, decide_true, Int.natCast_nonneg, Int.cast_ofNat_Int, implies_true, reduceCtorEq, Nat.reduceBEq, Nat.reduceEqDiff, Nat.reduceAdd, Nat.reduceLeDiff, Nat.reduceLT, Nat.reduceSub, Nat.reduceMul]
        refine ⟨⟨.inl trivial, by simp, .inl trivial, by unfold maxLen; omega, by omega⟩, by rw [inK64]; omega, by omega, ?_⟩
        refine Lo.own [(1, .l (.vs q (v.map ics))), (2, .l (.ptr 1002 0 0)), (5, .l (.sl 2000 0 (mis r v (i + 1 : Nat)).length)), (18, .l (.vs q1 (r.log.map DOp.cs))), (19, .l (.v (.int .i64 (r.log.length : Int)))), (20, .l (.v (.int .i64 ((i + 1 : Nat) : Int))))] [(1002, 1002, ⟨0, true, 3, [r.cells q1 q2]⟩), (2000, 1038, (Msg.obj ((mis r v (i + 1)).map Msg.cs)))] ?_ rfl ?_ rfl (by simp) (by simp) rfl
        · simp only [gOf, renP, renL, hm, ↓WA, WB, ↓reduceIte, opU, foot, PK, LK, footsApart, footP, footL, List.flatMap_cons, List.flatMap_nil, List.filter_nil, key, Nat.mul_zero, Nat.mul_one, opS, sem, mkT, binI, binS, eqLs, eqL, B, I, one, pures, PV.ok, PV.cells, fillL, fillE, List.replicate, cellV, cellO, cellR, newsOf, callArgs, splice, L.pure, not_false_eq_true, decide_true, Int.natCast_nonneg, Int.cast_ofNat_Int, implies_true, reduceCtorEq, Nat.reduceBEq, Nat.reduceEqDiff, Nat.reduceAdd, Nat.reduceLeDiff, Nat.reduceLT, Nat.reduceSub, Nat.reduceMul]
          simp
        · simp only [Msg.obj, hm, Rep.cells, ↓WA, WB, ↓reduceIte, opU, foot, PK, LK, footsApart, footP, footL, List.flatMap_cons, List.flatMap_nil, List.filter_nil, key, Nat.mul_zero, Nat.mul_one, opS, sem, mkT, binI, binS, eqLs, eqL, B, I, one, pures, PV.ok, PV.cells, fillL, fillE, List.replicate, cellV, cellO, cellR, newsOf, callArgs, splice, L.pure, not_false_eq_true, decide_true, Int.natCast_nonneg, Int.cast_ofNat_Int, implies_true, reduceCtorEq, Nat.reduceBEq, Nat.reduceEqDiff, Nat.reduceAdd, Nat.reduceLeDiff, Nat.reduceLT, Nat.reduceSub, Nat.reduceMul]
          refine ⟨⟨0, Nat.zero_le _, rfl⟩, 1, Nat.le_refl _, ?_⟩
          simp [take_map, Msg.cs, DOp.cs, msgOf]
    · have : i = r.log.length := by omega
      subst this
      refine ⟨2000, 0, ?_, ?_, Nat.zero_le _⟩
      · simp [mis_all]
      · simp [upd, Msg.obj, mis_all]
end Go.Proofs
