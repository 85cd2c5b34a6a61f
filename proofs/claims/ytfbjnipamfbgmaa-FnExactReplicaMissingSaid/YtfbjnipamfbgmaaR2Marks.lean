import Derived.Test.YtfbjnipamfbgmaaR2Miss
set_option linter.unusedSimpArgs false
set_option linter.unusedVariables false
namespace Go.Proofs
open Go Go.Ab

theorem toIntS_ok (q : Bool) (s : List Int) (hl : s.length * 8 ≤ 140737488355328) : CallOk Try.prog 51 [.l (.vs q (s.map ics))] [] (.l (.sl 0 0 s.length)) [] [iobj (s.map ics)] := by
  refine callOk_new (fn := Try.f51) (r := .t 2) follows Try.func51 rfl c51_eq (Nat.le_of_ble_eq_true rfl) (by kernel_rfl) rfl rfl (rows_hb ics_hb s) ?_
  simp only [c51, List.length_map, ↓WA, WB, ↓reduceIte, opU, foot, PK, LK, footsApart, footP, footL, List.flatMap_cons, List.flatMap_nil, List.filter_nil, key, Nat.mul_zero, Nat.mul_one, opS, sem, mkT, binI, binS, eqLs, eqL, B, I, one, pures, PV.ok, PV.cells, fillL, fillE, List.replicate, cellV, cellO, cellR, newsOf, callArgs, splice, L.pure, not_false_eq_true, decide_true, Int.natCast_nonneg, Int.cast_ofNat_Int, implies_true, reduceCtorEq, Nat.reduceBEq, Nat.reduceEqDiff, Nat.reduceAdd, Nat.reduceLeDiff, Nat.reduceLT, Nat.reduceSub, Nat.reduceMul]
  refine ⟨by omega, ?_⟩
  show AW _ _ (.loop _) _ _
  refine AW.count s.length (fun i st => st = ⟨mkL [(0, .l (.vs q (s.map ics))), (3, .l (.sl 1007 0 s.length)), (4, .l (.v (.int .i64 (i : Int))))], mkH [(1007, iobj (filled (ics 0) ics s i))]⟩) ?_ ?_
  · refine Lo.own [(0, .l (.vs q (s.map ics))), (3, .l (.sl 1007 0 s.length)), (4, .l (.v (.int .i64 ((0 : Nat) : Int))))] [(1007, 1007, iobj (filled (ics 0) ics s 0))] ?_ rfl ?_ rfl (by simp) (by simp) rfl
    · simp only [gOf, renP, renL, ↓WA, WB, ↓reduceIte, opU, foot, PK, LK, footsApart, footP, footL, List.flatMap_cons, List.flatMap_nil, List.filter_nil, key, Nat.mul_zero, Nat.mul_one, opS, sem, mkT, binI, binS, eqLs, eqL, B, I, one, pures, PV.ok, PV.cells, fillL, fillE, List.replicate, cellV, cellO, cellR, newsOf, callArgs, splice, L.pure, not_false_eq_true, decide_true, Int.natCast_nonneg, Int.cast_ofNat_Int, implies_true, reduceCtorEq, Nat.reduceBEq, Nat.reduceEqDiff, Nat.reduceAdd, Nat.reduceLeDiff, Nat.reduceLT, Nat.reduceSub, Nat.reduceMul]
    · simp only [↓WA, WB, ↓reduceIte, opU, foot, PK, LK, footsApart, footP, footL, List.flatMap_cons, List.flatMap_nil, List.filter_nil, key, Nat.mul_zero, Nat.mul_one, opS, sem, mkT, binI, binS, eqLs, eqL, B, I, one, pures, PV.ok, PV.cells, fillL, fillE, List.replicate, cellV, cellO, cellR, newsOf, callArgs, splice, L.pure, not_false_eq_true, decide_true, Int.natCast_nonneg, Int.cast_ofNat_Int, implies_true, reduceCtorEq, Nat.reduceBEq, Nat.reduceEqDiff, Nat.reduceAdd, Nat.reduceLeDiff, Nat.reduceLT, Nat.reduceSub, Nat.reduceMul]
      refine ⟨0, Nat.zero_le _, ?_⟩
      simp [filled_zero, iobj, ics]
  · rintro i st hi rfl
    simp only [mkL, mkH]
    refine AW_of_wps _ _ _ ?_
    simp only [List.length_map, ↓WA, WB, ↓reduceIte, opU, foot, PK, LK, footsApart, footP, footL, List.flatMap_cons, List.flatMap_nil, List.filter_nil, key, Nat.mul_zero, Nat.mul_one, opS, sem, mkT, binI, binS, eqLs, eqL, B, I, one, pures, PV.ok, PV.cells, fillL, fillE, List.replicate, cellV, cellO, cellR, newsOf, callArgs, splice, L.pure, not_false_eq_true, decide_true, Int.natCast_nonneg, Int.cast_ofNat_Int, implies_true, reduceCtorEq, Nat.reduceBEq, Nat.reduceEqDiff, Nat.reduceAdd, Nat.reduceLeDiff, Nat.reduceLT, Nat.reduceSub, Nat.reduceMul]
    split
    · rename_i hlt
      obtain ⟨x, hx⟩ := get_some (l := s) (i := i) (by omega)
      have hx' := get_map (f := ics) hx
      have hg := filled_get (z := ics 0) (cs := ics) (s := s) (i := i) (by omega)
      rw [show some (ics 0) = some [.v (.int .i64 0)] from rfl] at hg
      rw [show some (ics x) = some [.v (.int .i64 x)] from rfl] at hx'
      simp only [hx', hg, iobj, ↓WA, WB, ↓reduceIte, opU, foot, PK, LK, footsApart, footP, footL, List.flatMap_cons, List.flatMap_nil, List.filter_nil, key, Nat.mul_zero, Nat.mul_one, opS, sem, mkT, binI, binS, eqLs, eqL, B, I, one, pures, PV.ok, PV.cells, fillL, fillE, List.replicate, cellV, cellO, cellR, newsOf, callArgs, splice, L.pure, not_false_eq_true, decide_true, Int.natCast_nonneg, Int.cast_ofNat_Int, implies_true, reduceCtorEq, Nat.reduceBEq, Nat.reduceEqDiff, Nat.reduceAdd, Nat.reduceLeDiff, Nat.reduceLT, Nat.reduceSub, Nat.reduceMul]
      refine ⟨by omega, by rw [inK64]; omega, by omega, ?_⟩
      refine Lo.own [(0, .l (.vs q (s.map ics))), (3, .l (.sl 1007 0 s.length)), (4, .l (.v (.int .i64 (i + 1 : Nat))))] [(1007, 1007, iobj (filled (ics 0) ics s (i + 1)))] ?_ rfl ?_ rfl (by simp) (by simp) rfl
      · simp only [gOf, renP, renL, ↓WA, WB, ↓reduceIte, opU, foot, PK, LK, footsApart, footP, footL, List.flatMap_cons, List.flatMap_nil, List.filter_nil, key, Nat.mul_zero, Nat.mul_one, opS, sem, mkT, binI, binS, eqLs, eqL, B, I, one, pures, PV.ok, PV.cells, fillL, fillE, List.replicate, cellV, cellO, cellR, newsOf, callArgs, splice, L.pure, not_false_eq_true, decide_true, Int.natCast_nonneg, Int.cast_ofNat_Int, implies_true, reduceCtorEq, Nat.reduceBEq, Nat.reduceEqDiff, Nat.reduceAdd, Nat.reduceLeDiff, Nat.reduceLT, Nat.reduceSub, Nat.reduceMul]
        simp
      · simp only [↓WA, WB, ↓reduceIte, opU, foot, PK, LK, footsApart, footP, footL, List.flatMap_cons, List.flatMap_nil, List.filter_nil, key, Nat.mul_zero, Nat.mul_one, opS, sem, mkT, binI, binS, eqLs, eqL, B, I, one, pures, PV.ok, PV.cells, fillL, fillE, List.replicate, cellV, cellO, cellR, newsOf, callArgs, splice, L.pure, not_false_eq_true, decide_true, Int.natCast_nonneg, Int.cast_ofNat_Int, implies_true, reduceCtorEq, Nat.reduceBEq, Nat.reduceEqDiff, Nat.reduceAdd, Nat.reduceLeDiff, Nat.reduceLT, Nat.reduceSub, Nat.reduceMul]
        refine ⟨0, Nat.zero_le _, ?_⟩
        simp only [iobj, ← filled_set hx]
        rfl
    · refine ⟨1007, 0, rfl, ?_, Nat.zero_le _⟩
      rw [upd_same, filled_all (by omega)]
      rfl

theorem eqIntS_ok (q q' : Bool) (s t : List Int) : CallOk Try.prog 54 [.l (.vs q (s.map ics)), .l (.vs q' (t.map ics))] [] (.l (.v (.bool (decide (s = t))))) [] [] := by
  refine callOk_pure1 (fn := Try.f54) (r := .t 4) follows Try.func54 rfl c54_eq (Nat.le_of_ble_eq_true rfl) (by kernel_rfl) rfl (.v _) ?_
  simp only [c54, List.length_map, ↓WA, WB, ↓reduceIte, opU, foot, PK, LK, footsApart, footP, footL, List.flatMap_cons, List.flatMap_nil, List.filter_nil, key, Nat.mul_zero, Nat.mul_one, opS, sem, mkT, binI, binS, eqLs, eqL, B, I, one, pures, PV.ok, PV.cells, fillL, fillE, List.replicate, cellV, cellO, cellR, newsOf, callArgs, splice, L.pure, not_false_eq_true, decide_true, Int.natCast_nonneg, Int.cast_ofNat_Int, implies_true, reduceCtorEq, Nat.reduceBEq, Nat.reduceEqDiff, Nat.reduceAdd, Nat.reduceLeDiff, Nat.reduceLT, Nat.reduceSub, Nat.reduceMul]
  split
  · rename_i h
    have : s ≠ t := fun e => h (by rw [e])
    simp [this]
  rename_i hlen
  have hlen : s.length = t.length := by omega
  show AW _ _ (.loop _) _ _
  refine AW.loop (fun n st => ∃ i : Nat, n = s.length - i ∧ i ≤ s.length ∧ s.take i = t.take i ∧ st = ⟨mkL [(0, .l (.vs q (s.map ics))), (1, .l (.vs q' (t.map ics))), (5, .l (.v (.int .i64 (i : Int))))], fun _ => none⟩) ?_ ?_ (n := s.length)
  · refine Lo.plain [(0, .l (.vs q (s.map ics))), (1, .l (.vs q' (t.map ics))), (5, .l (.v (.int .i64 ((0 : Nat) : Int))))] ?_ rfl ⟨0, rfl, Nat.zero_le _, rfl, rfl⟩
    simp only [↓WA, WB, ↓reduceIte, opU, foot, PK, LK, footsApart, footP, footL, List.flatMap_cons, List.flatMap_nil, List.filter_nil, key, Nat.mul_zero, Nat.mul_one, opS, sem, mkT, binI, binS, eqLs, eqL, B, I, one, pures, PV.ok, PV.cells, fillL, fillE, List.replicate, cellV, cellO, cellR, newsOf, callArgs, splice, L.pure, not_false_eq_true, decide_true, Int.natCast_nonneg, Int.cast_ofNat_Int, implies_true, reduceCtorEq, Nat.reduceBEq, Nat.reduceEqDiff, Nat.reduceAdd, Nat.reduceLeDiff, Nat.reduceLT, Nat.reduceSub, Nat.reduceMul]
  · rintro n st ⟨i, rfl, hi, hall, rfl⟩
    refine AW.short (t := 0) rfl fun hshort => ?_
    simp only [mkL]
    refine AW_of_wps _ _ _ ?_
    simp only [List.length_map, ↓WA, WB, ↓reduceIte, opU, foot, PK, LK, footsApart, footP, footL, List.flatMap_cons, List.flatMap_nil, List.filter_nil, key, Nat.mul_zero, Nat.mul_one, opS, sem, mkT, binI, binS, eqLs, eqL, B, I, one, pures, PV.ok, PV.cells, fillL, fillE, List.replicate, cellV, cellO, cellR, newsOf, callArgs, splice, L.pure, not_false_eq_true, decide_true, Int.natCast_nonneg, Int.cast_ofNat_Int, implies_true, reduceCtorEq, Nat.reduceBEq, Nat.reduceEqDiff, Nat.reduceAdd, Nat.reduceLeDiff, Nat.reduceLT, Nat.reduceSub, Nat.reduceMul]
    split
    · rename_i hlt
      obtain ⟨x, hx⟩ := get_some (l := s) (i := i) (by omega)
      obtain ⟨y, hy⟩ := get_some (l := t) (i := i) (by omega)
      have hx' := get_map (f := ics) hx
      have hy' := get_map (f := ics) hy
      simp only [hx', hy', ics, ↓WA, WB, ↓reduceIte, opU, foot, PK, LK, footsApart, footP, footL, List.flatMap_cons, List.flatMap_nil, List.filter_nil, key, Nat.mul_zero, Nat.mul_one, opS, sem, mkT, binI, binS, eqLs, eqL, B, I, one, pures, PV.ok, PV.cells, fillL, fillE, List.replicate, cellV, cellO, cellR, newsOf, callArgs, splice, L.pure, not_false_eq_true, decide_true, Int.natCast_nonneg, Int.cast_ofNat_Int, implies_true, reduceCtorEq, Nat.reduceBEq, Nat.reduceEqDiff, Nat.reduceAdd, Nat.reduceLeDiff, Nat.reduceLT, Nat.reduceSub, Nat.reduceMul]
      split
      · rename_i hne
        have : s ≠ t := fun e => by subst e; rw [hx] at hy; cases hy; simp at hne
        simp [this]
      · rename_i he
        simp at he
        refine ⟨by rw [inK64]; have : s.length ≤ maxLen := by simpa using hshort
                   unfold maxLen at this; omega, s.length - (i + 1), by omega, ?_⟩
        refine Lo.plain [(0, .l (.vs q (s.map ics))), (1, .l (.vs q' (t.map ics))), (5, .l (.v (.int .i64 (i + 1 : Nat))))] ?_ rfl ⟨i + 1, rfl, by omega, take_succ_eq hx hy hall he, rfl⟩
        simp only [↓WA, WB, ↓reduceIte, opU, foot, PK, LK, footsApart, footP, footL, List.flatMap_cons, List.flatMap_nil, List.filter_nil, key, Nat.mul_zero, Nat.mul_one, opS, sem, mkT, binI, binS, eqLs, eqL, B, I, one, pures, PV.ok, PV.cells, fillL, fillE, List.replicate, cellV, cellO, cellR, newsOf, callArgs, splice, L.pure, not_false_eq_true, decide_true, Int.natCast_nonneg, Int.cast_ofNat_Int, implies_true, reduceCtorEq, Nat.reduceBEq, Nat.reduceEqDiff, Nat.reduceAdd, Nat.reduceLeDiff, Nat.reduceLT, Nat.reduceSub, Nat.reduceMul]
        simp
    · rw [eq_of_take hlen (by omega) hall]
      simp

theorem markIntS_ok (s : List Int) (k : Int) (h0 : 0 ≤ k) (h1 : k ≤ 1125899906842624000) (hl : s.length ≤ 1125899906842624) : CallOk Try.prog 56 [.l (.sl 0 0 s.length), .l (.v (.int .i64 k))] [iobj (s.map ics)] (.l (.v (.int .i64 (k + (s.length : Int))))) [some (iobj ((markInts s.length k).map ics))] [] := by
  refine callOk_all (fn := Try.f56) (rs := [.t 4]) (ps := [.l (.v (.int .i64 (k + (s.length : Int))))]) follows Try.func56 rfl c56_eq (Nat.le_of_ble_eq_true rfl) (by simp) (by kernel_rfl) rfl ?_ (.v _) ?_ ?_
  · intro j o' hk
    match j with
    | 0 => cases hk; rfl
    | j + 1 => simp [outH] at hk
  · intro j o' hk
    match j with
    | 0 => cases hk; exact rows_hb ics_hb _
    | j + 1 => simp [outH] at hk
  · refine AW_of_wps _ _ _ ?_
    simp only [List.zipIdx_cons, List.zipIdx_nil, List.map_cons, List.map_nil, mkH]
    simp only [c56, ↓WA, WB, ↓reduceIte, opU, foot, PK, LK, footsApart, footP, footL, List.flatMap_cons, List.flatMap_nil, List.filter_nil, key, Nat.mul_zero, Nat.mul_one, opS, sem, mkT, binI, binS, eqLs, eqL, B, I, one, pures, PV.ok, PV.cells, fillL, fillE, List.replicate, cellV, cellO, cellR, newsOf, callArgs, splice, L.pure, not_false_eq_true, decide_true, Int.natCast_nonneg, Int.cast_ofNat_Int, implies_true, reduceCtorEq, Nat.reduceBEq, Nat.reduceEqDiff, Nat.reduceAdd, Nat.reduceLeDiff, Nat.reduceLT, Nat.reduceSub, Nat.reduceMul]
    show AW _ _ (.loop _) _ _
    refine AW.count s.length (fun i st => st = ⟨mkL [(0, .l (.sl 0 0 s.length)), (1, .l (.v (.int .i64 (k + (i : Int))))), (5, .l (.v (.int .i64 (i : Int))))], mkH [(0, iobj ((markedI s k i).map ics))]⟩) ?_ ?_
    · refine Lo.own [(0, .l (.sl 0 0 s.length)), (1, .l (.v (.int .i64 (k + ((0 : Nat) : Int))))), (5, .l (.v (.int .i64 ((0 : Nat) : Int))))] [(0, 0, iobj ((markedI s k 0).map ics))] ?_ rfl ?_ rfl (by simp) (by simp) rfl
      · simp only [gOf, renP, renL, ↓WA, WB, ↓reduceIte, opU, foot, PK, LK, footsApart, footP, footL, List.flatMap_cons, List.flatMap_nil, List.filter_nil, key, Nat.mul_zero, Nat.mul_one, opS, sem, mkT, binI, binS, eqLs, eqL, B, I, one, pures, PV.ok, PV.cells, fillL, fillE, List.replicate, cellV, cellO, cellR, newsOf, callArgs, splice, L.pure, not_false_eq_true, decide_true, Int.natCast_nonneg, Int.cast_ofNat_Int, implies_true, reduceCtorEq, Nat.reduceBEq, Nat.reduceEqDiff, Nat.reduceAdd, Nat.reduceLeDiff, Nat.reduceLT, Nat.reduceSub, Nat.reduceMul]
        simp
      · simp only [iobj, ↓WA, WB, ↓reduceIte, opU, foot, PK, LK, footsApart, footP, footL, List.flatMap_cons, List.flatMap_nil, List.filter_nil, key, Nat.mul_zero, Nat.mul_one, opS, sem, mkT, binI, binS, eqLs, eqL, B, I, one, pures, PV.ok, PV.cells, fillL, fillE, List.replicate, cellV, cellO, cellR, newsOf, callArgs, splice, L.pure, not_false_eq_true, decide_true, Int.natCast_nonneg, Int.cast_ofNat_Int, implies_true, reduceCtorEq, Nat.reduceBEq, Nat.reduceEqDiff, Nat.reduceAdd, Nat.reduceLeDiff, Nat.reduceLT, Nat.reduceSub, Nat.reduceMul]
        exact ⟨0, Nat.zero_le _, by rw [markedI_zero]⟩
    · rintro i st hi rfl
      simp only [mkL, mkH]
      refine AW_of_wps _ _ _ ?_
      simp only [iobj, ↓WA, WB, ↓reduceIte, opU, foot, PK, LK, footsApart, footP, footL, List.flatMap_cons, List.flatMap_nil, List.filter_nil, key, Nat.mul_zero, Nat.mul_one, opS, sem, mkT, binI, binS, eqLs, eqL, B, I, one, pures, PV.ok, PV.cells, fillL, fillE, List.replicate, cellV, cellO, cellR, newsOf, callArgs, splice, L.pure, not_false_eq_true, decide_true, Int.natCast_nonneg, Int.cast_ofNat_Int, implies_true, reduceCtorEq, Nat.reduceBEq, Nat.reduceEqDiff, Nat.reduceAdd, Nat.reduceLeDiff, Nat.reduceLT, Nat.reduceSub, Nat.reduceMul]
      split
      · rename_i hlt
        obtain ⟨x, hx⟩ := get_some (l := s) (i := i) (by omega)
        have hg : ((markedI s k i).map ics)[i]? = some (ics x) := get_map (f := ics) (markedI_get hx)
        simp only [hg, ics, ↓WA, WB, ↓reduceIte, opU, foot, PK, LK, footsApart, footP, footL, List.flatMap_cons, List.flatMap_nil, List.filter_nil, key, Nat.mul_zero, Nat.mul_one, opS, sem, mkT, binI, binS, eqLs, eqL, B, I, one, pures, PV.ok, PV.cells, fillL, fillE, List.replicate, cellV, cellO, cellR, newsOf, callArgs, splice, L.pure, not_false_eq_true, decide_true, Int.natCast_nonneg, Int.cast_ofNat_Int, implies_true, reduceCtorEq, Nat.reduceBEq, Nat.reduceEqDiff, Nat.reduceAdd, Nat.reduceLeDiff, Nat.reduceLT, Nat.reduceSub, Nat.reduceMul]
        refine ⟨by omega, by rw [inK64]; omega, by rw [inK64]; omega, by omega, ?_⟩
        refine Lo.own [(0, .l (.sl 0 0 s.length)), (1, .l (.v (.int .i64 (k + ((i + 1 : Nat) : Int))))), (5, .l (.v (.int .i64 ((i + 1 : Nat) : Int))))] [(0, 0, iobj ((markedI s k (i + 1)).map ics))] ?_ rfl ?_ rfl (by simp) (by simp) rfl
        · simp only [gOf, renP, renL, ↓WA, WB, ↓reduceIte, opU, foot, PK, LK, footsApart, footP, footL, List.flatMap_cons, List.flatMap_nil, List.filter_nil, key, Nat.mul_zero, Nat.mul_one, opS, sem, mkT, binI, binS, eqLs, eqL, B, I, one, pures, PV.ok, PV.cells, fillL, fillE, List.replicate, cellV, cellO, cellR, newsOf, callArgs, splice, L.pure, not_false_eq_true, decide_true, Int.natCast_nonneg, Int.cast_ofNat_Int, implies_true, reduceCtorEq, Nat.reduceBEq, Nat.reduceEqDiff, Nat.reduceAdd, Nat.reduceLeDiff, Nat.reduceLT, Nat.reduceSub, Nat.reduceMul]
          refine ⟨?_, ?_⟩
          · congr 3; omega
          · rfl
        · simp only [iobj, ↓WA, WB, ↓reduceIte, opU, foot, PK, LK, footsApart, footP, footL, List.flatMap_cons, List.flatMap_nil, List.filter_nil, key, Nat.mul_zero, Nat.mul_one, opS, sem, mkT, binI, binS, eqLs, eqL, B, I, one, pures, PV.ok, PV.cells, fillL, fillE, List.replicate, cellV, cellO, cellR, newsOf, callArgs, splice, L.pure, not_false_eq_true, decide_true, Int.natCast_nonneg, Int.cast_ofNat_Int, implies_true, reduceCtorEq, Nat.reduceBEq, Nat.reduceEqDiff, Nat.reduceAdd, Nat.reduceLeDiff, Nat.reduceLT, Nat.reduceSub, Nat.reduceMul]
          refine ⟨0, Nat.zero_le _, ?_⟩
          rw [← markedI_set hx, List.map_set]
          rfl
      · have : i = s.length := by omega
        subst this
        refine retX_r [] rfl (by simp) (by simp) ⟨by simp only [RV.val, renP, renL, ↓WA, WB, ↓reduceIte, opU, foot, PK, LK, footsApart, footP, footL, List.flatMap_cons, List.flatMap_nil, List.filter_nil, key, Nat.mul_zero, Nat.mul_one, opS, sem, mkT, binI, binS, eqLs, eqL, B, I, one, pures, PV.ok, PV.cells, fillL, fillE, List.replicate, cellV, cellO, cellR, newsOf, callArgs, splice, L.pure, not_false_eq_true, decide_true, Int.natCast_nonneg, Int.cast_ofNat_Int, implies_true, reduceCtorEq, Nat.reduceBEq, Nat.reduceEqDiff, Nat.reduceAdd, Nat.reduceLeDiff, Nat.reduceLT, Nat.reduceSub, Nat.reduceMul], trivial⟩ rfl ?_ (by simp)
        intro j o' hj
        match j with
        | 0 => cases hj; exact ⟨0, Nat.zero_le _, by simp only [renO, markedI_all, ↓WA, WB, ↓reduceIte, opU, foot, PK, LK, footsApart, footP, footL, List.flatMap_cons, List.flatMap_nil, List.filter_nil, key, Nat.mul_zero, Nat.mul_one, opS, sem, mkT, binI, binS, eqLs, eqL, B, I, one, pures, PV.ok, PV.cells, fillL, fillE, List.replicate, cellV, cellO, cellR, newsOf, callArgs, splice, L.pure, not_false_eq_true, decide_true, Int.natCast_nonneg, Int.cast_ofNat_Int, implies_true, reduceCtorEq, Nat.reduceBEq, Nat.reduceEqDiff, Nat.reduceAdd, Nat.reduceLeDiff, Nat.reduceLT, Nat.reduceSub, Nat.reduceMul]⟩
        | j + 1 => simp at hj

theorem markMsg_cs (K : Int) : (markMsg K).cs = [.v (.int .i64 K), .v (.int .i64 (K + 1)), .v (.int .i64 (K + 2)), .v (.int .i64 (K + 3)), .v (.int .i64 (K + 4)), .v (.int .i64 (K + 5)), .v (.int .i64 (K + 6)), .v (.int .i64 (K + 7)), .v (.int .i64 (K + 8)), .v (.int .i64 (K + 9)), .v (.bool (decide ((K + 10).tmod 3 = 0))), .v (.string (markText (K + 11))), .v (.int .i64 (K + 12))] := rfl

theorem markMessageS_emp (k : Int) : CallOk Try.prog 57 [.l .emp, .l (.v (.int .i64 k))] [] (.l (.v (.int .i64 k))) [] [] := by
  refine callOk_pure1 (fn := Try.f57) (r := .t 4) follows Try.func57 rfl c57_eq (Nat.le_of_ble_eq_true rfl) (by kernel_rfl) rfl (.v _) ?_
  simp only [c57, ↓WA, WB, ↓reduceIte, opU, foot, PK, LK, footsApart, footP, footL, List.flatMap_cons, List.flatMap_nil, List.filter_nil, key, Nat.mul_zero, Nat.mul_one, opS, sem, mkT, binI, binS, eqLs, eqL, B, I, one, pures, PV.ok, PV.cells, fillL, fillE, List.replicate, cellV, cellO, cellR, newsOf, callArgs, splice, L.pure, not_false_eq_true, decide_true, Int.natCast_nonneg, Int.cast_ofNat_Int, implies_true, reduceCtorEq, Nat.reduceBEq, Nat.reduceEqDiff, Nat.reduceAdd, Nat.reduceLeDiff, Nat.reduceLT, Nat.reduceSub, Nat.reduceMul]
  show AW _ _ (.loop _) _ _
  refine AW.count 0 (fun i st => st = ⟨mkL [(0, .l .emp), (1, .l (.v (.int .i64 k))), (5, .l (.v (.int .i64 0)))], fun _ => none⟩) ?_ ?_
  · refine Lo.plain [(0, .l .emp), (1, .l (.v (.int .i64 k))), (5, .l (.v (.int .i64 0)))] ?_ rfl rfl
    simp only [↓WA, WB, ↓reduceIte, opU, foot, PK, LK, footsApart, footP, footL, List.flatMap_cons, List.flatMap_nil, List.filter_nil, key, Nat.mul_zero, Nat.mul_one, opS, sem, mkT, binI, binS, eqLs, eqL, B, I, one, pures, PV.ok, PV.cells, fillL, fillE, List.replicate, cellV, cellO, cellR, newsOf, callArgs, splice, L.pure, not_false_eq_true, decide_true, Int.natCast_nonneg, Int.cast_ofNat_Int, implies_true, reduceCtorEq, Nat.reduceBEq, Nat.reduceEqDiff, Nat.reduceAdd, Nat.reduceLeDiff, Nat.reduceLT, Nat.reduceSub, Nat.reduceMul]
  · rintro i st hi rfl
    simp only [mkL]
    refine AW_of_wps _ _ _ ?_
    simp only [↓WA, WB, ↓reduceIte, opU, foot, PK, LK, footsApart, footP, footL, List.flatMap_cons, List.flatMap_nil, List.filter_nil, key, Nat.mul_zero, Nat.mul_one, opS, sem, mkT, binI, binS, eqLs, eqL, B, I, one, pures, PV.ok, PV.cells, fillL, fillE, List.replicate, cellV, cellO, cellR, newsOf, callArgs, splice, L.pure, not_false_eq_true, decide_true, Int.natCast_nonneg, Int.cast_ofNat_Int, implies_true, reduceCtorEq, Nat.reduceBEq, Nat.reduceEqDiff, Nat.reduceAdd, Nat.reduceLeDiff, Nat.reduceLT, Nat.reduceSub, Nat.reduceMul]
    simp [bo]

theorem heldMessageS_emp (k : Int) : CallOk Try.prog 58 [.l .emp, .l (.v (.int .i64 k))] [] (.l (.v (.int .i64 k))) [] [] := by
  refine callOk_pure1 (fn := Try.f58) (r := .t 4) follows Try.func58 rfl c58_eq (Nat.le_of_ble_eq_true rfl) (by kernel_rfl) rfl (.v _) ?_
  simp only [c58, ↓WA, WB, ↓reduceIte, opU, foot, PK, LK, footsApart, footP, footL, List.flatMap_cons, List.flatMap_nil, List.filter_nil, key, Nat.mul_zero, Nat.mul_one, opS, sem, mkT, binI, binS, eqLs, eqL, B, I, one, pures, PV.ok, PV.cells, fillL, fillE, List.replicate, cellV, cellO, cellR, newsOf, callArgs, splice, L.pure, not_false_eq_true, decide_true, Int.natCast_nonneg, Int.cast_ofNat_Int, implies_true, reduceCtorEq, Nat.reduceBEq, Nat.reduceEqDiff, Nat.reduceAdd, Nat.reduceLeDiff, Nat.reduceLT, Nat.reduceSub, Nat.reduceMul]
  show AW _ _ (.loop _) _ _
  refine AW.count 0 (fun i st => st = ⟨mkL [(0, .l .emp), (1, .l (.v (.int .i64 k))), (5, .l (.v (.int .i64 0)))], fun _ => none⟩) ?_ ?_
  · refine Lo.plain [(0, .l .emp), (1, .l (.v (.int .i64 k))), (5, .l (.v (.int .i64 0)))] ?_ rfl rfl
    simp only [↓WA, WB, ↓reduceIte, opU, foot, PK, LK, footsApart, footP, footL, List.flatMap_cons, List.flatMap_nil, List.filter_nil, key, Nat.mul_zero, Nat.mul_one, opS, sem, mkT, binI, binS, eqLs, eqL, B, I, one, pures, PV.ok, PV.cells, fillL, fillE, List.replicate, cellV, cellO, cellR, newsOf, callArgs, splice, L.pure, not_false_eq_true, decide_true, Int.natCast_nonneg, Int.cast_ofNat_Int, implies_true, reduceCtorEq, Nat.reduceBEq, Nat.reduceEqDiff, Nat.reduceAdd, Nat.reduceLeDiff, Nat.reduceLT, Nat.reduceSub, Nat.reduceMul]
  · rintro i st hi rfl
    simp only [mkL]
    refine AW_of_wps _ _ _ ?_
    simp only [↓WA, WB, ↓reduceIte, opU, foot, PK, LK, footsApart, footP, footL, List.flatMap_cons, List.flatMap_nil, List.filter_nil, key, Nat.mul_zero, Nat.mul_one, opS, sem, mkT, binI, binS, eqLs, eqL, B, I, one, pures, PV.ok, PV.cells, fillL, fillE, List.replicate, cellV, cellO, cellR, newsOf, callArgs, splice, L.pure, not_false_eq_true, decide_true, Int.natCast_nonneg, Int.cast_ofNat_Int, implies_true, reduceCtorEq, Nat.reduceBEq, Nat.reduceEqDiff, Nat.reduceAdd, Nat.reduceLeDiff, Nat.reduceLT, Nat.reduceSub, Nat.reduceMul]
    simp [bo]

set_option maxRecDepth 20000 in
theorem markMessageS_ok (s : List Msg) (k : Int) (h0 : 0 ≤ k) (h1 : k ≤ 1125899906842624000) (hl : s.length ≤ 1125899906842624) : CallOk Try.prog 57 [.l (.sl 0 0 s.length), .l (.v (.int .i64 k))] [Msg.obj (s.map Msg.cs)] (.l (.v (.int .i64 (k + 13 * (s.length : Int))))) [some (Msg.obj ((markMsgs s.length k).map Msg.cs))] [] := by
  refine callOk_all (fn := Try.f57) (rs := [.t 4]) (ps := [.l (.v (.int .i64 (k + 13 * (s.length : Int))))]) follows Try.func57 rfl c57_eq (Nat.le_of_ble_eq_true rfl) (by simp) (by kernel_rfl) rfl ?_ (.v _) ?_ ?_
  · intro j o' hk
    match j with
    | 0 => cases hk; rfl
    | j + 1 => simp [outH] at hk
  · intro j o' hk
    match j with
    | 0 => cases hk; exact rows_hb Msg.hb _
    | j + 1 => simp [outH] at hk
  · refine AW_of_wps _ _ _ ?_
    simp only [List.zipIdx_cons, List.zipIdx_nil, List.map_cons, List.map_nil, mkH]
    simp only [c57, ↓WA, WB, ↓reduceIte, opU, foot, PK, LK, footsApart, footP, footL, List.flatMap_cons, List.flatMap_nil, List.filter_nil, key, Nat.mul_zero, Nat.mul_one, opS, sem, mkT, binI, binS, eqLs, eqL, B, I, one, pures, PV.ok, PV.cells, fillL, fillE, List.replicate, cellV, cellO, cellR, newsOf, callArgs, splice, L.pure, not_false_eq_true, decide_true, Int.natCast_nonneg, Int.cast_ofNat_Int, implies_true, reduceCtorEq, Nat.reduceBEq, Nat.reduceEqDiff, Nat.reduceAdd, Nat.reduceLeDiff, Nat.reduceLT, Nat.reduceSub, Nat.reduceMul]
    show AW _ _ (.loop _) _ _
    refine AW.count s.length (fun i st => st = ⟨mkL [(0, .l (.sl 0 0 s.length)), (1, .l (.v (.int .i64 (k + 13 * (i : Int))))), (5, .l (.v (.int .i64 (i : Int))))], mkH [(0, Msg.obj ((markedM s k i).map Msg.cs))]⟩) ?_ ?_
    · refine Lo.own [(0, .l (.sl 0 0 s.length)), (1, .l (.v (.int .i64 (k + 13 * ((0 : Nat) : Int))))), (5, .l (.v (.int .i64 ((0 : Nat) : Int))))] [(0, 0, Msg.obj ((markedM s k 0).map Msg.cs))] ?_ rfl ?_ rfl (by simp) (by simp) rfl
      · simp only [gOf, renP, renL, ↓WA, WB, ↓reduceIte, opU, foot, PK, LK, footsApart, footP, footL, List.flatMap_cons, List.flatMap_nil, List.filter_nil, key, Nat.mul_zero, Nat.mul_one, opS, sem, mkT, binI, binS, eqLs, eqL, B, I, one, pures, PV.ok, PV.cells, fillL, fillE, List.replicate, cellV, cellO, cellR, newsOf, callArgs, splice, L.pure, not_false_eq_true, decide_true, Int.natCast_nonneg, Int.cast_ofNat_Int, implies_true, reduceCtorEq, Nat.reduceBEq, Nat.reduceEqDiff, Nat.reduceAdd, Nat.reduceLeDiff, Nat.reduceLT, Nat.reduceSub, Nat.reduceMul]
        simp
      · simp only [Msg.obj, ↓WA, WB, ↓reduceIte, opU, foot, PK, LK, footsApart, footP, footL, List.flatMap_cons, List.flatMap_nil, List.filter_nil, key, Nat.mul_zero, Nat.mul_one, opS, sem, mkT, binI, binS, eqLs, eqL, B, I, one, pures, PV.ok, PV.cells, fillL, fillE, List.replicate, cellV, cellO, cellR, newsOf, callArgs, splice, L.pure, not_false_eq_true, decide_true, Int.natCast_nonneg, Int.cast_ofNat_Int, implies_true, reduceCtorEq, Nat.reduceBEq, Nat.reduceEqDiff, Nat.reduceAdd, Nat.reduceLeDiff, Nat.reduceLT, Nat.reduceSub, Nat.reduceMul]
        exact ⟨0, Nat.zero_le _, by rw [markedM_zero]⟩
    · rintro i st hi rfl
      simp only [mkL, mkH]
      refine AW_of_wps _ _ _ ?_
      simp only [Msg.obj, ↓WA, WB, ↓reduceIte, opU, foot, PK, LK, footsApart, footP, footL, List.flatMap_cons, List.flatMap_nil, List.filter_nil, key, Nat.mul_zero, Nat.mul_one, opS, sem, mkT, binI, binS, eqLs, eqL, B, I, one, pures, PV.ok, PV.cells, fillL, fillE, List.replicate, cellV, cellO, cellR, newsOf, callArgs, splice, L.pure, not_false_eq_true, decide_true, Int.natCast_nonneg, Int.cast_ofNat_Int, implies_true, reduceCtorEq, Nat.reduceBEq, Nat.reduceEqDiff, Nat.reduceAdd, Nat.reduceLeDiff, Nat.reduceLT, Nat.reduceSub, Nat.reduceMul]
      split
      · rename_i hlt
        obtain ⟨x, hx⟩ := get_some (l := s) (i := i) (by omega)
        have hg : ((markedM s k i).map Msg.cs)[i]? = some x.cs := get_map (f := Msg.cs) (markedM_get hx)
        have hg2 := fun r => set_get hg r
        generalize hK : k + 13 * (i : Int) = K
        simp only [hg, hg2, Msg.cs, List.set_set, Int.add_assoc, Int.reduceAdd, ↓WA, WB, ↓reduceIte, opU, foot, PK, LK, footsApart, footP, footL, List.flatMap_cons, List.flatMap_nil, List.filter_nil, key, Nat.mul_zero, Nat.mul_one, opS, sem, mkT, binI, binS, eqLs, eqL, B, I, one, pures, PV.ok, PV.cells, fillL, fillE, List.replicate, cellV, cellO, cellR, newsOf, callArgs, splice, L.pure, not_false_eq_true, decide_true, Int.natCast_nonneg, Int.cast_ofNat_Int, implies_true, reduceCtorEq, Nat.reduceBEq, Nat.reduceEqDiff, Nat.reduceAdd, Nat.reduceLeDiff, Nat.reduceLT, Nat.reduceSub, Nat.reduceMul]
        refine ⟨by omega, by rw [inK64]; omega, by omega, by rw [inK64]; omega, by omega, by rw [inK64]; omega, by omega, by rw [inK64]; omega, by omega, by rw [inK64]; omega, by omega, by rw [inK64]; omega, by omega, by rw [inK64]; omega, by omega, by rw [inK64]; omega, by omega, by rw [inK64]; omega, by omega, by rw [inK64]; omega, by omega, by omega, by rw [inK64]; omega, ?_⟩
        refine CS.plain (markText_ok (K + 11) (by omega)) rfl rfl ?_
        simp only [hg2, List.set_set, Int.add_assoc, Int.reduceAdd, ↓WA, WB, ↓reduceIte, opU, foot, PK, LK, footsApart, footP, footL, List.flatMap_cons, List.flatMap_nil, List.filter_nil, key, Nat.mul_zero, Nat.mul_one, opS, sem, mkT, binI, binS, eqLs, eqL, B, I, one, pures, PV.ok, PV.cells, fillL, fillE, List.replicate, cellV, cellO, cellR, newsOf, callArgs, splice, L.pure, not_false_eq_true, decide_true, Int.natCast_nonneg, Int.cast_ofNat_Int, implies_true, reduceCtorEq, Nat.reduceBEq, Nat.reduceEqDiff, Nat.reduceAdd, Nat.reduceLeDiff, Nat.reduceLT, Nat.reduceSub, Nat.reduceMul]
        refine ⟨by omega, by rw [inK64]; omega, by omega, by rw [inK64]; omega, by rw [inK64]; omega, by omega, ?_⟩
        refine Lo.own [(0, .l (.sl 0 0 s.length)), (1, .l (.v (.int .i64 (k + 13 * ((i + 1 : Nat) : Int))))), (5, .l (.v (.int .i64 ((i + 1 : Nat) : Int))))] [(0, 0, Msg.obj ((markedM s k (i + 1)).map Msg.cs))] ?_ rfl ?_ rfl (by simp) (by simp) rfl
        · simp only [gOf, renP, renL, ↓WA, WB, ↓reduceIte, opU, foot, PK, LK, footsApart, footP, footL, List.flatMap_cons, List.flatMap_nil, List.filter_nil, key, Nat.mul_zero, Nat.mul_one, opS, sem, mkT, binI, binS, eqLs, eqL, B, I, one, pures, PV.ok, PV.cells, fillL, fillE, List.replicate, cellV, cellO, cellR, newsOf, callArgs, splice, L.pure, not_false_eq_true, decide_true, Int.natCast_nonneg, Int.cast_ofNat_Int, implies_true, reduceCtorEq, Nat.reduceBEq, Nat.reduceEqDiff, Nat.reduceAdd, Nat.reduceLeDiff, Nat.reduceLT, Nat.reduceSub, Nat.reduceMul]
          refine ⟨?_, ?_⟩
          · rw [← hK]; congr 3; omega
          · rfl
        · simp only [Msg.obj, ↓WA, WB, ↓reduceIte, opU, foot, PK, LK, footsApart, footP, footL, List.flatMap_cons, List.flatMap_nil, List.filter_nil, key, Nat.mul_zero, Nat.mul_one, opS, sem, mkT, binI, binS, eqLs, eqL, B, I, one, pures, PV.ok, PV.cells, fillL, fillE, List.replicate, cellV, cellO, cellR, newsOf, callArgs, splice, L.pure, not_false_eq_true, decide_true, Int.natCast_nonneg, Int.cast_ofNat_Int, implies_true, reduceCtorEq, Nat.reduceBEq, Nat.reduceEqDiff, Nat.reduceAdd, Nat.reduceLeDiff, Nat.reduceLT, Nat.reduceSub, Nat.reduceMul]
          refine ⟨0, Nat.zero_le _, ?_⟩
          rw [← markedM_set hx, hK, List.map_set, markMsg_cs]
      · have : i = s.length := by omega
        subst this
        refine retX_r [] rfl (by simp) (by simp) ⟨by simp only [RV.val, renP, renL, ↓WA, WB, ↓reduceIte, opU, foot, PK, LK, footsApart, footP, footL, List.flatMap_cons, List.flatMap_nil, List.filter_nil, key, Nat.mul_zero, Nat.mul_one, opS, sem, mkT, binI, binS, eqLs, eqL, B, I, one, pures, PV.ok, PV.cells, fillL, fillE, List.replicate, cellV, cellO, cellR, newsOf, callArgs, splice, L.pure, not_false_eq_true, decide_true, Int.natCast_nonneg, Int.cast_ofNat_Int, implies_true, reduceCtorEq, Nat.reduceBEq, Nat.reduceEqDiff, Nat.reduceAdd, Nat.reduceLeDiff, Nat.reduceLT, Nat.reduceSub, Nat.reduceMul], trivial⟩ rfl ?_ (by simp)
        intro j o' hj
        match j with
        | 0 => cases hj; exact ⟨0, Nat.zero_le _, by simp only [renO, markedM_all, ↓WA, WB, ↓reduceIte, opU, foot, PK, LK, footsApart, footP, footL, List.flatMap_cons, List.flatMap_nil, List.filter_nil, key, Nat.mul_zero, Nat.mul_one, opS, sem, mkT, binI, binS, eqLs, eqL, B, I, one, pures, PV.ok, PV.cells, fillL, fillE, List.replicate, cellV, cellO, cellR, newsOf, callArgs, splice, L.pure, not_false_eq_true, decide_true, Int.natCast_nonneg, Int.cast_ofNat_Int, implies_true, reduceCtorEq, Nat.reduceBEq, Nat.reduceEqDiff, Nat.reduceAdd, Nat.reduceLeDiff, Nat.reduceLT, Nat.reduceSub, Nat.reduceMul]⟩
        | j + 1 => simp at hj

set_option maxRecDepth 20000 in
theorem heldMessageS_ok (q : Bool) (n : Nat) (k : Int) (h0 : 0 ≤ k) (h1 : k ≤ 1000) (hl : n ≤ 1125899906842624) : CallOk Try.prog 58 [.l (.vs q ((markMsgs n k).map Msg.cs)), .l (.v (.int .i64 k))] [] (.l (.v (.int .i64 (k + 13 * (n : Int))))) [] [] := by
  refine callOk_pure1 (fn := Try.f58) (r := .t 4) follows Try.func58 rfl c58_eq (Nat.le_of_ble_eq_true rfl) (by kernel_rfl) rfl (.v _) ?_
  simp only [c58, List.length_map, ↓WA, WB, ↓reduceIte, opU, foot, PK, LK, footsApart, footP, footL, List.flatMap_cons, List.flatMap_nil, List.filter_nil, key, Nat.mul_zero, Nat.mul_one, opS, sem, mkT, binI, binS, eqLs, eqL, B, I, one, pures, PV.ok, PV.cells, fillL, fillE, List.replicate, cellV, cellO, cellR, newsOf, callArgs, splice, L.pure, not_false_eq_true, decide_true, Int.natCast_nonneg, Int.cast_ofNat_Int, implies_true, reduceCtorEq, Nat.reduceBEq, Nat.reduceEqDiff, Nat.reduceAdd, Nat.reduceLeDiff, Nat.reduceLT, Nat.reduceSub, Nat.reduceMul]
  show AW _ _ (.loop _) _ _
  refine AW.count n (fun i st => st = ⟨mkL [(0, .l (.vs q ((markMsgs n k).map Msg.cs))), (1, .l (.v (.int .i64 (k + 13 * (i : Int))))), (5, .l (.v (.int .i64 (i : Int))))], fun _ => none⟩) ?_ ?_
  · refine Lo.plain [(0, .l (.vs q ((markMsgs n k).map Msg.cs))), (1, .l (.v (.int .i64 (k + 13 * ((0 : Nat) : Int))))), (5, .l (.v (.int .i64 ((0 : Nat) : Int))))] ?_ rfl rfl
    simp only [↓WA, WB, ↓reduceIte, opU, foot, PK, LK, footsApart, footP, footL, List.flatMap_cons, List.flatMap_nil, List.filter_nil, key, Nat.mul_zero, Nat.mul_one, opS, sem, mkT, binI, binS, eqLs, eqL, B, I, one, pures, PV.ok, PV.cells, fillL, fillE, List.replicate, cellV, cellO, cellR, newsOf, callArgs, splice, L.pure, not_false_eq_true, decide_true, Int.natCast_nonneg, Int.cast_ofNat_Int, implies_true, reduceCtorEq, Nat.reduceBEq, Nat.reduceEqDiff, Nat.reduceAdd, Nat.reduceLeDiff, Nat.reduceLT, Nat.reduceSub, Nat.reduceMul]
    simp
  · rintro i st hi rfl
    simp only [mkL]
    refine AW_of_wps _ _ _ ?_
    simp only [List.length_map, markMsgs_len, ↓WA, WB, ↓reduceIte, opU, foot, PK, LK, footsApart, footP, footL, List.flatMap_cons, List.flatMap_nil, List.filter_nil, key, Nat.mul_zero, Nat.mul_one, opS, sem, mkT, binI, binS, eqLs, eqL, B, I, one, pures, PV.ok, PV.cells, fillL, fillE, List.replicate, cellV, cellO, cellR, newsOf, callArgs, splice, L.pure, not_false_eq_true, decide_true, Int.natCast_nonneg, Int.cast_ofNat_Int, implies_true, reduceCtorEq, Nat.reduceBEq, Nat.reduceEqDiff, Nat.reduceAdd, Nat.reduceLeDiff, Nat.reduceLT, Nat.reduceSub, Nat.reduceMul]
    split
    · rename_i hlt
      have hg := get_map (f := Msg.cs) (markMsgs_get (n := n) (i := i) (k := k) (by omega))
      rw [markMsg_cs] at hg
      generalize hK : k + 13 * (i : Int) = K at hg ⊢
      simp only [hg, Int.add_assoc, Int.reduceAdd, not_true_eq_false, ↓WA, WB, ↓reduceIte, opU, foot, PK, LK, footsApart, footP, footL, List.flatMap_cons, List.flatMap_nil, List.filter_nil, key, Nat.mul_zero, Nat.mul_one, opS, sem, mkT, binI, binS, eqLs, eqL, B, I, one, pures, PV.ok, PV.cells, fillL, fillE, List.replicate, cellV, cellO, cellR, newsOf, callArgs, splice, L.pure, not_false_eq_true, decide_true, Int.natCast_nonneg, Int.cast_ofNat_Int, implies_true, reduceCtorEq, Nat.reduceBEq, Nat.reduceEqDiff, Nat.reduceAdd, Nat.reduceLeDiff, Nat.reduceLT, Nat.reduceSub, Nat.reduceMul]
      refine ⟨by rw [inK64]; omega, by rw [inK64]; omega, by rw [inK64]; omega, by rw [inK64]; omega, by rw [inK64]; omega, by rw [inK64]; omega, by rw [inK64]; omega, by rw [inK64]; omega, by rw [inK64]; omega, by rw [inK64]; omega, by omega, by rw [inK64]; omega, ?_⟩
      refine CS.plain (markText_ok (K + 11) (by omega)) rfl rfl ?_
      simp only [hg, Int.add_assoc, Int.reduceAdd, not_true_eq_false, ↓WA, WB, ↓reduceIte, opU, foot, PK, LK, footsApart, footP, footL, List.flatMap_cons, List.flatMap_nil, List.filter_nil, key, Nat.mul_zero, Nat.mul_one, opS, sem, mkT, binI, binS, eqLs, eqL, B, I, one, pures, PV.ok, PV.cells, fillL, fillE, List.replicate, cellV, cellO, cellR, newsOf, callArgs, splice, L.pure, not_false_eq_true, decide_true, Int.natCast_nonneg, Int.cast_ofNat_Int, implies_true, reduceCtorEq, Nat.reduceBEq, Nat.reduceEqDiff, Nat.reduceAdd, Nat.reduceLeDiff, Nat.reduceLT, Nat.reduceSub, Nat.reduceMul]
      refine ⟨by rw [inK64]; omega, by rw [inK64]; omega, by rw [inK64]; omega, by omega, ?_⟩
      refine Lo.plain [(0, .l (.vs q ((markMsgs n k).map Msg.cs))), (1, .l (.v (.int .i64 (k + 13 * ((i + 1 : Nat) : Int))))), (5, .l (.v (.int .i64 ((i + 1 : Nat) : Int))))] ?_ rfl rfl
      simp only [↓WA, WB, ↓reduceIte, opU, foot, PK, LK, footsApart, footP, footL, List.flatMap_cons, List.flatMap_nil, List.filter_nil, key, Nat.mul_zero, Nat.mul_one, opS, sem, mkT, binI, binS, eqLs, eqL, B, I, one, pures, PV.ok, PV.cells, fillL, fillE, List.replicate, cellV, cellO, cellR, newsOf, callArgs, splice, L.pure, not_false_eq_true, decide_true, Int.natCast_nonneg, Int.cast_ofNat_Int, implies_true, reduceCtorEq, Nat.reduceBEq, Nat.reduceEqDiff, Nat.reduceAdd, Nat.reduceLeDiff, Nat.reduceLT, Nat.reduceSub, Nat.reduceMul]
      try (rw [← hK]; exact ⟨by congr 3; omega, rfl⟩)
    · have : i = n := by omega
      subst this
      rfl
end Go.Proofs
