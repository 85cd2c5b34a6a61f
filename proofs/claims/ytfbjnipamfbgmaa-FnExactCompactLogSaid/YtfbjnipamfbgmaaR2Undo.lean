import Derived.Test.YtfbjnipamfbgmaaR2Log2
set_option linter.unusedSimpArgs false
set_option linter.unusedVariables false
namespace Go.Proofs
open Go Go.Ab

theorem validVec_false {v : List Int} {i : Nat} {n : Int} (h : v[i]? = some n) (hn : inRange n 0 99 = false) : validVec v = false := by
  rw [validVec, all_false h hn, Bool.false_and]

theorem specValidVector_ok (q : Bool) (v : List Int) : CallOk Try.prog 93 [.l (.vs q (v.map ics))] [] (.l (.v (.bool (validVec v)))) [] [] := by
  refine CallOk.short 0 ⟨_, Try.func93, rfl, rfl⟩ rfl fun hshort => ?_
  have hshort : v.length ≤ 9223372036854775807 := by simpa [maxLen] using hshort
  refine callOk_pure1 (fn := Try.f93) (r := .t 2) follows Try.func93 rfl c93_eq (Nat.le_of_ble_eq_true rfl) (by kernel_rfl) rfl (.v _) ?_
  simp only [c93, List.length_map, ↓WA, WB, ↓reduceIte, opU, foot, PK, LK, footsApart, footP, footL, List.flatMap_cons, List.flatMap_nil, List.filter_nil, key, Nat.mul_zero, Nat.mul_one, opS, sem, mkT, binI, binS, eqLs, eqL, B, I, one, pures, PV.ok, PV.cells, fillL, fillE, List.replicate, cellV, cellO, cellR, newsOf, callArgs, splice, L.pure, not_false_eq_true, decide_true, Int.natCast_nonneg, Int.cast_ofNat_Int, implies_true, reduceCtorEq, Nat.reduceBEq, Nat.reduceEqDiff, Nat.reduceAdd, Nat.reduceLeDiff, Nat.reduceLT, Nat.reduceSub, Nat.reduceMul]
  show AW _ _ (.loop _) _ _
  refine AW.count v.length (fun i st => (v.take i).all (fun n => inRange n 0 99) = true ∧ st = ⟨mkL [(0, .l (.vs q (v.map ics))), (3, .l (.v (.int .i64 (i : Int))))], fun _ => none⟩) ?_ ?_
  · refine Lo.plain [(0, .l (.vs q (v.map ics))), (3, .l (.v (.int .i64 ((0 : Nat) : Int))))] ?_ rfl ⟨rfl, rfl⟩
    simp only [↓WA, WB, ↓reduceIte, opU, foot, PK, LK, footsApart, footP, footL, List.flatMap_cons, List.flatMap_nil, List.filter_nil, key, Nat.mul_zero, Nat.mul_one, opS, sem, mkT, binI, binS, eqLs, eqL, B, I, one, pures, PV.ok, PV.cells, fillL, fillE, List.replicate, cellV, cellO, cellR, newsOf, callArgs, splice, L.pure, not_false_eq_true, decide_true, Int.natCast_nonneg, Int.cast_ofNat_Int, implies_true, reduceCtorEq, Nat.reduceBEq, Nat.reduceEqDiff, Nat.reduceAdd, Nat.reduceLeDiff, Nat.reduceLT, Nat.reduceSub, Nat.reduceMul]
  · rintro i st hi ⟨hall, rfl⟩
    simp only [mkL]
    refine AW_of_wps _ _ _ ?_
    simp only [List.length_map, ↓WA, WB, ↓reduceIte, opU, foot, PK, LK, footsApart, footP, footL, List.flatMap_cons, List.flatMap_nil, List.filter_nil, key, Nat.mul_zero, Nat.mul_one, opS, sem, mkT, binI, binS, eqLs, eqL, B, I, one, pures, PV.ok, PV.cells, fillL, fillE, List.replicate, cellV, cellO, cellR, newsOf, callArgs, splice, L.pure, not_false_eq_true, decide_true, Int.natCast_nonneg, Int.cast_ofNat_Int, implies_true, reduceCtorEq, Nat.reduceBEq, Nat.reduceEqDiff, Nat.reduceAdd, Nat.reduceLeDiff, Nat.reduceLT, Nat.reduceSub, Nat.reduceMul]
    split
    · rename_i hlt
      obtain ⟨x, hx⟩ := get_some (l := v) (i := i) (by omega)
      have hx' := get_map (f := ics) hx
      simp only [hx', ics, ↓WA, WB, ↓reduceIte, opU, foot, PK, LK, footsApart, footP, footL, List.flatMap_cons, List.flatMap_nil, List.filter_nil, key, Nat.mul_zero, Nat.mul_one, opS, sem, mkT, binI, binS, eqLs, eqL, B, I, one, pures, PV.ok, PV.cells, fillL, fillE, List.replicate, cellV, cellO, cellR, newsOf, callArgs, splice, L.pure, not_false_eq_true, decide_true, Int.natCast_nonneg, Int.cast_ofNat_Int, implies_true, reduceCtorEq, Nat.reduceBEq, Nat.reduceEqDiff, Nat.reduceAdd, Nat.reduceLeDiff, Nat.reduceLT, Nat.reduceSub, Nat.reduceMul]
      refine CS.plain (inRange_ok _ _ _) rfl rfl ?_
      simp only [↓WA, WB, ↓reduceIte, opU, foot, PK, LK, footsApart, footP, footL, List.flatMap_cons, List.flatMap_nil, List.filter_nil, key, Nat.mul_zero, Nat.mul_one, opS, sem, mkT, binI, binS, eqLs, eqL, B, I, one, pures, PV.ok, PV.cells, fillL, fillE, List.replicate, cellV, cellO, cellR, newsOf, callArgs, splice, L.pure, not_false_eq_true, decide_true, Int.natCast_nonneg, Int.cast_ofNat_Int, implies_true, reduceCtorEq, Nat.reduceBEq, Nat.reduceEqDiff, Nat.reduceAdd, Nat.reduceLeDiff, Nat.reduceLT, Nat.reduceSub, Nat.reduceMul]
      split
      · rename_i h
        rw [validVec_false hx (by simpa using h)]
      · rename_i h
        refine ⟨by rw [inK64]; omega, by omega, ?_⟩
        refine Lo.plain [(0, .l (.vs q (v.map ics))), (3, .l (.v (.int .i64 ((i + 1 : Nat) : Int))))] ?_ rfl ⟨all_take hx hall (by simpa using h), rfl⟩
        simp only [↓WA, WB, ↓reduceIte, opU, foot, PK, LK, footsApart, footP, footL, List.flatMap_cons, List.flatMap_nil, List.filter_nil, key, Nat.mul_zero, Nat.mul_one, opS, sem, mkT, binI, binS, eqLs, eqL, B, I, one, pures, PV.ok, PV.cells, fillL, fillE, List.replicate, cellV, cellO, cellR, newsOf, callArgs, splice, L.pure, not_false_eq_true, decide_true, Int.natCast_nonneg, Int.cast_ofNat_Int, implies_true, reduceCtorEq, Nat.reduceBEq, Nat.reduceEqDiff, Nat.reduceAdd, Nat.reduceLeDiff, Nat.reduceLT, Nat.reduceSub, Nat.reduceMul]
        simp
    · have : i = v.length := by omega
      subst this
      rw [List.take_length] at hall
      refine bEq ?_
      simp [validVec, hall]
      omega

theorem implValidVector_ok (q : Bool) (v : List Int) : CallOk Try.prog 96 [.l (.vs q (v.map ics))] [] (.l (.v (.bool (validVec v)))) [] [] := by
  refine CallOk.short 0 ⟨_, Try.func96, rfl, rfl⟩ rfl fun hshort => ?_
  have hshort : v.length ≤ 9223372036854775807 := by simpa [maxLen] using hshort
  refine callOk_pure1 (fn := Try.f96) (r := .t 2) follows Try.func96 rfl c96_eq (Nat.le_of_ble_eq_true rfl) (by kernel_rfl) rfl (.v _) ?_
  simp only [c96, List.length_map, ↓WA, WB, ↓reduceIte, opU, foot, PK, LK, footsApart, footP, footL, List.flatMap_cons, List.flatMap_nil, List.filter_nil, key, Nat.mul_zero, Nat.mul_one, opS, sem, mkT, binI, binS, eqLs, eqL, B, I, one, pures, PV.ok, PV.cells, fillL, fillE, List.replicate, cellV, cellO, cellR, newsOf, callArgs, splice, L.pure, not_false_eq_true, decide_true, Int.natCast_nonneg, Int.cast_ofNat_Int, implies_true, reduceCtorEq, Nat.reduceBEq, Nat.reduceEqDiff, Nat.reduceAdd, Nat.reduceLeDiff, Nat.reduceLT, Nat.reduceSub, Nat.reduceMul]
  show AW _ _ (.loop _) _ _
  refine AW.count v.length (fun i st => (v.take i).all (fun n => inRange n 0 99) = true ∧ st = ⟨mkL [(0, .l (.vs q (v.map ics))), (5, .l (.vs q (v.map ics))), (6, .l (.v (.int .i64 v.length))), (7, .l (.v (.int .i64 (i : Int))))], fun _ => none⟩) ?_ ?_
  · refine Lo.plain [(0, .l (.vs q (v.map ics))), (5, .l (.vs q (v.map ics))), (6, .l (.v (.int .i64 v.length))), (7, .l (.v (.int .i64 ((0 : Nat) : Int))))] ?_ rfl ⟨rfl, rfl⟩
    simp only [↓WA, WB, ↓reduceIte, opU, foot, PK, LK, footsApart, footP, footL, List.flatMap_cons, List.flatMap_nil, List.filter_nil, key, Nat.mul_zero, Nat.mul_one, opS, sem, mkT, binI, binS, eqLs, eqL, B, I, one, pures, PV.ok, PV.cells, fillL, fillE, List.replicate, cellV, cellO, cellR, newsOf, callArgs, splice, L.pure, not_false_eq_true, decide_true, Int.natCast_nonneg, Int.cast_ofNat_Int, implies_true, reduceCtorEq, Nat.reduceBEq, Nat.reduceEqDiff, Nat.reduceAdd, Nat.reduceLeDiff, Nat.reduceLT, Nat.reduceSub, Nat.reduceMul]
  · rintro i st hi ⟨hall, rfl⟩
    simp only [mkL]
    refine AW_of_wps _ _ _ ?_
    simp only [List.length_map, ↓WA, WB, ↓reduceIte, opU, foot, PK, LK, footsApart, footP, footL, List.flatMap_cons, List.flatMap_nil, List.filter_nil, key, Nat.mul_zero, Nat.mul_one, opS, sem, mkT, binI, binS, eqLs, eqL, B, I, one, pures, PV.ok, PV.cells, fillL, fillE, List.replicate, cellV, cellO, cellR, newsOf, callArgs, splice, L.pure, not_false_eq_true, decide_true, Int.natCast_nonneg, Int.cast_ofNat_Int, implies_true, reduceCtorEq, Nat.reduceBEq, Nat.reduceEqDiff, Nat.reduceAdd, Nat.reduceLeDiff, Nat.reduceLT, Nat.reduceSub, Nat.reduceMul]
    split
    · rename_i hlt
      obtain ⟨x, hx⟩ := get_some (l := v) (i := i) (by omega)
      have hx' := get_map (f := ics) hx
      simp only [hx', ics, ↓WA, WB, ↓reduceIte, opU, foot, PK, LK, footsApart, footP, footL, List.flatMap_cons, List.flatMap_nil, List.filter_nil, key, Nat.mul_zero, Nat.mul_one, opS, sem, mkT, binI, binS, eqLs, eqL, B, I, one, pures, PV.ok, PV.cells, fillL, fillE, List.replicate, cellV, cellO, cellR, newsOf, callArgs, splice, L.pure, not_false_eq_true, decide_true, Int.natCast_nonneg, Int.cast_ofNat_Int, implies_true, reduceCtorEq, Nat.reduceBEq, Nat.reduceEqDiff, Nat.reduceAdd, Nat.reduceLeDiff, Nat.reduceLT, Nat.reduceSub, Nat.reduceMul]
      have fin : inRange x 0 99 = true → ∀ (T : Nat → PV) (H : Nat → Option AObj), T 0 = .l (.vs q (v.map ics)) → T 5 = .l (.vs q (v.map ics)) → T 6 = .l (.v (.int .i64 v.length)) → T 7 = .l (.v (.int .i64 ((i : Int) + 1))) →
          inK .i64 ((i : Int) + 1) ∧ i < v.length ∧ Lo (fun st => (v.take (i + 1)).all (fun n => inRange n 0 99) = true ∧ st = ⟨mkL [(0, .l (.vs q (v.map ics))), (5, .l (.vs q (v.map ics))), (6, .l (.v (.int .i64 v.length))), (7, .l (.v (.int .i64 ((i + 1 : Nat) : Int))))], fun _ => none⟩) ⟨T, H⟩ := by
        intro h T H e1 e2 e3 e4
        refine ⟨by rw [inK64]; omega, by omega, ?_⟩
        refine Lo.plain [(0, .l (.vs q (v.map ics))), (5, .l (.vs q (v.map ics))), (6, .l (.v (.int .i64 v.length))), (7, .l (.v (.int .i64 ((i + 1 : Nat) : Int))))] ?_ rfl ⟨all_take hx hall h, rfl⟩
        simp [e1, e2, e3, e4]
      repeat' split
      all_goals first
        | (rw [validVec_false hx (by simp [inRange]; omega)]; done)
        | (refine fin (by simp [inRange]; omega) _ _ ?_ ?_ ?_ ?_ <;> simp only [↓WA, WB, ↓reduceIte, opU, foot, PK, LK, footsApart, footP, footL, List.flatMap_cons, List.flatMap_nil, List.filter_nil, key, Nat.mul_zero, Nat.mul_one, opS, sem, mkT, binI, binS, eqLs, eqL, B, I, one, pures, PV.ok, PV.cells, fillL, fillE, List.replicate, cellV, cellO, cellR, newsOf, callArgs, splice, L.pure, not_false_eq_true, decide_true, Int.natCast_nonneg, Int.cast_ofNat_Int, implies_true, reduceCtorEq, Nat.reduceBEq, Nat.reduceEqDiff, Nat.reduceAdd, Nat.reduceLeDiff, Nat.reduceLT, Nat.reduceSub, Nat.reduceMul]; done)
    · have : i = v.length := by omega
      subst this
      rw [List.take_length] at hall
      refine bEq ?_
      simp [validVec, hall]
      omega

theorem vecSet_rows (v : List Int) (o : DOp) : (vecSet v o).map ics = (v.map ics).set o.id.a.toNat [.v (.int .i64 o.id.q)] := by
  rw [vecSet, List.map_set]; rfl

theorem specLogVector_ok (q : Bool) (s : List DOp) (hv : okAll validOp opLess s = true) (hl : s.length ≤ 1048576) : CallOk Try.prog 65 [.l (.vs q (s.map DOp.cs))] [] (.l (.sl 0 0 3)) [] [iobj ((logVecTo s).map ics)] := by
  refine callOk_new (fn := Try.f65) (r := .t 2) follows Try.func65 rfl c65_eq (Nat.le_of_ble_eq_true rfl) (by kernel_rfl) rfl rfl (rows_hb ics_hb _) ?_
  simp only [c65, List.length_map, ↓WA, WB, ↓reduceIte, opU, foot, PK, LK, footsApart, footP, footL, List.flatMap_cons, List.flatMap_nil, List.filter_nil, key, Nat.mul_zero, Nat.mul_one, opS, sem, mkT, binI, binS, eqLs, eqL, B, I, one, pures, PV.ok, PV.cells, fillL, fillE, List.replicate, cellV, cellO, cellR, newsOf, callArgs, splice, L.pure, not_false_eq_true, decide_true, Int.natCast_nonneg, Int.cast_ofNat_Int, implies_true, reduceCtorEq, Nat.reduceBEq, Nat.reduceEqDiff, Nat.reduceAdd, Nat.reduceLeDiff, Nat.reduceLT, Nat.reduceSub, Nat.reduceMul]
  refine ⟨by omega, ?_⟩
  show AW _ _ (.loop _) _ _
  refine AW.count s.length (fun i st => st = ⟨mkL [(0, .l (.vs q (s.map DOp.cs))), (3, .l (.sl 1005 0 3)), (4, .l (.v (.int .i64 (i : Int))))], mkH [(1005, iobj ((logVecTo (s.take i)).map ics))]⟩) ?_ ?_
  · refine Lo.own [(0, .l (.vs q (s.map DOp.cs))), (3, .l (.sl 1005 0 3)), (4, .l (.v (.int .i64 ((0 : Nat) : Int))))] [(1005, 1005, iobj ((logVecTo (s.take 0)).map ics))] ?_ rfl ?_ rfl (by simp) (by simp) rfl
    · simp only [gOf, renP, renL, ↓WA, WB, ↓reduceIte, opU, foot, PK, LK, footsApart, footP, footL, List.flatMap_cons, List.flatMap_nil, List.filter_nil, key, Nat.mul_zero, Nat.mul_one, opS, sem, mkT, binI, binS, eqLs, eqL, B, I, one, pures, PV.ok, PV.cells, fillL, fillE, List.replicate, cellV, cellO, cellR, newsOf, callArgs, splice, L.pure, not_false_eq_true, decide_true, Int.natCast_nonneg, Int.cast_ofNat_Int, implies_true, reduceCtorEq, Nat.reduceBEq, Nat.reduceEqDiff, Nat.reduceAdd, Nat.reduceLeDiff, Nat.reduceLT, Nat.reduceSub, Nat.reduceMul]
      simp
    · simp only [iobj, ↓WA, WB, ↓reduceIte, opU, foot, PK, LK, footsApart, footP, footL, List.flatMap_cons, List.flatMap_nil, List.filter_nil, key, Nat.mul_zero, Nat.mul_one, opS, sem, mkT, binI, binS, eqLs, eqL, B, I, one, pures, PV.ok, PV.cells, fillL, fillE, List.replicate, cellV, cellO, cellR, newsOf, callArgs, splice, L.pure, not_false_eq_true, decide_true, Int.natCast_nonneg, Int.cast_ofNat_Int, implies_true, reduceCtorEq, Nat.reduceBEq, Nat.reduceEqDiff, Nat.reduceAdd, Nat.reduceLeDiff, Nat.reduceLT, Nat.reduceSub, Nat.reduceMul]
      exact ⟨0, Nat.zero_le _, rfl⟩
  · rintro i st hi rfl
    simp only [mkL, mkH]
    refine AW_of_wps _ _ _ ?_
    simp only [List.length_map, ↓WA, WB, ↓reduceIte, opU, foot, PK, LK, footsApart, footP, footL, List.flatMap_cons, List.flatMap_nil, List.filter_nil, key, Nat.mul_zero, Nat.mul_one, opS, sem, mkT, binI, binS, eqLs, eqL, B, I, one, pures, PV.ok, PV.cells, fillL, fillE, List.replicate, cellV, cellO, cellR, newsOf, callArgs, splice, L.pure, not_false_eq_true, decide_true, Int.natCast_nonneg, Int.cast_ofNat_Int, implies_true, reduceCtorEq, Nat.reduceBEq, Nat.reduceEqDiff, Nat.reduceAdd, Nat.reduceLeDiff, Nat.reduceLT, Nat.reduceSub, Nat.reduceMul]
    split
    · rename_i hlt
      obtain ⟨x, hx⟩ := get_some (l := s) (i := i) (by omega)
      have hx' := get_map (f := DOp.cs) hx
      have hst := validStamp_iff.mp (log_stamps hv x (List.mem_of_getElem? hx))
      obtain ⟨y, hy, hlt2⟩ := logVec_less hv hx
      have hy' : ((logVecTo (s.take i)).map ics)[x.id.a.toNat]? = some [.v (.int .i64 y)] := get_map (f := ics) hy
      simp only [hx', hy', DOp.cs, iobj, ↓WA, WB, ↓reduceIte, opU, foot, PK, LK, footsApart, footP, footL, List.flatMap_cons, List.flatMap_nil, List.filter_nil, key, Nat.mul_zero, Nat.mul_one, opS, sem, mkT, binI, binS, eqLs, eqL, B, I, one, pures, PV.ok, PV.cells, fillL, fillE, List.replicate, cellV, cellO, cellR, newsOf, callArgs, splice, L.pure, not_false_eq_true, decide_true, Int.natCast_nonneg, Int.cast_ofNat_Int, implies_true, reduceCtorEq, Nat.reduceBEq, Nat.reduceEqDiff, Nat.reduceAdd, Nat.reduceLeDiff, Nat.reduceLT, Nat.reduceSub, Nat.reduceMul]
      refine ⟨by omega, ?_⟩
      rw [if_pos hlt2]
      refine ⟨by omega, by rw [inK64]; omega, by omega, ?_⟩
      refine Lo.own [(0, .l (.vs q (s.map DOp.cs))), (3, .l (.sl 1005 0 3)), (4, .l (.v (.int .i64 ((i + 1 : Nat) : Int))))] [(1005, 1005, iobj ((logVecTo (s.take (i + 1))).map ics))] ?_ rfl ?_ rfl (by simp) (by simp) rfl
      · simp only [gOf, renP, renL, ↓WA, WB, ↓reduceIte, opU, foot, PK, LK, footsApart, footP, footL, List.flatMap_cons, List.flatMap_nil, List.filter_nil, key, Nat.mul_zero, Nat.mul_one, opS, sem, mkT, binI, binS, eqLs, eqL, B, I, one, pures, PV.ok, PV.cells, fillL, fillE, List.replicate, cellV, cellO, cellR, newsOf, callArgs, splice, L.pure, not_false_eq_true, decide_true, Int.natCast_nonneg, Int.cast_ofNat_Int, implies_true, reduceCtorEq, Nat.reduceBEq, Nat.reduceEqDiff, Nat.reduceAdd, Nat.reduceLeDiff, Nat.reduceLT, Nat.reduceSub, Nat.reduceMul]
        simp
      · simp only [iobj, ↓WA, WB, ↓reduceIte, opU, foot, PK, LK, footsApart, footP, footL, List.flatMap_cons, List.flatMap_nil, List.filter_nil, key, Nat.mul_zero, Nat.mul_one, opS, sem, mkT, binI, binS, eqLs, eqL, B, I, one, pures, PV.ok, PV.cells, fillL, fillE, List.replicate, cellV, cellO, cellR, newsOf, callArgs, splice, L.pure, not_false_eq_true, decide_true, Int.natCast_nonneg, Int.cast_ofNat_Int, implies_true, reduceCtorEq, Nat.reduceBEq, Nat.reduceEqDiff, Nat.reduceAdd, Nat.reduceLeDiff, Nat.reduceLT, Nat.reduceSub, Nat.reduceMul]
        refine ⟨0, Nat.zero_le _, ?_⟩
        rw [take_snoc hx, logVec_snoc, vecSet_rows]
    · have : i = s.length := by omega
      subst this
      refine ⟨1005, 0, rfl, ?_, Nat.zero_le _⟩
      simp [upd, iobj]

theorem LogVector_ok (q : Bool) (s : List DOp) (ht : ∀ o ∈ s, o.text.size < 2 ^ 62) (hvl : validLog s = true) : CallOk Try.prog 69 [.l (.vs q (s.map DOp.cs))] [] (.l (.sl 0 0 3)) [] [iobj ((logVecTo s).map ics)] := by
  have hv := validLog_all hvl
  have hl := validLog_len hvl
  refine callOk_new (fn := Try.f69) (r := .t 2) follows Try.func69 rfl c69_eq (Nat.le_of_ble_eq_true rfl) (by kernel_rfl) rfl rfl (rows_hb ics_hb _) ?_
  simp only [c69, List.length_map, ↓WA, WB, ↓reduceIte, opU, foot, PK, LK, footsApart, footP, footL, List.flatMap_cons, List.flatMap_nil, List.filter_nil, key, Nat.mul_zero, Nat.mul_one, opS, sem, mkT, binI, binS, eqLs, eqL, B, I, one, pures, PV.ok, PV.cells, fillL, fillE, List.replicate, cellV, cellO, cellR, newsOf, callArgs, splice, L.pure, not_false_eq_true, decide_true, Int.natCast_nonneg, Int.cast_ofNat_Int, implies_true, reduceCtorEq, Nat.reduceBEq, Nat.reduceEqDiff, Nat.reduceAdd, Nat.reduceLeDiff, Nat.reduceLT, Nat.reduceSub, Nat.reduceMul]
  refine CS.plain (implValidLog_ok q s ht) rfl rfl ?_
  simp only [hvl, List.length_map, ↓WA, WB, ↓reduceIte, opU, foot, PK, LK, footsApart, footP, footL, List.flatMap_cons, List.flatMap_nil, List.filter_nil, key, Nat.mul_zero, Nat.mul_one, opS, sem, mkT, binI, binS, eqLs, eqL, B, I, one, pures, PV.ok, PV.cells, fillL, fillE, List.replicate, cellV, cellO, cellR, newsOf, callArgs, splice, L.pure, not_false_eq_true, decide_true, Int.natCast_nonneg, Int.cast_ofNat_Int, implies_true, reduceCtorEq, Nat.reduceBEq, Nat.reduceEqDiff, Nat.reduceAdd, Nat.reduceLeDiff, Nat.reduceLT, Nat.reduceSub, Nat.reduceMul]
  refine ⟨by omega, ?_⟩
  show AW _ _ (.loop _) _ _
  refine AW.count s.length (fun i st => st = ⟨mkL [(0, .l (.vs q (s.map DOp.cs))), (3, .l (.sl 1009 0 3)), (10, .l (.vs q (s.map DOp.cs))), (11, .l (.v (.int .i64 s.length))), (12, .l (.v (.int .i64 (i : Int))))], mkH [(1009, iobj ((logVecTo (s.take i)).map ics))]⟩) ?_ ?_
  · refine Lo.own [(0, .l (.vs q (s.map DOp.cs))), (3, .l (.sl 1009 0 3)), (10, .l (.vs q (s.map DOp.cs))), (11, .l (.v (.int .i64 s.length))), (12, .l (.v (.int .i64 ((0 : Nat) : Int))))] [(1009, 1009, iobj ((logVecTo (s.take 0)).map ics))] ?_ rfl ?_ rfl (by simp) (by simp) rfl
    · simp only [gOf, renP, renL, ↓WA, WB, ↓reduceIte, opU, foot, PK, LK, footsApart, footP, footL, List.flatMap_cons, List.flatMap_nil, List.filter_nil, key, Nat.mul_zero, Nat.mul_one, opS, sem, mkT, binI, binS, eqLs, eqL, B, I, one, pures, PV.ok, PV.cells, fillL, fillE, List.replicate, cellV, cellO, cellR, newsOf, callArgs, splice, L.pure, not_false_eq_true, decide_true, Int.natCast_nonneg, Int.cast_ofNat_Int, implies_true, reduceCtorEq, Nat.reduceBEq, Nat.reduceEqDiff, Nat.reduceAdd, Nat.reduceLeDiff, Nat.reduceLT, Nat.reduceSub, Nat.reduceMul]
      simp
    · simp only [iobj, ↓WA, WB, ↓reduceIte, opU, foot, PK, LK, footsApart, footP, footL, List.flatMap_cons, List.flatMap_nil, List.filter_nil, key, Nat.mul_zero, Nat.mul_one, opS, sem, mkT, binI, binS, eqLs, eqL, B, I, one, pures, PV.ok, PV.cells, fillL, fillE, List.replicate, cellV, cellO, cellR, newsOf, callArgs, splice, L.pure, not_false_eq_true, decide_true, Int.natCast_nonneg, Int.cast_ofNat_Int, implies_true, reduceCtorEq, Nat.reduceBEq, Nat.reduceEqDiff, Nat.reduceAdd, Nat.reduceLeDiff, Nat.reduceLT, Nat.reduceSub, Nat.reduceMul]
      exact ⟨0, Nat.zero_le _, rfl⟩
  · rintro i st hi rfl
    simp only [mkL, mkH]
    refine AW_of_wps _ _ _ ?_
    simp only [List.length_map, ↓WA, WB, ↓reduceIte, opU, foot, PK, LK, footsApart, footP, footL, List.flatMap_cons, List.flatMap_nil, List.filter_nil, key, Nat.mul_zero, Nat.mul_one, opS, sem, mkT, binI, binS, eqLs, eqL, B, I, one, pures, PV.ok, PV.cells, fillL, fillE, List.replicate, cellV, cellO, cellR, newsOf, callArgs, splice, L.pure, not_false_eq_true, decide_true, Int.natCast_nonneg, Int.cast_ofNat_Int, implies_true, reduceCtorEq, Nat.reduceBEq, Nat.reduceEqDiff, Nat.reduceAdd, Nat.reduceLeDiff, Nat.reduceLT, Nat.reduceSub, Nat.reduceMul]
    split
    · rename_i hlt
      obtain ⟨x, hx⟩ := get_some (l := s) (i := i) (by omega)
      have hx' := get_map (f := DOp.cs) hx
      have hst := validStamp_iff.mp (log_stamps hv x (List.mem_of_getElem? hx))
      obtain ⟨y, hy, hlt2⟩ := logVec_less hv hx
      have hy' : ((logVecTo (s.take i)).map ics)[x.id.a.toNat]? = some [.v (.int .i64 y)] := get_map (f := ics) hy
      simp only [hx', hy', DOp.cs, iobj, ↓WA, WB, ↓reduceIte, opU, foot, PK, LK, footsApart, footP, footL, List.flatMap_cons, List.flatMap_nil, List.filter_nil, key, Nat.mul_zero, Nat.mul_one, opS, sem, mkT, binI, binS, eqLs, eqL, B, I, one, pures, PV.ok, PV.cells, fillL, fillE, List.replicate, cellV, cellO, cellR, newsOf, callArgs, splice, L.pure, not_false_eq_true, decide_true, Int.natCast_nonneg, Int.cast_ofNat_Int, implies_true, reduceCtorEq, Nat.reduceBEq, Nat.reduceEqDiff, Nat.reduceAdd, Nat.reduceLeDiff, Nat.reduceLT, Nat.reduceSub, Nat.reduceMul]
      refine ⟨by omega, by rw [inK64]; omega, by omega, ?_⟩
      refine Lo.own [(0, .l (.vs q (s.map DOp.cs))), (3, .l (.sl 1009 0 3)), (10, .l (.vs q (s.map DOp.cs))), (11, .l (.v (.int .i64 s.length))), (12, .l (.v (.int .i64 ((i + 1 : Nat) : Int))))] [(1009, 1009, iobj ((logVecTo (s.take (i + 1))).map ics))] ?_ rfl ?_ rfl (by simp) (by simp) rfl
      · simp only [gOf, renP, renL, ↓WA, WB, ↓reduceIte, opU, foot, PK, LK, footsApart, footP, footL, List.flatMap_cons, List.flatMap_nil, List.filter_nil, key, Nat.mul_zero, Nat.mul_one, opS, sem, mkT, binI, binS, eqLs, eqL, B, I, one, pures, PV.ok, PV.cells, fillL, fillE, List.replicate, cellV, cellO, cellR, newsOf, callArgs, splice, L.pure, not_false_eq_true, decide_true, Int.natCast_nonneg, Int.cast_ofNat_Int, implies_true, reduceCtorEq, Nat.reduceBEq, Nat.reduceEqDiff, Nat.reduceAdd, Nat.reduceLeDiff, Nat.reduceLT, Nat.reduceSub, Nat.reduceMul]
        simp
      · simp only [iobj, ↓WA, WB, ↓reduceIte, opU, foot, PK, LK, footsApart, footP, footL, List.flatMap_cons, List.flatMap_nil, List.filter_nil, key, Nat.mul_zero, Nat.mul_one, opS, sem, mkT, binI, binS, eqLs, eqL, B, I, one, pures, PV.ok, PV.cells, fillL, fillE, List.replicate, cellV, cellO, cellR, newsOf, callArgs, splice, L.pure, not_false_eq_true, decide_true, Int.natCast_nonneg, Int.cast_ofNat_Int, implies_true, reduceCtorEq, Nat.reduceBEq, Nat.reduceEqDiff, Nat.reduceAdd, Nat.reduceLeDiff, Nat.reduceLT, Nat.reduceSub, Nat.reduceMul]
        refine ⟨0, Nat.zero_le _, ?_⟩
        rw [take_snoc hx, logVec_snoc, vecSet_rows]
    · have : i = s.length := by omega
      subst this
      refine ⟨1009, 0, rfl, ?_, Nat.zero_le _⟩
      simp [upd, iobj]

theorem vecMax_step {v : List Int} {i : Nat} {x m : Int} (hx : v[i]? = some x) (h : (v.drop i).foldl (fun m n => if n > m then n else m) m = vecMax v) : (v.drop (i + 1)).foldl (fun m n => if n > m then n else m) (if x > m then x else m) = vecMax v := by
  rw [drop_cons hx, List.foldl_cons] at h; exact h

theorem specNextStamp_ok (q : Bool) (v : List Int) (who : Int) : CallOk Try.prog 64 [.l (.vs q (v.map ics)), .l (.v (.int .i64 who))] [] (.agg (nextStamp v who).cs) [] [] := by
  refine CallOk.short 0 ⟨_, Try.func64, rfl, rfl⟩ rfl fun hshort => ?_
  have hshort : v.length ≤ 9223372036854775807 := by simpa [maxLen] using hshort
  refine callOk_pure1 (fn := Try.f64) (r := .c 4 2 true) follows Try.func64 rfl c64_eq (Nat.le_of_ble_eq_true rfl) (by kernel_rfl) rfl (Stamp.hb _) ?_
  simp only [c64, List.length_map, ↓WA, WB, ↓reduceIte, opU, foot, PK, LK, footsApart, footP, footL, List.flatMap_cons, List.flatMap_nil, List.filter_nil, key, Nat.mul_zero, Nat.mul_one, opS, sem, mkT, binI, binS, eqLs, eqL, B, I, one, pures, PV.ok, PV.cells, fillL, fillE, List.replicate, cellV, cellO, cellR, newsOf, callArgs, splice, L.pure, not_false_eq_true, decide_true, Int.natCast_nonneg, Int.cast_ofNat_Int, implies_true, reduceCtorEq, Nat.reduceBEq, Nat.reduceEqDiff, Nat.reduceAdd, Nat.reduceLeDiff, Nat.reduceLT, Nat.reduceSub, Nat.reduceMul]
  refine CS.plain (specValidVector_ok q v) rfl rfl ?_
  simp only [↓WA, WB, ↓reduceIte, opU, foot, PK, LK, footsApart, footP, footL, List.flatMap_cons, List.flatMap_nil, List.filter_nil, key, Nat.mul_zero, Nat.mul_one, opS, sem, mkT, binI, binS, eqLs, eqL, B, I, one, pures, PV.ok, PV.cells, fillL, fillE, List.replicate, cellV, cellO, cellR, newsOf, callArgs, splice, L.pure, not_false_eq_true, decide_true, Int.natCast_nonneg, Int.cast_ofNat_Int, implies_true, reduceCtorEq, Nat.reduceBEq, Nat.reduceEqDiff, Nat.reduceAdd, Nat.reduceLeDiff, Nat.reduceLT, Nat.reduceSub, Nat.reduceMul]
  by_cases hv : validVec v = true
  rotate_left
  · have hv : validVec v = false := by simpa using hv
    simp only [hv, ↓WA, WB, ↓reduceIte, opU, foot, PK, LK, footsApart, footP, footL, List.flatMap_cons, List.flatMap_nil, List.filter_nil, key, Nat.mul_zero, Nat.mul_one, opS, sem, mkT, binI, binS, eqLs, eqL, B, I, one, pures, PV.ok, PV.cells, fillL, fillE, List.replicate, cellV, cellO, cellR, newsOf, callArgs, splice, L.pure, not_false_eq_true, decide_true, Int.natCast_nonneg, Int.cast_ofNat_Int, implies_true, reduceCtorEq, Nat.reduceBEq, Nat.reduceEqDiff, Nat.reduceAdd, Nat.reduceLeDiff, Nat.reduceLT, Nat.reduceSub, Nat.reduceMul]
    simp [nextStamp, hv, Stamp.cs]
  simp only [hv, ↓WA, WB, ↓reduceIte, opU, foot, PK, LK, footsApart, footP, footL, List.flatMap_cons, List.flatMap_nil, List.filter_nil, key, Nat.mul_zero, Nat.mul_one, opS, sem, mkT, binI, binS, eqLs, eqL, B, I, one, pures, PV.ok, PV.cells, fillL, fillE, List.replicate, cellV, cellO, cellR, newsOf, callArgs, splice, L.pure, not_false_eq_true, decide_true, Int.natCast_nonneg, Int.cast_ofNat_Int, implies_true, reduceCtorEq, Nat.reduceBEq, Nat.reduceEqDiff, Nat.reduceAdd, Nat.reduceLeDiff, Nat.reduceLT, Nat.reduceSub, Nat.reduceMul]
  refine CS.plain (inRange_ok _ _ _) rfl rfl ?_
  simp only [↓WA, WB, ↓reduceIte, opU, foot, PK, LK, footsApart, footP, footL, List.flatMap_cons, List.flatMap_nil, List.filter_nil, key, Nat.mul_zero, Nat.mul_one, opS, sem, mkT, binI, binS, eqLs, eqL, B, I, one, pures, PV.ok, PV.cells, fillL, fillE, List.replicate, cellV, cellO, cellR, newsOf, callArgs, splice, L.pure, not_false_eq_true, decide_true, Int.natCast_nonneg, Int.cast_ofNat_Int, implies_true, reduceCtorEq, Nat.reduceBEq, Nat.reduceEqDiff, Nat.reduceAdd, Nat.reduceLeDiff, Nat.reduceLT, Nat.reduceSub, Nat.reduceMul]
  by_cases hw : inRange who 0 2 = true
  rotate_left
  · have hw : inRange who 0 2 = false := by simpa using hw
    simp only [hw, ↓WA, WB, ↓reduceIte, opU, foot, PK, LK, footsApart, footP, footL, List.flatMap_cons, List.flatMap_nil, List.filter_nil, key, Nat.mul_zero, Nat.mul_one, opS, sem, mkT, binI, binS, eqLs, eqL, B, I, one, pures, PV.ok, PV.cells, fillL, fillE, List.replicate, cellV, cellO, cellR, newsOf, callArgs, splice, L.pure, not_false_eq_true, decide_true, Int.natCast_nonneg, Int.cast_ofNat_Int, implies_true, reduceCtorEq, Nat.reduceBEq, Nat.reduceEqDiff, Nat.reduceAdd, Nat.reduceLeDiff, Nat.reduceLT, Nat.reduceSub, Nat.reduceMul]
    simp [nextStamp, hw, Stamp.cs]
  simp only [hw, ↓WA, WB, ↓reduceIte, opU, foot, PK, LK, footsApart, footP, footL, List.flatMap_cons, List.flatMap_nil, List.filter_nil, key, Nat.mul_zero, Nat.mul_one, opS, sem, mkT, binI, binS, eqLs, eqL, B, I, one, pures, PV.ok, PV.cells, fillL, fillE, List.replicate, cellV, cellO, cellR, newsOf, callArgs, splice, L.pure, not_false_eq_true, decide_true, Int.natCast_nonneg, Int.cast_ofNat_Int, implies_true, reduceCtorEq, Nat.reduceBEq, Nat.reduceEqDiff, Nat.reduceAdd, Nat.reduceLeDiff, Nat.reduceLT, Nat.reduceSub, Nat.reduceMul]
  have hmx := validVec_max hv
  show AW _ _ (.loop _) _ _
  refine AW.count v.length (fun i st => ∃ m : Int, (v.drop i).foldl (fun m n => if n > m then n else m) m = vecMax v ∧ st = ⟨mkL [(0, .l (.vs q (v.map ics))), (1, .l (.v (.int .i64 who))), (4, .l (.ptr 1004 0 0)), (5, .l (.v (.int .i64 m))), (6, .l (.v (.int .i64 (i : Int))))], mkH [(1004, ⟨0, true, 2, [[.v (.int .i64 0), .v (.int .i64 0)]]⟩)]⟩) ?_ ?_
  · refine Lo.own [(0, .l (.vs q (v.map ics))), (1, .l (.v (.int .i64 who))), (4, .l (.ptr 1004 0 0)), (5, .l (.v (.int .i64 0))), (6, .l (.v (.int .i64 ((0 : Nat) : Int))))] [(1004, 1004, ⟨0, true, 2, [[.v (.int .i64 0), .v (.int .i64 0)]]⟩)] ?_ rfl ?_ rfl (by simp) (by simp) ⟨0, rfl, rfl⟩
    · simp only [gOf, renP, renL, ↓WA, WB, ↓reduceIte, opU, foot, PK, LK, footsApart, footP, footL, List.flatMap_cons, List.flatMap_nil, List.filter_nil, key, Nat.mul_zero, Nat.mul_one, opS, sem, mkT, binI, binS, eqLs, eqL, B, I, one, pures, PV.ok, PV.cells, fillL, fillE, List.replicate, cellV, cellO, cellR, newsOf, callArgs, splice, L.pure, not_false_eq_true, decide_true, Int.natCast_nonneg, Int.cast_ofNat_Int, implies_true, reduceCtorEq, Nat.reduceBEq, Nat.reduceEqDiff, Nat.reduceAdd, Nat.reduceLeDiff, Nat.reduceLT, Nat.reduceSub, Nat.reduceMul]
    · simp only [↓WA, WB, ↓reduceIte, opU, foot, PK, LK, footsApart, footP, footL, List.flatMap_cons, List.flatMap_nil, List.filter_nil, key, Nat.mul_zero, Nat.mul_one, opS, sem, mkT, binI, binS, eqLs, eqL, B, I, one, pures, PV.ok, PV.cells, fillL, fillE, List.replicate, cellV, cellO, cellR, newsOf, callArgs, splice, L.pure, not_false_eq_true, decide_true, Int.natCast_nonneg, Int.cast_ofNat_Int, implies_true, reduceCtorEq, Nat.reduceBEq, Nat.reduceEqDiff, Nat.reduceAdd, Nat.reduceLeDiff, Nat.reduceLT, Nat.reduceSub, Nat.reduceMul]
      exact ⟨0, Nat.zero_le _, rfl⟩
  · rintro i st hi ⟨m, hm, rfl⟩
    simp only [mkL, mkH]
    refine AW_of_wps _ _ _ ?_
    simp only [List.length_map, ↓WA, WB, ↓reduceIte, opU, foot, PK, LK, footsApart, footP, footL, List.flatMap_cons, List.flatMap_nil, List.filter_nil, key, Nat.mul_zero, Nat.mul_one, opS, sem, mkT, binI, binS, eqLs, eqL, B, I, one, pures, PV.ok, PV.cells, fillL, fillE, List.replicate, cellV, cellO, cellR, newsOf, callArgs, splice, L.pure, not_false_eq_true, decide_true, Int.natCast_nonneg, Int.cast_ofNat_Int, implies_true, reduceCtorEq, Nat.reduceBEq, Nat.reduceEqDiff, Nat.reduceAdd, Nat.reduceLeDiff, Nat.reduceLT, Nat.reduceSub, Nat.reduceMul]
    split
    · rename_i hlt
      obtain ⟨x, hx⟩ := get_some (l := v) (i := i) (by omega)
      have hx' := get_map (f := ics) hx
      have hm2 := vecMax_step hx hm
      have fin : ∀ (T : Nat → PV) (H : Nat → Option AObj) (m2 : Int), (if x > m then x else m) = m2 → T 0 = .l (.vs q (v.map ics)) → T 1 = .l (.v (.int .i64 who)) → T 4 = .l (.ptr 1004 0 0) → T 5 = .l (.v (.int .i64 m2)) → T 6 = .l (.v (.int .i64 ((i : Int) + 1))) → H 1004 = some ⟨0, true, 2, [[.v (.int .i64 0), .v (.int .i64 0)]]⟩ →
          inK .i64 ((i : Int) + 1) ∧ i < v.length ∧ Lo (fun st => ∃ m : Int, (v.drop (i + 1)).foldl (fun m n => if n > m then n else m) m = vecMax v ∧ st = ⟨mkL [(0, .l (.vs q (v.map ics))), (1, .l (.v (.int .i64 who))), (4, .l (.ptr 1004 0 0)), (5, .l (.v (.int .i64 m))), (6, .l (.v (.int .i64 ((i + 1 : Nat) : Int))))], mkH [(1004, ⟨0, true, 2, [[.v (.int .i64 0), .v (.int .i64 0)]]⟩)]⟩) ⟨T, H⟩ := by
        intro T H m2 e0 e1 e2 e3 e4 e5 e6
        rw [e0] at hm2
        refine ⟨by rw [inK64]; omega, by omega, ?_⟩
        refine Lo.own [(0, .l (.vs q (v.map ics))), (1, .l (.v (.int .i64 who))), (4, .l (.ptr 1004 0 0)), (5, .l (.v (.int .i64 m2))), (6, .l (.v (.int .i64 ((i + 1 : Nat) : Int))))] [(1004, 1004, ⟨0, true, 2, [[.v (.int .i64 0), .v (.int .i64 0)]]⟩)] ?_ rfl ?_ rfl (by simp) (by simp) ⟨m2, hm2, rfl⟩
        · simp [e1, e2, e3, e4, e5, renP, renL, gOf, upd]
        · simp [e6]
      simp only [hx', ics, ↓WA, WB, ↓reduceIte, opU, foot, PK, LK, footsApart, footP, footL, List.flatMap_cons, List.flatMap_nil, List.filter_nil, key, Nat.mul_zero, Nat.mul_one, opS, sem, mkT, binI, binS, eqLs, eqL, B, I, one, pures, PV.ok, PV.cells, fillL, fillE, List.replicate, cellV, cellO, cellR, newsOf, callArgs, splice, L.pure, not_false_eq_true, decide_true, Int.natCast_nonneg, Int.cast_ofNat_Int, implies_true, reduceCtorEq, Nat.reduceBEq, Nat.reduceEqDiff, Nat.reduceAdd, Nat.reduceLeDiff, Nat.reduceLT, Nat.reduceSub, Nat.reduceMul]
      split
      · rename_i h
        refine fin _ _ x (if_pos h) ?_ ?_ ?_ ?_ ?_ ?_ <;> simp only [↓WA, WB, ↓reduceIte, opU, foot, PK, LK, footsApart, footP, footL, List.flatMap_cons, List.flatMap_nil, List.filter_nil, key, Nat.mul_zero, Nat.mul_one, opS, sem, mkT, binI, binS, eqLs, eqL, B, I, one, pures, PV.ok, PV.cells, fillL, fillE, List.replicate, cellV, cellO, cellR, newsOf, callArgs, splice, L.pure, not_false_eq_true, decide_true, Int.natCast_nonneg, Int.cast_ofNat_Int, implies_true, reduceCtorEq, Nat.reduceBEq, Nat.reduceEqDiff, Nat.reduceAdd, Nat.reduceLeDiff, Nat.reduceLT, Nat.reduceSub, Nat.reduceMul]
      · rename_i h
        refine fin _ _ m (if_neg h) ?_ ?_ ?_ ?_ ?_ ?_ <;> simp only [↓WA, WB, ↓reduceIte, opU, foot, PK, LK, footsApart, footP, footL, List.flatMap_cons, List.flatMap_nil, List.filter_nil, key, Nat.mul_zero, Nat.mul_one, opS, sem, mkT, binI, binS, eqLs, eqL, B, I, one, pures, PV.ok, PV.cells, fillL, fillE, List.replicate, cellV, cellO, cellR, newsOf, callArgs, splice, L.pure, not_false_eq_true, decide_true, Int.natCast_nonneg, Int.cast_ofNat_Int, implies_true, reduceCtorEq, Nat.reduceBEq, Nat.reduceEqDiff, Nat.reduceAdd, Nat.reduceLeDiff, Nat.reduceLT, Nat.reduceSub, Nat.reduceMul]
    · rw [List.drop_of_length_le (by omega)] at hm
      have hm : m = vecMax v := hm
      subst hm
      split
      · rename_i h
        rw [nextStamp, if_neg (fun hc => absurd hc.2.2 (by omega))]
        rfl
      · rename_i h
        refine ⟨by rw [inK64]; omega, ?_⟩
        rw [nextStamp, if_pos ⟨hv, hw, by omega⟩]
        rfl

theorem implNextStamp_ok (q : Bool) (v : List Int) (who : Int) : CallOk Try.prog 68 [.l (.vs q (v.map ics)), .l (.v (.int .i64 who))] [] (.agg (nextStamp v who).cs) [] [] := by
  refine CallOk.short 0 ⟨_, Try.func68, rfl, rfl⟩ rfl fun hshort => ?_
  have hshort : v.length ≤ 9223372036854775807 := by simpa [maxLen] using hshort
  refine callOk_pure1 (fn := Try.f68) (r := .c 4 2 true) follows Try.func68 rfl c68_eq (Nat.le_of_ble_eq_true rfl) (by kernel_rfl) rfl (Stamp.hb _) ?_
  simp only [c68, List.length_map, ↓WA, WB, ↓reduceIte, opU, foot, PK, LK, footsApart, footP, footL, List.flatMap_cons, List.flatMap_nil, List.filter_nil, key, Nat.mul_zero, Nat.mul_one, opS, sem, mkT, binI, binS, eqLs, eqL, B, I, one, pures, PV.ok, PV.cells, fillL, fillE, List.replicate, cellV, cellO, cellR, newsOf, callArgs, splice, L.pure, not_false_eq_true, decide_true, Int.natCast_nonneg, Int.cast_ofNat_Int, implies_true, reduceCtorEq, Nat.reduceBEq, Nat.reduceEqDiff, Nat.reduceAdd, Nat.reduceLeDiff, Nat.reduceLT, Nat.reduceSub, Nat.reduceMul]
  refine CS.plain (implValidVector_ok q v) rfl rfl ?_
  simp only [↓WA, WB, ↓reduceIte, opU, foot, PK, LK, footsApart, footP, footL, List.flatMap_cons, List.flatMap_nil, List.filter_nil, key, Nat.mul_zero, Nat.mul_one, opS, sem, mkT, binI, binS, eqLs, eqL, B, I, one, pures, PV.ok, PV.cells, fillL, fillE, List.replicate, cellV, cellO, cellR, newsOf, callArgs, splice, L.pure, not_false_eq_true, decide_true, Int.natCast_nonneg, Int.cast_ofNat_Int, implies_true, reduceCtorEq, Nat.reduceBEq, Nat.reduceEqDiff, Nat.reduceAdd, Nat.reduceLeDiff, Nat.reduceLT, Nat.reduceSub, Nat.reduceMul]
  by_cases hv : validVec v = true
  rotate_left
  · have hv : validVec v = false := by simpa using hv
    simp only [hv, ↓WA, WB, ↓reduceIte, opU, foot, PK, LK, footsApart, footP, footL, List.flatMap_cons, List.flatMap_nil, List.filter_nil, key, Nat.mul_zero, Nat.mul_one, opS, sem, mkT, binI, binS, eqLs, eqL, B, I, one, pures, PV.ok, PV.cells, fillL, fillE, List.replicate, cellV, cellO, cellR, newsOf, callArgs, splice, L.pure, not_false_eq_true, decide_true, Int.natCast_nonneg, Int.cast_ofNat_Int, implies_true, reduceCtorEq, Nat.reduceBEq, Nat.reduceEqDiff, Nat.reduceAdd, Nat.reduceLeDiff, Nat.reduceLT, Nat.reduceSub, Nat.reduceMul]
    simp [nextStamp, hv, Stamp.cs]
  simp only [hv, ↓WA, WB, ↓reduceIte, opU, foot, PK, LK, footsApart, footP, footL, List.flatMap_cons, List.flatMap_nil, List.filter_nil, key, Nat.mul_zero, Nat.mul_one, opS, sem, mkT, binI, binS, eqLs, eqL, B, I, one, pures, PV.ok, PV.cells, fillL, fillE, List.replicate, cellV, cellO, cellR, newsOf, callArgs, splice, L.pure, not_false_eq_true, decide_true, Int.natCast_nonneg, Int.cast_ofNat_Int, implies_true, reduceCtorEq, Nat.reduceBEq, Nat.reduceEqDiff, Nat.reduceAdd, Nat.reduceLeDiff, Nat.reduceLT, Nat.reduceSub, Nat.reduceMul]
  refine CS.plain (isAuthor_ok _) rfl rfl ?_
  simp only [↓WA, WB, ↓reduceIte, opU, foot, PK, LK, footsApart, footP, footL, List.flatMap_cons, List.flatMap_nil, List.filter_nil, key, Nat.mul_zero, Nat.mul_one, opS, sem, mkT, binI, binS, eqLs, eqL, B, I, one, pures, PV.ok, PV.cells, fillL, fillE, List.replicate, cellV, cellO, cellR, newsOf, callArgs, splice, L.pure, not_false_eq_true, decide_true, Int.natCast_nonneg, Int.cast_ofNat_Int, implies_true, reduceCtorEq, Nat.reduceBEq, Nat.reduceEqDiff, Nat.reduceAdd, Nat.reduceLeDiff, Nat.reduceLT, Nat.reduceSub, Nat.reduceMul]
  by_cases hw : inRange who 0 2 = true
  rotate_left
  · have hw : inRange who 0 2 = false := by simpa using hw
    simp only [hw, ↓WA, WB, ↓reduceIte, opU, foot, PK, LK, footsApart, footP, footL, List.flatMap_cons, List.flatMap_nil, List.filter_nil, key, Nat.mul_zero, Nat.mul_one, opS, sem, mkT, binI, binS, eqLs, eqL, B, I, one, pures, PV.ok, PV.cells, fillL, fillE, List.replicate, cellV, cellO, cellR, newsOf, callArgs, splice, L.pure, not_false_eq_true, decide_true, Int.natCast_nonneg, Int.cast_ofNat_Int, implies_true, reduceCtorEq, Nat.reduceBEq, Nat.reduceEqDiff, Nat.reduceAdd, Nat.reduceLeDiff, Nat.reduceLT, Nat.reduceSub, Nat.reduceMul]
    simp [nextStamp, hw, Stamp.cs]
  simp only [hw, List.length_map, ↓WA, WB, ↓reduceIte, opU, foot, PK, LK, footsApart, footP, footL, List.flatMap_cons, List.flatMap_nil, List.filter_nil, key, Nat.mul_zero, Nat.mul_one, opS, sem, mkT, binI, binS, eqLs, eqL, B, I, one, pures, PV.ok, PV.cells, fillL, fillE, List.replicate, cellV, cellO, cellR, newsOf, callArgs, splice, L.pure, not_false_eq_true, decide_true, Int.natCast_nonneg, Int.cast_ofNat_Int, implies_true, reduceCtorEq, Nat.reduceBEq, Nat.reduceEqDiff, Nat.reduceAdd, Nat.reduceLeDiff, Nat.reduceLT, Nat.reduceSub, Nat.reduceMul]
  have hmx := validVec_max hv
  show AW _ _ (.loop _) _ _
  refine AW.count v.length (fun i st => ∃ m : Int, (v.drop i).foldl (fun m n => if n > m then n else m) m = vecMax v ∧ st = ⟨mkL [(0, .l (.vs q (v.map ics))), (1, .l (.v (.int .i64 who))), (4, .l (.ptr 1004 0 0)), (5, .l (.v (.int .i64 m))), (17, .l (.vs q (v.map ics))), (18, .l (.v (.int .i64 v.length))), (19, .l (.v (.int .i64 (i : Int))))], mkH [(1004, ⟨0, true, 2, [[.v (.int .i64 0), .v (.int .i64 0)]]⟩)]⟩) ?_ ?_
  · refine Lo.own [(0, .l (.vs q (v.map ics))), (1, .l (.v (.int .i64 who))), (4, .l (.ptr 1004 0 0)), (5, .l (.v (.int .i64 0))), (17, .l (.vs q (v.map ics))), (18, .l (.v (.int .i64 v.length))), (19, .l (.v (.int .i64 ((0 : Nat) : Int))))] [(1004, 1004, ⟨0, true, 2, [[.v (.int .i64 0), .v (.int .i64 0)]]⟩)] ?_ rfl ?_ rfl (by simp) (by simp) ⟨0, rfl, rfl⟩
    · simp only [gOf, renP, renL, ↓WA, WB, ↓reduceIte, opU, foot, PK, LK, footsApart, footP, footL, List.flatMap_cons, List.flatMap_nil, List.filter_nil, key, Nat.mul_zero, Nat.mul_one, opS, sem, mkT, binI, binS, eqLs, eqL, B, I, one, pures, PV.ok, PV.cells, fillL, fillE, List.replicate, cellV, cellO, cellR, newsOf, callArgs, splice, L.pure, not_false_eq_true, decide_true, Int.natCast_nonneg, Int.cast_ofNat_Int, implies_true, reduceCtorEq, Nat.reduceBEq, Nat.reduceEqDiff, Nat.reduceAdd, Nat.reduceLeDiff, Nat.reduceLT, Nat.reduceSub, Nat.reduceMul]
    · simp only [↓WA, WB, ↓reduceIte, opU, foot, PK, LK, footsApart, footP, footL, List.flatMap_cons, List.flatMap_nil, List.filter_nil, key, Nat.mul_zero, Nat.mul_one, opS, sem, mkT, binI, binS, eqLs, eqL, B, I, one, pures, PV.ok, PV.cells, fillL, fillE, List.replicate, cellV, cellO, cellR, newsOf, callArgs, splice, L.pure, not_false_eq_true, decide_true, Int.natCast_nonneg, Int.cast_ofNat_Int, implies_true, reduceCtorEq, Nat.reduceBEq, Nat.reduceEqDiff, Nat.reduceAdd, Nat.reduceLeDiff, Nat.reduceLT, Nat.reduceSub, Nat.reduceMul]
      exact ⟨0, Nat.zero_le _, rfl⟩
  · rintro i st hi ⟨m, hm, rfl⟩
    simp only [mkL, mkH]
    refine AW_of_wps _ _ _ ?_
    simp only [List.length_map, ↓WA, WB, ↓reduceIte, opU, foot, PK, LK, footsApart, footP, footL, List.flatMap_cons, List.flatMap_nil, List.filter_nil, key, Nat.mul_zero, Nat.mul_one, opS, sem, mkT, binI, binS, eqLs, eqL, B, I, one, pures, PV.ok, PV.cells, fillL, fillE, List.replicate, cellV, cellO, cellR, newsOf, callArgs, splice, L.pure, not_false_eq_true, decide_true, Int.natCast_nonneg, Int.cast_ofNat_Int, implies_true, reduceCtorEq, Nat.reduceBEq, Nat.reduceEqDiff, Nat.reduceAdd, Nat.reduceLeDiff, Nat.reduceLT, Nat.reduceSub, Nat.reduceMul]
    split
    · rename_i hlt
      obtain ⟨x, hx⟩ := get_some (l := v) (i := i) (by omega)
      have hx' := get_map (f := ics) hx
      have hm2 := vecMax_step hx hm
      simp only [hx', ics, ↓WA, WB, ↓reduceIte, opU, foot, PK, LK, footsApart, footP, footL, List.flatMap_cons, List.flatMap_nil, List.filter_nil, key, Nat.mul_zero, Nat.mul_one, opS, sem, mkT, binI, binS, eqLs, eqL, B, I, one, pures, PV.ok, PV.cells, fillL, fillE, List.replicate, cellV, cellO, cellR, newsOf, callArgs, splice, L.pure, not_false_eq_true, decide_true, Int.natCast_nonneg, Int.cast_ofNat_Int, implies_true, reduceCtorEq, Nat.reduceBEq, Nat.reduceEqDiff, Nat.reduceAdd, Nat.reduceLeDiff, Nat.reduceLT, Nat.reduceSub, Nat.reduceMul]
      refine ⟨by rw [inK64]; omega, by omega, ?_⟩
      refine Lo.own [(0, .l (.vs q (v.map ics))), (1, .l (.v (.int .i64 who))), (4, .l (.ptr 1004 0 0)), (5, .l (.v (.int .i64 (if x > m then x else m)))), (17, .l (.vs q (v.map ics))), (18, .l (.v (.int .i64 v.length))), (19, .l (.v (.int .i64 ((i + 1 : Nat) : Int))))] [(1004, 1004, ⟨0, true, 2, [[.v (.int .i64 0), .v (.int .i64 0)]]⟩)] ?_ rfl ?_ rfl (by simp) (by simp) ⟨_, hm2, rfl⟩
      · simp only [gOf, renP, renL, ↓WA, WB, ↓reduceIte, opU, foot, PK, LK, footsApart, footP, footL, List.flatMap_cons, List.flatMap_nil, List.filter_nil, key, Nat.mul_zero, Nat.mul_one, opS, sem, mkT, binI, binS, eqLs, eqL, B, I, one, pures, PV.ok, PV.cells, fillL, fillE, List.replicate, cellV, cellO, cellR, newsOf, callArgs, splice, L.pure, not_false_eq_true, decide_true, Int.natCast_nonneg, Int.cast_ofNat_Int, implies_true, reduceCtorEq, Nat.reduceBEq, Nat.reduceEqDiff, Nat.reduceAdd, Nat.reduceLeDiff, Nat.reduceLT, Nat.reduceSub, Nat.reduceMul]
        simp
      · simp only [↓WA, WB, ↓reduceIte, opU, foot, PK, LK, footsApart, footP, footL, List.flatMap_cons, List.flatMap_nil, List.filter_nil, key, Nat.mul_zero, Nat.mul_one, opS, sem, mkT, binI, binS, eqLs, eqL, B, I, one, pures, PV.ok, PV.cells, fillL, fillE, List.replicate, cellV, cellO, cellR, newsOf, callArgs, splice, L.pure, not_false_eq_true, decide_true, Int.natCast_nonneg, Int.cast_ofNat_Int, implies_true, reduceCtorEq, Nat.reduceBEq, Nat.reduceEqDiff, Nat.reduceAdd, Nat.reduceLeDiff, Nat.reduceLT, Nat.reduceSub, Nat.reduceMul]
        exact ⟨0, Nat.zero_le _, rfl⟩
    · rw [List.drop_of_length_le (by omega)] at hm
      have hm : m = vecMax v := hm
      subst hm
      split
      · rename_i h
        rw [nextStamp, if_neg (fun hc => absurd hc.2.2 (by omega))]
        rfl
      · rename_i h
        refine ⟨by rw [inK64]; omega, ?_⟩
        rw [nextStamp, if_pos ⟨hv, hw, by omega⟩]
        rfl

def makeUndo (l : List DOp) (id : Stamp) (en : Bool) : DOp × Bool := if validLog l = true then (match l.find? (fun o => decide (o.id = id)) with
  | some o => if o.kind = 10 then (default, false) else (undoOp l id en, !decide (nextStamp (logVecTo l) id.a = ⟨0, 0⟩))
  | none => (default, false)) else (default, false)

theorem makeUndo_bad {l : List DOp} (h : validLog l = false) (id : Stamp) (en : Bool) : makeUndo l id en = (default, false) := by simp [makeUndo, h]

theorem find_of {l : List DOp} (h : okAll validOp opLess l = true) {i : Nat} {x : DOp} (hx : l[i]? = some x) : l.find? (fun o => decide (o.id = x.id)) = some x := by
  cases e : l.find? (fun o => decide (o.id = x.id)) with
  | none =>
    have := List.find?_eq_none.mp e x (List.mem_of_getElem? hx)
    simp at this
  | some y =>
    have h1 := List.find?_some e
    have h2 := List.mem_of_find?_eq_some e
    obtain ⟨j, hj⟩ := List.mem_iff_getElem?.mp h2
    have := ids_inj h hx hj (by have := of_decide_eq_true h1; exact this.symm)
    subst this
    rw [hx] at hj; cases hj
    rfl

theorem find_none {l : List DOp} {t : Stamp} (h : ∀ x ∈ l, x.id ≠ t) : l.find? (fun o => decide (o.id = t)) = none := by
  rw [List.find?_eq_none]
  intro x hx
  simpa using h x hx

theorem retV_two (a b : PV) : retV [a, b] = .tup [a, b] := rfl

theorem DOp.def_cs : (default : DOp).cs = DOp.zero := rfl

theorem specMakeUndo_ok (q : Bool) (s : List DOp) (id : Stamp) (en : Bool) (ht : ∀ o ∈ s, o.text.size < 2 ^ 62) : CallOk Try.prog 19 [.l (.vs q (s.map DOp.cs)), .agg id.cs, .l (.v (.bool en))] [] (.tup [.agg (makeUndo s id en).1.cs, .l (.v (.bool (makeUndo s id en).2))]) [] [] := by
  rw [← retV_two]
  refine callOk_pure (fn := Try.f19) (rs := [.c 6 12 true, .t 7]) follows Try.func19 rfl c19_eq (Nat.le_of_ble_eq_true rfl) (by kernel_rfl) rfl ?_ ?_
  · intro p hp
    simp only [List.mem_cons, List.not_mem_nil, or_false] at hp
    rcases hp with rfl | rfl
    · exact DOp.hb _
    · exact .v _
  simp only [c19, Stamp.cs, ↓WA, WB, ↓reduceIte, opU, foot, PK, LK, footsApart, footP, footL, List.flatMap_cons, List.flatMap_nil, List.filter_nil, key, Nat.mul_zero, Nat.mul_one, opS, sem, mkT, binI, binS, eqLs, eqL, B, I, one, pures, PV.ok, PV.cells, fillL, fillE, List.replicate, cellV, cellO, cellR, newsOf, callArgs, splice, L.pure, not_false_eq_true, decide_true, Int.natCast_nonneg, Int.cast_ofNat_Int, implies_true, reduceCtorEq, Nat.reduceBEq, Nat.reduceEqDiff, Nat.reduceAdd, Nat.reduceLeDiff, Nat.reduceLT, Nat.reduceSub, Nat.reduceMul]
  refine CS.plain (specValidLog_ok q s ht) rfl rfl ?_
  simp only [↓WA, WB, ↓reduceIte, opU, foot, PK, LK, footsApart, footP, footL, List.flatMap_cons, List.flatMap_nil, List.filter_nil, key, Nat.mul_zero, Nat.mul_one, opS, sem, mkT, binI, binS, eqLs, eqL, B, I, one, pures, PV.ok, PV.cells, fillL, fillE, List.replicate, cellV, cellO, cellR, newsOf, callArgs, splice, L.pure, not_false_eq_true, decide_true, Int.natCast_nonneg, Int.cast_ofNat_Int, implies_true, reduceCtorEq, Nat.reduceBEq, Nat.reduceEqDiff, Nat.reduceAdd, Nat.reduceLeDiff, Nat.reduceLT, Nat.reduceSub, Nat.reduceMul]
  by_cases hvl : validLog s = true
  rotate_left
  · have hvl : validLog s = false := by simpa using hvl
    rw [makeUndo_bad hvl]
    simp only [hvl, DOp.def_cs, DOp.zero, ↓WA, WB, ↓reduceIte, opU, foot, PK, LK, footsApart, footP, footL, List.flatMap_cons, List.flatMap_nil, List.filter_nil, key, Nat.mul_zero, Nat.mul_one, opS, sem, mkT, binI, binS, eqLs, eqL, B, I, one, pures, PV.ok, PV.cells, fillL, fillE, List.replicate, cellV, cellO, cellR, newsOf, callArgs, splice, L.pure, not_false_eq_true, decide_true, Int.natCast_nonneg, Int.cast_ofNat_Int, implies_true, reduceCtorEq, Nat.reduceBEq, Nat.reduceEqDiff, Nat.reduceAdd, Nat.reduceLeDiff, Nat.reduceLT, Nat.reduceSub, Nat.reduceMul]
  have hv := validLog_all hvl
  have hl := validLog_len hvl
  simp only [hvl, ↓WA, WB, ↓reduceIte, opU, foot, PK, LK, footsApart, footP, footL, List.flatMap_cons, List.flatMap_nil, List.filter_nil, key, Nat.mul_zero, Nat.mul_one, opS, sem, mkT, binI, binS, eqLs, eqL, B, I, one, pures, PV.ok, PV.cells, fillL, fillE, List.replicate, cellV, cellO, cellR, newsOf, callArgs, splice, L.pure, not_false_eq_true, decide_true, Int.natCast_nonneg, Int.cast_ofNat_Int, implies_true, reduceCtorEq, Nat.reduceBEq, Nat.reduceEqDiff, Nat.reduceAdd, Nat.reduceLeDiff, Nat.reduceLT, Nat.reduceSub, Nat.reduceMul]
  refine CS.plain (findOp_ok q s id) rfl rfl ?_
  simp only [↓WA, WB, ↓reduceIte, opU, foot, PK, LK, footsApart, footP, footL, List.flatMap_cons, List.flatMap_nil, List.filter_nil, key, Nat.mul_zero, Nat.mul_one, opS, sem, mkT, binI, binS, eqLs, eqL, B, I, one, pures, PV.ok, PV.cells, fillL, fillE, List.replicate, cellV, cellO, cellR, newsOf, callArgs, splice, L.pure, not_false_eq_true, decide_true, Int.natCast_nonneg, Int.cast_ofNat_Int, implies_true, reduceCtorEq, Nat.reduceBEq, Nat.reduceEqDiff, Nat.reduceAdd, Nat.reduceLeDiff, Nat.reduceLT, Nat.reduceSub, Nat.reduceMul]
  split
  rotate_left
  · rename_i hneg
    have : makeUndo s id en = (default, false) := by
      rw [makeUndo, if_pos hvl, find_none (opIx_none (by omega))]
    rw [this]
    simp only [DOp.def_cs, DOp.zero, ↓WA, WB, ↓reduceIte, opU, foot, PK, LK, footsApart, footP, footL, List.flatMap_cons, List.flatMap_nil, List.filter_nil, key, Nat.mul_zero, Nat.mul_one, opS, sem, mkT, binI, binS, eqLs, eqL, B, I, one, pures, PV.ok, PV.cells, fillL, fillE, List.replicate, cellV, cellO, cellR, newsOf, callArgs, splice, L.pure, not_false_eq_true, decide_true, Int.natCast_nonneg, Int.cast_ofNat_Int, implies_true, reduceCtorEq, Nat.reduceBEq, Nat.reduceEqDiff, Nat.reduceAdd, Nat.reduceLeDiff, Nat.reduceLT, Nat.reduceSub, Nat.reduceMul]
  rename_i hpos
  obtain ⟨k, x, hk, hx, rfl⟩ := opIx_get (l := s) (t := id) (by omega)
  rw [hk]
  have hx' := get_map (f := DOp.cs) hx
  have hm : makeUndo s x.id en = if x.kind = 10 then (default, false) else (undoOp s x.id en, !decide (nextStamp (logVecTo s) x.id.a = ⟨0, 0⟩)) := by
    rw [makeUndo, if_pos hvl, find_of hv hx]
  by_cases h10 : x.kind = 10
  · rw [hm, if_pos h10]
    simp only [hx', DOp.cs, h10, ↓WA, WB, ↓reduceIte, opU, foot, PK, LK, footsApart, footP, footL, List.flatMap_cons, List.flatMap_nil, List.filter_nil, key, Nat.mul_zero, Nat.mul_one, opS, sem, mkT, binI, binS, eqLs, eqL, B, I, one, pures, PV.ok, PV.cells, fillL, fillE, List.replicate, cellV, cellO, cellR, newsOf, callArgs, splice, L.pure, not_false_eq_true, decide_true, Int.natCast_nonneg, Int.cast_ofNat_Int, implies_true, reduceCtorEq, Nat.reduceBEq, Nat.reduceEqDiff, Nat.reduceAdd, Nat.reduceLeDiff, Nat.reduceLT, Nat.reduceSub, Nat.reduceMul]
    rfl
  rw [hm, if_neg h10]
  simp only [hx', DOp.cs, h10, ↓WA, WB, ↓reduceIte, opU, foot, PK, LK, footsApart, footP, footL, List.flatMap_cons, List.flatMap_nil, List.filter_nil, key, Nat.mul_zero, Nat.mul_one, opS, sem, mkT, binI, binS, eqLs, eqL, B, I, one, pures, PV.ok, PV.cells, fillL, fillE, List.replicate, cellV, cellO, cellR, newsOf, callArgs, splice, L.pure, not_false_eq_true, decide_true, Int.natCast_nonneg, Int.cast_ofNat_Int, implies_true, reduceCtorEq, Nat.reduceBEq, Nat.reduceEqDiff, Nat.reduceAdd, Nat.reduceLeDiff, Nat.reduceLT, Nat.reduceSub, Nat.reduceMul]
  refine CS.new (specLogVector_ok q s hv (by omega)) ?_ rfl rfl ?_ ?_
  · simp [argP, argL, argPOk, argOk, idx_nil, vw, vw1, vwOk, vw1Ok, vis_same, vis_ne, fre_same, fre_ne, fre_none, vis_none]
  · simp [argP, argL, argPOk, argOk, idx_nil, vw, vw1, vwOk, vw1Ok, vis_same, vis_ne, fre_same, fre_ne, fre_none, vis_none]
  simp only [↓WA, WB, ↓reduceIte, opU, foot, PK, LK, footsApart, footP, footL, List.flatMap_cons, List.flatMap_nil, List.filter_nil, key, Nat.mul_zero, Nat.mul_one, opS, sem, mkT, binI, binS, eqLs, eqL, B, I, one, pures, PV.ok, PV.cells, fillL, fillE, List.replicate, cellV, cellO, cellR, newsOf, callArgs, splice, L.pure, not_false_eq_true, decide_true, Int.natCast_nonneg, Int.cast_ofNat_Int, implies_true, reduceCtorEq, Nat.reduceBEq, Nat.reduceEqDiff, Nat.reduceAdd, Nat.reduceLeDiff, Nat.reduceLT, Nat.reduceSub, Nat.reduceMul]
  refine CS.view (specNextStamp_ok false (logVecTo s) x.id.a) ?_ ?_ rfl ?_
  · simp [argP, argL, argPOk, argOk, idx_nil, vw, vw1, vwOk, vw1Ok, vis_same, vis_ne, fre_same, fre_ne, fre_none, vis_none, iobj, logVec_len]
  · simp [argP, argL, argPOk, argOk, idx_nil, vw, vw1, vwOk, vw1Ok, vis_same, vis_ne, fre_same, fre_ne, fre_none, vis_none, iobj, logVec_len]
    simp [List.take_of_length_le, logVec_len]
  simp only [Stamp.cs, ↓WA, WB, ↓reduceIte, opU, foot, PK, LK, footsApart, footP, footL, List.flatMap_cons, List.flatMap_nil, List.filter_nil, key, Nat.mul_zero, Nat.mul_one, opS, sem, mkT, binI, binS, eqLs, eqL, B, I, one, pures, PV.ok, PV.cells, fillL, fillE, List.replicate, cellV, cellO, cellR, newsOf, callArgs, splice, L.pure, not_false_eq_true, decide_true, Int.natCast_nonneg, Int.cast_ofNat_Int, implies_true, reduceCtorEq, Nat.reduceBEq, Nat.reduceEqDiff, Nat.reduceAdd, Nat.reduceLeDiff, Nat.reduceLT, Nat.reduceSub, Nat.reduceMul]
  have hsz : (undoOp s x.id en).text.size < 2 ^ 63 := by show (0 : Nat) < 2 ^ 63; decide
  refine CS.plain (specValidOp_ok (undoOp s x.id en) hsz) rfl rfl ?_
  rw [undoOp_valid hv (List.mem_of_getElem? hx)]
  simp only [DOp.cs, undoOp, ↓WA, WB, ↓reduceIte, opU, foot, PK, LK, footsApart, footP, footL, List.flatMap_cons, List.flatMap_nil, List.filter_nil, key, Nat.mul_zero, Nat.mul_one, opS, sem, mkT, binI, binS, eqLs, eqL, B, I, one, pures, PV.ok, PV.cells, fillL, fillE, List.replicate, cellV, cellO, cellR, newsOf, callArgs, splice, L.pure, not_false_eq_true, decide_true, Int.natCast_nonneg, Int.cast_ofNat_Int, implies_true, reduceCtorEq, Nat.reduceBEq, Nat.reduceEqDiff, Nat.reduceAdd, Nat.reduceLeDiff, Nat.reduceLT, Nat.reduceSub, Nat.reduceMul]

theorem implMakeUndo_ok (q : Bool) (s : List DOp) (id : Stamp) (en : Bool) (ht : ∀ o ∈ s, o.text.size < 2 ^ 62) : CallOk Try.prog 21 [.l (.vs q (s.map DOp.cs)), .agg id.cs, .l (.v (.bool en))] [] (.tup [.agg (makeUndo s id en).1.cs, .l (.v (.bool (makeUndo s id en).2))]) [] [] := by
  rw [← retV_two]
  refine callOk_pure (fn := Try.f21) (rs := [.c 6 12 true, .t 7]) follows Try.func21 rfl c21_eq (Nat.le_of_ble_eq_true rfl) (by kernel_rfl) rfl ?_ ?_
  · intro p hp
    simp only [List.mem_cons, List.not_mem_nil, or_false] at hp
    rcases hp with rfl | rfl
    · exact DOp.hb _
    · exact .v _
  simp only [c21, Stamp.cs, ↓WA, WB, ↓reduceIte, opU, foot, PK, LK, footsApart, footP, footL, List.flatMap_cons, List.flatMap_nil, List.filter_nil, key, Nat.mul_zero, Nat.mul_one, opS, sem, mkT, binI, binS, eqLs, eqL, B, I, one, pures, PV.ok, PV.cells, fillL, fillE, List.replicate, cellV, cellO, cellR, newsOf, callArgs, splice, L.pure, not_false_eq_true, decide_true, Int.natCast_nonneg, Int.cast_ofNat_Int, implies_true, reduceCtorEq, Nat.reduceBEq, Nat.reduceEqDiff, Nat.reduceAdd, Nat.reduceLeDiff, Nat.reduceLT, Nat.reduceSub, Nat.reduceMul]
  refine CS.plain (implValidLog_ok q s ht) rfl rfl ?_
  simp only [↓WA, WB, ↓reduceIte, opU, foot, PK, LK, footsApart, footP, footL, List.flatMap_cons, List.flatMap_nil, List.filter_nil, key, Nat.mul_zero, Nat.mul_one, opS, sem, mkT, binI, binS, eqLs, eqL, B, I, one, pures, PV.ok, PV.cells, fillL, fillE, List.replicate, cellV, cellO, cellR, newsOf, callArgs, splice, L.pure, not_false_eq_true, decide_true, Int.natCast_nonneg, Int.cast_ofNat_Int, implies_true, reduceCtorEq, Nat.reduceBEq, Nat.reduceEqDiff, Nat.reduceAdd, Nat.reduceLeDiff, Nat.reduceLT, Nat.reduceSub, Nat.reduceMul]
  by_cases hvl : validLog s = true
  rotate_left
  · have hvl : validLog s = false := by simpa using hvl
    rw [makeUndo_bad hvl]
    simp only [hvl, DOp.def_cs, DOp.zero, ↓WA, WB, ↓reduceIte, opU, foot, PK, LK, footsApart, footP, footL, List.flatMap_cons, List.flatMap_nil, List.filter_nil, key, Nat.mul_zero, Nat.mul_one, opS, sem, mkT, binI, binS, eqLs, eqL, B, I, one, pures, PV.ok, PV.cells, fillL, fillE, List.replicate, cellV, cellO, cellR, newsOf, callArgs, splice, L.pure, not_false_eq_true, decide_true, Int.natCast_nonneg, Int.cast_ofNat_Int, implies_true, reduceCtorEq, Nat.reduceBEq, Nat.reduceEqDiff, Nat.reduceAdd, Nat.reduceLeDiff, Nat.reduceLT, Nat.reduceSub, Nat.reduceMul]
  have hv := validLog_all hvl
  have hl := validLog_len hvl
  simp only [hvl, ↓WA, WB, ↓reduceIte, opU, foot, PK, LK, footsApart, footP, footL, List.flatMap_cons, List.flatMap_nil, List.filter_nil, key, Nat.mul_zero, Nat.mul_one, opS, sem, mkT, binI, binS, eqLs, eqL, B, I, one, pures, PV.ok, PV.cells, fillL, fillE, List.replicate, cellV, cellO, cellR, newsOf, callArgs, splice, L.pure, not_false_eq_true, decide_true, Int.natCast_nonneg, Int.cast_ofNat_Int, implies_true, reduceCtorEq, Nat.reduceBEq, Nat.reduceEqDiff, Nat.reduceAdd, Nat.reduceLeDiff, Nat.reduceLT, Nat.reduceSub, Nat.reduceMul]
  refine CS.plain (opAt_ok q s id) rfl rfl ?_
  simp only [↓WA, WB, ↓reduceIte, opU, foot, PK, LK, footsApart, footP, footL, List.flatMap_cons, List.flatMap_nil, List.filter_nil, key, Nat.mul_zero, Nat.mul_one, opS, sem, mkT, binI, binS, eqLs, eqL, B, I, one, pures, PV.ok, PV.cells, fillL, fillE, List.replicate, cellV, cellO, cellR, newsOf, callArgs, splice, L.pure, not_false_eq_true, decide_true, Int.natCast_nonneg, Int.cast_ofNat_Int, implies_true, reduceCtorEq, Nat.reduceBEq, Nat.reduceEqDiff, Nat.reduceAdd, Nat.reduceLeDiff, Nat.reduceLT, Nat.reduceSub, Nat.reduceMul]
  split
  rotate_left
  · rename_i hneg
    have : makeUndo s id en = (default, false) := by
      rw [makeUndo, if_pos hvl, find_none (opIx_none (by omega))]
    rw [this]
    simp only [DOp.def_cs, DOp.zero, ↓WA, WB, ↓reduceIte, opU, foot, PK, LK, footsApart, footP, footL, List.flatMap_cons, List.flatMap_nil, List.filter_nil, key, Nat.mul_zero, Nat.mul_one, opS, sem, mkT, binI, binS, eqLs, eqL, B, I, one, pures, PV.ok, PV.cells, fillL, fillE, List.replicate, cellV, cellO, cellR, newsOf, callArgs, splice, L.pure, not_false_eq_true, decide_true, Int.natCast_nonneg, Int.cast_ofNat_Int, implies_true, reduceCtorEq, Nat.reduceBEq, Nat.reduceEqDiff, Nat.reduceAdd, Nat.reduceLeDiff, Nat.reduceLT, Nat.reduceSub, Nat.reduceMul]
  rename_i hpos
  obtain ⟨k, x, hk, hx, rfl⟩ := opIx_get (l := s) (t := id) (by omega)
  rw [hk]
  have hx' := get_map (f := DOp.cs) hx
  have hm : makeUndo s x.id en = if x.kind = 10 then (default, false) else (undoOp s x.id en, !decide (nextStamp (logVecTo s) x.id.a = ⟨0, 0⟩)) := by
    rw [makeUndo, if_pos hvl, find_of hv hx]
  by_cases h10 : x.kind = 10
  · rw [hm, if_pos h10]
    simp only [hx', DOp.cs, h10, ↓WA, WB, ↓reduceIte, opU, foot, PK, LK, footsApart, footP, footL, List.flatMap_cons, List.flatMap_nil, List.filter_nil, key, Nat.mul_zero, Nat.mul_one, opS, sem, mkT, binI, binS, eqLs, eqL, B, I, one, pures, PV.ok, PV.cells, fillL, fillE, List.replicate, cellV, cellO, cellR, newsOf, callArgs, splice, L.pure, not_false_eq_true, decide_true, Int.natCast_nonneg, Int.cast_ofNat_Int, implies_true, reduceCtorEq, Nat.reduceBEq, Nat.reduceEqDiff, Nat.reduceAdd, Nat.reduceLeDiff, Nat.reduceLT, Nat.reduceSub, Nat.reduceMul]
    rfl
  rw [hm, if_neg h10]
  simp only [hx', DOp.cs, h10, ↓WA, WB, ↓reduceIte, opU, foot, PK, LK, footsApart, footP, footL, List.flatMap_cons, List.flatMap_nil, List.filter_nil, key, Nat.mul_zero, Nat.mul_one, opS, sem, mkT, binI, binS, eqLs, eqL, B, I, one, pures, PV.ok, PV.cells, fillL, fillE, List.replicate, cellV, cellO, cellR, newsOf, callArgs, splice, L.pure, not_false_eq_true, decide_true, Int.natCast_nonneg, Int.cast_ofNat_Int, implies_true, reduceCtorEq, Nat.reduceBEq, Nat.reduceEqDiff, Nat.reduceAdd, Nat.reduceLeDiff, Nat.reduceLT, Nat.reduceSub, Nat.reduceMul]
  refine CS.new (LogVector_ok q s ht hvl) ?_ rfl rfl ?_ ?_
  · simp [argP, argL, argPOk, argOk, idx_nil, vw, vw1, vwOk, vw1Ok, vis_same, vis_ne, fre_same, fre_ne, fre_none, vis_none]
  · simp [argP, argL, argPOk, argOk, idx_nil, vw, vw1, vwOk, vw1Ok, vis_same, vis_ne, fre_same, fre_ne, fre_none, vis_none]
  simp only [↓WA, WB, ↓reduceIte, opU, foot, PK, LK, footsApart, footP, footL, List.flatMap_cons, List.flatMap_nil, List.filter_nil, key, Nat.mul_zero, Nat.mul_one, opS, sem, mkT, binI, binS, eqLs, eqL, B, I, one, pures, PV.ok, PV.cells, fillL, fillE, List.replicate, cellV, cellO, cellR, newsOf, callArgs, splice, L.pure, not_false_eq_true, decide_true, Int.natCast_nonneg, Int.cast_ofNat_Int, implies_true, reduceCtorEq, Nat.reduceBEq, Nat.reduceEqDiff, Nat.reduceAdd, Nat.reduceLeDiff, Nat.reduceLT, Nat.reduceSub, Nat.reduceMul]
  refine CS.view (implNextStamp_ok false (logVecTo s) x.id.a) ?_ ?_ rfl ?_
  · simp [argP, argL, argPOk, argOk, idx_nil, vw, vw1, vwOk, vw1Ok, vis_same, vis_ne, fre_same, fre_ne, fre_none, vis_none, iobj, logVec_len]
  · simp [argP, argL, argPOk, argOk, idx_nil, vw, vw1, vwOk, vw1Ok, vis_same, vis_ne, fre_same, fre_ne, fre_none, vis_none, iobj, logVec_len]
    simp [List.take_of_length_le, logVec_len]
  simp only [Stamp.cs, ↓WA, WB, ↓reduceIte, opU, foot, PK, LK, footsApart, footP, footL, List.flatMap_cons, List.flatMap_nil, List.filter_nil, key, Nat.mul_zero, Nat.mul_one, opS, sem, mkT, binI, binS, eqLs, eqL, B, I, one, pures, PV.ok, PV.cells, fillL, fillE, List.replicate, cellV, cellO, cellR, newsOf, callArgs, splice, L.pure, not_false_eq_true, decide_true, Int.natCast_nonneg, Int.cast_ofNat_Int, implies_true, reduceCtorEq, Nat.reduceBEq, Nat.reduceEqDiff, Nat.reduceAdd, Nat.reduceLeDiff, Nat.reduceLT, Nat.reduceSub, Nat.reduceMul]
  have hz : decide (nextStamp (logVecTo s) x.id.a = ⟨0, 0⟩) = (decide ((nextStamp (logVecTo s) x.id.a).q = 0) && decide ((nextStamp (logVecTo s) x.id.a).a = 0)) := by
    rw [Bool.eq_iff_iff]
    simp [Stamp.eta]
  simp only [DOp.cs, undoOp, hz, ↓WA, WB, ↓reduceIte, opU, foot, PK, LK, footsApart, footP, footL, List.flatMap_cons, List.flatMap_nil, List.filter_nil, key, Nat.mul_zero, Nat.mul_one, opS, sem, mkT, binI, binS, eqLs, eqL, B, I, one, pures, PV.ok, PV.cells, fillL, fillE, List.replicate, cellV, cellO, cellR, newsOf, callArgs, splice, L.pure, not_false_eq_true, decide_true, Int.natCast_nonneg, Int.cast_ofNat_Int, implies_true, reduceCtorEq, Nat.reduceBEq, Nat.reduceEqDiff, Nat.reduceAdd, Nat.reduceLeDiff, Nat.reduceLT, Nat.reduceSub, Nat.reduceMul]

theorem FnExactMakeUndo_ok (q : Bool) (s : List DOp) (id : Stamp) (en : Bool) (ht : ∀ o ∈ s, o.text.size < 2 ^ 62) (hl : s.length * 104 ≤ 140737488355328) : CallOk Try.prog 4 [.l (.vs q (s.map DOp.cs)), .agg id.cs, .l (.v (.bool en))] [] (.l (.v (.bool true))) [] [] := by
  refine callOk_pure1 (fn := Try.f4) (r := .t 6) follows Try.func4 rfl c4_eq (Nat.le_of_ble_eq_true rfl) (by kernel_rfl) rfl (.v _) ?_
  simp only [c4, Stamp.cs, ↓WA, WB, ↓reduceIte, opU, foot, PK, LK, footsApart, footP, footL, List.flatMap_cons, List.flatMap_nil, List.filter_nil, key, Nat.mul_zero, Nat.mul_one, opS, sem, mkT, binI, binS, eqLs, eqL, B, I, one, pures, PV.ok, PV.cells, fillL, fillE, List.replicate, cellV, cellO, cellR, newsOf, callArgs, splice, L.pure, not_false_eq_true, decide_true, Int.natCast_nonneg, Int.cast_ofNat_Int, implies_true, reduceCtorEq, Nat.reduceBEq, Nat.reduceEqDiff, Nat.reduceAdd, Nat.reduceLeDiff, Nat.reduceLT, Nat.reduceSub, Nat.reduceMul]
  refine CS.plain (szOpS_ok q s 1048576 (by omega) (by omega) ht) rfl rfl ?_
  simp only [↓WA, WB, ↓reduceIte, opU, foot, PK, LK, footsApart, footP, footL, List.flatMap_cons, List.flatMap_nil, List.filter_nil, key, Nat.mul_zero, Nat.mul_one, opS, sem, mkT, binI, binS, eqLs, eqL, B, I, one, pures, PV.ok, PV.cells, fillL, fillE, List.replicate, cellV, cellO, cellR, newsOf, callArgs, splice, L.pure, not_false_eq_true, decide_true, Int.natCast_nonneg, Int.cast_ofNat_Int, implies_true, reduceCtorEq, Nat.reduceBEq, Nat.reduceEqDiff, Nat.reduceAdd, Nat.reduceLeDiff, Nat.reduceLT, Nat.reduceSub, Nat.reduceMul]
  split
  · trivial
  refine CS.new (toOpS_ok q s hl) ?_ rfl rfl ?_ ?_
  · simp [argP, argL, argPOk, argOk, idx_nil, vw, vw1, vwOk, vw1Ok, vis_same, vis_ne, fre_same, fre_ne, fre_none, vis_none]
  · simp [argP, argL, argPOk, argOk, idx_nil, vw, vw1, vwOk, vw1Ok, vis_same, vis_ne, fre_same, fre_ne, fre_none, vis_none]
  simp only [↓WA, WB, ↓reduceIte, opU, foot, PK, LK, footsApart, footP, footL, List.flatMap_cons, List.flatMap_nil, List.filter_nil, key, Nat.mul_zero, Nat.mul_one, opS, sem, mkT, binI, binS, eqLs, eqL, B, I, one, pures, PV.ok, PV.cells, fillL, fillE, List.replicate, cellV, cellO, cellR, newsOf, callArgs, splice, L.pure, not_false_eq_true, decide_true, Int.natCast_nonneg, Int.cast_ofNat_Int, implies_true, reduceCtorEq, Nat.reduceBEq, Nat.reduceEqDiff, Nat.reduceAdd, Nat.reduceLeDiff, Nat.reduceLT, Nat.reduceSub, Nat.reduceMul]
  refine CS.plain (toStamp_ok id) rfl rfl ?_
  simp only [Stamp.cs, ↓WA, WB, ↓reduceIte, opU, foot, PK, LK, footsApart, footP, footL, List.flatMap_cons, List.flatMap_nil, List.filter_nil, key, Nat.mul_zero, Nat.mul_one, opS, sem, mkT, binI, binS, eqLs, eqL, B, I, one, pures, PV.ok, PV.cells, fillL, fillE, List.replicate, cellV, cellO, cellR, newsOf, callArgs, splice, L.pure, not_false_eq_true, decide_true, Int.natCast_nonneg, Int.cast_ofNat_Int, implies_true, reduceCtorEq, Nat.reduceBEq, Nat.reduceEqDiff, Nat.reduceAdd, Nat.reduceLeDiff, Nat.reduceLT, Nat.reduceSub, Nat.reduceMul]
  refine CS.viewT (specMakeUndo_ok false s id en ht) ?_ ?_ rfl ?_
  · simp [argP, argL, argPOk, argOk, idx_nil, vw, vw1, vwOk, vw1Ok, vis_same, vis_ne, fre_same, fre_ne, fre_none, vis_none, DOp.obj, take_map]
  · simp [argP, argL, argPOk, argOk, idx_nil, vw, vw1, vwOk, vw1Ok, vis_same, vis_ne, fre_same, fre_ne, fre_none, vis_none, DOp.obj, take_map, Stamp.cs]
  simp only [DOp.cs, ↓WA, WB, ↓reduceIte, opU, foot, PK, LK, footsApart, footP, footL, List.flatMap_cons, List.flatMap_nil, List.filter_nil, key, Nat.mul_zero, Nat.mul_one, opS, sem, mkT, binI, binS, eqLs, eqL, B, I, one, pures, PV.ok, PV.cells, fillL, fillE, List.replicate, cellV, cellO, cellR, newsOf, callArgs, splice, L.pure, not_false_eq_true, decide_true, Int.natCast_nonneg, Int.cast_ofNat_Int, implies_true, reduceCtorEq, Nat.reduceBEq, Nat.reduceEqDiff, Nat.reduceAdd, Nat.reduceLeDiff, Nat.reduceLT, Nat.reduceSub, Nat.reduceMul]
  refine CS.new (toOpS_ok q s hl) ?_ rfl rfl ?_ ?_
  · simp [argP, argL, argPOk, argOk, idx_nil, vw, vw1, vwOk, vw1Ok, vis_same, vis_ne, fre_same, fre_ne, fre_none, vis_none]
  · simp [argP, argL, argPOk, argOk, idx_nil, vw, vw1, vwOk, vw1Ok, vis_same, vis_ne, fre_same, fre_ne, fre_none, vis_none]
  simp only [↓WA, WB, ↓reduceIte, opU, foot, PK, LK, footsApart, footP, footL, List.flatMap_cons, List.flatMap_nil, List.filter_nil, key, Nat.mul_zero, Nat.mul_one, opS, sem, mkT, binI, binS, eqLs, eqL, B, I, one, pures, PV.ok, PV.cells, fillL, fillE, List.replicate, cellV, cellO, cellR, newsOf, callArgs, splice, L.pure, not_false_eq_true, decide_true, Int.natCast_nonneg, Int.cast_ofNat_Int, implies_true, reduceCtorEq, Nat.reduceBEq, Nat.reduceEqDiff, Nat.reduceAdd, Nat.reduceLeDiff, Nat.reduceLT, Nat.reduceSub, Nat.reduceMul]
  refine CS.plain (toStamp_ok id) rfl rfl ?_
  simp only [Stamp.cs, ↓WA, WB, ↓reduceIte, opU, foot, PK, LK, footsApart, footP, footL, List.flatMap_cons, List.flatMap_nil, List.filter_nil, key, Nat.mul_zero, Nat.mul_one, opS, sem, mkT, binI, binS, eqLs, eqL, B, I, one, pures, PV.ok, PV.cells, fillL, fillE, List.replicate, cellV, cellO, cellR, newsOf, callArgs, splice, L.pure, not_false_eq_true, decide_true, Int.natCast_nonneg, Int.cast_ofNat_Int, implies_true, reduceCtorEq, Nat.reduceBEq, Nat.reduceEqDiff, Nat.reduceAdd, Nat.reduceLeDiff, Nat.reduceLT, Nat.reduceSub, Nat.reduceMul]
  refine CS.viewT (implMakeUndo_ok false s id en ht) ?_ ?_ rfl ?_
  · simp [argP, argL, argPOk, argOk, idx_nil, vw, vw1, vwOk, vw1Ok, vis_same, vis_ne, fre_same, fre_ne, fre_none, vis_none, DOp.obj, take_map]
  · simp [argP, argL, argPOk, argOk, idx_nil, vw, vw1, vwOk, vw1Ok, vis_same, vis_ne, fre_same, fre_ne, fre_none, vis_none, DOp.obj, take_map, Stamp.cs]
  simp only [DOp.cs, ↓WA, WB, ↓reduceIte, opU, foot, PK, LK, footsApart, footP, footL, List.flatMap_cons, List.flatMap_nil, List.filter_nil, key, Nat.mul_zero, Nat.mul_one, opS, sem, mkT, binI, binS, eqLs, eqL, B, I, one, pures, PV.ok, PV.cells, fillL, fillE, List.replicate, cellV, cellO, cellR, newsOf, callArgs, splice, L.pure, not_false_eq_true, decide_true, Int.natCast_nonneg, Int.cast_ofNat_Int, implies_true, reduceCtorEq, Nat.reduceBEq, Nat.reduceEqDiff, Nat.reduceAdd, Nat.reduceLeDiff, Nat.reduceLT, Nat.reduceSub, Nat.reduceMul]
  refine CS.plain (eqOp_ok (makeUndo s id en).1 (makeUndo s id en).1) rfl rfl ?_
  simp only [↓WA, WB, ↓reduceIte, opU, foot, PK, LK, footsApart, footP, footL, List.flatMap_cons, List.flatMap_nil, List.filter_nil, key, Nat.mul_zero, Nat.mul_one, opS, sem, mkT, binI, binS, eqLs, eqL, B, I, one, pures, PV.ok, PV.cells, fillL, fillE, List.replicate, cellV, cellO, cellR, newsOf, callArgs, splice, L.pure, not_false_eq_true, decide_true, Int.natCast_nonneg, Int.cast_ofNat_Int, implies_true, reduceCtorEq, Nat.reduceBEq, Nat.reduceEqDiff, Nat.reduceAdd, Nat.reduceLeDiff, Nat.reduceLT, Nat.reduceSub, Nat.reduceMul]
  refine CS.new (toOpS_ok q s hl) ?_ rfl rfl ?_ ?_
  · simp [argP, argL, argPOk, argOk, idx_nil, vw, vw1, vwOk, vw1Ok, vis_same, vis_ne, fre_same, fre_ne, fre_none, vis_none]
  · simp [argP, argL, argPOk, argOk, idx_nil, vw, vw1, vwOk, vw1Ok, vis_same, vis_ne, fre_same, fre_ne, fre_none, vis_none]
  simp only [↓WA, WB, ↓reduceIte, opU, foot, PK, LK, footsApart, footP, footL, List.flatMap_cons, List.flatMap_nil, List.filter_nil, key, Nat.mul_zero, Nat.mul_one, opS, sem, mkT, binI, binS, eqLs, eqL, B, I, one, pures, PV.ok, PV.cells, fillL, fillE, List.replicate, cellV, cellO, cellR, newsOf, callArgs, splice, L.pure, not_false_eq_true, decide_true, Int.natCast_nonneg, Int.cast_ofNat_Int, implies_true, reduceCtorEq, Nat.reduceBEq, Nat.reduceEqDiff, Nat.reduceAdd, Nat.reduceLeDiff, Nat.reduceLT, Nat.reduceSub, Nat.reduceMul]
  refine CS.view (eqOpS_ok false false s s) ?_ ?_ rfl ?_
  · simp [argP, argL, argPOk, argOk, idx_nil, vw, vw1, vwOk, vw1Ok, vis_same, vis_ne, fre_same, fre_ne, fre_none, vis_none, DOp.obj, take_map]
  · simp [argP, argL, argPOk, argOk, idx_nil, vw, vw1, vwOk, vw1Ok, vis_same, vis_ne, fre_same, fre_ne, fre_none, vis_none, DOp.obj, take_map]
  simp only [↓WA, WB, ↓reduceIte, opU, foot, PK, LK, footsApart, footP, footL, List.flatMap_cons, List.flatMap_nil, List.filter_nil, key, Nat.mul_zero, Nat.mul_one, opS, sem, mkT, binI, binS, eqLs, eqL, B, I, one, pures, PV.ok, PV.cells, fillL, fillE, List.replicate, cellV, cellO, cellR, newsOf, callArgs, splice, L.pure, not_false_eq_true, decide_true, Int.natCast_nonneg, Int.cast_ofNat_Int, implies_true, reduceCtorEq, Nat.reduceBEq, Nat.reduceEqDiff, Nat.reduceAdd, Nat.reduceLeDiff, Nat.reduceLT, Nat.reduceSub, Nat.reduceMul]
end Go.Proofs
