import Derived.Test.YtfbjnipamfbgmaaR2Mark
set_option linter.unusedSimpArgs false
set_option linter.unusedVariables false
namespace Go.Proofs
open Go Go.Ab

theorem specCompactLog_bad (q : Bool) (s : List DOp) (ht : ∀ o ∈ s, o.text.size < 2 ^ 62) (hv : validLog s = false) : CallOk Try.prog 32 [.l (.vs q (s.map DOp.cs))] [] (.l .emp) [] [] := by
  refine callOk_pure1 (fn := Try.f32) (r := .t 2) follows Try.func32 rfl c32_eq (Nat.le_of_ble_eq_true rfl) (by kernel_rfl) rfl .emp ?_
  simp only [c32, ↓WA, WB, ↓reduceIte, opU, foot, PK, LK, footsApart, footP, footL, List.flatMap_cons, List.flatMap_nil, List.filter_nil, key, Nat.mul_zero, Nat.mul_one, opS, sem, mkT, binI, binS, eqLs, eqL, B, I, one, pures, PV.ok, PV.cells, fillL, fillE, List.replicate, cellV, cellO, cellR, newsOf, callArgs, splice, L.pure, not_false_eq_true, decide_true, Int.natCast_nonneg, Int.cast_ofNat_Int, implies_true, reduceCtorEq, Nat.reduceBEq, Nat.reduceEqDiff, Nat.reduceAdd, Nat.reduceLeDiff, Nat.reduceLT, Nat.reduceSub, Nat.reduceMul]
  refine CS.plain (specValidLog_ok q s ht) rfl rfl ?_
  simp only [hv, ↓WA, WB, ↓reduceIte, opU, foot, PK, LK, footsApart, footP, footL, List.flatMap_cons, List.flatMap_nil, List.filter_nil, key, Nat.mul_zero, Nat.mul_one, opS, sem, mkT, binI, binS, eqLs, eqL, B, I, one, pures, PV.ok, PV.cells, fillL, fillE, List.replicate, cellV, cellO, cellR, newsOf, callArgs, splice, L.pure, not_false_eq_true, decide_true, Int.natCast_nonneg, Int.cast_ofNat_Int, implies_true, reduceCtorEq, Nat.reduceBEq, Nat.reduceEqDiff, Nat.reduceAdd, Nat.reduceLeDiff, Nat.reduceLT, Nat.reduceSub, Nat.reduceMul]

theorem implCompactLog_bad (q : Bool) (s : List DOp) (ht : ∀ o ∈ s, o.text.size < 2 ^ 62) (hv : validLog s = false) : CallOk Try.prog 33 [.l (.vs q (s.map DOp.cs))] [] (.l .emp) [] [] := by
  refine callOk_pure1 (fn := Try.f33) (r := .t 2) follows Try.func33 rfl c33_eq (Nat.le_of_ble_eq_true rfl) (by kernel_rfl) rfl .emp ?_
  simp only [c33, ↓WA, WB, ↓reduceIte, opU, foot, PK, LK, footsApart, footP, footL, List.flatMap_cons, List.flatMap_nil, List.filter_nil, key, Nat.mul_zero, Nat.mul_one, opS, sem, mkT, binI, binS, eqLs, eqL, B, I, one, pures, PV.ok, PV.cells, fillL, fillE, List.replicate, cellV, cellO, cellR, newsOf, callArgs, splice, L.pure, not_false_eq_true, decide_true, Int.natCast_nonneg, Int.cast_ofNat_Int, implies_true, reduceCtorEq, Nat.reduceBEq, Nat.reduceEqDiff, Nat.reduceAdd, Nat.reduceLeDiff, Nat.reduceLT, Nat.reduceSub, Nat.reduceMul]
  refine CS.plain (implValidLog_ok q s ht) rfl rfl ?_
  simp only [hv, ↓WA, WB, ↓reduceIte, opU, foot, PK, LK, footsApart, footP, footL, List.flatMap_cons, List.flatMap_nil, List.filter_nil, key, Nat.mul_zero, Nat.mul_one, opS, sem, mkT, binI, binS, eqLs, eqL, B, I, one, pures, PV.ok, PV.cells, fillL, fillE, List.replicate, cellV, cellO, cellR, newsOf, callArgs, splice, L.pure, not_false_eq_true, decide_true, Int.natCast_nonneg, Int.cast_ofNat_Int, implies_true, reduceCtorEq, Nat.reduceBEq, Nat.reduceEqDiff, Nat.reduceAdd, Nat.reduceLeDiff, Nat.reduceLT, Nat.reduceSub, Nat.reduceMul]

def laterTo (l : List DOp) (i k : Nat) (x : DOp) : Bool := ((l.take k).drop (i + 1)).any (redone x)

theorem laterTo_zero (l : List DOp) (i : Nat) (x : DOp) : laterTo l i (i + 1) x = false := by
  have : ((l.take (i + 1)).drop (i + 1)) = [] := by rw [List.drop_eq_nil_iff]; rw [List.length_take]; omega
  simp [laterTo, this]

theorem laterTo_all (l : List DOp) (i : Nat) (x : DOp) : laterTo l i l.length x = (l.drop (i + 1)).any (redone x) := by
  simp [laterTo]

theorem laterTo_skip {l : List DOp} {i k : Nat} {x : DOp} (h : x.kind ≠ 10) : laterTo l i k x = false := by
  unfold laterTo
  rw [List.any_eq_false]
  intro y _
  simp [redone, h]

theorem specCompactLog_ok (q : Bool) (s : List DOp) (ht : ∀ o ∈ s, o.text.size < 2 ^ 62) (hv : validLog s = true) : CallOk Try.prog 32 [.l (.vs q (s.map DOp.cs))] [] (.l (.sl 0 0 (compactLog s).length)) [] [DOp.obj ((compactLog s).map DOp.cs)] := by
  have hlen := validLog_len hv
  refine callOk_new (fn := Try.f32) (r := .t 2) follows Try.func32 rfl c32_eq (Nat.le_of_ble_eq_true rfl) (by kernel_rfl) rfl rfl (rows_hb DOp.hb _) ?_
  simp only [c32, List.length_map, ↓WA, WB, ↓reduceIte, opU, foot, PK, LK, footsApart, footP, footL, List.flatMap_cons, List.flatMap_nil, List.filter_nil, key, Nat.mul_zero, Nat.mul_one, opS, sem, mkT, binI, binS, eqLs, eqL, B, I, one, pures, PV.ok, PV.cells, fillL, fillE, List.replicate, cellV, cellO, cellR, newsOf, callArgs, splice, L.pure, not_false_eq_true, decide_true, Int.natCast_nonneg, Int.cast_ofNat_Int, implies_true, reduceCtorEq, Nat.reduceBEq, Nat.reduceEqDiff, Nat.reduceAdd, Nat.reduceLeDiff, Nat.reduceLT, Nat.reduceSub, Nat.reduceMul]
  refine CS.plain (specValidLog_ok q s ht) rfl rfl ?_
  simp only [hv, List.length_map, ↓WA, WB, ↓reduceIte, opU, foot, PK, LK, footsApart, footP, footL, List.flatMap_cons, List.flatMap_nil, List.filter_nil, key, Nat.mul_zero, Nat.mul_one, opS, sem, mkT, binI, binS, eqLs, eqL, B, I, one, pures, PV.ok, PV.cells, fillL, fillE, List.replicate, cellV, cellO, cellR, newsOf, callArgs, splice, L.pure, not_false_eq_true, decide_true, Int.natCast_nonneg, Int.cast_ofNat_Int, implies_true, reduceCtorEq, Nat.reduceBEq, Nat.reduceEqDiff, Nat.reduceAdd, Nat.reduceLeDiff, Nat.reduceLT, Nat.reduceSub, Nat.reduceMul]
  show AW _ _ (.loop _) _ _
  refine AW.empty 3 2000 12 (by simp only [↓WA, WB, ↓reduceIte, opU, foot, PK, LK, footsApart, footP, footL, List.flatMap_cons, List.flatMap_nil, List.filter_nil, key, Nat.mul_zero, Nat.mul_one, opS, sem, mkT, binI, binS, eqLs, eqL, B, I, one, pures, PV.ok, PV.cells, fillL, fillE, List.replicate, cellV, cellO, cellR, newsOf, callArgs, splice, L.pure, not_false_eq_true, decide_true, Int.natCast_nonneg, Int.cast_ofNat_Int, implies_true, reduceCtorEq, Nat.reduceBEq, Nat.reduceEqDiff, Nat.reduceAdd, Nat.reduceLeDiff, Nat.reduceLT, Nat.reduceSub, Nat.reduceMul]) (by simp only [↓WA, WB, ↓reduceIte, opU, foot, PK, LK, footsApart, footP, footL, List.flatMap_cons, List.flatMap_nil, List.filter_nil, key, Nat.mul_zero, Nat.mul_one, opS, sem, mkT, binI, binS, eqLs, eqL, B, I, one, pures, PV.ok, PV.cells, fillL, fillE, List.replicate, cellV, cellO, cellR, newsOf, callArgs, splice, L.pure, not_false_eq_true, decide_true, Int.natCast_nonneg, Int.cast_ofNat_Int, implies_true, reduceCtorEq, Nat.reduceBEq, Nat.reduceEqDiff, Nat.reduceAdd, Nat.reduceLeDiff, Nat.reduceLT, Nat.reduceSub, Nat.reduceMul]) (by omega) ?_
  refine AW.count s.length (fun i st => st = ⟨mkL [(0, .l (.vs q (s.map DOp.cs))), (3, .l (.sl 2000 0 (comTo s i).length)), (4, .l (.v (.int .i64 (i : Int))))], mkH [(2000, (DOp.obj ((comTo s i).map DOp.cs)))]⟩) ?_ ?_
  · refine Lo.own [(0, .l (.vs q (s.map DOp.cs))), (3, .l (.sl 2000 0 (comTo s (0 : Nat)).length)), (4, .l (.v (.int .i64 ((0 : Nat) : Int))))] [(2000, 2000, (DOp.obj ((comTo s 0).map DOp.cs)))] ?_ rfl ?_ rfl (by simp) (by simp) rfl
    · simp only [gOf, renP, renL, ↓WA, WB, ↓reduceIte, opU, foot, PK, LK, footsApart, footP, footL, List.flatMap_cons, List.flatMap_nil, List.filter_nil, key, Nat.mul_zero, Nat.mul_one, opS, sem, mkT, binI, binS, eqLs, eqL, B, I, one, pures, PV.ok, PV.cells, fillL, fillE, List.replicate, cellV, cellO, cellR, newsOf, callArgs, splice, L.pure, not_false_eq_true, decide_true, Int.natCast_nonneg, Int.cast_ofNat_Int, implies_true, reduceCtorEq, Nat.reduceBEq, Nat.reduceEqDiff, Nat.reduceAdd, Nat.reduceLeDiff, Nat.reduceLT, Nat.reduceSub, Nat.reduceMul]
      simp [comTo]
    · simp only [DOp.obj, ↓WA, WB, ↓reduceIte, opU, foot, PK, LK, footsApart, footP, footL, List.flatMap_cons, List.flatMap_nil, List.filter_nil, key, Nat.mul_zero, Nat.mul_one, opS, sem, mkT, binI, binS, eqLs, eqL, B, I, one, pures, PV.ok, PV.cells, fillL, fillE, List.replicate, cellV, cellO, cellR, newsOf, callArgs, splice, L.pure, not_false_eq_true, decide_true, Int.natCast_nonneg, Int.cast_ofNat_Int, implies_true, reduceCtorEq, Nat.reduceBEq, Nat.reduceEqDiff, Nat.reduceAdd, Nat.reduceLeDiff, Nat.reduceLT, Nat.reduceSub, Nat.reduceMul]
      exact ⟨0, Nat.zero_le _, rfl⟩
  · rintro i st hi rfl
    have hci : (comTo s i).length ≤ 40 := Nat.le_trans (comTo_len s i) (by omega)
    simp only [mkL, mkH]
    refine AW.walk ?_
    simp only [List.length_map, ↓WA, WB, ↓reduceIte, opU, foot, PK, LK, footsApart, footP, footL, List.flatMap_cons, List.flatMap_nil, List.filter_nil, key, Nat.mul_zero, Nat.mul_one, opS, sem, mkT, binI, binS, eqLs, eqL, B, I, one, pures, PV.ok, PV.cells, fillL, fillE, List.replicate, cellV, cellO, cellR, newsOf, callArgs, splice, L.pure, not_false_eq_true, decide_true, Int.natCast_nonneg, Int.cast_ofNat_Int, implies_true, reduceCtorEq, Nat.reduceBEq, Nat.reduceEqDiff, Nat.reduceAdd, Nat.reduceLeDiff, Nat.reduceLT, Nat.reduceSub, Nat.reduceMul]
    split
    · rename_i hlt
      obtain ⟨x, hx⟩ := get_some (l := s) (i := i) (by omega)
      have hx' := get_map (f := DOp.cs) hx
      refine AW.seq (AW.block ?_)
      refine AW.walk ?_
      simp only [↓WA, WB, ↓reduceIte, opU, foot, PK, LK, footsApart, footP, footL, List.flatMap_cons, List.flatMap_nil, List.filter_nil, key, Nat.mul_zero, Nat.mul_one, opS, sem, mkT, binI, binS, eqLs, eqL, B, I, one, pures, PV.ok, PV.cells, fillL, fillE, List.replicate, cellV, cellO, cellR, newsOf, callArgs, splice, L.pure, not_false_eq_true, decide_true, Int.natCast_nonneg, Int.cast_ofNat_Int, implies_true, reduceCtorEq, Nat.reduceBEq, Nat.reduceEqDiff, Nat.reduceAdd, Nat.reduceLeDiff, Nat.reduceLT, Nat.reduceSub, Nat.reduceMul]
      refine AW.cut (fun st => st = ⟨mkL [(0, .l (.vs q (s.map DOp.cs))), (3, .l (.sl 2000 0 (comTo s i).length)), (4, .l (.v (.int .i64 (i : Int)))), (5, .l (.v (.bool ((s.drop (i + 1)).any (redone x)))))], mkH [(2000, (DOp.obj ((comTo s i).map DOp.cs)))]⟩) ?_ ?_
      · simp only [↓WA, WB, ↓reduceIte, opU, foot, PK, LK, footsApart, footP, footL, List.flatMap_cons, List.flatMap_nil, List.filter_nil, key, Nat.mul_zero, Nat.mul_one, opS, sem, mkT, binI, binS, eqLs, eqL, B, I, one, pures, PV.ok, PV.cells, fillL, fillE, List.replicate, cellV, cellO, cellR, newsOf, callArgs, splice, L.pure, not_false_eq_true, decide_true, Int.natCast_nonneg, Int.cast_ofNat_Int, implies_true, reduceCtorEq, Nat.reduceBEq, Nat.reduceEqDiff, Nat.reduceAdd, Nat.reduceLeDiff, Nat.reduceLT, Nat.reduceSub, Nat.reduceMul]
        refine ⟨by rw [inK64]; omega, ?_⟩
        show AW _ _ (.loop _) _ _
        refine AW.count (s.length - (i + 1)) (fun j st => st = ⟨mkL [(0, .l (.vs q (s.map DOp.cs))), (3, .l (.sl 2000 0 (comTo s i).length)), (4, .l (.v (.int .i64 (i : Int)))), (5, .l (.v (.bool (laterTo s i (i + 1 + j) x)))), (6, .l (.v (.int .i64 ((i + 1 + j : Nat) : Int))))], mkH [(2000, (DOp.obj ((comTo s i).map DOp.cs)))]⟩) ?_ ?_
        · refine Lo.own [(0, .l (.vs q (s.map DOp.cs))), (3, .l (.sl 2000 0 (comTo s i).length)), (4, .l (.v (.int .i64 (i : Int)))), (5, .l (.v (.bool (laterTo s i (i + 1 + (0 : Nat)) x)))), (6, .l (.v (.int .i64 ((i + 1 + (0 : Nat) : Nat) : Int))))] [(2000, 2000, (DOp.obj ((comTo s i).map DOp.cs)))] ?_ rfl ?_ rfl (by simp) (by simp) rfl
          · simp only [gOf, renP, renL, ↓WA, WB, ↓reduceIte, opU, foot, PK, LK, footsApart, footP, footL, List.flatMap_cons, List.flatMap_nil, List.filter_nil, key, Nat.mul_zero, Nat.mul_one, opS, sem, mkT, binI, binS, eqLs, eqL, B, I, one, pures, PV.ok, PV.cells, fillL, fillE, List.replicate, cellV, cellO, cellR, newsOf, callArgs, splice, L.pure, not_false_eq_true, decide_true, Int.natCast_nonneg, Int.cast_ofNat_Int, implies_true, reduceCtorEq, Nat.reduceBEq, Nat.reduceEqDiff, Nat.reduceAdd, Nat.reduceLeDiff, Nat.reduceLT, Nat.reduceSub, Nat.reduceMul]
            simp [laterTo_zero]
          · simp only [DOp.obj, ↓WA, WB, ↓reduceIte, opU, foot, PK, LK, footsApart, footP, footL, List.flatMap_cons, List.flatMap_nil, List.filter_nil, key, Nat.mul_zero, Nat.mul_one, opS, sem, mkT, binI, binS, eqLs, eqL, B, I, one, pures, PV.ok, PV.cells, fillL, fillE, List.replicate, cellV, cellO, cellR, newsOf, callArgs, splice, L.pure, not_false_eq_true, decide_true, Int.natCast_nonneg, Int.cast_ofNat_Int, implies_true, reduceCtorEq, Nat.reduceBEq, Nat.reduceEqDiff, Nat.reduceAdd, Nat.reduceLeDiff, Nat.reduceLT, Nat.reduceSub, Nat.reduceMul]
            exact ⟨0, Nat.zero_le _, rfl⟩
        · rintro j st hj rfl
          have done : laterTo s i (i + 1 + j) x = (s.drop (i + 1)).any (redone x) → ∀ (T : Nat → PV) (H : Nat → Option AObj), T 0 = .l (.vs q (s.map DOp.cs)) → T 3 = .l (.sl 2000 0 (comTo s i).length) → T 4 = .l (.v (.int .i64 (i : Int))) → T 5 = .l (.v (.bool (laterTo s i (i + 1 + j) x))) → H 2000 = some (DOp.obj ((comTo s i).map DOp.cs)) →
              Lo (fun st => st = ⟨mkL [(0, .l (.vs q (s.map DOp.cs))), (3, .l (.sl 2000 0 (comTo s i).length)), (4, .l (.v (.int .i64 (i : Int)))), (5, .l (.v (.bool ((s.drop (i + 1)).any (redone x)))))], mkH [(2000, (DOp.obj ((comTo s i).map DOp.cs)))]⟩) ⟨T, H⟩ := by
            intro hd T H e1 e2 e3 e4 e5
            refine Lo.own [(0, .l (.vs q (s.map DOp.cs))), (3, .l (.sl 2000 0 (comTo s i).length)), (4, .l (.v (.int .i64 (i : Int)))), (5, .l (.v (.bool ((s.drop (i + 1)).any (redone x)))))] [(2000, 2000, (DOp.obj ((comTo s i).map DOp.cs)))] ?_ rfl ?_ rfl (by simp) (by simp) rfl
            · simp [e1, e2, e3, e4, hd, renP, renL, gOf, upd]
            · simp [e5, DOp.obj]
          have next : i + 1 + j < s.length → ∀ (y : DOp) (T : Nat → PV) (H : Nat → Option AObj), s[i + 1 + j]? = some y → T 0 = .l (.vs q (s.map DOp.cs)) → T 3 = .l (.sl 2000 0 (comTo s i).length) → T 4 = .l (.v (.int .i64 (i : Int))) → T 5 = .l (.v (.bool (laterTo s i (i + 1 + j) x || redone x y))) → T 6 = .l (.v (.int .i64 (((i + 1 + j : Nat) : Int) + 1))) → H 2000 = some (DOp.obj ((comTo s i).map DOp.cs)) →
              inK .i64 (((i + 1 + j : Nat) : Int) + 1) ∧ j < s.length - (i + 1) ∧ Lo (fun st => st = ⟨mkL [(0, .l (.vs q (s.map DOp.cs))), (3, .l (.sl 2000 0 (comTo s i).length)), (4, .l (.v (.int .i64 (i : Int)))), (5, .l (.v (.bool (laterTo s i (i + 1 + (j + 1)) x)))), (6, .l (.v (.int .i64 ((i + 1 + (j + 1) : Nat) : Int))))], mkH [(2000, (DOp.obj ((comTo s i).map DOp.cs)))]⟩) ⟨T, H⟩ := by
            intro hd y T H hy e1 e2 e3 e4 e5 e6
            refine ⟨by rw [inK64]; omega, by omega, ?_⟩
            have hs : laterTo s i (i + 1 + (j + 1)) x = (laterTo s i (i + 1 + j) x || redone x y) := any_snoc (i := i + 1) (j := i + 1 + j) (by omega) hy
            refine Lo.own [(0, .l (.vs q (s.map DOp.cs))), (3, .l (.sl 2000 0 (comTo s i).length)), (4, .l (.v (.int .i64 (i : Int)))), (5, .l (.v (.bool (laterTo s i (i + 1 + (j + 1)) x)))), (6, .l (.v (.int .i64 ((i + 1 + (j + 1) : Nat) : Int))))] [(2000, 2000, (DOp.obj ((comTo s i).map DOp.cs)))] ?_ rfl ?_ rfl (by simp) (by simp) rfl
            · simp [e1, e2, e3, e4, e5, hs, renP, renL, gOf, upd]
              omega
            · simp [e6, DOp.obj]
          simp only [mkL, mkH]
          refine AW_of_wps _ _ _ ?_
          simp only [hx', List.length_map, DOp.cs, ↓WA, WB, ↓reduceIte, opU, foot, PK, LK, footsApart, footP, footL, List.flatMap_cons, List.flatMap_nil, List.filter_nil, key, Nat.mul_zero, Nat.mul_one, opS, sem, mkT, binI, binS, eqLs, eqL, B, I, one, pures, PV.ok, PV.cells, fillL, fillE, List.replicate, cellV, cellO, cellR, newsOf, callArgs, splice, L.pure, not_false_eq_true, decide_true, Int.natCast_nonneg, Int.cast_ofNat_Int, implies_true, reduceCtorEq, Nat.reduceBEq, Nat.reduceEqDiff, Nat.reduceAdd, Nat.reduceLeDiff, Nat.reduceLT, Nat.reduceSub, Nat.reduceMul]
          split
          · rename_i hlt2
            split
            · rename_i hk
              obtain ⟨y, hy⟩ := get_some (l := s) (i := i + 1 + j) (by omega)
              have hy' := get_map (f := DOp.cs) hy
              simp only [hx', hy', List.length_map, DOp.cs, ↓WA, WB, ↓reduceIte, opU, foot, PK, LK, footsApart, footP, footL, List.flatMap_cons, List.flatMap_nil, List.filter_nil, key, Nat.mul_zero, Nat.mul_one, opS, sem, mkT, binI, binS, eqLs, eqL, B, I, one, pures, PV.ok, PV.cells, fillL, fillE, List.replicate, cellV, cellO, cellR, newsOf, callArgs, splice, L.pure, not_false_eq_true, decide_true, Int.natCast_nonneg, Int.cast_ofNat_Int, implies_true, reduceCtorEq, Nat.reduceBEq, Nat.reduceEqDiff, Nat.reduceAdd, Nat.reduceLeDiff, Nat.reduceLT, Nat.reduceSub, Nat.reduceMul]
              have hrd : redone x y = (decide (y.kind = 10) && ((decide (y.tg.q = x.tg.q) && decide (y.tg.a = x.tg.a)) && decide (y.id.a = x.id.a))) := by
                simp [redone, hk, Stamp.ext_iff]
              repeat' split
              all_goals
                refine next (by omega) y _ _ hy ?_ ?_ ?_ ?_ ?_ ?_ <;> simp only [DOp.obj, ↓WA, WB, ↓reduceIte, opU, foot, PK, LK, footsApart, footP, footL, List.flatMap_cons, List.flatMap_nil, List.filter_nil, key, Nat.mul_zero, Nat.mul_one, opS, sem, mkT, binI, binS, eqLs, eqL, B, I, one, pures, PV.ok, PV.cells, fillL, fillE, List.replicate, cellV, cellO, cellR, newsOf, callArgs, splice, L.pure, not_false_eq_true, decide_true, Int.natCast_nonneg, Int.cast_ofNat_Int, implies_true, reduceCtorEq, Nat.reduceBEq, Nat.reduceEqDiff, Nat.reduceAdd, Nat.reduceLeDiff, Nat.reduceLT, Nat.reduceSub, Nat.reduceMul]
              all_goals (rw [hrd]; simp_all)
            · rename_i hk
              refine done (by rw [laterTo_skip hk, ← laterTo_all, laterTo_skip hk]) _ _ ?_ ?_ ?_ ?_ ?_ <;> simp only [DOp.obj, ↓WA, WB, ↓reduceIte, opU, foot, PK, LK, footsApart, footP, footL, List.flatMap_cons, List.flatMap_nil, List.filter_nil, key, Nat.mul_zero, Nat.mul_one, opS, sem, mkT, binI, binS, eqLs, eqL, B, I, one, pures, PV.ok, PV.cells, fillL, fillE, List.replicate, cellV, cellO, cellR, newsOf, callArgs, splice, L.pure, not_false_eq_true, decide_true, Int.natCast_nonneg, Int.cast_ofNat_Int, implies_true, reduceCtorEq, Nat.reduceBEq, Nat.reduceEqDiff, Nat.reduceAdd, Nat.reduceLeDiff, Nat.reduceLT, Nat.reduceSub, Nat.reduceMul]
          · have : i + 1 + j = s.length := by omega
            refine done (by rw [this, laterTo_all]) _ _ ?_ ?_ ?_ ?_ ?_ <;> simp only [DOp.obj, ↓WA, WB, ↓reduceIte, opU, foot, PK, LK, footsApart, footP, footL, List.flatMap_cons, List.flatMap_nil, List.filter_nil, key, Nat.mul_zero, Nat.mul_one, opS, sem, mkT, binI, binS, eqLs, eqL, B, I, one, pures, PV.ok, PV.cells, fillL, fillE, List.replicate, cellV, cellO, cellR, newsOf, callArgs, splice, L.pure, not_false_eq_true, decide_true, Int.natCast_nonneg, Int.cast_ofNat_Int, implies_true, reduceCtorEq, Nat.reduceBEq, Nat.reduceEqDiff, Nat.reduceAdd, Nat.reduceLeDiff, Nat.reduceLT, Nat.reduceSub, Nat.reduceMul]
      · rintro st rfl
        simp only [mkL, mkH]
        refine AW_of_wps _ _ _ ?_
        simp only [hx', DOp.cs, DOp.obj, ↓WA, WB, ↓reduceIte, opU, foot, PK, LK, footsApart, footP, footL, List.flatMap_cons, List.flatMap_nil, List.filter_nil, key, Nat.mul_zero, Nat.mul_one, opS, sem, mkT, binI, binS, eqLs, eqL, B, I, one, pures, PV.ok, PV.cells, fillL, fillE, List.replicate, cellV, cellO, cellR, newsOf, callArgs, splice, L.pure, not_false_eq_true, decide_true, Int.natCast_nonneg, Int.cast_ofNat_Int, implies_true, reduceCtorEq, Nat.reduceBEq, Nat.reduceEqDiff, Nat.reduceAdd, Nat.reduceLeDiff, Nat.reduceLT, Nat.reduceSub, Nat.reduceMul]
        have hcond : (True ∨ True) ∧ (comTo s i).length ≤ ((comTo s i).map DOp.cs).length ∧ (True ∨ False ∧ (comTo s i).length = ((comTo s i).map DOp.cs).length) ∧ (comTo s i).length + 1 ≤ maxLen ∧ ((comTo s i).length + 1) * 104 ≤ 140737488355328 :=
          ⟨.inl trivial, by simp, .inl trivial, by unfold maxLen; omega, by omega⟩
        have step := comTo_succ hx
        unfold comKeep at step
        split
        · rename_i hany
          rw [if_neg (by simpa using hany)] at step
          refine ⟨hcond, ?_⟩
          refine AW_of_wps _ _ _ ?_
          simp only [↓WA, WB, ↓reduceIte, opU, foot, PK, LK, footsApart, footP, footL, List.flatMap_cons, List.flatMap_nil, List.filter_nil, key, Nat.mul_zero, Nat.mul_one, opS, sem, mkT, binI, binS, eqLs, eqL, B, I, one, pures, PV.ok, PV.cells, fillL, fillE, List.replicate, cellV, cellO, cellR, newsOf, callArgs, splice, L.pure, not_false_eq_true, decide_true, Int.natCast_nonneg, Int.cast_ofNat_Int, implies_true, reduceCtorEq, Nat.reduceBEq, Nat.reduceEqDiff, Nat.reduceAdd, Nat.reduceLeDiff, Nat.reduceLT, Nat.reduceSub, Nat.reduceMul]
          refine ⟨by rw [inK64]; omega, by omega, ?_⟩
          refine Lo.own [(0, .l (.vs q (s.map DOp.cs))), (3, .l (.sl 2000 0 (comTo s (i + 1 : Nat)).length)), (4, .l (.v (.int .i64 ((i + 1 : Nat) : Int))))] [(2000, 1078, (DOp.obj ((comTo s (i + 1)).map DOp.cs)))] ?_ rfl ?_ rfl (by simp) (by simp) rfl
          · simp only [gOf, renP, renL, step, ↓WA, WB, ↓reduceIte, opU, foot, PK, LK, footsApart, footP, footL, List.flatMap_cons, List.flatMap_nil, List.filter_nil, key, Nat.mul_zero, Nat.mul_one, opS, sem, mkT, binI, binS, eqLs, eqL, B, I, one, pures, PV.ok, PV.cells, fillL, fillE, List.replicate, cellV, cellO, cellR, newsOf, callArgs, splice, L.pure, not_false_eq_true, decide_true, Int.natCast_nonneg, Int.cast_ofNat_Int, implies_true, reduceCtorEq, Nat.reduceBEq, Nat.reduceEqDiff, Nat.reduceAdd, Nat.reduceLeDiff, Nat.reduceLT, Nat.reduceSub, Nat.reduceMul]
            simp
          · simp only [DOp.obj, step, ↓WA, WB, ↓reduceIte, opU, foot, PK, LK, footsApart, footP, footL, List.flatMap_cons, List.flatMap_nil, List.filter_nil, key, Nat.mul_zero, Nat.mul_one, opS, sem, mkT, binI, binS, eqLs, eqL, B, I, one, pures, PV.ok, PV.cells, fillL, fillE, List.replicate, cellV, cellO, cellR, newsOf, callArgs, splice, L.pure, not_false_eq_true, decide_true, Int.natCast_nonneg, Int.cast_ofNat_Int, implies_true, reduceCtorEq, Nat.reduceBEq, Nat.reduceEqDiff, Nat.reduceAdd, Nat.reduceLeDiff, Nat.reduceLT, Nat.reduceSub, Nat.reduceMul]
            exact ⟨1, Nat.le_refl _, by simp [take_map, DOp.cs]⟩
        · rename_i hany
          rw [if_pos (by simpa using hany), List.append_nil] at step
          refine AW_of_wps _ _ _ ?_
          simp only [↓WA, WB, ↓reduceIte, opU, foot, PK, LK, footsApart, footP, footL, List.flatMap_cons, List.flatMap_nil, List.filter_nil, key, Nat.mul_zero, Nat.mul_one, opS, sem, mkT, binI, binS, eqLs, eqL, B, I, one, pures, PV.ok, PV.cells, fillL, fillE, List.replicate, cellV, cellO, cellR, newsOf, callArgs, splice, L.pure, not_false_eq_true, decide_true, Int.natCast_nonneg, Int.cast_ofNat_Int, implies_true, reduceCtorEq, Nat.reduceBEq, Nat.reduceEqDiff, Nat.reduceAdd, Nat.reduceLeDiff, Nat.reduceLT, Nat.reduceSub, Nat.reduceMul]
          refine ⟨by rw [inK64]; omega, by omega, ?_⟩
          refine Lo.own [(0, .l (.vs q (s.map DOp.cs))), (3, .l (.sl 2000 0 (comTo s (i + 1 : Nat)).length)), (4, .l (.v (.int .i64 ((i + 1 : Nat) : Int))))] [(2000, 2000, (DOp.obj ((comTo s (i + 1)).map DOp.cs)))] ?_ rfl ?_ rfl (by simp) (by simp) rfl
          · simp only [gOf, renP, renL, step, ↓WA, WB, ↓reduceIte, opU, foot, PK, LK, footsApart, footP, footL, List.flatMap_cons, List.flatMap_nil, List.filter_nil, key, Nat.mul_zero, Nat.mul_one, opS, sem, mkT, binI, binS, eqLs, eqL, B, I, one, pures, PV.ok, PV.cells, fillL, fillE, List.replicate, cellV, cellO, cellR, newsOf, callArgs, splice, L.pure, not_false_eq_true, decide_true, Int.natCast_nonneg, Int.cast_ofNat_Int, implies_true, reduceCtorEq, Nat.reduceBEq, Nat.reduceEqDiff, Nat.reduceAdd, Nat.reduceLeDiff, Nat.reduceLT, Nat.reduceSub, Nat.reduceMul]
            simp
          · simp only [DOp.obj, step, ↓WA, WB, ↓reduceIte, opU, foot, PK, LK, footsApart, footP, footL, List.flatMap_cons, List.flatMap_nil, List.filter_nil, key, Nat.mul_zero, Nat.mul_one, opS, sem, mkT, binI, binS, eqLs, eqL, B, I, one, pures, PV.ok, PV.cells, fillL, fillE, List.replicate, cellV, cellO, cellR, newsOf, callArgs, splice, L.pure, not_false_eq_true, decide_true, Int.natCast_nonneg, Int.cast_ofNat_Int, implies_true, reduceCtorEq, Nat.reduceBEq, Nat.reduceEqDiff, Nat.reduceAdd, Nat.reduceLeDiff, Nat.reduceLT, Nat.reduceSub, Nat.reduceMul]
            simp
    · have : i = s.length := by omega
      subst this
      refine ⟨2000, 0, ?_, ?_, Nat.zero_le _⟩
      · simp [compactLog]
      · simp [upd, DOp.obj, compactLog]

theorem implCompactLog_ok (q : Bool) (s : List DOp) (ht : ∀ o ∈ s, o.text.size < 2 ^ 62) (hv : validLog s = true) : CallOk Try.prog 33 [.l (.vs q (s.map DOp.cs))] [] (.l (.sl 0 0 (compactLog s).length)) [] [DOp.obj ((compactLog s).map DOp.cs)] := by
  have hlen := validLog_len hv
  refine callOk_new (fn := Try.f33) (r := .t 2) follows Try.func33 rfl c33_eq (Nat.le_of_ble_eq_true rfl) (by kernel_rfl) rfl rfl (rows_hb DOp.hb _) ?_
  simp only [c33, List.length_map, ↓WA, WB, ↓reduceIte, opU, foot, PK, LK, footsApart, footP, footL, List.flatMap_cons, List.flatMap_nil, List.filter_nil, key, Nat.mul_zero, Nat.mul_one, opS, sem, mkT, binI, binS, eqLs, eqL, B, I, one, pures, PV.ok, PV.cells, fillL, fillE, List.replicate, cellV, cellO, cellR, newsOf, callArgs, splice, L.pure, not_false_eq_true, decide_true, Int.natCast_nonneg, Int.cast_ofNat_Int, implies_true, reduceCtorEq, Nat.reduceBEq, Nat.reduceEqDiff, Nat.reduceAdd, Nat.reduceLeDiff, Nat.reduceLT, Nat.reduceSub, Nat.reduceMul]
  refine CS.plain (implValidLog_ok q s ht) rfl rfl ?_
  simp only [hv, List.length_map, ↓WA, WB, ↓reduceIte, opU, foot, PK, LK, footsApart, footP, footL, List.flatMap_cons, List.flatMap_nil, List.filter_nil, key, Nat.mul_zero, Nat.mul_one, opS, sem, mkT, binI, binS, eqLs, eqL, B, I, one, pures, PV.ok, PV.cells, fillL, fillE, List.replicate, cellV, cellO, cellR, newsOf, callArgs, splice, L.pure, not_false_eq_true, decide_true, Int.natCast_nonneg, Int.cast_ofNat_Int, implies_true, reduceCtorEq, Nat.reduceBEq, Nat.reduceEqDiff, Nat.reduceAdd, Nat.reduceLeDiff, Nat.reduceLT, Nat.reduceSub, Nat.reduceMul]
  show AW _ _ (.loop _) _ _
  refine AW.empty 3 2000 12 (by simp only [↓WA, WB, ↓reduceIte, opU, foot, PK, LK, footsApart, footP, footL, List.flatMap_cons, List.flatMap_nil, List.filter_nil, key, Nat.mul_zero, Nat.mul_one, opS, sem, mkT, binI, binS, eqLs, eqL, B, I, one, pures, PV.ok, PV.cells, fillL, fillE, List.replicate, cellV, cellO, cellR, newsOf, callArgs, splice, L.pure, not_false_eq_true, decide_true, Int.natCast_nonneg, Int.cast_ofNat_Int, implies_true, reduceCtorEq, Nat.reduceBEq, Nat.reduceEqDiff, Nat.reduceAdd, Nat.reduceLeDiff, Nat.reduceLT, Nat.reduceSub, Nat.reduceMul]) (by simp only [↓WA, WB, ↓reduceIte, opU, foot, PK, LK, footsApart, footP, footL, List.flatMap_cons, List.flatMap_nil, List.filter_nil, key, Nat.mul_zero, Nat.mul_one, opS, sem, mkT, binI, binS, eqLs, eqL, B, I, one, pures, PV.ok, PV.cells, fillL, fillE, List.replicate, cellV, cellO, cellR, newsOf, callArgs, splice, L.pure, not_false_eq_true, decide_true, Int.natCast_nonneg, Int.cast_ofNat_Int, implies_true, reduceCtorEq, Nat.reduceBEq, Nat.reduceEqDiff, Nat.reduceAdd, Nat.reduceLeDiff, Nat.reduceLT, Nat.reduceSub, Nat.reduceMul]) (by omega) ?_
  refine AW.count s.length (fun i st => st = ⟨mkL [(0, .l (.vs q (s.map DOp.cs))), (13, .l (.vs q (s.map DOp.cs))), (14, .l (.v (.int .i64 (s.length : Int)))), (3, .l (.sl 2000 0 (comTo s i).length)), (15, .l (.v (.int .i64 (i : Int))))], mkH [(2000, (DOp.obj ((comTo s i).map DOp.cs)))]⟩) ?_ ?_
  · refine Lo.own [(0, .l (.vs q (s.map DOp.cs))), (13, .l (.vs q (s.map DOp.cs))), (14, .l (.v (.int .i64 (s.length : Int)))), (3, .l (.sl 2000 0 (comTo s (0 : Nat)).length)), (15, .l (.v (.int .i64 ((0 : Nat) : Int))))] [(2000, 2000, (DOp.obj ((comTo s 0).map DOp.cs)))] ?_ rfl ?_ rfl (by simp) (by simp) rfl
    · simp only [gOf, renP, renL, ↓WA, WB, ↓reduceIte, opU, foot, PK, LK, footsApart, footP, footL, List.flatMap_cons, List.flatMap_nil, List.filter_nil, key, Nat.mul_zero, Nat.mul_one, opS, sem, mkT, binI, binS, eqLs, eqL, B, I, one, pures, PV.ok, PV.cells, fillL, fillE, List.replicate, cellV, cellO, cellR, newsOf, callArgs, splice, L.pure, not_false_eq_true, decide_true, Int.natCast_nonneg, Int.cast_ofNat_Int, implies_true, reduceCtorEq, Nat.reduceBEq, Nat.reduceEqDiff, Nat.reduceAdd, Nat.reduceLeDiff, Nat.reduceLT, Nat.reduceSub, Nat.reduceMul]
      simp [comTo]
    · simp only [DOp.obj, ↓WA, WB, ↓reduceIte, opU, foot, PK, LK, footsApart, footP, footL, List.flatMap_cons, List.flatMap_nil, List.filter_nil, key, Nat.mul_zero, Nat.mul_one, opS, sem, mkT, binI, binS, eqLs, eqL, B, I, one, pures, PV.ok, PV.cells, fillL, fillE, List.replicate, cellV, cellO, cellR, newsOf, callArgs, splice, L.pure, not_false_eq_true, decide_true, Int.natCast_nonneg, Int.cast_ofNat_Int, implies_true, reduceCtorEq, Nat.reduceBEq, Nat.reduceEqDiff, Nat.reduceAdd, Nat.reduceLeDiff, Nat.reduceLT, Nat.reduceSub, Nat.reduceMul]
      exact ⟨0, Nat.zero_le _, rfl⟩
  · rintro i st hi rfl
    have hci : (comTo s i).length ≤ 40 := Nat.le_trans (comTo_len s i) (by omega)
    simp only [mkL, mkH]
    refine AW.walk ?_
    simp only [List.length_map, ↓WA, WB, ↓reduceIte, opU, foot, PK, LK, footsApart, footP, footL, List.flatMap_cons, List.flatMap_nil, List.filter_nil, key, Nat.mul_zero, Nat.mul_one, opS, sem, mkT, binI, binS, eqLs, eqL, B, I, one, pures, PV.ok, PV.cells, fillL, fillE, List.replicate, cellV, cellO, cellR, newsOf, callArgs, splice, L.pure, not_false_eq_true, decide_true, Int.natCast_nonneg, Int.cast_ofNat_Int, implies_true, reduceCtorEq, Nat.reduceBEq, Nat.reduceEqDiff, Nat.reduceAdd, Nat.reduceLeDiff, Nat.reduceLT, Nat.reduceSub, Nat.reduceMul]
    refine AW.walk ?_
    simp only [↓WA, WB, ↓reduceIte, opU, foot, PK, LK, footsApart, footP, footL, List.flatMap_cons, List.flatMap_nil, List.filter_nil, key, Nat.mul_zero, Nat.mul_one, opS, sem, mkT, binI, binS, eqLs, eqL, B, I, one, pures, PV.ok, PV.cells, fillL, fillE, List.replicate, cellV, cellO, cellR, newsOf, callArgs, splice, L.pure, not_false_eq_true, decide_true, Int.natCast_nonneg, Int.cast_ofNat_Int, implies_true, reduceCtorEq, Nat.reduceBEq, Nat.reduceEqDiff, Nat.reduceAdd, Nat.reduceLeDiff, Nat.reduceLT, Nat.reduceSub, Nat.reduceMul]
    split
    · rename_i hlt
      obtain ⟨x, hx⟩ := get_some (l := s) (i := i) (by omega)
      have hx' := get_map (f := DOp.cs) hx
      refine AW.seq (AW.block ?_)
      refine AW.walk ?_
      simp only [hx', DOp.cs, ↓WA, WB, ↓reduceIte, opU, foot, PK, LK, footsApart, footP, footL, List.flatMap_cons, List.flatMap_nil, List.filter_nil, key, Nat.mul_zero, Nat.mul_one, opS, sem, mkT, binI, binS, eqLs, eqL, B, I, one, pures, PV.ok, PV.cells, fillL, fillE, List.replicate, cellV, cellO, cellR, newsOf, callArgs, splice, L.pure, not_false_eq_true, decide_true, Int.natCast_nonneg, Int.cast_ofNat_Int, implies_true, reduceCtorEq, Nat.reduceBEq, Nat.reduceEqDiff, Nat.reduceAdd, Nat.reduceLeDiff, Nat.reduceLT, Nat.reduceSub, Nat.reduceMul]
      refine AW.walk ?_
      simp only [↓WA, WB, ↓reduceIte, opU, foot, PK, LK, footsApart, footP, footL, List.flatMap_cons, List.flatMap_nil, List.filter_nil, key, Nat.mul_zero, Nat.mul_one, opS, sem, mkT, binI, binS, eqLs, eqL, B, I, one, pures, PV.ok, PV.cells, fillL, fillE, List.replicate, cellV, cellO, cellR, newsOf, callArgs, splice, L.pure, not_false_eq_true, decide_true, Int.natCast_nonneg, Int.cast_ofNat_Int, implies_true, reduceCtorEq, Nat.reduceBEq, Nat.reduceEqDiff, Nat.reduceAdd, Nat.reduceLeDiff, Nat.reduceLT, Nat.reduceSub, Nat.reduceMul]
      refine AW.cut (fun st => st = ⟨mkL ([(0, .l (.vs q (s.map DOp.cs))), (13, .l (.vs q (s.map DOp.cs))), (14, .l (.v (.int .i64 (s.length : Int)))), (3, .l (.sl 2000 0 (comTo s i).length)), (15, .l (.v (.int .i64 (i : Int)))), (5, .l (.ptr 1005 0 0))] ++ [(6, .l (.v (.bool ((s.drop (i + 1)).any (redone x)))))]), mkH [(2000, (DOp.obj ((comTo s i).map DOp.cs))), (1005, DOp.obj [x.cs])]⟩) ?_ ?_
      · have e1 : ((i : Int) + 1).toNat = i + 1 := by omega
        have e2 : ((s.map DOp.cs).drop (i + 1)).take (s.length - (i + 1)) = (s.drop (i + 1)).map DOp.cs := by
          rw [List.take_of_length_le (by simp), List.map_drop]
        simp only [bnd, List.length_map, e1, e2, List.length_drop, ↓WA, WB, ↓reduceIte, opU, foot, PK, LK, footsApart, footP, footL, List.flatMap_cons, List.flatMap_nil, List.filter_nil, key, Nat.mul_zero, Nat.mul_one, opS, sem, mkT, binI, binS, eqLs, eqL, B, I, one, pures, PV.ok, PV.cells, fillL, fillE, List.replicate, cellV, cellO, cellR, newsOf, callArgs, splice, L.pure, not_false_eq_true, decide_true, Int.natCast_nonneg, Int.cast_ofNat_Int, implies_true, reduceCtorEq, Nat.reduceBEq, Nat.reduceEqDiff, Nat.reduceAdd, Nat.reduceLeDiff, Nat.reduceLT, Nat.reduceSub, Nat.reduceMul]
        refine ⟨by rw [inK64]; omega, ⟨⟨by omega, by omega, Int.le_refl _⟩, ?_⟩, ?_⟩
        · intro r hr
          obtain ⟨o, _, rfl⟩ := List.mem_map.mp hr
          rfl
        show AW _ _ (.loop _) _ _
        refine AW.count (s.length - (i + 1)) (fun j st => st = ⟨mkL ([(0, .l (.vs q (s.map DOp.cs))), (13, .l (.vs q (s.map DOp.cs))), (14, .l (.v (.int .i64 (s.length : Int)))), (3, .l (.sl 2000 0 (comTo s i).length)), (15, .l (.v (.int .i64 (i : Int)))), (5, .l (.ptr 1005 0 0))] ++ [(6, .l (.v (.bool (laterTo s i (i + 1 + j) x)))), (23, .l (.vs q ((s.drop (i + 1)).map DOp.cs))), (24, .l (.v (.int .i64 ((s.length - (i + 1) : Nat) : Int)))), (25, .l (.v (.int .i64 (j : Int))))]), mkH [(2000, (DOp.obj ((comTo s i).map DOp.cs))), (1005, DOp.obj [x.cs])]⟩) ?_ ?_
        · refine Lo.own ([(0, .l (.vs q (s.map DOp.cs))), (13, .l (.vs q (s.map DOp.cs))), (14, .l (.v (.int .i64 (s.length : Int)))), (3, .l (.sl 2000 0 (comTo s i).length)), (15, .l (.v (.int .i64 (i : Int)))), (5, .l (.ptr 1005 0 0))] ++ [(6, .l (.v (.bool (laterTo s i (i + 1 + (0 : Nat)) x)))), (23, .l (.vs q ((s.drop (i + 1)).map DOp.cs))), (24, .l (.v (.int .i64 ((s.length - (i + 1) : Nat) : Int)))), (25, .l (.v (.int .i64 ((0 : Nat) : Int))))]) [(2000, 2000, (DOp.obj ((comTo s i).map DOp.cs))), (1005, 1005, DOp.obj [x.cs])] ?_ rfl ?_ rfl (by simp) (by simp) rfl
          · simp only [gOf, renP, renL, ↓WA, WB, ↓reduceIte, opU, foot, PK, LK, footsApart, footP, footL, List.flatMap_cons, List.flatMap_nil, List.filter_nil, key, Nat.mul_zero, Nat.mul_one, opS, sem, mkT, binI, binS, eqLs, eqL, B, I, one, pures, PV.ok, PV.cells, fillL, fillE, List.replicate, cellV, cellO, cellR, newsOf, callArgs, splice, L.pure, not_false_eq_true, decide_true, Int.natCast_nonneg, Int.cast_ofNat_Int, implies_true, reduceCtorEq, Nat.reduceBEq, Nat.reduceEqDiff, Nat.reduceAdd, Nat.reduceLeDiff, Nat.reduceLT, Nat.reduceSub, Nat.reduceMul]
            simp [laterTo_zero]
          · simp only [DOp.obj, DOp.cs, ↓WA, WB, ↓reduceIte, opU, foot, PK, LK, footsApart, footP, footL, List.flatMap_cons, List.flatMap_nil, List.filter_nil, key, Nat.mul_zero, Nat.mul_one, opS, sem, mkT, binI, binS, eqLs, eqL, B, I, one, pures, PV.ok, PV.cells, fillL, fillE, List.replicate, cellV, cellO, cellR, newsOf, callArgs, splice, L.pure, not_false_eq_true, decide_true, Int.natCast_nonneg, Int.cast_ofNat_Int, implies_true, reduceCtorEq, Nat.reduceBEq, Nat.reduceEqDiff, Nat.reduceAdd, Nat.reduceLeDiff, Nat.reduceLT, Nat.reduceSub, Nat.reduceMul]
            exact ⟨⟨0, Nat.zero_le _, rfl⟩, ⟨0, Nat.zero_le _, rfl⟩⟩
        · rintro j st hj rfl
          simp only [mkL, mkH, List.cons_append, List.nil_append]
          have done : laterTo s i (i + 1 + j) x = (s.drop (i + 1)).any (redone x) → ∀ (T : Nat → PV) (H : Nat → Option AObj), (∀ p ∈ [(0, .l (.vs q (s.map DOp.cs))), (13, .l (.vs q (s.map DOp.cs))), (14, .l (.v (.int .i64 (s.length : Int)))), (3, .l (.sl 2000 0 (comTo s i).length)), (15, .l (.v (.int .i64 (i : Int)))), (5, .l (.ptr 1005 0 0))], T p.1 = p.2) → T 6 = .l (.v (.bool (laterTo s i (i + 1 + j) x))) → H 2000 = some (DOp.obj ((comTo s i).map DOp.cs)) → H 1005 = some (DOp.obj [x.cs]) →
              Lo (fun st => st = ⟨mkL ([(0, .l (.vs q (s.map DOp.cs))), (13, .l (.vs q (s.map DOp.cs))), (14, .l (.v (.int .i64 (s.length : Int)))), (3, .l (.sl 2000 0 (comTo s i).length)), (15, .l (.v (.int .i64 (i : Int)))), (5, .l (.ptr 1005 0 0))] ++ [(6, .l (.v (.bool ((s.drop (i + 1)).any (redone x)))))]), mkH [(2000, (DOp.obj ((comTo s i).map DOp.cs))), (1005, DOp.obj [x.cs])]⟩) ⟨T, H⟩ := by
            intro hd T H e1 e2 e3 e4
            simp only [List.forall_mem_cons] at e1
            refine Lo.own ([(0, .l (.vs q (s.map DOp.cs))), (13, .l (.vs q (s.map DOp.cs))), (14, .l (.v (.int .i64 (s.length : Int)))), (3, .l (.sl 2000 0 (comTo s i).length)), (15, .l (.v (.int .i64 (i : Int)))), (5, .l (.ptr 1005 0 0))] ++ [(6, .l (.v (.bool ((s.drop (i + 1)).any (redone x)))))]) [(2000, 2000, (DOp.obj ((comTo s i).map DOp.cs))), (1005, 1005, DOp.obj [x.cs])] ?_ rfl ?_ rfl (by simp) (by simp) rfl
            · simp [e1, e2, hd, renP, renL, gOf, upd]
            · simp [e3, e4, DOp.obj]
          have next : i + 1 + j < s.length → ∀ (y : DOp) (T : Nat → PV) (H : Nat → Option AObj), s[i + 1 + j]? = some y → (∀ p ∈ [(0, .l (.vs q (s.map DOp.cs))), (13, .l (.vs q (s.map DOp.cs))), (14, .l (.v (.int .i64 (s.length : Int)))), (3, .l (.sl 2000 0 (comTo s i).length)), (15, .l (.v (.int .i64 (i : Int)))), (5, .l (.ptr 1005 0 0))], T p.1 = p.2) → T 6 = .l (.v (.bool (laterTo s i (i + 1 + j) x || redone x y))) → T 23 = .l (.vs q ((s.drop (i + 1)).map DOp.cs)) → T 24 = .l (.v (.int .i64 ((s.length - (i + 1) : Nat) : Int))) → T 25 = .l (.v (.int .i64 ((j : Int) + 1))) → H 2000 = some (DOp.obj ((comTo s i).map DOp.cs)) → H 1005 = some (DOp.obj [x.cs]) →
              inK .i64 ((j : Int) + 1) ∧ j < s.length - (i + 1) ∧ Lo (fun st => st = ⟨mkL ([(0, .l (.vs q (s.map DOp.cs))), (13, .l (.vs q (s.map DOp.cs))), (14, .l (.v (.int .i64 (s.length : Int)))), (3, .l (.sl 2000 0 (comTo s i).length)), (15, .l (.v (.int .i64 (i : Int)))), (5, .l (.ptr 1005 0 0))] ++ [(6, .l (.v (.bool (laterTo s i (i + 1 + (j + 1)) x)))), (23, .l (.vs q ((s.drop (i + 1)).map DOp.cs))), (24, .l (.v (.int .i64 ((s.length - (i + 1) : Nat) : Int)))), (25, .l (.v (.int .i64 ((j + 1) : Int))))]), mkH [(2000, (DOp.obj ((comTo s i).map DOp.cs))), (1005, DOp.obj [x.cs])]⟩) ⟨T, H⟩ := by
            intro hd y T H hy e1 e2 e3 e4 e5 e6 e7
            refine ⟨by rw [inK64]; omega, by omega, ?_⟩
            have hs : laterTo s i (i + 1 + (j + 1)) x = (laterTo s i (i + 1 + j) x || redone x y) := any_snoc (i := i + 1) (j := i + 1 + j) (by omega) hy
            simp only [List.forall_mem_cons] at e1
            refine Lo.own ([(0, .l (.vs q (s.map DOp.cs))), (13, .l (.vs q (s.map DOp.cs))), (14, .l (.v (.int .i64 (s.length : Int)))), (3, .l (.sl 2000 0 (comTo s i).length)), (15, .l (.v (.int .i64 (i : Int)))), (5, .l (.ptr 1005 0 0))] ++ [(6, .l (.v (.bool (laterTo s i (i + 1 + (j + 1)) x)))), (23, .l (.vs q ((s.drop (i + 1)).map DOp.cs))), (24, .l (.v (.int .i64 ((s.length - (i + 1) : Nat) : Int)))), (25, .l (.v (.int .i64 ((j + 1) : Int))))]) [(2000, 2000, (DOp.obj ((comTo s i).map DOp.cs))), (1005, 1005, DOp.obj [x.cs])] ?_ rfl ?_ rfl (by simp) (by simp) rfl
            · simp [e1, e2, e3, e4, e5, hs, renP, renL, gOf, upd]
            · simp [e6, e7, DOp.obj]
          refine AW_of_wps _ _ _ ?_
          simp only [hx', List.length_map, DOp.cs, DOp.obj, ↓WA, WB, ↓reduceIte, opU, foot, PK, LK, footsApart, footP, footL, List.flatMap_cons, List.flatMap_nil, List.filter_nil, key, Nat.mul_zero, Nat.mul_one, opS, sem, mkT, binI, binS, eqLs, eqL, B, I, one, pures, PV.ok, PV.cells, fillL, fillE, List.replicate, cellV, cellO, cellR, newsOf, callArgs, splice, L.pure, not_false_eq_true, decide_true, Int.natCast_nonneg, Int.cast_ofNat_Int, implies_true, reduceCtorEq, Nat.reduceBEq, Nat.reduceEqDiff, Nat.reduceAdd, Nat.reduceLeDiff, Nat.reduceLT, Nat.reduceSub, Nat.reduceMul]
          split
          · rename_i hlt2
            obtain ⟨y, hy⟩ := get_some (l := s) (i := i + 1 + j) (by omega)
            have hy' : ((s.drop (i + 1)).map DOp.cs)[j]? = some y.cs := get_map (f := DOp.cs) (by rw [List.getElem?_drop]; exact hy)
            have hrd : redone x y = (decide (x.kind = 10) && (decide (y.kind = 10) && ((decide (y.tg.q = x.tg.q) && decide (y.tg.a = x.tg.a)) && decide (y.id.a = x.id.a)))) := by
              simp [redone, Stamp.ext_iff]
            simp only [hy', List.length_map, DOp.cs, ↓WA, WB, ↓reduceIte, opU, foot, PK, LK, footsApart, footP, footL, List.flatMap_cons, List.flatMap_nil, List.filter_nil, key, Nat.mul_zero, Nat.mul_one, opS, sem, mkT, binI, binS, eqLs, eqL, B, I, one, pures, PV.ok, PV.cells, fillL, fillE, List.replicate, cellV, cellO, cellR, newsOf, callArgs, splice, L.pure, not_false_eq_true, decide_true, Int.natCast_nonneg, Int.cast_ofNat_Int, implies_true, reduceCtorEq, Nat.reduceBEq, Nat.reduceEqDiff, Nat.reduceAdd, Nat.reduceLeDiff, Nat.reduceLT, Nat.reduceSub, Nat.reduceMul]
            repeat' split
            all_goals
              refine next (by omega) y _ _ hy ?_ ?_ ?_ ?_ ?_ ?_ ?_ <;> simp only [DOp.obj, DOp.cs, ↓WA, WB, ↓reduceIte, opU, foot, PK, LK, footsApart, footP, footL, List.flatMap_cons, List.flatMap_nil, List.filter_nil, key, Nat.mul_zero, Nat.mul_one, opS, sem, mkT, binI, binS, eqLs, eqL, B, I, one, pures, PV.ok, PV.cells, fillL, fillE, List.replicate, cellV, cellO, cellR, newsOf, callArgs, splice, L.pure, not_false_eq_true, decide_true, Int.natCast_nonneg, Int.cast_ofNat_Int, implies_true, reduceCtorEq, Nat.reduceBEq, Nat.reduceEqDiff, Nat.reduceAdd, Nat.reduceLeDiff, Nat.reduceLT, Nat.reduceSub, Nat.reduceMul]
            all_goals (rw [hrd]; simp_all)
          · have : i + 1 + j = s.length := by omega
            refine done (by rw [this, laterTo_all]) _ _ ?_ ?_ ?_ ?_ <;> simp only [DOp.obj, DOp.cs, ↓WA, WB, ↓reduceIte, opU, foot, PK, LK, footsApart, footP, footL, List.flatMap_cons, List.flatMap_nil, List.filter_nil, key, Nat.mul_zero, Nat.mul_one, opS, sem, mkT, binI, binS, eqLs, eqL, B, I, one, pures, PV.ok, PV.cells, fillL, fillE, List.replicate, cellV, cellO, cellR, newsOf, callArgs, splice, L.pure, not_false_eq_true, decide_true, Int.natCast_nonneg, Int.cast_ofNat_Int, implies_true, reduceCtorEq, Nat.reduceBEq, Nat.reduceEqDiff, Nat.reduceAdd, Nat.reduceLeDiff, Nat.reduceLT, Nat.reduceSub, Nat.reduceMul]
      · rintro st rfl
        simp only [mkL, mkH, List.cons_append, List.nil_append]
        refine AW_of_wps _ _ _ ?_
        simp only [hx', DOp.cs, DOp.obj, ↓WA, WB, ↓reduceIte, opU, foot, PK, LK, footsApart, footP, footL, List.flatMap_cons, List.flatMap_nil, List.filter_nil, key, Nat.mul_zero, Nat.mul_one, opS, sem, mkT, binI, binS, eqLs, eqL, B, I, one, pures, PV.ok, PV.cells, fillL, fillE, List.replicate, cellV, cellO, cellR, newsOf, callArgs, splice, L.pure, not_false_eq_true, decide_true, Int.natCast_nonneg, Int.cast_ofNat_Int, implies_true, reduceCtorEq, Nat.reduceBEq, Nat.reduceEqDiff, Nat.reduceAdd, Nat.reduceLeDiff, Nat.reduceLT, Nat.reduceSub, Nat.reduceMul]
        have hcond : (True ∨ True) ∧ (comTo s i).length ≤ ((comTo s i).map DOp.cs).length ∧ (True ∨ False ∧ (comTo s i).length = ((comTo s i).map DOp.cs).length) ∧ (comTo s i).length + 1 ≤ maxLen ∧ ((comTo s i).length + 1) * 104 ≤ 140737488355328 :=
          ⟨.inl trivial, by simp, .inl trivial, by unfold maxLen; omega, by omega⟩
        have step := comTo_succ hx
        unfold comKeep at step
        split
        · rename_i hany
          rw [if_neg (by simpa using hany)] at step
          refine ⟨hcond, ?_⟩
          refine AW_of_wps _ _ _ ?_
          simp only [↓WA, WB, ↓reduceIte, opU, foot, PK, LK, footsApart, footP, footL, List.flatMap_cons, List.flatMap_nil, List.filter_nil, key, Nat.mul_zero, Nat.mul_one, opS, sem, mkT, binI, binS, eqLs, eqL, B, I, one, pures, PV.ok, PV.cells, fillL, fillE, List.replicate, cellV, cellO, cellR, newsOf, callArgs, splice, L.pure, not_false_eq_true, decide_true, Int.natCast_nonneg, Int.cast_ofNat_Int, implies_true, reduceCtorEq, Nat.reduceBEq, Nat.reduceEqDiff, Nat.reduceAdd, Nat.reduceLeDiff, Nat.reduceLT, Nat.reduceSub, Nat.reduceMul]
          refine ⟨by rw [inK64]; omega, by omega, ?_⟩
          refine Lo.own [(0, .l (.vs q (s.map DOp.cs))), (13, .l (.vs q (s.map DOp.cs))), (14, .l (.v (.int .i64 (s.length : Int)))), (3, .l (.sl 2000 0 (comTo s (i + 1 : Nat)).length)), (15, .l (.v (.int .i64 ((i + 1 : Nat) : Int))))] [(2000, 1062, (DOp.obj ((comTo s (i + 1)).map DOp.cs)))] ?_ rfl ?_ rfl (by simp) (by simp) rfl
          · simp only [gOf, renP, renL, step, ↓WA, WB, ↓reduceIte, opU, foot, PK, LK, footsApart, footP, footL, List.flatMap_cons, List.flatMap_nil, List.filter_nil, key, Nat.mul_zero, Nat.mul_one, opS, sem, mkT, binI, binS, eqLs, eqL, B, I, one, pures, PV.ok, PV.cells, fillL, fillE, List.replicate, cellV, cellO, cellR, newsOf, callArgs, splice, L.pure, not_false_eq_true, decide_true, Int.natCast_nonneg, Int.cast_ofNat_Int, implies_true, reduceCtorEq, Nat.reduceBEq, Nat.reduceEqDiff, Nat.reduceAdd, Nat.reduceLeDiff, Nat.reduceLT, Nat.reduceSub, Nat.reduceMul]
            simp
          · simp only [DOp.obj, step, ↓WA, WB, ↓reduceIte, opU, foot, PK, LK, footsApart, footP, footL, List.flatMap_cons, List.flatMap_nil, List.filter_nil, key, Nat.mul_zero, Nat.mul_one, opS, sem, mkT, binI, binS, eqLs, eqL, B, I, one, pures, PV.ok, PV.cells, fillL, fillE, List.replicate, cellV, cellO, cellR, newsOf, callArgs, splice, L.pure, not_false_eq_true, decide_true, Int.natCast_nonneg, Int.cast_ofNat_Int, implies_true, reduceCtorEq, Nat.reduceBEq, Nat.reduceEqDiff, Nat.reduceAdd, Nat.reduceLeDiff, Nat.reduceLT, Nat.reduceSub, Nat.reduceMul]
            exact ⟨1, Nat.le_refl _, by simp [take_map, DOp.cs]⟩
        · rename_i hany
          rw [if_pos (by simpa using hany), List.append_nil] at step
          refine AW_of_wps _ _ _ ?_
          simp only [↓WA, WB, ↓reduceIte, opU, foot, PK, LK, footsApart, footP, footL, List.flatMap_cons, List.flatMap_nil, List.filter_nil, key, Nat.mul_zero, Nat.mul_one, opS, sem, mkT, binI, binS, eqLs, eqL, B, I, one, pures, PV.ok, PV.cells, fillL, fillE, List.replicate, cellV, cellO, cellR, newsOf, callArgs, splice, L.pure, not_false_eq_true, decide_true, Int.natCast_nonneg, Int.cast_ofNat_Int, implies_true, reduceCtorEq, Nat.reduceBEq, Nat.reduceEqDiff, Nat.reduceAdd, Nat.reduceLeDiff, Nat.reduceLT, Nat.reduceSub, Nat.reduceMul]
          refine ⟨by rw [inK64]; omega, by omega, ?_⟩
          refine Lo.own [(0, .l (.vs q (s.map DOp.cs))), (13, .l (.vs q (s.map DOp.cs))), (14, .l (.v (.int .i64 (s.length : Int)))), (3, .l (.sl 2000 0 (comTo s (i + 1 : Nat)).length)), (15, .l (.v (.int .i64 ((i + 1 : Nat) : Int))))] [(2000, 2000, (DOp.obj ((comTo s (i + 1)).map DOp.cs)))] ?_ rfl ?_ rfl (by simp) (by simp) rfl
          · simp only [gOf, renP, renL, step, ↓WA, WB, ↓reduceIte, opU, foot, PK, LK, footsApart, footP, footL, List.flatMap_cons, List.flatMap_nil, List.filter_nil, key, Nat.mul_zero, Nat.mul_one, opS, sem, mkT, binI, binS, eqLs, eqL, B, I, one, pures, PV.ok, PV.cells, fillL, fillE, List.replicate, cellV, cellO, cellR, newsOf, callArgs, splice, L.pure, not_false_eq_true, decide_true, Int.natCast_nonneg, Int.cast_ofNat_Int, implies_true, reduceCtorEq, Nat.reduceBEq, Nat.reduceEqDiff, Nat.reduceAdd, Nat.reduceLeDiff, Nat.reduceLT, Nat.reduceSub, Nat.reduceMul]
            simp
          · simp only [DOp.obj, step, ↓WA, WB, ↓reduceIte, opU, foot, PK, LK, footsApart, footP, footL, List.flatMap_cons, List.flatMap_nil, List.filter_nil, key, Nat.mul_zero, Nat.mul_one, opS, sem, mkT, binI, binS, eqLs, eqL, B, I, one, pures, PV.ok, PV.cells, fillL, fillE, List.replicate, cellV, cellO, cellR, newsOf, callArgs, splice, L.pure, not_false_eq_true, decide_true, Int.natCast_nonneg, Int.cast_ofNat_Int, implies_true, reduceCtorEq, Nat.reduceBEq, Nat.reduceEqDiff, Nat.reduceAdd, Nat.reduceLeDiff, Nat.reduceLT, Nat.reduceSub, Nat.reduceMul]
            simp
    · have : i = s.length := by omega
      subst this
      refine ⟨2000, 0, ?_, ?_, Nat.zero_le _⟩
      · simp [compactLog]
      · simp [upd, DOp.obj, compactLog]
end Go.Proofs
