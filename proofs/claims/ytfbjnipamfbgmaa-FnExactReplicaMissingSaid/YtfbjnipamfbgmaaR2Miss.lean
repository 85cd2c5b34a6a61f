import Derived.Test.YtfbjnipamfbgmaaR2Rep
import Derived.Test.YtfbjnipamfbgmaaR2Mark
set_option linter.unusedSimpArgs false
set_option linter.unusedVariables false
namespace Go.Proofs
open Go Go.Ab

theorem specVecHas_ok (q : Bool) (v : List Int) (t : Stamp) (n : Int) (ha : 0 ≤ t.a) (hn : v[t.a.toNat]? = some n) : CallOk Try.prog 94 [.l (.vs q (v.map ics)), .agg t.cs] [] (.l (.v (.bool (vecHas v t)))) [] [] := by
  refine callOk_pure1 (fn := Try.f94) (r := .t 4) follows Try.func94 rfl c94_eq (Nat.le_of_ble_eq_true rfl) (by kernel_rfl) rfl (.v _) ?_
  have hn' := get_map (f := ics) hn
  have hlt := (List.getElem?_eq_some_iff.mp hn).1
  simp only [c94, Stamp.cs, hn', ics, List.length_map, ↓WA, WB, ↓reduceIte, opU, foot, PK, LK, footsApart, footP, footL, List.flatMap_cons, List.flatMap_nil, List.filter_nil, key, Nat.mul_zero, Nat.mul_one, opS, sem, mkT, binI, binS, eqLs, eqL, B, I, one, pures, PV.ok, PV.cells, fillL, fillE, List.replicate, cellV, cellO, cellR, newsOf, callArgs, splice, L.pure, not_false_eq_true, decide_true, Int.natCast_nonneg, Int.cast_ofNat_Int, implies_true, reduceCtorEq, Nat.reduceBEq, Nat.reduceEqDiff, Nat.reduceAdd, Nat.reduceLeDiff, Nat.reduceLT, Nat.reduceSub, Nat.reduceMul]
  refine ⟨by omega, ?_⟩
  simp [vecHas, hn]

theorem implVecHas_ok (q : Bool) (v : List Int) (t : Stamp) (hv : validVec v = true) (ht : validStamp t = true) : CallOk Try.prog 97 [.l (.vs q (v.map ics)), .agg t.cs] [] (.l (.v (.bool (vecHas v t)))) [] [] := by
  refine callOk_pure1 (fn := Try.f97) (r := .t 4) follows Try.func97 rfl c97_eq (Nat.le_of_ble_eq_true rfl) (by kernel_rfl) rfl (.v _) ?_
  have hs := validStamp_iff.mp ht
  have hl : v.length = 3 := by simp only [validVec, Bool.and_eq_true, decide_eq_true_eq] at hv; exact hv.2
  obtain ⟨n, hn⟩ := get_some (l := v) (i := t.a.toNat) (by omega)
  have hn' := get_map (f := ics) hn
  simp only [c97, Stamp.cs, ↓WA, WB, ↓reduceIte, opU, foot, PK, LK, footsApart, footP, footL, List.flatMap_cons, List.flatMap_nil, List.filter_nil, key, Nat.mul_zero, Nat.mul_one, opS, sem, mkT, binI, binS, eqLs, eqL, B, I, one, pures, PV.ok, PV.cells, fillL, fillE, List.replicate, cellV, cellO, cellR, newsOf, callArgs, splice, L.pure, not_false_eq_true, decide_true, Int.natCast_nonneg, Int.cast_ofNat_Int, implies_true, reduceCtorEq, Nat.reduceBEq, Nat.reduceEqDiff, Nat.reduceAdd, Nat.reduceLeDiff, Nat.reduceLT, Nat.reduceSub, Nat.reduceMul]
  refine CS.plain (implValidVector_ok q v) rfl rfl ?_
  simp only [hv, ↓WA, WB, ↓reduceIte, opU, foot, PK, LK, footsApart, footP, footL, List.flatMap_cons, List.flatMap_nil, List.filter_nil, key, Nat.mul_zero, Nat.mul_one, opS, sem, mkT, binI, binS, eqLs, eqL, B, I, one, pures, PV.ok, PV.cells, fillL, fillE, List.replicate, cellV, cellO, cellR, newsOf, callArgs, splice, L.pure, not_false_eq_true, decide_true, Int.natCast_nonneg, Int.cast_ofNat_Int, implies_true, reduceCtorEq, Nat.reduceBEq, Nat.reduceEqDiff, Nat.reduceAdd, Nat.reduceLeDiff, Nat.reduceLT, Nat.reduceSub, Nat.reduceMul]
  refine CS.plain (ValidStamp_ok t) rfl rfl ?_
  simp only [ht, hn', ics, List.length_map, ↓WA, WB, ↓reduceIte, opU, foot, PK, LK, footsApart, footP, footL, List.flatMap_cons, List.flatMap_nil, List.filter_nil, key, Nat.mul_zero, Nat.mul_one, opS, sem, mkT, binI, binS, eqLs, eqL, B, I, one, pures, PV.ok, PV.cells, fillL, fillE, List.replicate, cellV, cellO, cellR, newsOf, callArgs, splice, L.pure, not_false_eq_true, decide_true, Int.natCast_nonneg, Int.cast_ofNat_Int, implies_true, reduceCtorEq, Nat.reduceBEq, Nat.reduceEqDiff, Nat.reduceAdd, Nat.reduceLeDiff, Nat.reduceLT, Nat.reduceSub, Nat.reduceMul]
  refine ⟨by omega, ?_⟩
  simp [vecHas, hn]

set_option maxRecDepth 20000 in
theorem makeMessage_ok (q : Bool) (s : List DOp) (o : DOp) (hl : s.length ≤ 1048576) : CallOk Try.prog 95 [.l (.vs q (s.map DOp.cs)), .agg o.cs] [] (.agg (msgOf s o).cs) [] [] := by
  refine callOk_pure (fn := Try.f95) (rs := [.c 4 13 true]) (ps := [.agg (msgOf s o).cs]) follows Try.func95 rfl c95_eq (Nat.le_of_ble_eq_true rfl) (by kernel_rfl) (by rfl) (Msg.hb _) ?_
  simp only [c95, DOp.cs, ↓WA, WB, ↓reduceIte, opU, foot, PK, LK, footsApart, footP, footL, List.flatMap_cons, List.flatMap_nil, List.filter_nil, key, Nat.mul_zero, Nat.mul_one, opS, sem, mkT, binI, binS, eqLs, eqL, B, I, one, pures, PV.ok, PV.cells, fillL, fillE, List.replicate, cellV, cellO, cellR, newsOf, callArgs, splice, L.pure, not_false_eq_true, decide_true, Int.natCast_nonneg, Int.cast_ofNat_Int, implies_true, reduceCtorEq, Nat.reduceBEq, Nat.reduceEqDiff, Nat.reduceAdd, Nat.reduceLeDiff, Nat.reduceLT, Nat.reduceSub, Nat.reduceMul]
  show AW _ _ (.loop _) _ _
  refine AW.count s.length (fun i st => st = ⟨mkL [(0, .l (.vs q (s.map DOp.cs))), (3, .l (.ptr 1003 0 0)), (4, .l (.ptr 1004 0 0)), (5, .l (.ptr 1005 0 0)), (6, .l (.v (.int .i64 (i : Int))))], mkH [(1003, ⟨0, true, 12, [o.cs]⟩), (1004, ⟨0, true, 13, [Msg.zero]⟩), (1005, ⟨0, true, 13, [(⟨o, ((s.take i).foldl (prevStep o.id) 0)⟩ : Msg).cs]⟩)]⟩) ?_ ?_
  · refine Lo.own [(0, .l (.vs q (s.map DOp.cs))), (3, .l (.ptr 1003 0 0)), (4, .l (.ptr 1004 0 0)), (5, .l (.ptr 1005 0 0)), (6, .l (.v (.int .i64 ((0 : Nat) : Int))))] [(1003, 1003, ⟨0, true, 12, [o.cs]⟩), (1004, 1004, ⟨0, true, 13, [Msg.zero]⟩), (1005, 1005, ⟨0, true, 13, [(⟨o, ((s.take 0).foldl (prevStep o.id) 0)⟩ : Msg).cs]⟩)] ?_ rfl ?_ rfl (by simp) (by simp) rfl
    · simp only [gOf, renP, renL, ↓WA, WB, ↓reduceIte, opU, foot, PK, LK, footsApart, footP, footL, List.flatMap_cons, List.flatMap_nil, List.filter_nil, key, Nat.mul_zero, Nat.mul_one, opS, sem, mkT, binI, binS, eqLs, eqL, B, I, one, pures, PV.ok, PV.cells, fillL, fillE, List.replicate, cellV, cellO, cellR, newsOf, callArgs, splice, L.pure, not_false_eq_true, decide_true, Int.natCast_nonneg, Int.cast_ofNat_Int, implies_true, reduceCtorEq, Nat.reduceBEq, Nat.reduceEqDiff, Nat.reduceAdd, Nat.reduceLeDiff, Nat.reduceLT, Nat.reduceSub, Nat.reduceMul]
    · simp only [Msg.cs, DOp.cs, Msg.zero, ↓WA, WB, ↓reduceIte, opU, foot, PK, LK, footsApart, footP, footL, List.flatMap_cons, List.flatMap_nil, List.filter_nil, key, Nat.mul_zero, Nat.mul_one, opS, sem, mkT, binI, binS, eqLs, eqL, B, I, one, pures, PV.ok, PV.cells, fillL, fillE, List.replicate, cellV, cellO, cellR, newsOf, callArgs, splice, L.pure, not_false_eq_true, decide_true, Int.natCast_nonneg, Int.cast_ofNat_Int, implies_true, reduceCtorEq, Nat.reduceBEq, Nat.reduceEqDiff, Nat.reduceAdd, Nat.reduceLeDiff, Nat.reduceLT, Nat.reduceSub, Nat.reduceMul]
      exact ⟨⟨0, Nat.zero_le _, rfl⟩, ⟨0, Nat.zero_le _, rfl⟩, ⟨0, Nat.zero_le _, rfl⟩⟩
  · rintro i st hi rfl
    simp only [mkL, mkH]
    refine AW_of_wps _ _ _ ?_
    simp only [List.length_map, ↓WA, WB, ↓reduceIte, opU, foot, PK, LK, footsApart, footP, footL, List.flatMap_cons, List.flatMap_nil, List.filter_nil, key, Nat.mul_zero, Nat.mul_one, opS, sem, mkT, binI, binS, eqLs, eqL, B, I, one, pures, PV.ok, PV.cells, fillL, fillE, List.replicate, cellV, cellO, cellR, newsOf, callArgs, splice, L.pure, not_false_eq_true, decide_true, Int.natCast_nonneg, Int.cast_ofNat_Int, implies_true, reduceCtorEq, Nat.reduceBEq, Nat.reduceEqDiff, Nat.reduceAdd, Nat.reduceLeDiff, Nat.reduceLT, Nat.reduceSub, Nat.reduceMul]
    split
    · rename_i hlt
      obtain ⟨x, hx⟩ := get_some (l := s) (i := i) (by omega)
      have hx' := get_map (f := DOp.cs) hx
      have step := foldl_snoc (f := prevStep o.id) (b := 0) hx
      have next : ∀ (w : Int) (T : Nat → PV) (H : Nat → Option AObj), (s.take (i + 1)).foldl (prevStep o.id) 0 = w → (∀ p ∈ [(0, .l (.vs q (s.map DOp.cs))), (3, .l (.ptr 1003 0 0)), (4, .l (.ptr 1004 0 0)), (5, .l (.ptr 1005 0 0)), (6, .l (.v (.int .i64 ((i : Int) + 1))))], T p.1 = p.2) → H 1003 = some ⟨0, true, 12, [o.cs]⟩ → H 1004 = some ⟨0, true, 13, [Msg.zero]⟩ → H 1005 = some ⟨0, true, 13, [(⟨o, w⟩ : Msg).cs]⟩ →
          inK .i64 ((i : Int) + 1) ∧ i < s.length ∧ Lo (fun st => st = ⟨mkL [(0, .l (.vs q (s.map DOp.cs))), (3, .l (.ptr 1003 0 0)), (4, .l (.ptr 1004 0 0)), (5, .l (.ptr 1005 0 0)), (6, .l (.v (.int .i64 ((i + 1 : Nat) : Int))))], mkH [(1003, ⟨0, true, 12, [o.cs]⟩), (1004, ⟨0, true, 13, [Msg.zero]⟩), (1005, ⟨0, true, 13, [(⟨o, ((s.take (i + 1)).foldl (prevStep o.id) 0)⟩ : Msg).cs]⟩)]⟩) ⟨T, H⟩ := by
        rintro _ T H rfl e1 e2 e3 e4
        simp only [List.forall_mem_cons] at e1
        refine ⟨by rw [inK64]; omega, by omega, ?_⟩
        refine Lo.own [(0, .l (.vs q (s.map DOp.cs))), (3, .l (.ptr 1003 0 0)), (4, .l (.ptr 1004 0 0)), (5, .l (.ptr 1005 0 0)), (6, .l (.v (.int .i64 ((i + 1 : Nat) : Int))))] [(1003, 1003, ⟨0, true, 12, [o.cs]⟩), (1004, 1004, ⟨0, true, 13, [Msg.zero]⟩), (1005, 1005, ⟨0, true, 13, [(⟨o, ((s.take (i + 1)).foldl (prevStep o.id) 0)⟩ : Msg).cs]⟩)] ?_ rfl ?_ rfl (by simp) (by simp) rfl
        · simp [e1, renP, renL, gOf, upd]
        · simp [e2, e3, e4]
      simp only [hx', DOp.cs, Msg.cs, Stamp.cs, ↓WA, WB, ↓reduceIte, opU, foot, PK, LK, footsApart, footP, footL, List.flatMap_cons, List.flatMap_nil, List.filter_nil, key, Nat.mul_zero, Nat.mul_one, opS, sem, mkT, binI, binS, eqLs, eqL, B, I, one, pures, PV.ok, PV.cells, fillL, fillE, List.replicate, cellV, cellO, cellR, newsOf, callArgs, splice, L.pure, not_false_eq_true, decide_true, Int.natCast_nonneg, Int.cast_ofNat_Int, implies_true, reduceCtorEq, Nat.reduceBEq, Nat.reduceEqDiff, Nat.reduceAdd, Nat.reduceLeDiff, Nat.reduceLT, Nat.reduceSub, Nat.reduceMul]
      generalize (s.take i).foldl (prevStep o.id) 0 = p at step ⊢
      rw [show prevStep o.id p x = if x.id.a = o.id.a ∧ x.id.q < o.id.q then x.id.q else p from rfl] at step
      split
      · rename_i h1
        split
        · rename_i h2
          refine next x.id.q _ _ (by rw [step, if_pos ⟨h1, h2⟩]) ?_ ?_ ?_ ?_ <;> simp only [DOp.cs, Msg.cs, ↓WA, WB, ↓reduceIte, opU, foot, PK, LK, footsApart, footP, footL, List.flatMap_cons, List.flatMap_nil, List.filter_nil, key, Nat.mul_zero, Nat.mul_one, opS, sem, mkT, binI, binS, eqLs, eqL, B, I, one, pures, PV.ok, PV.cells, fillL, fillE, List.replicate, cellV, cellO, cellR, newsOf, callArgs, splice, L.pure, not_false_eq_true, decide_true, Int.natCast_nonneg, Int.cast_ofNat_Int, implies_true, reduceCtorEq, Nat.reduceBEq, Nat.reduceEqDiff, Nat.reduceAdd, Nat.reduceLeDiff, Nat.reduceLT, Nat.reduceSub, Nat.reduceMul]
        · rename_i h2
          refine next p _ _ (by rw [step, if_neg (fun h => h2 h.2)]) ?_ ?_ ?_ ?_ <;> simp only [DOp.cs, Msg.cs, ↓WA, WB, ↓reduceIte, opU, foot, PK, LK, footsApart, footP, footL, List.flatMap_cons, List.flatMap_nil, List.filter_nil, key, Nat.mul_zero, Nat.mul_one, opS, sem, mkT, binI, binS, eqLs, eqL, B, I, one, pures, PV.ok, PV.cells, fillL, fillE, List.replicate, cellV, cellO, cellR, newsOf, callArgs, splice, L.pure, not_false_eq_true, decide_true, Int.natCast_nonneg, Int.cast_ofNat_Int, implies_true, reduceCtorEq, Nat.reduceBEq, Nat.reduceEqDiff, Nat.reduceAdd, Nat.reduceLeDiff, Nat.reduceLT, Nat.reduceSub, Nat.reduceMul]
      · rename_i h1
        refine next p _ _ (by rw [step, if_neg (fun h => h1 h.1)]) ?_ ?_ ?_ ?_ <;> simp only [DOp.cs, Msg.cs, ↓WA, WB, ↓reduceIte, opU, foot, PK, LK, footsApart, footP, footL, List.flatMap_cons, List.flatMap_nil, List.filter_nil, key, Nat.mul_zero, Nat.mul_one, opS, sem, mkT, binI, binS, eqLs, eqL, B, I, one, pures, PV.ok, PV.cells, fillL, fillE, List.replicate, cellV, cellO, cellR, newsOf, callArgs, splice, L.pure, not_false_eq_true, decide_true, Int.natCast_nonneg, Int.cast_ofNat_Int, implies_true, reduceCtorEq, Nat.reduceBEq, Nat.reduceEqDiff, Nat.reduceAdd, Nat.reduceLeDiff, Nat.reduceLT, Nat.reduceSub, Nat.reduceMul]
    · have : i = s.length := by omega
      subst this
      simp only [Msg.cs, DOp.cs, Msg.zero, ↓WA, WB, ↓reduceIte, opU, foot, PK, LK, footsApart, footP, footL, List.flatMap_cons, List.flatMap_nil, List.filter_nil, key, Nat.mul_zero, Nat.mul_one, opS, sem, mkT, binI, binS, eqLs, eqL, B, I, one, pures, PV.ok, PV.cells, fillL, fillE, List.replicate, cellV, cellO, cellR, newsOf, callArgs, splice, L.pure, not_false_eq_true, decide_true, Int.natCast_nonneg, Int.cast_ofNat_Int, implies_true, reduceCtorEq, Nat.reduceBEq, Nat.reduceEqDiff, Nat.reduceAdd, Nat.reduceLeDiff, Nat.reduceLT, Nat.reduceSub, Nat.reduceMul]
      simp [prevOf, msgOf]

theorem previous_ok (q : Bool) (s : List DOp) (t : Stamp) (hl : s.length ≤ 1048576) : CallOk Try.prog 98 [.l (.vs q (s.map DOp.cs)), .agg t.cs] [] (.l (.v (.int .i64 (prevOf s t)))) [] [] := by
  refine callOk_pure1 (fn := Try.f98) (r := .t 4) follows Try.func98 rfl c98_eq (Nat.le_of_ble_eq_true rfl) (by kernel_rfl) rfl (.v _) ?_
  simp only [c98, Stamp.cs, List.length_map, ↓WA, WB, ↓reduceIte, opU, foot, PK, LK, footsApart, footP, footL, List.flatMap_cons, List.flatMap_nil, List.filter_nil, key, Nat.mul_zero, Nat.mul_one, opS, sem, mkT, binI, binS, eqLs, eqL, B, I, one, pures, PV.ok, PV.cells, fillL, fillE, List.replicate, cellV, cellO, cellR, newsOf, callArgs, splice, L.pure, not_false_eq_true, decide_true, Int.natCast_nonneg, Int.cast_ofNat_Int, implies_true, reduceCtorEq, Nat.reduceBEq, Nat.reduceEqDiff, Nat.reduceAdd, Nat.reduceLeDiff, Nat.reduceLT, Nat.reduceSub, Nat.reduceMul]
  show AW _ _ (.loop _) _ _
  refine AW.count s.length (fun i st => st = ⟨mkL [(0, .l (.vs q (s.map DOp.cs))), (3, .l (.ptr 1003 0 0)), (5, .l (.v (.int .i64 ((s.take i).foldl (prevStep t) 0)))), (8, .l (.vs q (s.map DOp.cs))), (9, .l (.v (.int .i64 (s.length : Int)))), (10, .l (.v (.int .i64 (i : Int))))], mkH [(1003, ⟨0, true, 2, [t.cs]⟩)]⟩) ?_ ?_
  · refine Lo.own [(0, .l (.vs q (s.map DOp.cs))), (3, .l (.ptr 1003 0 0)), (5, .l (.v (.int .i64 ((s.take (0 : Nat)).foldl (prevStep t) 0)))), (8, .l (.vs q (s.map DOp.cs))), (9, .l (.v (.int .i64 (s.length : Int)))), (10, .l (.v (.int .i64 ((0 : Nat) : Int))))] [(1003, 1003, ⟨0, true, 2, [t.cs]⟩)] ?_ rfl ?_ rfl (by simp) (by simp) rfl
    · simp only [gOf, renP, renL, ↓WA, WB, ↓reduceIte, opU, foot, PK, LK, footsApart, footP, footL, List.flatMap_cons, List.flatMap_nil, List.filter_nil, key, Nat.mul_zero, Nat.mul_one, opS, sem, mkT, binI, binS, eqLs, eqL, B, I, one, pures, PV.ok, PV.cells, fillL, fillE, List.replicate, cellV, cellO, cellR, newsOf, callArgs, splice, L.pure, not_false_eq_true, decide_true, Int.natCast_nonneg, Int.cast_ofNat_Int, implies_true, reduceCtorEq, Nat.reduceBEq, Nat.reduceEqDiff, Nat.reduceAdd, Nat.reduceLeDiff, Nat.reduceLT, Nat.reduceSub, Nat.reduceMul]
      simp
    · simp only [Stamp.cs, ↓WA, WB, ↓reduceIte, opU, foot, PK, LK, footsApart, footP, footL, List.flatMap_cons, List.flatMap_nil, List.filter_nil, key, Nat.mul_zero, Nat.mul_one, opS, sem, mkT, binI, binS, eqLs, eqL, B, I, one, pures, PV.ok, PV.cells, fillL, fillE, List.replicate, cellV, cellO, cellR, newsOf, callArgs, splice, L.pure, not_false_eq_true, decide_true, Int.natCast_nonneg, Int.cast_ofNat_Int, implies_true, reduceCtorEq, Nat.reduceBEq, Nat.reduceEqDiff, Nat.reduceAdd, Nat.reduceLeDiff, Nat.reduceLT, Nat.reduceSub, Nat.reduceMul]
      exact ⟨0, Nat.zero_le _, rfl⟩
  · rintro i st hi rfl
    simp only [mkL, mkH]
    refine AW_of_wps _ _ _ ?_
    simp only [List.length_map, ↓WA, WB, ↓reduceIte, opU, foot, PK, LK, footsApart, footP, footL, List.flatMap_cons, List.flatMap_nil, List.filter_nil, key, Nat.mul_zero, Nat.mul_one, opS, sem, mkT, binI, binS, eqLs, eqL, B, I, one, pures, PV.ok, PV.cells, fillL, fillE, List.replicate, cellV, cellO, cellR, newsOf, callArgs, splice, L.pure, not_false_eq_true, decide_true, Int.natCast_nonneg, Int.cast_ofNat_Int, implies_true, reduceCtorEq, Nat.reduceBEq, Nat.reduceEqDiff, Nat.reduceAdd, Nat.reduceLeDiff, Nat.reduceLT, Nat.reduceSub, Nat.reduceMul]
    split
    · rename_i hlt
      obtain ⟨x, hx⟩ := get_some (l := s) (i := i) (by omega)
      have hx' := get_map (f := DOp.cs) hx
      have step := foldl_snoc (f := prevStep t) (b := 0) hx
      have next : ∀ (w : Int) (T : Nat → PV) (H : Nat → Option AObj), (s.take (i + 1)).foldl (prevStep t) 0 = w → (∀ p ∈ [(0, .l (.vs q (s.map DOp.cs))), (3, .l (.ptr 1003 0 0)), (5, .l (.v (.int .i64 w))), (8, .l (.vs q (s.map DOp.cs))), (9, .l (.v (.int .i64 (s.length : Int)))), (10, .l (.v (.int .i64 ((i : Int) + 1))))], T p.1 = p.2) → H 1003 = some ⟨0, true, 2, [t.cs]⟩ →
          inK .i64 ((i : Int) + 1) ∧ i < s.length ∧ Lo (fun st => st = ⟨mkL [(0, .l (.vs q (s.map DOp.cs))), (3, .l (.ptr 1003 0 0)), (5, .l (.v (.int .i64 ((s.take (i + 1 : Nat)).foldl (prevStep t) 0)))), (8, .l (.vs q (s.map DOp.cs))), (9, .l (.v (.int .i64 (s.length : Int)))), (10, .l (.v (.int .i64 ((i + 1 : Nat) : Int))))], mkH [(1003, ⟨0, true, 2, [t.cs]⟩)]⟩) ⟨T, H⟩ := by
        rintro _ T H rfl e1 e2
        simp only [List.forall_mem_cons] at e1
        refine ⟨by rw [inK64]; omega, by omega, ?_⟩
        refine Lo.own [(0, .l (.vs q (s.map DOp.cs))), (3, .l (.ptr 1003 0 0)), (5, .l (.v (.int .i64 ((s.take (i + 1 : Nat)).foldl (prevStep t) 0)))), (8, .l (.vs q (s.map DOp.cs))), (9, .l (.v (.int .i64 (s.length : Int)))), (10, .l (.v (.int .i64 ((i + 1 : Nat) : Int))))] [(1003, 1003, ⟨0, true, 2, [t.cs]⟩)] ?_ rfl ?_ rfl (by simp) (by simp) rfl
        · simp [e1, renP, renL, gOf, upd]
        · simp [e2]
      simp only [hx', DOp.cs, Stamp.cs, ↓WA, WB, ↓reduceIte, opU, foot, PK, LK, footsApart, footP, footL, List.flatMap_cons, List.flatMap_nil, List.filter_nil, key, Nat.mul_zero, Nat.mul_one, opS, sem, mkT, binI, binS, eqLs, eqL, B, I, one, pures, PV.ok, PV.cells, fillL, fillE, List.replicate, cellV, cellO, cellR, newsOf, callArgs, splice, L.pure, not_false_eq_true, decide_true, Int.natCast_nonneg, Int.cast_ofNat_Int, implies_true, reduceCtorEq, Nat.reduceBEq, Nat.reduceEqDiff, Nat.reduceAdd, Nat.reduceLeDiff, Nat.reduceLT, Nat.reduceSub, Nat.reduceMul]
      generalize (s.take i).foldl (prevStep t) 0 = p at step ⊢
      rw [show prevStep t p x = if x.id.a = t.a ∧ x.id.q < t.q then x.id.q else p from rfl] at step
      split
      · rename_i h1
        split
        · rename_i h2
          refine next x.id.q _ _ (by rw [step, if_pos ⟨h1, h2⟩]) ?_ ?_ <;> simp only [Stamp.cs, ↓WA, WB, ↓reduceIte, opU, foot, PK, LK, footsApart, footP, footL, List.flatMap_cons, List.flatMap_nil, List.filter_nil, key, Nat.mul_zero, Nat.mul_one, opS, sem, mkT, binI, binS, eqLs, eqL, B, I, one, pures, PV.ok, PV.cells, fillL, fillE, List.replicate, cellV, cellO, cellR, newsOf, callArgs, splice, L.pure, not_false_eq_true, decide_true, Int.natCast_nonneg, Int.cast_ofNat_Int, implies_true, reduceCtorEq, Nat.reduceBEq, Nat.reduceEqDiff, Nat.reduceAdd, Nat.reduceLeDiff, Nat.reduceLT, Nat.reduceSub, Nat.reduceMul]
        · rename_i h2
          refine next p _ _ (by rw [step, if_neg (fun h => h2 h.2)]) ?_ ?_ <;> simp only [Stamp.cs, ↓WA, WB, ↓reduceIte, opU, foot, PK, LK, footsApart, footP, footL, List.flatMap_cons, List.flatMap_nil, List.filter_nil, key, Nat.mul_zero, Nat.mul_one, opS, sem, mkT, binI, binS, eqLs, eqL, B, I, one, pures, PV.ok, PV.cells, fillL, fillE, List.replicate, cellV, cellO, cellR, newsOf, callArgs, splice, L.pure, not_false_eq_true, decide_true, Int.natCast_nonneg, Int.cast_ofNat_Int, implies_true, reduceCtorEq, Nat.reduceBEq, Nat.reduceEqDiff, Nat.reduceAdd, Nat.reduceLeDiff, Nat.reduceLT, Nat.reduceSub, Nat.reduceMul]
      · rename_i h1
        refine next p _ _ (by rw [step, if_neg (fun h => h1 h.1)]) ?_ ?_ <;> simp only [Stamp.cs, ↓WA, WB, ↓reduceIte, opU, foot, PK, LK, footsApart, footP, footL, List.flatMap_cons, List.flatMap_nil, List.filter_nil, key, Nat.mul_zero, Nat.mul_one, opS, sem, mkT, binI, binS, eqLs, eqL, B, I, one, pures, PV.ok, PV.cells, fillL, fillE, List.replicate, cellV, cellO, cellR, newsOf, callArgs, splice, L.pure, not_false_eq_true, decide_true, Int.natCast_nonneg, Int.cast_ofNat_Int, implies_true, reduceCtorEq, Nat.reduceBEq, Nat.reduceEqDiff, Nat.reduceAdd, Nat.reduceLeDiff, Nat.reduceLT, Nat.reduceSub, Nat.reduceMul]
    · have : i = s.length := by omega
      subst this
      simp [prevOf]
end Go.Proofs
