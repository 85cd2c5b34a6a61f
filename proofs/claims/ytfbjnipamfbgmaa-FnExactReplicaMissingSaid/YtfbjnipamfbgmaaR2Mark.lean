import Derived.Test.YtfbjnipamfbgmaaR2Undo
set_option linter.unusedSimpArgs false
set_option linter.unusedVariables false
namespace Go.Proofs
open Go Go.Ab

theorem size_append (a b : ByteArray) : (a ++ b).size = a.size + b.size := ByteArray.size_append

theorem markText_ok (k : Int) (hk : k ≤ 4611686018427387904) : CallOk Try.prog 75 [.l (.v (.int .i64 k))] [] (.l (.v (.string (markText k)))) [] [] := by
  refine callOk_pureA (fn := Try.f75) (r := .t 2) follows Try.func75 rfl c75_eq (Nat.le_of_ble_eq_true rfl) (by kernel_rfl) rfl (.v _) ?_
  refine AW.walk ?_
  simp only [↓WA, WB, ↓reduceIte, opU, foot, PK, LK, footsApart, footP, footL, List.flatMap_cons, List.flatMap_nil, List.filter_nil, key, Nat.mul_zero, Nat.mul_one, opS, sem, mkT, binI, binS, eqLs, eqL, B, I, one, pures, PV.ok, PV.cells, fillL, fillE, List.replicate, cellV, cellO, cellR, newsOf, callArgs, splice, L.pure, not_false_eq_true, decide_true, Int.natCast_nonneg, Int.cast_ofNat_Int, implies_true, reduceCtorEq, Nat.reduceBEq, Nat.reduceEqDiff, Nat.reduceAdd, Nat.reduceLeDiff, Nat.reduceLT, Nat.reduceSub, Nat.reduceMul]
  refine AW.walk ?_
  simp only [↓WA, WB, ↓reduceIte, opU, foot, PK, LK, footsApart, footP, footL, List.flatMap_cons, List.flatMap_nil, List.filter_nil, key, Nat.mul_zero, Nat.mul_one, opS, sem, mkT, binI, binS, eqLs, eqL, B, I, one, pures, PV.ok, PV.cells, fillL, fillE, List.replicate, cellV, cellO, cellR, newsOf, callArgs, splice, L.pure, not_false_eq_true, decide_true, Int.natCast_nonneg, Int.cast_ofNat_Int, implies_true, reduceCtorEq, Nat.reduceBEq, Nat.reduceEqDiff, Nat.reduceAdd, Nat.reduceLeDiff, Nat.reduceLT, Nat.reduceSub, Nat.reduceMul]
  split
  · rename_i h
    simp [markText, h]
  rename_i h
  refine AW.walk ?_
  simp only [↓WA, WB, ↓reduceIte, opU, foot, PK, LK, footsApart, footP, footL, List.flatMap_cons, List.flatMap_nil, List.filter_nil, key, Nat.mul_zero, Nat.mul_one, opS, sem, mkT, binI, binS, eqLs, eqL, B, I, one, pures, PV.ok, PV.cells, fillL, fillE, List.replicate, cellV, cellO, cellR, newsOf, callArgs, splice, L.pure, not_false_eq_true, decide_true, Int.natCast_nonneg, Int.cast_ofNat_Int, implies_true, reduceCtorEq, Nat.reduceBEq, Nat.reduceEqDiff, Nat.reduceAdd, Nat.reduceLeDiff, Nat.reduceLT, Nat.reduceSub, Nat.reduceMul]
  refine AW.cut (fun st => ∃ out : ByteArray, out = markDigs k ⟨#[]⟩ ∧ out.size ≤ 64 ∧ st = ⟨mkL [(3, .l (.v (.string out)))], fun _ => none⟩) ?_ ?_
  · simp only [↓WA, WB, ↓reduceIte, opU, foot, PK, LK, footsApart, footP, footL, List.flatMap_cons, List.flatMap_nil, List.filter_nil, key, Nat.mul_zero, Nat.mul_one, opS, sem, mkT, binI, binS, eqLs, eqL, B, I, one, pures, PV.ok, PV.cells, fillL, fillE, List.replicate, cellV, cellO, cellR, newsOf, callArgs, splice, L.pure, not_false_eq_true, decide_true, Int.natCast_nonneg, Int.cast_ofNat_Int, implies_true, reduceCtorEq, Nat.reduceBEq, Nat.reduceEqDiff, Nat.reduceAdd, Nat.reduceLeDiff, Nat.reduceLT, Nat.reduceSub, Nat.reduceMul]
    show AW _ _ (.loop _) _ _
    refine AW.loop (fun n st => ∃ (j : Int) (out : ByteArray), n = j.toNat ∧ 0 ≤ j ∧ j ≤ 4611686018427387904 ∧ j * 10 ^ out.size ≤ 4611686018427387904 ∧ out.size ≤ 64 ∧ markDigs j out = markDigs k ⟨#[]⟩ ∧ st = ⟨mkL [(0, .l (.v (.int .i64 j))), (3, .l (.v (.string out)))], fun _ => none⟩) ?_ ?_ (n := k.toNat)
    · refine Lo.plain [(0, .l (.v (.int .i64 k))), (3, .l (.v (.string ⟨#[]⟩)))] ?_ rfl ⟨k, ⟨#[]⟩, rfl, by omega, hk, ?_, by show (0 : Nat) ≤ 64; omega, rfl, rfl⟩
      · simp only [↓WA, WB, ↓reduceIte, opU, foot, PK, LK, footsApart, footP, footL, List.flatMap_cons, List.flatMap_nil, List.filter_nil, key, Nat.mul_zero, Nat.mul_one, opS, sem, mkT, binI, binS, eqLs, eqL, B, I, one, pures, PV.ok, PV.cells, fillL, fillE, List.replicate, cellV, cellO, cellR, newsOf, callArgs, splice, L.pure, not_false_eq_true, decide_true, Int.natCast_nonneg, Int.cast_ofNat_Int, implies_true, reduceCtorEq, Nat.reduceBEq, Nat.reduceEqDiff, Nat.reduceAdd, Nat.reduceLeDiff, Nat.reduceLT, Nat.reduceSub, Nat.reduceMul]
      · have : (⟨#[]⟩ : ByteArray).size = 0 := rfl
        rw [this]
        omega
    · rintro n st ⟨j, out, rfl, hj0, hj1, hj2, hsz, hd, rfl⟩
      simp only [mkL]
      refine AW_of_wps _ _ _ ?_
      simp only [↓WA, WB, ↓reduceIte, opU, foot, PK, LK, footsApart, footP, footL, List.flatMap_cons, List.flatMap_nil, List.filter_nil, key, Nat.mul_zero, Nat.mul_one, opS, sem, mkT, binI, binS, eqLs, eqL, B, I, one, pures, PV.ok, PV.cells, fillL, fillE, List.replicate, cellV, cellO, cellR, newsOf, callArgs, splice, L.pure, not_false_eq_true, decide_true, Int.natCast_nonneg, Int.cast_ofNat_Int, implies_true, reduceCtorEq, Nat.reduceBEq, Nat.reduceEqDiff, Nat.reduceAdd, Nat.reduceLeDiff, Nat.reduceLT, Nat.reduceSub, Nat.reduceMul]
      split
      · rename_i hpos
        have ht : j.tdiv 10 = j / 10 := Int.tdiv_eq_ediv_of_nonneg (by omega)
        have hm : j.tmod 10 = j % 10 := Int.tmod_eq_emod_of_nonneg (by omega)
        have hlt : out.size ≤ 20 := by
          rcases Nat.lt_or_ge 20 out.size with h20 | h20
          · exfalso
            have h1 : (10 : Int) ^ 20 ≤ 10 ^ out.size := by
              have := Nat.pow_le_pow_right (n := 10) (by omega) (Nat.le_of_lt h20)
              exact_mod_cast this
            have h2 : (10 : Int) ^ out.size ≤ j * 10 ^ out.size := by
              have h3 : (0 : Int) ≤ 10 ^ out.size := Int.pow_nonneg (by omega)
              calc (10 : Int) ^ out.size = 1 * 10 ^ out.size := by omega
                _ ≤ j * 10 ^ out.size := Int.mul_le_mul_of_nonneg_right (by omega) h3
            have h4 : (10 : Int) ^ 20 = 100000000000000000000 := by decide
            omega
          · exact h20
        rw [markDigs, dif_pos (by omega)] at hd
        have hsb : (⟨#[digB j]⟩ ++ out : ByteArray).size = out.size + 1 := by
          rw [size_append]
          show 1 + out.size = out.size + 1
          omega
        simp only [Go.Ab.byteOf, Go.Ab.bytesOf, List.size_toArray, ↓WA, WB, ↓reduceIte, opU, foot, PK, LK, footsApart, footP, footL, List.flatMap_cons, List.flatMap_nil, List.filter_nil, key, Nat.mul_zero, Nat.mul_one, opS, sem, mkT, binI, binS, eqLs, eqL, B, I, one, pures, PV.ok, PV.cells, fillL, fillE, List.replicate, cellV, cellO, cellR, newsOf, callArgs, splice, L.pure, not_false_eq_true, decide_true, Int.natCast_nonneg, Int.cast_ofNat_Int, implies_true, reduceCtorEq, Nat.reduceBEq, Nat.reduceEqDiff, Nat.reduceAdd, Nat.reduceLeDiff, Nat.reduceLT, Nat.reduceSub, Nat.reduceMul]
        refine ⟨by omega, by rw [inK64]; omega, ?_⟩
        refine ⟨.inl trivial, ?_, ⟨by omega, by rw [inK64]; omega⟩, (j.tdiv 10).toNat, tdiv_less hpos, ?_⟩
        · have : ((1 + out.size : Nat) : Int) ≤ 9223372036854775807 := by omega
          exact this
        · refine Lo.plain [(0, .l (.v (.int .i64 (j.tdiv 10)))), (3, .l (.v (.string (⟨#[digB j]⟩ ++ out))))] ?_ rfl ⟨j.tdiv 10, _, rfl, by omega, by omega, ?_, by omega, hd, rfl⟩
          · simp only [↓WA, WB, ↓reduceIte, opU, foot, PK, LK, footsApart, footP, footL, List.flatMap_cons, List.flatMap_nil, List.filter_nil, key, Nat.mul_zero, Nat.mul_one, opS, sem, mkT, binI, binS, eqLs, eqL, B, I, one, pures, PV.ok, PV.cells, fillL, fillE, List.replicate, cellV, cellO, cellR, newsOf, callArgs, splice, L.pure, not_false_eq_true, decide_true, Int.natCast_nonneg, Int.cast_ofNat_Int, implies_true, reduceCtorEq, Nat.reduceBEq, Nat.reduceEqDiff, Nat.reduceAdd, Nat.reduceLeDiff, Nat.reduceLT, Nat.reduceSub, Nat.reduceMul]
            rfl
          · rw [hsb, Int.pow_succ, ht]
            have h3 : (0 : Int) ≤ 10 ^ out.size := Int.pow_nonneg (by omega)
            have h4 : j / 10 * 10 ≤ j := by omega
            calc j / 10 * (10 ^ out.size * 10) = (j / 10 * 10) * 10 ^ out.size := by rw [Int.mul_comm (10 ^ out.size) 10, Int.mul_assoc]
              _ ≤ j * 10 ^ out.size := Int.mul_le_mul_of_nonneg_right h4 h3
              _ ≤ 4611686018427387904 := hj2
      · rename_i hneg
        rw [markDigs, dif_neg (by omega)] at hd
        refine Lo.plain [(3, .l (.v (.string out)))] ?_ rfl ⟨out, hd, hsz, rfl⟩
        simp only [↓WA, WB, ↓reduceIte, opU, foot, PK, LK, footsApart, footP, footL, List.flatMap_cons, List.flatMap_nil, List.filter_nil, key, Nat.mul_zero, Nat.mul_one, opS, sem, mkT, binI, binS, eqLs, eqL, B, I, one, pures, PV.ok, PV.cells, fillL, fillE, List.replicate, cellV, cellO, cellR, newsOf, callArgs, splice, L.pure, not_false_eq_true, decide_true, Int.natCast_nonneg, Int.cast_ofNat_Int, implies_true, reduceCtorEq, Nat.reduceBEq, Nat.reduceEqDiff, Nat.reduceAdd, Nat.reduceLeDiff, Nat.reduceLT, Nat.reduceSub, Nat.reduceMul]
  · rintro st ⟨out, ho, hsz, rfl⟩
    simp only [mkL]
    refine AW_of_wps _ _ _ ?_
    simp only [↓WA, WB, ↓reduceIte, opU, foot, PK, LK, footsApart, footP, footL, List.flatMap_cons, List.flatMap_nil, List.filter_nil, key, Nat.mul_zero, Nat.mul_one, opS, sem, mkT, binI, binS, eqLs, eqL, B, I, one, pures, PV.ok, PV.cells, fillL, fillE, List.replicate, cellV, cellO, cellR, newsOf, callArgs, splice, L.pure, not_false_eq_true, decide_true, Int.natCast_nonneg, Int.cast_ofNat_Int, implies_true, reduceCtorEq, Nat.reduceBEq, Nat.reduceEqDiff, Nat.reduceAdd, Nat.reduceLeDiff, Nat.reduceLT, Nat.reduceSub, Nat.reduceMul]
    refine ⟨?_, by rw [markText, if_neg h, ho]⟩
    have : ((1 + out.size : Nat) : Int) ≤ 9223372036854775807 := by omega
    exact this

theorem markOp_cs (K : Int) : (markOp K).cs = [.v (.int .i64 K), .v (.int .i64 (K + 1)), .v (.int .i64 (K + 2)), .v (.int .i64 (K + 3)), .v (.int .i64 (K + 4)), .v (.int .i64 (K + 5)), .v (.int .i64 (K + 6)), .v (.int .i64 (K + 7)), .v (.int .i64 (K + 8)), .v (.int .i64 (K + 9)), .v (.bool (decide ((K + 10).tmod 3 = 0))), .v (.string (markText (K + 11)))] := rfl

set_option maxRecDepth 20000 in
theorem markOpS_ok (s : List DOp) (k : Int) (h0 : 0 ≤ k) (h1 : k ≤ 1000) (hl : s.length ≤ 1125899906842624) : CallOk Try.prog 30 [.l (.sl 0 0 s.length), .l (.v (.int .i64 k))] [DOp.obj (s.map DOp.cs)] (.l (.v (.int .i64 (k + 12 * (s.length : Int))))) [some (DOp.obj ((markOps s.length k).map DOp.cs))] [] := by
  refine callOk_all (fn := Try.f30) (rs := [.t 4]) (ps := [.l (.v (.int .i64 (k + 12 * (s.length : Int))))]) follows Try.func30 rfl c30_eq (Nat.le_of_ble_eq_true rfl) (by simp) (by kernel_rfl) rfl ?_ (.v _) ?_ ?_
  · intro j o' hk
    match j with
    | 0 => cases hk; rfl
    | j + 1 => simp [outH] at hk
  · intro j o' hk
    match j with
    | 0 => cases hk; exact rows_hb DOp.hb _
    | j + 1 => simp [outH] at hk
  · refine AW_of_wps _ _ _ ?_
    simp only [List.zipIdx_cons, List.zipIdx_nil, List.map_cons, List.map_nil, mkH]
    simp only [c30, ↓WA, WB, ↓reduceIte, opU, foot, PK, LK, footsApart, footP, footL, List.flatMap_cons, List.flatMap_nil, List.filter_nil, key, Nat.mul_zero, Nat.mul_one, opS, sem, mkT, binI, binS, eqLs, eqL, B, I, one, pures, PV.ok, PV.cells, fillL, fillE, List.replicate, cellV, cellO, cellR, newsOf, callArgs, splice, L.pure, not_false_eq_true, decide_true, Int.natCast_nonneg, Int.cast_ofNat_Int, implies_true, reduceCtorEq, Nat.reduceBEq, Nat.reduceEqDiff, Nat.reduceAdd, Nat.reduceLeDiff, Nat.reduceLT, Nat.reduceSub, Nat.reduceMul]
    show AW _ _ (.loop _) _ _
    refine AW.count s.length (fun i st => st = ⟨mkL [(0, .l (.sl 0 0 s.length)), (1, .l (.v (.int .i64 (k + 12 * (i : Int))))), (5, .l (.v (.int .i64 (i : Int))))], mkH [(0, DOp.obj ((marked s k i).map DOp.cs))]⟩) ?_ ?_
    · refine Lo.own [(0, .l (.sl 0 0 s.length)), (1, .l (.v (.int .i64 (k + 12 * ((0 : Nat) : Int))))), (5, .l (.v (.int .i64 ((0 : Nat) : Int))))] [(0, 0, DOp.obj ((marked s k 0).map DOp.cs))] ?_ rfl ?_ rfl (by simp) (by simp) rfl
      · simp only [gOf, renP, renL, ↓WA, WB, ↓reduceIte, opU, foot, PK, LK, footsApart, footP, footL, List.flatMap_cons, List.flatMap_nil, List.filter_nil, key, Nat.mul_zero, Nat.mul_one, opS, sem, mkT, binI, binS, eqLs, eqL, B, I, one, pures, PV.ok, PV.cells, fillL, fillE, List.replicate, cellV, cellO, cellR, newsOf, callArgs, splice, L.pure, not_false_eq_true, decide_true, Int.natCast_nonneg, Int.cast_ofNat_Int, implies_true, reduceCtorEq, Nat.reduceBEq, Nat.reduceEqDiff, Nat.reduceAdd, Nat.reduceLeDiff, Nat.reduceLT, Nat.reduceSub, Nat.reduceMul]
        simp
      · simp only [DOp.obj, ↓WA, WB, ↓reduceIte, opU, foot, PK, LK, footsApart, footP, footL, List.flatMap_cons, List.flatMap_nil, List.filter_nil, key, Nat.mul_zero, Nat.mul_one, opS, sem, mkT, binI, binS, eqLs, eqL, B, I, one, pures, PV.ok, PV.cells, fillL, fillE, List.replicate, cellV, cellO, cellR, newsOf, callArgs, splice, L.pure, not_false_eq_true, decide_true, Int.natCast_nonneg, Int.cast_ofNat_Int, implies_true, reduceCtorEq, Nat.reduceBEq, Nat.reduceEqDiff, Nat.reduceAdd, Nat.reduceLeDiff, Nat.reduceLT, Nat.reduceSub, Nat.reduceMul]
        exact ⟨0, Nat.zero_le _, by rw [marked_zero]⟩
    · rintro i st hi rfl
      simp only [mkL, mkH]
      refine AW_of_wps _ _ _ ?_
      simp only [DOp.obj, ↓WA, WB, ↓reduceIte, opU, foot, PK, LK, footsApart, footP, footL, List.flatMap_cons, List.flatMap_nil, List.filter_nil, key, Nat.mul_zero, Nat.mul_one, opS, sem, mkT, binI, binS, eqLs, eqL, B, I, one, pures, PV.ok, PV.cells, fillL, fillE, List.replicate, cellV, cellO, cellR, newsOf, callArgs, splice, L.pure, not_false_eq_true, decide_true, Int.natCast_nonneg, Int.cast_ofNat_Int, implies_true, reduceCtorEq, Nat.reduceBEq, Nat.reduceEqDiff, Nat.reduceAdd, Nat.reduceLeDiff, Nat.reduceLT, Nat.reduceSub, Nat.reduceMul]
      split
      · rename_i hlt
        obtain ⟨x, hx⟩ := get_some (l := s) (i := i) (by omega)
        have hg : ((marked s k i).map DOp.cs)[i]? = some x.cs := get_map (f := DOp.cs) (marked_get hx)
        have hg2 := fun r => set_get hg r
        generalize hK : k + 12 * (i : Int) = K
        simp only [hg, hg2, DOp.cs, List.set_set, Int.add_assoc, Int.reduceAdd, ↓WA, WB, ↓reduceIte, opU, foot, PK, LK, footsApart, footP, footL, List.flatMap_cons, List.flatMap_nil, List.filter_nil, key, Nat.mul_zero, Nat.mul_one, opS, sem, mkT, binI, binS, eqLs, eqL, B, I, one, pures, PV.ok, PV.cells, fillL, fillE, List.replicate, cellV, cellO, cellR, newsOf, callArgs, splice, L.pure, not_false_eq_true, decide_true, Int.natCast_nonneg, Int.cast_ofNat_Int, implies_true, reduceCtorEq, Nat.reduceBEq, Nat.reduceEqDiff, Nat.reduceAdd, Nat.reduceLeDiff, Nat.reduceLT, Nat.reduceSub, Nat.reduceMul]
        refine ⟨by omega, by rw [inK64]; omega, by omega, by rw [inK64]; omega, by omega, by rw [inK64]; omega, by omega, by rw [inK64]; omega, by omega, by rw [inK64]; omega, by omega, by rw [inK64]; omega, by omega, by rw [inK64]; omega, by omega, by rw [inK64]; omega, by omega, by rw [inK64]; omega, by omega, by rw [inK64]; omega, by omega, by omega, by rw [inK64]; omega, ?_⟩
        refine CS.plain (markText_ok (K + 11) (by omega)) rfl rfl ?_
        simp only [hg2, List.set_set, Int.add_assoc, Int.reduceAdd, ↓WA, WB, ↓reduceIte, opU, foot, PK, LK, footsApart, footP, footL, List.flatMap_cons, List.flatMap_nil, List.filter_nil, key, Nat.mul_zero, Nat.mul_one, opS, sem, mkT, binI, binS, eqLs, eqL, B, I, one, pures, PV.ok, PV.cells, fillL, fillE, List.replicate, cellV, cellO, cellR, newsOf, callArgs, splice, L.pure, not_false_eq_true, decide_true, Int.natCast_nonneg, Int.cast_ofNat_Int, implies_true, reduceCtorEq, Nat.reduceBEq, Nat.reduceEqDiff, Nat.reduceAdd, Nat.reduceLeDiff, Nat.reduceLT, Nat.reduceSub, Nat.reduceMul]
        refine ⟨by omega, by rw [inK64]; omega, by rw [inK64]; omega, by omega, ?_⟩
        refine Lo.own [(0, .l (.sl 0 0 s.length)), (1, .l (.v (.int .i64 (k + 12 * ((i + 1 : Nat) : Int))))), (5, .l (.v (.int .i64 ((i + 1 : Nat) : Int))))] [(0, 0, DOp.obj ((marked s k (i + 1)).map DOp.cs))] ?_ rfl ?_ rfl (by simp) (by simp) rfl
        · simp only [gOf, renP, renL, ↓WA, WB, ↓reduceIte, opU, foot, PK, LK, footsApart, footP, footL, List.flatMap_cons, List.flatMap_nil, List.filter_nil, key, Nat.mul_zero, Nat.mul_one, opS, sem, mkT, binI, binS, eqLs, eqL, B, I, one, pures, PV.ok, PV.cells, fillL, fillE, List.replicate, cellV, cellO, cellR, newsOf, callArgs, splice, L.pure, not_false_eq_true, decide_true, Int.natCast_nonneg, Int.cast_ofNat_Int, implies_true, reduceCtorEq, Nat.reduceBEq, Nat.reduceEqDiff, Nat.reduceAdd, Nat.reduceLeDiff, Nat.reduceLT, Nat.reduceSub, Nat.reduceMul]
          refine ⟨?_, ?_⟩
          · rw [← hK]; congr 3; omega
          · rfl
        · simp only [DOp.obj, ↓WA, WB, ↓reduceIte, opU, foot, PK, LK, footsApart, footP, footL, List.flatMap_cons, List.flatMap_nil, List.filter_nil, key, Nat.mul_zero, Nat.mul_one, opS, sem, mkT, binI, binS, eqLs, eqL, B, I, one, pures, PV.ok, PV.cells, fillL, fillE, List.replicate, cellV, cellO, cellR, newsOf, callArgs, splice, L.pure, not_false_eq_true, decide_true, Int.natCast_nonneg, Int.cast_ofNat_Int, implies_true, reduceCtorEq, Nat.reduceBEq, Nat.reduceEqDiff, Nat.reduceAdd, Nat.reduceLeDiff, Nat.reduceLT, Nat.reduceSub, Nat.reduceMul]
          refine ⟨0, Nat.zero_le _, ?_⟩
          rw [← marked_set hx, hK, List.map_set, markOp_cs]
      · have : i = s.length := by omega
        subst this
        refine retX_r [] rfl (by simp) (by simp) ⟨by simp only [RV.val, renP, renL, ↓WA, WB, ↓reduceIte, opU, foot, PK, LK, footsApart, footP, footL, List.flatMap_cons, List.flatMap_nil, List.filter_nil, key, Nat.mul_zero, Nat.mul_one, opS, sem, mkT, binI, binS, eqLs, eqL, B, I, one, pures, PV.ok, PV.cells, fillL, fillE, List.replicate, cellV, cellO, cellR, newsOf, callArgs, splice, L.pure, not_false_eq_true, decide_true, Int.natCast_nonneg, Int.cast_ofNat_Int, implies_true, reduceCtorEq, Nat.reduceBEq, Nat.reduceEqDiff, Nat.reduceAdd, Nat.reduceLeDiff, Nat.reduceLT, Nat.reduceSub, Nat.reduceMul], trivial⟩ rfl ?_ (by simp)
        intro j o' hj
        match j with
        | 0 => cases hj; exact ⟨0, Nat.zero_le _, by simp only [renO, marked_all, ↓WA, WB, ↓reduceIte, opU, foot, PK, LK, footsApart, footP, footL, List.flatMap_cons, List.flatMap_nil, List.filter_nil, key, Nat.mul_zero, Nat.mul_one, opS, sem, mkT, binI, binS, eqLs, eqL, B, I, one, pures, PV.ok, PV.cells, fillL, fillE, List.replicate, cellV, cellO, cellR, newsOf, callArgs, splice, L.pure, not_false_eq_true, decide_true, Int.natCast_nonneg, Int.cast_ofNat_Int, implies_true, reduceCtorEq, Nat.reduceBEq, Nat.reduceEqDiff, Nat.reduceAdd, Nat.reduceLeDiff, Nat.reduceLT, Nat.reduceSub, Nat.reduceMul]⟩
        | j + 1 => simp at hj

end Go.Proofs
