import Derived.Test.YtfioppfnjkfibaaAbTest2
set_option linter.unusedSimpArgs false
set_option linter.unusedVariables false
namespace Go.Proofs
open Go Go.Ab

def lower (b : UInt8) : Bool := decide (97 ≤ (b.toNat : Int)) && decide ((b.toNat : Int) ≤ 122)
def validWord (s : ByteArray) : Bool := s.data.toList.all lower && inRange s.size 1 8

theorem all_false {α : Type} {l : List α} {p : α → Bool} {i : Nat} {x : α} (h : l[i]? = some x) (hp : p x = false) : l.all p = false := by
  rw [Bool.eq_false_iff]
  intro h2
  have := List.all_eq_true.mp h2 x (List.mem_of_getElem? h)
  rw [hp] at this; cases this

theorem all_take {α : Type} {l : List α} {p : α → Bool} {i : Nat} {x : α} (h : l[i]? = some x) (hl : (l.take i).all p = true) (hp : p x = true) : (l.take (i + 1)).all p = true := by
  rw [List.take_add_one, h]
  simp only [List.all_append, hl, Option.toList_some, List.all_cons, hp, List.all_nil, Bool.and_self]

theorem validWord_ok (s : ByteArray) (hs : s.size < 2 ^ 63) : CallOk Try.prog 64 [.l (.v (.string s))] [] (.l (.v (.bool (validWord s)))) [] [] := by
  refine callOk_pure1 (fn := Try.f64) (r := .t 2) follows rfl rfl c64_eq (Nat.le_of_ble_eq_true rfl) rfl rfl (.v _) ?_
  simp only [c64, ↓wps_seq, ↓wps_reg, ↓wps_ret, ↓wps_cond, ↓wps_block, ↓wps_exit, ↓wps_skip, ↓thenX_n, ↓thenX_r, ↓thenX_x, ↓inX_n, ↓inX_r, ↓inX_x, ↓RS_nil, ↓RS_go, ↓RS_gd, ↓reduceIte, opS, sem, fin_some, put_some, put_none, updL_nil, updL_cons, ev_t, ev_c, upd_same, upd_ne, vis_same, vis_ne, vis_none, fre_ne, fre_none, mkT, binI, binS, eqLs, eqL, B, I, one, pures, PV.ok, PV.cells, fillL, ne_eq, Nat.reduceEqDiff, Nat.reduceAdd, Nat.reduceLeDiff, not_false_eq_true, decide_true, isB_b, isB_u, bo_b, true_and, and_true, and_self, retQ_r, retQ_n, rets_nil, rets_t, rets_c, cellV, cellO, cellR, retS_r, retS_n, Option.map_some, Option.getD_some, decide_eq_true_eq, Bool.not_true, Bool.not_false, Bool.false_eq_true, Bool.true_eq_false, Bool.and_true, List.map_nil, List.map_cons, List.drop_zero, List.drop_succ_cons, List.take_zero, List.take_succ_cons, List.length_cons, List.length_nil, List.getElem?_cons_zero, List.getElem?_cons_succ, Nat.zero_add, Nat.reduceLT, Nat.reduceSub, callArgs, List.append_nil, Int.toNat_natCast, Int.natCast_nonneg, Int.natCast_zero, Int.cast_ofNat_Int, decide_eq_false_iff_not, List.forall_mem_cons, List.not_mem_nil, false_implies, implies_true, Nat.add_zero, Nat.reduceMul]
  show AW _ _ (.loop _) _ _
  refine AW.loop (fun n st => ∃ i : Nat, n = s.size - i ∧ i ≤ s.size ∧ (s.data.toList.take i).all lower = true ∧ st = ⟨mkL [(0, .l (.v (.string s))), (3, .l (.v (.int .i64 (i : Int))))], fun _ => none⟩) ?_ ?_ (n := s.size)
  · refine Lo.plain [(0, .l (.v (.string s))), (3, .l (.v (.int .i64 ((0 : Nat) : Int))))] ?_ rfl ⟨0, rfl, Nat.zero_le _, by simp, rfl⟩
    simp only [↓wps_seq, ↓wps_reg, ↓wps_ret, ↓wps_cond, ↓wps_block, ↓wps_exit, ↓wps_skip, ↓thenX_n, ↓thenX_r, ↓thenX_x, ↓inX_n, ↓inX_r, ↓inX_x, ↓RS_nil, ↓RS_go, ↓RS_gd, ↓reduceIte, opS, sem, fin_some, put_some, put_none, updL_nil, updL_cons, ev_t, ev_c, upd_same, upd_ne, vis_same, vis_ne, vis_none, fre_ne, fre_none, mkT, binI, binS, eqLs, eqL, B, I, one, pures, PV.ok, PV.cells, fillL, ne_eq, Nat.reduceEqDiff, Nat.reduceAdd, Nat.reduceLeDiff, not_false_eq_true, decide_true, isB_b, isB_u, bo_b, true_and, and_true, and_self, retQ_r, retQ_n, rets_nil, rets_t, rets_c, cellV, cellO, cellR, retS_r, retS_n, Option.map_some, Option.getD_some, decide_eq_true_eq, Bool.not_true, Bool.not_false, Bool.false_eq_true, Bool.true_eq_false, Bool.and_true, List.map_nil, List.map_cons, List.drop_zero, List.drop_succ_cons, List.take_zero, List.take_succ_cons, List.length_cons, List.length_nil, List.getElem?_cons_zero, List.getElem?_cons_succ, Nat.zero_add, Nat.reduceLT, Nat.reduceSub, callArgs, List.append_nil, Int.toNat_natCast, Int.natCast_nonneg, Int.natCast_zero, Int.cast_ofNat_Int, decide_eq_false_iff_not, List.forall_mem_cons, List.not_mem_nil, false_implies, implies_true, Nat.add_zero, Nat.reduceMul]
  · rintro n st ⟨i, rfl, hi, hall, rfl⟩
    simp only [mkL]
    refine AW_of_wps _ _ _ ?_
    simp only [↓wps_seq, ↓wps_reg, ↓wps_ret, ↓wps_cond, ↓wps_block, ↓wps_exit, ↓wps_skip, ↓thenX_n, ↓thenX_r, ↓thenX_x, ↓inX_n, ↓inX_r, ↓inX_x, ↓RS_nil, ↓RS_go, ↓RS_gd, ↓reduceIte, opS, sem, fin_some, put_some, put_none, updL_nil, updL_cons, ev_t, ev_c, upd_same, upd_ne, vis_same, vis_ne, vis_none, fre_ne, fre_none, mkT, binI, binS, eqLs, eqL, B, I, one, pures, PV.ok, PV.cells, fillL, ne_eq, Nat.reduceEqDiff, Nat.reduceAdd, Nat.reduceLeDiff, not_false_eq_true, decide_true, isB_b, isB_u, bo_b, true_and, and_true, and_self, retQ_r, retQ_n, rets_nil, rets_t, rets_c, cellV, cellO, cellR, retS_r, retS_n, Option.map_some, Option.getD_some, decide_eq_true_eq, Bool.not_true, Bool.not_false, Bool.false_eq_true, Bool.true_eq_false, Bool.and_true, List.map_nil, List.map_cons, List.drop_zero, List.drop_succ_cons, List.take_zero, List.take_succ_cons, List.length_cons, List.length_nil, List.getElem?_cons_zero, List.getElem?_cons_succ, Nat.zero_add, Nat.reduceLT, Nat.reduceSub, callArgs, List.append_nil, Int.toNat_natCast, Int.natCast_nonneg, Int.natCast_zero, Int.cast_ofNat_Int, decide_eq_false_iff_not, List.forall_mem_cons, List.not_mem_nil, false_implies, implies_true, Nat.add_zero, Nat.reduceMul]
    split
    · rename_i hlt
      have hget : s.data[i]? = some (s.data[i]'(by have : s.data.size = s.size := rfl; omega)) := Array.getElem?_eq_getElem _
      generalize s.data[i]'_ = x at hget
      have hget' : s.data.toList[i]? = some x := by simpa using hget
      simp only [hget, ↓wps_seq, ↓wps_reg, ↓wps_ret, ↓wps_cond, ↓wps_block, ↓wps_exit, ↓wps_skip, ↓thenX_n, ↓thenX_r, ↓thenX_x, ↓inX_n, ↓inX_r, ↓inX_x, ↓RS_nil, ↓RS_go, ↓RS_gd, ↓reduceIte, opS, sem, fin_some, put_some, put_none, updL_nil, updL_cons, ev_t, ev_c, upd_same, upd_ne, vis_same, vis_ne, vis_none, fre_ne, fre_none, mkT, binI, binS, eqLs, eqL, B, I, one, pures, PV.ok, PV.cells, fillL, ne_eq, Nat.reduceEqDiff, Nat.reduceAdd, Nat.reduceLeDiff, not_false_eq_true, decide_true, isB_b, isB_u, bo_b, true_and, and_true, and_self, retQ_r, retQ_n, rets_nil, rets_t, rets_c, cellV, cellO, cellR, retS_r, retS_n, Option.map_some, Option.getD_some, decide_eq_true_eq, Bool.not_true, Bool.not_false, Bool.false_eq_true, Bool.true_eq_false, Bool.and_true, List.map_nil, List.map_cons, List.drop_zero, List.drop_succ_cons, List.take_zero, List.take_succ_cons, List.length_cons, List.length_nil, List.getElem?_cons_zero, List.getElem?_cons_succ, Nat.zero_add, Nat.reduceLT, Nat.reduceSub, callArgs, List.append_nil, Int.toNat_natCast, Int.natCast_nonneg, Int.natCast_zero, Int.cast_ofNat_Int, decide_eq_false_iff_not, List.forall_mem_cons, List.not_mem_nil, false_implies, implies_true, Nat.add_zero, Nat.reduceMul]
      have hw : lower x = false → validWord s = false := fun h => by simp [validWord, all_false hget' h]
      split
      · split
        · rw [hw (by simp [lower]; omega)]
        · refine ⟨by rw [inK64]; omega, s.size - (i + 1), by omega, ?_⟩
          refine Lo.plain [(0, .l (.v (.string s))), (3, .l (.v (.int .i64 (i + 1 : Nat))))] ?_ rfl ⟨i + 1, rfl, by omega, all_take hget' hall (by simp [lower]; omega), rfl⟩
          simp only [↓wps_seq, ↓wps_reg, ↓wps_ret, ↓wps_cond, ↓wps_block, ↓wps_exit, ↓wps_skip, ↓thenX_n, ↓thenX_r, ↓thenX_x, ↓inX_n, ↓inX_r, ↓inX_x, ↓RS_nil, ↓RS_go, ↓RS_gd, ↓reduceIte, opS, sem, fin_some, put_some, put_none, updL_nil, updL_cons, ev_t, ev_c, upd_same, upd_ne, vis_same, vis_ne, vis_none, fre_ne, fre_none, mkT, binI, binS, eqLs, eqL, B, I, one, pures, PV.ok, PV.cells, fillL, ne_eq, Nat.reduceEqDiff, Nat.reduceAdd, Nat.reduceLeDiff, not_false_eq_true, decide_true, isB_b, isB_u, bo_b, true_and, and_true, and_self, retQ_r, retQ_n, rets_nil, rets_t, rets_c, cellV, cellO, cellR, retS_r, retS_n, Option.map_some, Option.getD_some, decide_eq_true_eq, Bool.not_true, Bool.not_false, Bool.false_eq_true, Bool.true_eq_false, Bool.and_true, List.map_nil, List.map_cons, List.drop_zero, List.drop_succ_cons, List.take_zero, List.take_succ_cons, List.length_cons, List.length_nil, List.getElem?_cons_zero, List.getElem?_cons_succ, Nat.zero_add, Nat.reduceLT, Nat.reduceSub, callArgs, List.append_nil, Int.toNat_natCast, Int.natCast_nonneg, Int.natCast_zero, Int.cast_ofNat_Int, decide_eq_false_iff_not, List.forall_mem_cons, List.not_mem_nil, false_implies, implies_true, Nat.add_zero, Nat.reduceMul]
          simp
      · rw [hw (by simp [lower]; omega)]
    · refine CS.plain (inRange_ok _ _ _) rfl rfl ?_
      simp only [↓wps_seq, ↓wps_reg, ↓wps_ret, ↓wps_cond, ↓wps_block, ↓wps_exit, ↓wps_skip, ↓thenX_n, ↓thenX_r, ↓thenX_x, ↓inX_n, ↓inX_r, ↓inX_x, ↓RS_nil, ↓RS_go, ↓RS_gd, ↓reduceIte, opS, sem, fin_some, put_some, put_none, updL_nil, updL_cons, ev_t, ev_c, upd_same, upd_ne, vis_same, vis_ne, vis_none, fre_ne, fre_none, mkT, binI, binS, eqLs, eqL, B, I, one, pures, PV.ok, PV.cells, fillL, ne_eq, Nat.reduceEqDiff, Nat.reduceAdd, Nat.reduceLeDiff, not_false_eq_true, decide_true, isB_b, isB_u, bo_b, true_and, and_true, and_self, retQ_r, retQ_n, rets_nil, rets_t, rets_c, cellV, cellO, cellR, retS_r, retS_n, Option.map_some, Option.getD_some, decide_eq_true_eq, Bool.not_true, Bool.not_false, Bool.false_eq_true, Bool.true_eq_false, Bool.and_true, List.map_nil, List.map_cons, List.drop_zero, List.drop_succ_cons, List.take_zero, List.take_succ_cons, List.length_cons, List.length_nil, List.getElem?_cons_zero, List.getElem?_cons_succ, Nat.zero_add, Nat.reduceLT, Nat.reduceSub, callArgs, List.append_nil, Int.toNat_natCast, Int.natCast_nonneg, Int.natCast_zero, Int.cast_ofNat_Int, decide_eq_false_iff_not, List.forall_mem_cons, List.not_mem_nil, false_implies, implies_true, Nat.add_zero, Nat.reduceMul]
      rename_i hge
      have : i = s.size := by omega
      subst this
      rw [List.take_of_length_le (by simp)] at hall
      simp [validWord, hall]
end Go.Proofs
