/-
  Layer 5: the law of reading back.
-/
import Derived.Test.YtfnhgenilbgklaaDoorQ66
namespace Go.Proofs.YtfnhgenilbgklaaDoor
open Go.Abs Go.Lib
set_option linter.all false
set_option maxRecDepth 100000

theorem mod_neg {n m : Int} (hm : 1 ≤ m) (hn : n < 0) : n % m = if (-n) % m = 0 then 0 else m - (-n) % m := by
  have h1 := Int.emod_nonneg (-n) (show m ≠ 0 by omega)
  have h2 := Int.emod_lt_of_pos (-n) (show 0 < m by omega)
  have h3 := Int.emod_add_mul_ediv (-n) m
  have e : n % m = (m - (-n) % m) % m := by
    have : n = (m - (-n) % m) + m * (-((-n) / m + 1)) := by rw [Int.mul_neg, Int.mul_add]; omega
    rw [this, Int.add_mul_emod_self_left]
    have e2 : -(m - (-n) % m + m * -((-n) / m + 1)) = -n := by rw [← this]
    rw [e2]
  rw [e]
  split
  · rename_i h; rw [h]; simp
  · exact Int.emod_eq_of_lt (by omega) (by omega)
theorem tmod_neg {n m : Int} (hn : n < 0) : Int.tmod n m = -((-n) % m) := by
  have h : Int.tmod (-n) m = (-n) % m := Int.tmod_eq_emod_of_nonneg (by omega)
  rw [← h, Int.neg_tmod, Int.neg_neg]
theorem p45 (n m : Int) (hn : I64 n) (hm : 1 ≤ m ∧ m ≤ 1099511627776) : Pu Tryd.prog 45 [.int .i64 n, .int .i64 m] (.int .i64 (n % m)) := by
  have h0 : decide (m < 1) = false := decide_eq_false (by omega)
  refine Pu_intro c45 b45 (Nat.le_of_ble_eq_true rfl) fun σ => ?_
  simp only [c45, h0, ↓R1, R2, appV_tsl, keepF, initF, St.box_same, St.set_set, St.glob_set, Option.map_some, ps, pf, ev, slot, putF, guardC, CO.ods, optAll, evU, binV, binS, intV, intS, strV, strS, unV, unS, pickV, pickS, boolS, slv, intOfA, isIntA, isIntO, bnd, ldV, ldS, pcells, AV.fits, AV.one, AV.cells, putParts, partsS, fresh, nilOk, nilP, List.map_cons, List.map_nil, List.length_cons, List.length_nil, List.take_succ_cons, List.take_zero, List.drop_succ_cons, List.drop_zero, List.cons_append, List.nil_append, List.append_nil, List.getElem?_cons_zero, List.getElem?_cons_succ, Option.getD_some, Option.isSome_some, Option.isSome_none, Nat.reduceEqDiff, Nat.reduceAdd, Nat.reduceMul, Nat.reduceSub, Nat.reduceLeDiff, Nat.reduceLT, Nat.zero_add, Nat.add_zero, ite_true, ite_false, if_true, if_false, reduceIte, reduceCtorEq, true_and, and_true, implies_true, forall_const, cond_true, cond_false, beq_true, beq_false, Int.toNat_natCast, IntKind.max_i64, true_implies, false_implies, and_self, Bool.not_true, Bool.not_false, eq_self, Bool.cond_true_left, Bool.cond_false_left, Bool.cond_true_right, Bool.cond_false_right, imp_self, Bool.not_eq_true', pickE, isLd]
  refine ⟨by omega, ?_⟩
  by_cases hneg : n < 0
  · have h1 := Int.emod_nonneg (-n) (show m ≠ 0 by omega)
    have h2 := Int.emod_lt_of_pos (-n) (show 0 < m by omega)
    rw [mod_neg hm.1 hneg, tmod_neg hneg]
    by_cases hz : (-n) % m = 0
    · rw [hz, if_pos rfl]
      simp only [show decide ((-0 : Int) < 0) = false from rfl, ↓R1, R2, appV_tsl, keepF, initF, St.box_same, St.set_set, St.glob_set, Option.map_some, ps, pf, ev, slot, putF, guardC, CO.ods, optAll, evU, binV, binS, intV, intS, strV, strS, unV, unS, pickV, pickS, boolS, slv, intOfA, isIntA, isIntO, bnd, ldV, ldS, pcells, AV.fits, AV.one, AV.cells, putParts, partsS, fresh, nilOk, nilP, List.map_cons, List.map_nil, List.length_cons, List.length_nil, List.take_succ_cons, List.take_zero, List.drop_succ_cons, List.drop_zero, List.cons_append, List.nil_append, List.append_nil, List.getElem?_cons_zero, List.getElem?_cons_succ, Option.getD_some, Option.isSome_some, Option.isSome_none, Nat.reduceEqDiff, Nat.reduceAdd, Nat.reduceMul, Nat.reduceSub, Nat.reduceLeDiff, Nat.reduceLT, Nat.zero_add, Nat.add_zero, ite_true, ite_false, if_true, if_false, reduceIte, reduceCtorEq, true_and, and_true, implies_true, forall_const, cond_true, cond_false, beq_true, beq_false, Int.toNat_natCast, IntKind.max_i64, true_implies, false_implies, and_self, Bool.not_true, Bool.not_false, eq_self, Bool.cond_true_left, Bool.cond_false_left, Bool.cond_true_right, Bool.cond_false_right, imp_self, Bool.not_eq_true', pickE, isLd]
      (refine endP_pu (by simp) (by first | (simp [rvsS, rvS]; done) | (simp only [rvsS, rvS, ↓R1, R2, appV_tsl, keepF, initF, St.box_same, St.set_set, St.glob_set, Option.map_some, ps, pf, ev, slot, putF, guardC, CO.ods, optAll, evU, binV, binS, intV, intS, strV, strS, unV, unS, pickV, pickS, boolS, slv, intOfA, isIntA, isIntO, bnd, ldV, ldS, pcells, AV.fits, AV.one, AV.cells, putParts, partsS, fresh, nilOk, nilP, List.map_cons, List.map_nil, List.length_cons, List.length_nil, List.take_succ_cons, List.take_zero, List.drop_succ_cons, List.drop_zero, List.cons_append, List.nil_append, List.append_nil, List.getElem?_cons_zero, List.getElem?_cons_succ, Option.getD_some, Option.isSome_some, Option.isSome_none, Nat.reduceEqDiff, Nat.reduceAdd, Nat.reduceMul, Nat.reduceSub, Nat.reduceLeDiff, Nat.reduceLT, Nat.zero_add, Nat.add_zero, ite_true, ite_false, if_true, if_false, reduceIte, reduceCtorEq, true_and, and_true, implies_true, forall_const, cond_true, cond_false, beq_true, beq_false, Int.toNat_natCast, IntKind.max_i64, true_implies, false_implies, and_self, Bool.not_true, Bool.not_false, eq_self, Bool.cond_true_left, Bool.cond_false_left, Bool.cond_true_right, Bool.cond_false_right, imp_self, Bool.not_eq_true', pickE, isLd]; done) | (simp only [rvsS, rvS, ↓R1, R2, appV_tsl, keepF, initF, St.box_same, St.set_set, St.glob_set, Option.map_some, ps, pf, ev, slot, putF, guardC, CO.ods, optAll, evU, binV, binS, intV, intS, strV, strS, unV, unS, pickV, pickS, boolS, slv, intOfA, isIntA, isIntO, bnd, ldV, ldS, pcells, AV.fits, AV.one, AV.cells, putParts, partsS, fresh, nilOk, nilP, List.map_cons, List.map_nil, List.length_cons, List.length_nil, List.take_succ_cons, List.take_zero, List.drop_succ_cons, List.drop_zero, List.cons_append, List.nil_append, List.append_nil, List.getElem?_cons_zero, List.getElem?_cons_succ, Option.getD_some, Option.isSome_some, Option.isSome_none, Nat.reduceEqDiff, Nat.reduceAdd, Nat.reduceMul, Nat.reduceSub, Nat.reduceLeDiff, Nat.reduceLT, Nat.zero_add, Nat.add_zero, ite_true, ite_false, if_true, if_false, reduceIte, reduceCtorEq, true_and, and_true, implies_true, forall_const, cond_true, cond_false, beq_true, beq_false, Int.toNat_natCast, IntKind.max_i64, true_implies, false_implies, and_self, Bool.not_true, Bool.not_false, eq_self, Bool.cond_true_left, Bool.cond_false_left, Bool.cond_true_right, Bool.cond_false_right, imp_self, Bool.not_eq_true', pickE, isLd]; simp)) (wk_of_eq ?_) (by (repeat (first | exact St.le_refl _ | (refine St.le_new ?_ (by first | assumption | exact And.right (by assumption)))))))
      (simp only [resAV, rvV, List.map_cons, List.map_nil, ↓R1, R2, appV_tsl, keepF, initF, St.box_same, St.set_set, St.glob_set, Option.map_some, ps, pf, ev, slot, putF, guardC, CO.ods, optAll, evU, binV, binS, intV, intS, strV, strS, unV, unS, pickV, pickS, boolS, slv, intOfA, isIntA, isIntO, bnd, ldV, ldS, pcells, AV.fits, AV.one, AV.cells, putParts, partsS, fresh, nilOk, nilP, List.map_cons, List.map_nil, List.length_cons, List.length_nil, List.take_succ_cons, List.take_zero, List.drop_succ_cons, List.drop_zero, List.cons_append, List.nil_append, List.append_nil, List.getElem?_cons_zero, List.getElem?_cons_succ, Option.getD_some, Option.isSome_some, Option.isSome_none, Nat.reduceEqDiff, Nat.reduceAdd, Nat.reduceMul, Nat.reduceSub, Nat.reduceLeDiff, Nat.reduceLT, Nat.zero_add, Nat.add_zero, ite_true, ite_false, if_true, if_false, reduceIte, reduceCtorEq, true_and, and_true, implies_true, forall_const, cond_true, cond_false, beq_true, beq_false, Int.toNat_natCast, IntKind.max_i64, true_implies, false_implies, and_self, Bool.not_true, Bool.not_false, eq_self, Bool.cond_true_left, Bool.cond_false_left, Bool.cond_true_right, Bool.cond_false_right, imp_self, Bool.not_eq_true', pickE, isLd])
      rfl
    · rw [if_neg hz]
      have hd : decide (-((-n) % m) < 0) = true := decide_eq_true (by omega)
      simp only [hd, ↓R1, R2, appV_tsl, keepF, initF, St.box_same, St.set_set, St.glob_set, Option.map_some, ps, pf, ev, slot, putF, guardC, CO.ods, optAll, evU, binV, binS, intV, intS, strV, strS, unV, unS, pickV, pickS, boolS, slv, intOfA, isIntA, isIntO, bnd, ldV, ldS, pcells, AV.fits, AV.one, AV.cells, putParts, partsS, fresh, nilOk, nilP, List.map_cons, List.map_nil, List.length_cons, List.length_nil, List.take_succ_cons, List.take_zero, List.drop_succ_cons, List.drop_zero, List.cons_append, List.nil_append, List.append_nil, List.getElem?_cons_zero, List.getElem?_cons_succ, Option.getD_some, Option.isSome_some, Option.isSome_none, Nat.reduceEqDiff, Nat.reduceAdd, Nat.reduceMul, Nat.reduceSub, Nat.reduceLeDiff, Nat.reduceLT, Nat.zero_add, Nat.add_zero, ite_true, ite_false, if_true, if_false, reduceIte, reduceCtorEq, true_and, and_true, implies_true, forall_const, cond_true, cond_false, beq_true, beq_false, Int.toNat_natCast, IntKind.max_i64, true_implies, false_implies, and_self, Bool.not_true, Bool.not_false, eq_self, Bool.cond_true_left, Bool.cond_false_left, Bool.cond_true_right, Bool.cond_false_right, imp_self, Bool.not_eq_true', pickE, isLd]
      (refine endP_pu (by simp) (by first | (simp [rvsS, rvS]; done) | (simp only [rvsS, rvS, ↓R1, R2, appV_tsl, keepF, initF, St.box_same, St.set_set, St.glob_set, Option.map_some, ps, pf, ev, slot, putF, guardC, CO.ods, optAll, evU, binV, binS, intV, intS, strV, strS, unV, unS, pickV, pickS, boolS, slv, intOfA, isIntA, isIntO, bnd, ldV, ldS, pcells, AV.fits, AV.one, AV.cells, putParts, partsS, fresh, nilOk, nilP, List.map_cons, List.map_nil, List.length_cons, List.length_nil, List.take_succ_cons, List.take_zero, List.drop_succ_cons, List.drop_zero, List.cons_append, List.nil_append, List.append_nil, List.getElem?_cons_zero, List.getElem?_cons_succ, Option.getD_some, Option.isSome_some, Option.isSome_none, Nat.reduceEqDiff, Nat.reduceAdd, Nat.reduceMul, Nat.reduceSub, Nat.reduceLeDiff, Nat.reduceLT, Nat.zero_add, Nat.add_zero, ite_true, ite_false, if_true, if_false, reduceIte, reduceCtorEq, true_and, and_true, implies_true, forall_const, cond_true, cond_false, beq_true, beq_false, Int.toNat_natCast, IntKind.max_i64, true_implies, false_implies, and_self, Bool.not_true, Bool.not_false, eq_self, Bool.cond_true_left, Bool.cond_false_left, Bool.cond_true_right, Bool.cond_false_right, imp_self, Bool.not_eq_true', pickE, isLd]; done) | (simp only [rvsS, rvS, ↓R1, R2, appV_tsl, keepF, initF, St.box_same, St.set_set, St.glob_set, Option.map_some, ps, pf, ev, slot, putF, guardC, CO.ods, optAll, evU, binV, binS, intV, intS, strV, strS, unV, unS, pickV, pickS, boolS, slv, intOfA, isIntA, isIntO, bnd, ldV, ldS, pcells, AV.fits, AV.one, AV.cells, putParts, partsS, fresh, nilOk, nilP, List.map_cons, List.map_nil, List.length_cons, List.length_nil, List.take_succ_cons, List.take_zero, List.drop_succ_cons, List.drop_zero, List.cons_append, List.nil_append, List.append_nil, List.getElem?_cons_zero, List.getElem?_cons_succ, Option.getD_some, Option.isSome_some, Option.isSome_none, Nat.reduceEqDiff, Nat.reduceAdd, Nat.reduceMul, Nat.reduceSub, Nat.reduceLeDiff, Nat.reduceLT, Nat.zero_add, Nat.add_zero, ite_true, ite_false, if_true, if_false, reduceIte, reduceCtorEq, true_and, and_true, implies_true, forall_const, cond_true, cond_false, beq_true, beq_false, Int.toNat_natCast, IntKind.max_i64, true_implies, false_implies, and_self, Bool.not_true, Bool.not_false, eq_self, Bool.cond_true_left, Bool.cond_false_left, Bool.cond_true_right, Bool.cond_false_right, imp_self, Bool.not_eq_true', pickE, isLd]; simp)) (wk_of_eq ?_) (by (repeat (first | exact St.le_refl _ | (refine St.le_new ?_ (by first | assumption | exact And.right (by assumption)))))))
      (simp only [resAV, rvV, List.map_cons, List.map_nil, ↓R1, R2, appV_tsl, keepF, initF, St.box_same, St.set_set, St.glob_set, Option.map_some, ps, pf, ev, slot, putF, guardC, CO.ods, optAll, evU, binV, binS, intV, intS, strV, strS, unV, unS, pickV, pickS, boolS, slv, intOfA, isIntA, isIntO, bnd, ldV, ldS, pcells, AV.fits, AV.one, AV.cells, putParts, partsS, fresh, nilOk, nilP, List.map_cons, List.map_nil, List.length_cons, List.length_nil, List.take_succ_cons, List.take_zero, List.drop_succ_cons, List.drop_zero, List.cons_append, List.nil_append, List.append_nil, List.getElem?_cons_zero, List.getElem?_cons_succ, Option.getD_some, Option.isSome_some, Option.isSome_none, Nat.reduceEqDiff, Nat.reduceAdd, Nat.reduceMul, Nat.reduceSub, Nat.reduceLeDiff, Nat.reduceLT, Nat.zero_add, Nat.add_zero, ite_true, ite_false, if_true, if_false, reduceIte, reduceCtorEq, true_and, and_true, implies_true, forall_const, cond_true, cond_false, beq_true, beq_false, Int.toNat_natCast, IntKind.max_i64, true_implies, false_implies, and_self, Bool.not_true, Bool.not_false, eq_self, Bool.cond_true_left, Bool.cond_false_left, Bool.cond_true_right, Bool.cond_false_right, imp_self, Bool.not_eq_true', pickE, isLd])
      have : IntKind.i64.wrap (-(-n % m) + m) = m - (-n) % m := by rw [wI]; split <;> omega
      rw [this]
  · have h1 := Int.emod_nonneg n (show m ≠ 0 by omega)
    rw [Int.tmod_eq_emod_of_nonneg (by omega)]
    have hd : decide (n % m < 0) = false := decide_eq_false (by omega)
    simp only [hd, ↓R1, R2, appV_tsl, keepF, initF, St.box_same, St.set_set, St.glob_set, Option.map_some, ps, pf, ev, slot, putF, guardC, CO.ods, optAll, evU, binV, binS, intV, intS, strV, strS, unV, unS, pickV, pickS, boolS, slv, intOfA, isIntA, isIntO, bnd, ldV, ldS, pcells, AV.fits, AV.one, AV.cells, putParts, partsS, fresh, nilOk, nilP, List.map_cons, List.map_nil, List.length_cons, List.length_nil, List.take_succ_cons, List.take_zero, List.drop_succ_cons, List.drop_zero, List.cons_append, List.nil_append, List.append_nil, List.getElem?_cons_zero, List.getElem?_cons_succ, Option.getD_some, Option.isSome_some, Option.isSome_none, Nat.reduceEqDiff, Nat.reduceAdd, Nat.reduceMul, Nat.reduceSub, Nat.reduceLeDiff, Nat.reduceLT, Nat.zero_add, Nat.add_zero, ite_true, ite_false, if_true, if_false, reduceIte, reduceCtorEq, true_and, and_true, implies_true, forall_const, cond_true, cond_false, beq_true, beq_false, Int.toNat_natCast, IntKind.max_i64, true_implies, false_implies, and_self, Bool.not_true, Bool.not_false, eq_self, Bool.cond_true_left, Bool.cond_false_left, Bool.cond_true_right, Bool.cond_false_right, imp_self, Bool.not_eq_true', pickE, isLd]
    (refine endP_pu (by simp) (by first | (simp [rvsS, rvS]; done) | (simp only [rvsS, rvS, ↓R1, R2, appV_tsl, keepF, initF, St.box_same, St.set_set, St.glob_set, Option.map_some, ps, pf, ev, slot, putF, guardC, CO.ods, optAll, evU, binV, binS, intV, intS, strV, strS, unV, unS, pickV, pickS, boolS, slv, intOfA, isIntA, isIntO, bnd, ldV, ldS, pcells, AV.fits, AV.one, AV.cells, putParts, partsS, fresh, nilOk, nilP, List.map_cons, List.map_nil, List.length_cons, List.length_nil, List.take_succ_cons, List.take_zero, List.drop_succ_cons, List.drop_zero, List.cons_append, List.nil_append, List.append_nil, List.getElem?_cons_zero, List.getElem?_cons_succ, Option.getD_some, Option.isSome_some, Option.isSome_none, Nat.reduceEqDiff, Nat.reduceAdd, Nat.reduceMul, Nat.reduceSub, Nat.reduceLeDiff, Nat.reduceLT, Nat.zero_add, Nat.add_zero, ite_true, ite_false, if_true, if_false, reduceIte, reduceCtorEq, true_and, and_true, implies_true, forall_const, cond_true, cond_false, beq_true, beq_false, Int.toNat_natCast, IntKind.max_i64, true_implies, false_implies, and_self, Bool.not_true, Bool.not_false, eq_self, Bool.cond_true_left, Bool.cond_false_left, Bool.cond_true_right, Bool.cond_false_right, imp_self, Bool.not_eq_true', pickE, isLd]; done) | (simp only [rvsS, rvS, ↓R1, R2, appV_tsl, keepF, initF, St.box_same, St.set_set, St.glob_set, Option.map_some, ps, pf, ev, slot, putF, guardC, CO.ods, optAll, evU, binV, binS, intV, intS, strV, strS, unV, unS, pickV, pickS, boolS, slv, intOfA, isIntA, isIntO, bnd, ldV, ldS, pcells, AV.fits, AV.one, AV.cells, putParts, partsS, fresh, nilOk, nilP, List.map_cons, List.map_nil, List.length_cons, List.length_nil, List.take_succ_cons, List.take_zero, List.drop_succ_cons, List.drop_zero, List.cons_append, List.nil_append, List.append_nil, List.getElem?_cons_zero, List.getElem?_cons_succ, Option.getD_some, Option.isSome_some, Option.isSome_none, Nat.reduceEqDiff, Nat.reduceAdd, Nat.reduceMul, Nat.reduceSub, Nat.reduceLeDiff, Nat.reduceLT, Nat.zero_add, Nat.add_zero, ite_true, ite_false, if_true, if_false, reduceIte, reduceCtorEq, true_and, and_true, implies_true, forall_const, cond_true, cond_false, beq_true, beq_false, Int.toNat_natCast, IntKind.max_i64, true_implies, false_implies, and_self, Bool.not_true, Bool.not_false, eq_self, Bool.cond_true_left, Bool.cond_false_left, Bool.cond_true_right, Bool.cond_false_right, imp_self, Bool.not_eq_true', pickE, isLd]; simp)) (wk_of_eq ?_) (by (repeat (first | exact St.le_refl _ | (refine St.le_new ?_ (by first | assumption | exact And.right (by assumption)))))))
    (simp only [resAV, rvV, List.map_cons, List.map_nil, ↓R1, R2, appV_tsl, keepF, initF, St.box_same, St.set_set, St.glob_set, Option.map_some, ps, pf, ev, slot, putF, guardC, CO.ods, optAll, evU, binV, binS, intV, intS, strV, strS, unV, unS, pickV, pickS, boolS, slv, intOfA, isIntA, isIntO, bnd, ldV, ldS, pcells, AV.fits, AV.one, AV.cells, putParts, partsS, fresh, nilOk, nilP, List.map_cons, List.map_nil, List.length_cons, List.length_nil, List.take_succ_cons, List.take_zero, List.drop_succ_cons, List.drop_zero, List.cons_append, List.nil_append, List.append_nil, List.getElem?_cons_zero, List.getElem?_cons_succ, Option.getD_some, Option.isSome_some, Option.isSome_none, Nat.reduceEqDiff, Nat.reduceAdd, Nat.reduceMul, Nat.reduceSub, Nat.reduceLeDiff, Nat.reduceLT, Nat.zero_add, Nat.add_zero, ite_true, ite_false, if_true, if_false, reduceIte, reduceCtorEq, true_and, and_true, implies_true, forall_const, cond_true, cond_false, beq_true, beq_false, Int.toNat_natCast, IntKind.max_i64, true_implies, false_implies, and_self, Bool.not_true, Bool.not_false, eq_self, Bool.cond_true_left, Bool.cond_false_left, Bool.cond_true_right, Bool.cond_false_right, imp_self, Bool.not_eq_true', pickE, isLd])
theorem wI_mul (x : Int) : ∃ j, IntKind.i64.wrap x = x - 18446744073709551616 * j ∧ -9223372036854775808 ≤ IntKind.i64.wrap x ∧ IntKind.i64.wrap x ≤ 9223372036854775807 := by
  rw [wI]
  split
  · exact ⟨x / 18446744073709551616 + 1, by omega, by omega, by omega⟩
  · exact ⟨x / 18446744073709551616, by omega, by omega, by omega⟩
theorem wI_id {x : Int} (h : I64 x) : IntKind.i64.wrap x = x := by
  unfold I64 at h; rw [wI]; split <;> omega
theorem cut_fact (n k : Int) : cutN n k * 2 ^ cutK k = IntKind.i64.wrap (n * 2 ^ cutK k) := by
  have hK : cutK k ≤ 64 := Nat.min_le_right _ _
  obtain ⟨j, h1, h2, h3⟩ := wI_mul (n * 2 ^ cutK k)
  have hp : (18446744073709551616 : Int) = 2 ^ cutK k * 2 ^ (64 - cutK k) := by
    rw [← Int.pow_add, show cutK k + (64 - cutK k) = 64 by omega]; rfl
  have hd : IntKind.i64.wrap (n * 2 ^ cutK k) = (n - 2 ^ (64 - cutK k) * j) * 2 ^ cutK k := by
    rw [h1, hp, Int.sub_mul]
    congr 1
    rw [Int.mul_assoc, Int.mul_comm]
  unfold cutN
  rw [hd]
  have hne : (2 : Int) ^ cutK k ≠ 0 := by
    have : (0 : Int) < 2 ^ cutK k := Int.pow_pos (by decide)
    omega
  rw [Int.mul_fdiv_cancel _ hne]
theorem cut_twice (n k : Int) : cutN (cutN n k) k = cutN n k := by
  have h := cut_fact n k
  have h2 := cut_fact (cutN n k) k
  rw [h] at h2
  obtain ⟨j, _, a, b⟩ := wI_mul (n * 2 ^ cutK k)
  rw [wI_id ⟨a, b⟩, ← h] at h2
  have hne : (2 : Int) ^ cutK k ≠ 0 := by
    have : (0 : Int) < 2 ^ cutK k := Int.pow_pos (by decide)
    omega
  exact Int.eq_of_mul_eq_mul_right hne h2
theorem cut_64 (n : Int) (hn : I64 n) : cutN n 64 = n := by
  have hK : cutK 64 = 0 := by decide
  unfold cutN
  rw [hK]
  simp only [Int.pow_zero, Int.mul_one, wI_id hn]
  exact Int.fdiv_one n
theorem ce_facts (a b : Int) (ha : 0 ≤ a ∧ a < 1099511627776) (hb : 1 ≤ b ∧ b ≤ 1048576) : ceB a b = true ∧ 0 ≤ ceN a b ∧ ceN a b ≤ a ∧ a ≤ IntKind.i64.wrap (ceN a b * b) ∧ IntKind.i64.wrap (IntKind.i64.wrap (ceN a b - 1) * b) < a ∨ a = 0 ∧ ceB a b = true ∧ ceN a b = 0 := by
  have hB : ceB a b = true := by simp [ceB, inR]; omega
  have e1 : IntKind.i64.wrap (a + b) = a + b := wI_id ⟨by omega, by omega⟩
  have e2 : IntKind.i64.wrap (a + b - 1) = a + b - 1 := wI_id ⟨by omega, by omega⟩
  have q0 : 0 ≤ (a + b - 1) / b := Int.ediv_nonneg (by omega) (by omega)
  have q1 : (a + b - 1) / b ≤ a + b - 1 := Int.ediv_le_self _ (by omega)
  have e3 : ceN a b = (a + b - 1) / b := by
    unfold ceN
    rw [e1, e2, Int.tdiv_eq_ediv_of_nonneg (by omega), wI_id ⟨by omega, by omega⟩]
  have m1 := Int.emod_add_mul_ediv (a + b - 1) b
  have m2 := Int.emod_nonneg (a + b - 1) (show b ≠ 0 by omega)
  have m3 := Int.emod_lt_of_pos (a + b - 1) (show 0 < b by omega)
  rw [e3]
  generalize (a + b - 1) / b = q at *
  generalize (a + b - 1) % b = r at *
  by_cases h0 : a = 0
  · right
    subst h0
    refine ⟨rfl, hB, ?_⟩
    by_cases hq : q = 0
    · exact hq
    · have : b * 1 ≤ b * q := Int.mul_le_mul_of_nonneg_left (by omega) (by omega)
      omega
  · left
    have hqb : q * b = b * q := Int.mul_comm _ _
    have hle : q ≤ a := by
      by_cases h : a < q
      · have t1 : b * (a + 1) ≤ b * q := Int.mul_le_mul_of_nonneg_left (by omega) (by omega)
        have t2 : b * (a + 1) = b * a + b := by rw [Int.mul_add, Int.mul_one]
        have t3 : 1 * a ≤ b * a := Int.mul_le_mul_of_nonneg_right (by omega) (by omega)
        omega
      · omega
    have w1 : IntKind.i64.wrap (q * b) = q * b := wI_id ⟨by omega, by omega⟩
    have w2 : IntKind.i64.wrap (q - 1) = q - 1 := wI_id ⟨by omega, by omega⟩
    have e4 : (q - 1) * b = q * b - b := by rw [Int.sub_mul, Int.one_mul]
    have w3 : IntKind.i64.wrap ((q - 1) * b) = (q - 1) * b := by rw [e4]; exact wI_id ⟨by omega, by omega⟩
    rw [w1, w2, w3, e4]
    exact ⟨hB, q0, hle, by omega, by omega⟩
end Go.Proofs.YtfnhgenilbgklaaDoor
