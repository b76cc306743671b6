/-
  Layer 5: the reference's sums; cutting; counts.
-/
import Derived.Test.YtfnhgenilbgklaaDoorQ52
namespace Go.Proofs.YtfnhgenilbgklaaDoor
open Go.Abs
set_option linter.all false
set_option maxRecDepth 100000

def plusV (a b : Int) : Bool × Int × Int :=
  if decide (a < 0) == decide (b < 0) then (decide (a < 0), 0, sizeI a + sizeI b)
  else if sizeI b ≤ sizeI a then (decide (a < 0), 0, sizeI a - sizeI b) else (decide (b < 0), 0, sizeI b - sizeI a)
theorem plusV_val (a b : Int) : bigV (plusV a b).1 (plusV a b).2.1 (plusV a b).2.2 = a + b := by
  unfold plusV bigV sizeI
  by_cases h1 : a < 0 <;> by_cases h2 : b < 0 <;> simp [h1, h2] <;> (try split) <;> (try simp) <;> omega
theorem plusV_bd (a b : Int) (ha : I64 a) (hb : I64 b) : U64 (plusV a b).2.1 ∧ (0 ≤ (plusV a b).2.2 ∧ (plusV a b).2.2 ≤ 18446744073709551616) := by
  unfold plusV sizeI I64 U64 at *
  by_cases h1 : a < 0 <;> by_cases h2 : b < 0 <;> simp [h1, h2] <;> (try split) <;> (try simp) <;> omega
def plusA (a b : Int) : Bool × Int × Int :=
  if (plusV a b).2.2 = 18446744073709551616 then ((plusV a b).1, 1, 0) else plusV a b
theorem plusA_val (a b : Int) : bigV (plusA a b).1 (plusA a b).2.1 (plusA a b).2.2 = a + b := by
  have h := plusV_val a b
  unfold plusA
  split
  · rename_i e
    have h0 : (plusV a b).2.1 = 0 := by unfold plusV; split <;> (try split) <;> rfl
    unfold bigV at h ⊢
    rw [h0, e] at h
    rw [← h]
    cases (plusV a b).1 <;> simp
  · exact h
theorem plusA_bd (a b : Int) (ha : I64 a) (hb : I64 b) : U64 (plusA a b).2.1 ∧ U64 (plusA a b).2.2 := by
  obtain ⟨h1, h2, h3⟩ := plusV_bd a b ha hb
  unfold plusA
  split
  · simp [U64]
  · exact ⟨h1, h2, by omega⟩
section
variable {a b : Int} (sa : 0 ≤ sizeI a ∧ sizeI a ≤ 9223372036854775808) (sb : 0 ≤ sizeI b ∧ sizeI b ≤ 9223372036854775808)
include sa sb
theorem plusA_1 (h : (decide (a < 0) == decide (b < 0)) = true) (hc : IntKind.u64.wrap (sizeI a + sizeI b) < sizeI a) : plusA a b = (decide (a < 0), 1, IntKind.u64.wrap (sizeI a + sizeI b)) := by
  rw [wU] at *
  have e : sizeI a + sizeI b = 18446744073709551616 := by omega
  simp only [plusA, plusV, h, if_true]
  rw [if_pos e, e]
  simp
theorem plusA_2 (h : (decide (a < 0) == decide (b < 0)) = true) (hc : ¬ IntKind.u64.wrap (sizeI a + sizeI b) < sizeI a) : plusA a b = (decide (a < 0), 0, IntKind.u64.wrap (sizeI a + sizeI b)) := by
  rw [wU] at *
  simp only [plusA, plusV, h, if_true]
  rw [if_neg (by omega)]
  congr 2
  omega
theorem plusA_3 (h : (decide (a < 0) == decide (b < 0)) = false) (hc : sizeI b ≤ sizeI a) : plusA a b = (decide (a < 0), 0, IntKind.u64.wrap (sizeI a - sizeI b)) := by
  rw [wU] at *
  simp only [plusA, plusV, h, Bool.false_eq_true, if_false, if_pos hc]
  rw [if_neg (by omega)]
  congr 2
  omega
theorem plusA_4 (h : (decide (a < 0) == decide (b < 0)) = false) (hc : ¬ sizeI b ≤ sizeI a) : plusA a b = (decide (b < 0), 0, IntKind.u64.wrap (sizeI b - sizeI a)) := by
  rw [wU] at *
  simp only [plusA, plusV, h, Bool.false_eq_true, if_false, if_neg hc]
  rw [if_neg (by omega)]
  congr 2
  omega
end
theorem p54 (a b : Int) (ha : I64 a) (hb : I64 b) : Pu Tryd.prog 54 [.int .i64 a, .int .i64 b] (.agg [.bool (plusA a b).1, .int .u64 (plusA a b).2.1, .int .u64 (plusA a b).2.2]) := by
  have sa := sizeI_nn a ha
  have sb := sizeI_nn b hb
  refine Pu_intro c54 b54 (by simp [c54]) fun σ => ?_
  simp only [c54, ↓R1, R2, appV_tsl, keepF, initF, St.box_same, St.set_set, St.glob_set, Option.map_some, ps, pf, ev, slot, putF, guardC, CO.ods, optAll, evU, binV, binS, intV, intS, strV, strS, unV, unS, pickV, pickS, boolS, slv, intOfA, isIntA, isIntO, bnd, ldV, ldS, pcells, AV.fits, AV.one, AV.cells, putParts, partsS, fresh, nilOk, nilP, List.map_cons, List.map_nil, List.length_cons, List.length_nil, List.take_succ_cons, List.take_zero, List.drop_succ_cons, List.drop_zero, List.cons_append, List.nil_append, List.append_nil, List.getElem?_cons_zero, List.getElem?_cons_succ, Option.getD_some, Option.isSome_some, Option.isSome_none, Nat.reduceEqDiff, Nat.reduceAdd, Nat.reduceMul, Nat.reduceSub, Nat.reduceLeDiff, Nat.reduceLT, Nat.zero_add, Nat.add_zero, ite_true, ite_false, if_true, if_false, reduceIte, reduceCtorEq, true_and, and_true, implies_true, forall_const, cond_true, cond_false, beq_true, beq_false, Int.toNat_natCast, IntKind.max_i64, true_implies, false_implies, and_self, Bool.not_true, Bool.not_false, eq_self, Bool.cond_true_left, Bool.cond_false_left, Bool.cond_true_right, Bool.cond_false_right, imp_self, Bool.not_eq_true', pickE, isLd]
  repeat' (first | (with_reducible rw [allocV_eq]) | (refine condV_split (fun hc => ?_) (fun hc => ?_) <;> (try simp only [↓R1, R2, appV_tsl, keepF, initF, St.box_same, St.set_set, St.glob_set, Option.map_some, ps, pf, ev, slot, putF, guardC, CO.ods, optAll, evU, binV, binS, intV, intS, strV, strS, unV, unS, pickV, pickS, boolS, slv, intOfA, isIntA, isIntO, bnd, ldV, ldS, pcells, AV.fits, AV.one, AV.cells, putParts, partsS, fresh, nilOk, nilP, List.map_cons, List.map_nil, List.length_cons, List.length_nil, List.take_succ_cons, List.take_zero, List.drop_succ_cons, List.drop_zero, List.cons_append, List.nil_append, List.append_nil, List.getElem?_cons_zero, List.getElem?_cons_succ, Option.getD_some, Option.isSome_some, Option.isSome_none, Nat.reduceEqDiff, Nat.reduceAdd, Nat.reduceMul, Nat.reduceSub, Nat.reduceLeDiff, Nat.reduceLT, Nat.zero_add, Nat.add_zero, ite_true, ite_false, if_true, if_false, reduceIte, reduceCtorEq, true_and, and_true, implies_true, forall_const, cond_true, cond_false, beq_true, beq_false, Int.toNat_natCast, IntKind.max_i64, true_implies, false_implies, and_self, Bool.not_true, Bool.not_false, eq_self, Bool.cond_true_left, Bool.cond_false_left, Bool.cond_true_right, Bool.cond_false_right, imp_self, Bool.not_eq_true', pickE, isLd])) | (refine gdV_split (fun hc => ?_) (fun hc => ?_) <;> (try simp only [hc, ↓R1, R2, appV_tsl, keepF, initF, St.box_same, St.set_set, St.glob_set, Option.map_some, ps, pf, ev, slot, putF, guardC, CO.ods, optAll, evU, binV, binS, intV, intS, strV, strS, unV, unS, pickV, pickS, boolS, slv, intOfA, isIntA, isIntO, bnd, ldV, ldS, pcells, AV.fits, AV.one, AV.cells, putParts, partsS, fresh, nilOk, nilP, List.map_cons, List.map_nil, List.length_cons, List.length_nil, List.take_succ_cons, List.take_zero, List.drop_succ_cons, List.drop_zero, List.cons_append, List.nil_append, List.append_nil, List.getElem?_cons_zero, List.getElem?_cons_succ, Option.getD_some, Option.isSome_some, Option.isSome_none, Nat.reduceEqDiff, Nat.reduceAdd, Nat.reduceMul, Nat.reduceSub, Nat.reduceLeDiff, Nat.reduceLT, Nat.zero_add, Nat.add_zero, ite_true, ite_false, if_true, if_false, reduceIte, reduceCtorEq, true_and, and_true, implies_true, forall_const, cond_true, cond_false, beq_true, beq_false, Int.toNat_natCast, IntKind.max_i64, true_implies, false_implies, and_self, Bool.not_true, Bool.not_false, eq_self, Bool.cond_true_left, Bool.cond_false_left, Bool.cond_true_right, Bool.cond_false_right, imp_self, Bool.not_eq_true', pickE, isLd])) | (with_reducible apply And.intro) | (with_reducible intro β hβ; (try simp only [St.box_none] at hβ); (try simp only [↓R1, R2, appV_tsl, keepF, initF, St.box_same, St.set_set, St.glob_set, Option.map_some, ps, pf, ev, slot, putF, guardC, CO.ods, optAll, evU, binV, binS, intV, intS, strV, strS, unV, unS, pickV, pickS, boolS, slv, intOfA, isIntA, isIntO, bnd, ldV, ldS, pcells, AV.fits, AV.one, AV.cells, putParts, partsS, fresh, nilOk, nilP, List.map_cons, List.map_nil, List.length_cons, List.length_nil, List.take_succ_cons, List.take_zero, List.drop_succ_cons, List.drop_zero, List.cons_append, List.nil_append, List.append_nil, List.getElem?_cons_zero, List.getElem?_cons_succ, Option.getD_some, Option.isSome_some, Option.isSome_none, Nat.reduceEqDiff, Nat.reduceAdd, Nat.reduceMul, Nat.reduceSub, Nat.reduceLeDiff, Nat.reduceLT, Nat.zero_add, Nat.add_zero, ite_true, ite_false, if_true, if_false, reduceIte, reduceCtorEq, true_and, and_true, implies_true, forall_const, cond_true, cond_false, beq_true, beq_false, Int.toNat_natCast, IntKind.max_i64, true_implies, false_implies, and_self, Bool.not_true, Bool.not_false, eq_self, Bool.cond_true_left, Bool.cond_false_left, Bool.cond_true_right, Bool.cond_false_right, imp_self, Bool.not_eq_true', pickE, isLd])) | (refine (p52 a ha).to (wkL_refl _) ?_; try simp only [↓R1, R2, appV_tsl, keepF, initF, St.box_same, St.set_set, St.glob_set, Option.map_some, ps, pf, ev, slot, putF, guardC, CO.ods, optAll, evU, binV, binS, intV, intS, strV, strS, unV, unS, pickV, pickS, boolS, slv, intOfA, isIntA, isIntO, bnd, ldV, ldS, pcells, AV.fits, AV.one, AV.cells, putParts, partsS, fresh, nilOk, nilP, List.map_cons, List.map_nil, List.length_cons, List.length_nil, List.take_succ_cons, List.take_zero, List.drop_succ_cons, List.drop_zero, List.cons_append, List.nil_append, List.append_nil, List.getElem?_cons_zero, List.getElem?_cons_succ, Option.getD_some, Option.isSome_some, Option.isSome_none, Nat.reduceEqDiff, Nat.reduceAdd, Nat.reduceMul, Nat.reduceSub, Nat.reduceLeDiff, Nat.reduceLT, Nat.zero_add, Nat.add_zero, ite_true, ite_false, if_true, if_false, reduceIte, reduceCtorEq, true_and, and_true, implies_true, forall_const, cond_true, cond_false, beq_true, beq_false, Int.toNat_natCast, IntKind.max_i64, true_implies, false_implies, and_self, Bool.not_true, Bool.not_false, eq_self, Bool.cond_true_left, Bool.cond_false_left, Bool.cond_true_right, Bool.cond_false_right, imp_self, Bool.not_eq_true', pickE, isLd]) | (refine (p52 b hb).to (wkL_refl _) ?_; try simp only [↓R1, R2, appV_tsl, keepF, initF, St.box_same, St.set_set, St.glob_set, Option.map_some, ps, pf, ev, slot, putF, guardC, CO.ods, optAll, evU, binV, binS, intV, intS, strV, strS, unV, unS, pickV, pickS, boolS, slv, intOfA, isIntA, isIntO, bnd, ldV, ldS, pcells, AV.fits, AV.one, AV.cells, putParts, partsS, fresh, nilOk, nilP, List.map_cons, List.map_nil, List.length_cons, List.length_nil, List.take_succ_cons, List.take_zero, List.drop_succ_cons, List.drop_zero, List.cons_append, List.nil_append, List.append_nil, List.getElem?_cons_zero, List.getElem?_cons_succ, Option.getD_some, Option.isSome_some, Option.isSome_none, Nat.reduceEqDiff, Nat.reduceAdd, Nat.reduceMul, Nat.reduceSub, Nat.reduceLeDiff, Nat.reduceLT, Nat.zero_add, Nat.add_zero, ite_true, ite_false, if_true, if_false, reduceIte, reduceCtorEq, true_and, and_true, implies_true, forall_const, cond_true, cond_false, beq_true, beq_false, Int.toNat_natCast, IntKind.max_i64, true_implies, false_implies, and_self, Bool.not_true, Bool.not_false, eq_self, Bool.cond_true_left, Bool.cond_false_left, Bool.cond_true_right, Bool.cond_false_right, imp_self, Bool.not_eq_true', pickE, isLd]))
  all_goals rename_i hc1
  all_goals (try (refine endP_pu (by simp) (by first | (simp [rvsS, rvS]; done) | (simp only [rvsS, rvS, ↓R1, R2, appV_tsl, keepF, initF, St.box_same, St.set_set, St.glob_set, Option.map_some, ps, pf, ev, slot, putF, guardC, CO.ods, optAll, evU, binV, binS, intV, intS, strV, strS, unV, unS, pickV, pickS, boolS, slv, intOfA, isIntA, isIntO, bnd, ldV, ldS, pcells, AV.fits, AV.one, AV.cells, putParts, partsS, fresh, nilOk, nilP, List.map_cons, List.map_nil, List.length_cons, List.length_nil, List.take_succ_cons, List.take_zero, List.drop_succ_cons, List.drop_zero, List.cons_append, List.nil_append, List.append_nil, List.getElem?_cons_zero, List.getElem?_cons_succ, Option.getD_some, Option.isSome_some, Option.isSome_none, Nat.reduceEqDiff, Nat.reduceAdd, Nat.reduceMul, Nat.reduceSub, Nat.reduceLeDiff, Nat.reduceLT, Nat.zero_add, Nat.add_zero, ite_true, ite_false, if_true, if_false, reduceIte, reduceCtorEq, true_and, and_true, implies_true, forall_const, cond_true, cond_false, beq_true, beq_false, Int.toNat_natCast, IntKind.max_i64, true_implies, false_implies, and_self, Bool.not_true, Bool.not_false, eq_self, Bool.cond_true_left, Bool.cond_false_left, Bool.cond_true_right, Bool.cond_false_right, imp_self, Bool.not_eq_true', pickE, isLd]; done) | (simp only [rvsS, rvS, ↓R1, R2, appV_tsl, keepF, initF, St.box_same, St.set_set, St.glob_set, Option.map_some, ps, pf, ev, slot, putF, guardC, CO.ods, optAll, evU, binV, binS, intV, intS, strV, strS, unV, unS, pickV, pickS, boolS, slv, intOfA, isIntA, isIntO, bnd, ldV, ldS, pcells, AV.fits, AV.one, AV.cells, putParts, partsS, fresh, nilOk, nilP, List.map_cons, List.map_nil, List.length_cons, List.length_nil, List.take_succ_cons, List.take_zero, List.drop_succ_cons, List.drop_zero, List.cons_append, List.nil_append, List.append_nil, List.getElem?_cons_zero, List.getElem?_cons_succ, Option.getD_some, Option.isSome_some, Option.isSome_none, Nat.reduceEqDiff, Nat.reduceAdd, Nat.reduceMul, Nat.reduceSub, Nat.reduceLeDiff, Nat.reduceLT, Nat.zero_add, Nat.add_zero, ite_true, ite_false, if_true, if_false, reduceIte, reduceCtorEq, true_and, and_true, implies_true, forall_const, cond_true, cond_false, beq_true, beq_false, Int.toNat_natCast, IntKind.max_i64, true_implies, false_implies, and_self, Bool.not_true, Bool.not_false, eq_self, Bool.cond_true_left, Bool.cond_false_left, Bool.cond_true_right, Bool.cond_false_right, imp_self, Bool.not_eq_true', pickE, isLd]; simp)) (wk_of_eq ?_) (by (repeat (first | exact St.le_refl _ | (refine St.le_new ?_ (by first | assumption | exact And.right (by assumption))))))))
  all_goals (try (simp only [resAV, rvV, List.map_cons, List.map_nil, ↓R1, R2, appV_tsl, keepF, initF, St.box_same, St.set_set, St.glob_set, Option.map_some, ps, pf, ev, slot, putF, guardC, CO.ods, optAll, evU, binV, binS, intV, intS, strV, strS, unV, unS, pickV, pickS, boolS, slv, intOfA, isIntA, isIntO, bnd, ldV, ldS, pcells, AV.fits, AV.one, AV.cells, putParts, partsS, fresh, nilOk, nilP, List.map_cons, List.map_nil, List.length_cons, List.length_nil, List.take_succ_cons, List.take_zero, List.drop_succ_cons, List.drop_zero, List.cons_append, List.nil_append, List.append_nil, List.getElem?_cons_zero, List.getElem?_cons_succ, Option.getD_some, Option.isSome_some, Option.isSome_none, Nat.reduceEqDiff, Nat.reduceAdd, Nat.reduceMul, Nat.reduceSub, Nat.reduceLeDiff, Nat.reduceLT, Nat.zero_add, Nat.add_zero, ite_true, ite_false, if_true, if_false, reduceIte, reduceCtorEq, true_and, and_true, implies_true, forall_const, cond_true, cond_false, beq_true, beq_false, Int.toNat_natCast, IntKind.max_i64, true_implies, false_implies, and_self, Bool.not_true, Bool.not_false, eq_self, Bool.cond_true_left, Bool.cond_false_left, Bool.cond_true_right, Bool.cond_false_right, imp_self, Bool.not_eq_true', pickE, isLd]))
  all_goals simp only [decide_eq_true_eq, decide_eq_false_iff_not] at hc
  · rw [plusA_1 sa sb hc1 hc]
  · rw [plusA_2 sa sb hc1 hc]
  · rw [plusA_3 sa sb hc1 hc]
  · rw [plusA_4 sa sb hc1 hc]
end Go.Proofs.YtfnhgenilbgklaaDoor
