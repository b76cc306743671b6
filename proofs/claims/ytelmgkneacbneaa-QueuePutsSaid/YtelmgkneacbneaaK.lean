/-
  QueueKnown: evaluated.
-/
import Derived.Test.YtelmgkneacbneaaCT
namespace Go.Proofs.Ytelmgkneacbneaa
open Go.Abs
set_option linter.all false
set_option maxRecDepth 100000

theorem clone_items : Clones Try.prog 56 42 7 104 := by
  intro a n cs σ ha hl hn hb
  have key : AC Try.prog 56 [a] σ (fun r s => (r = .nils ∧ s = σ ∧ n = 0 ∧ cs = []) ∨ ∃ τ, σ.tip τ = none ∧ r = .tsl τ n cs ∧ s = σ.setTip τ (42, 7, n)) := by
    refine AC_intro ec56 eb56 (Nat.le_of_ble_eq_true rfl) ?_
    have nil0 : n = 0 → cs = [] := fun e => List.eq_nil_of_length_eq_zero (by rw [hl, e])
    cases a <;> simp only [slv] at ha <;> try (cases ha; done)
    all_goals
      simp only [Option.some.injEq, Prod.mk.injEq] at ha
      obtain ⟨rfl, rfl⟩ := ha
      simp only [ec56, ↓R1, R2, appV_tsl, keepF, initF, St.box_same, St.set_set, St.glob_set, Option.map_some, ps, pf, ev, slot, putF, guardC, CO.ods, optAll, evU, binV, binS, intV, intS, strV, strS, unV, unS, pickV, pickS, boolS, slv, intOfA, isIntA, isIntO, bnd, ldV, ldS, pcells, AV.fits, AV.one, AV.cells, putParts, partsS, fresh, nilOk, nilP, List.map_cons, List.map_nil, List.length_cons, List.length_nil, List.take_succ_cons, List.take_zero, List.drop_succ_cons, List.drop_zero, List.cons_append, List.nil_append, List.append_nil, List.getElem?_cons_zero, List.getElem?_cons_succ, Option.getD_some, Option.isSome_some, Option.isSome_none, Nat.reduceEqDiff, Nat.reduceAdd, Nat.reduceMul, Nat.reduceSub, Nat.reduceLeDiff, Nat.reduceLT, Nat.zero_add, Nat.add_zero, ite_true, ite_false, if_true, if_false, reduceIte, reduceCtorEq, true_and, and_true, implies_true, forall_const, cond_true, cond_false, beq_true, beq_false, Int.toNat_natCast, IntKind.max_i64, true_implies, false_implies, and_self, Bool.not_true, Bool.not_false, eq_self, Bool.cond_true_left, Bool.cond_false_left, Bool.cond_true_right, Bool.cond_false_right, imp_self, Bool.not_eq_true', pickE, isLd]
      intro b hb'
      refine condV_split (fun h1 => ?_) (fun h1 => ?_) <;> simp only [↓R1, R2, appV_tsl, keepF, initF, St.box_same, St.set_set, St.glob_set, Option.map_some, ps, pf, ev, slot, putF, guardC, CO.ods, optAll, evU, binV, binS, intV, intS, strV, strS, unV, unS, pickV, pickS, boolS, slv, intOfA, isIntA, isIntO, bnd, ldV, ldS, pcells, AV.fits, AV.one, AV.cells, putParts, partsS, fresh, nilOk, nilP, List.map_cons, List.map_nil, List.length_cons, List.length_nil, List.take_succ_cons, List.take_zero, List.drop_succ_cons, List.drop_zero, List.cons_append, List.nil_append, List.append_nil, List.getElem?_cons_zero, List.getElem?_cons_succ, Option.getD_some, Option.isSome_some, Option.isSome_none, Nat.reduceEqDiff, Nat.reduceAdd, Nat.reduceMul, Nat.reduceSub, Nat.reduceLeDiff, Nat.reduceLT, Nat.zero_add, Nat.add_zero, ite_true, ite_false, if_true, if_false, reduceIte, reduceCtorEq, true_and, and_true, implies_true, forall_const, cond_true, cond_false, beq_true, beq_false, Int.toNat_natCast, IntKind.max_i64, true_implies, false_implies, and_self, Bool.not_true, Bool.not_false, eq_self, Bool.cond_true_left, Bool.cond_false_left, Bool.cond_true_right, Bool.cond_false_right, imp_self, Bool.not_eq_true', pickE, isLd]
      · refine endP_intro (r := .nils) (σ' := σ) (by simp) (by simp [rvsS, rvS]) (wk_of_eq ?_) (St.le_refl _) (.inl ?_)
        · (simp only [resAV, rvV, List.map_cons, List.map_nil, ↓R1, R2, appV_tsl, keepF, initF, St.box_same, St.set_set, St.glob_set, Option.map_some, ps, pf, ev, slot, putF, guardC, CO.ods, optAll, evU, binV, binS, intV, intS, strV, strS, unV, unS, pickV, pickS, boolS, slv, intOfA, isIntA, isIntO, bnd, ldV, ldS, pcells, AV.fits, AV.one, AV.cells, putParts, partsS, fresh, nilOk, nilP, List.map_cons, List.map_nil, List.length_cons, List.length_nil, List.take_succ_cons, List.take_zero, List.drop_succ_cons, List.drop_zero, List.cons_append, List.nil_append, List.append_nil, List.getElem?_cons_zero, List.getElem?_cons_succ, Option.getD_some, Option.isSome_some, Option.isSome_none, Nat.reduceEqDiff, Nat.reduceAdd, Nat.reduceMul, Nat.reduceSub, Nat.reduceLeDiff, Nat.reduceLT, Nat.zero_add, Nat.add_zero, ite_true, ite_false, if_true, if_false, reduceIte, reduceCtorEq, true_and, and_true, implies_true, forall_const, cond_true, cond_false, beq_true, beq_false, Int.toNat_natCast, IntKind.max_i64, true_implies, false_implies, and_self, Bool.not_true, Bool.not_false, eq_self, Bool.cond_true_left, Bool.cond_false_left, Bool.cond_true_right, Bool.cond_false_right, imp_self, Bool.not_eq_true', pickE, isLd])
        · first
          | exact ⟨rfl, rfl⟩
          | exact (have e0 := Classical.byContradiction (fun h0 => Bool.noConfusion (h1.symm.trans (hb' h0))); ⟨rfl, rfl, e0, nil0 e0⟩)
      · refine appV_tip rfl trivial rfl (by simp) hl (by omega) (by omega) (fun τ hτ => ?_)
        simp only [↓R1, R2, appV_tsl, keepF, initF, St.box_same, St.set_set, St.glob_set, Option.map_some, ps, pf, ev, slot, putF, guardC, CO.ods, optAll, evU, binV, binS, intV, intS, strV, strS, unV, unS, pickV, pickS, boolS, slv, intOfA, isIntA, isIntO, bnd, ldV, ldS, pcells, AV.fits, AV.one, AV.cells, putParts, partsS, fresh, nilOk, nilP, List.map_cons, List.map_nil, List.length_cons, List.length_nil, List.take_succ_cons, List.take_zero, List.drop_succ_cons, List.drop_zero, List.cons_append, List.nil_append, List.append_nil, List.getElem?_cons_zero, List.getElem?_cons_succ, Option.getD_some, Option.isSome_some, Option.isSome_none, Nat.reduceEqDiff, Nat.reduceAdd, Nat.reduceMul, Nat.reduceSub, Nat.reduceLeDiff, Nat.reduceLT, Nat.zero_add, Nat.add_zero, ite_true, ite_false, if_true, if_false, reduceIte, reduceCtorEq, true_and, and_true, implies_true, forall_const, cond_true, cond_false, beq_true, beq_false, Int.toNat_natCast, IntKind.max_i64, true_implies, false_implies, and_self, Bool.not_true, Bool.not_false, eq_self, Bool.cond_true_left, Bool.cond_false_left, Bool.cond_true_right, Bool.cond_false_right, imp_self, Bool.not_eq_true', pickE, isLd]
        refine endP_intro (by simp) (by simp [rvsS, rvS]) (wk_of_eq ?_) (St.le_refl _) (.inr ⟨τ, hτ, rfl, rfl⟩)
        (simp only [resAV, rvV, List.map_cons, List.map_nil, ↓R1, R2, appV_tsl, keepF, initF, St.box_same, St.set_set, St.glob_set, Option.map_some, ps, pf, ev, slot, putF, guardC, CO.ods, optAll, evU, binV, binS, intV, intS, strV, strS, unV, unS, pickV, pickS, boolS, slv, intOfA, isIntA, isIntO, bnd, ldV, ldS, pcells, AV.fits, AV.one, AV.cells, putParts, partsS, fresh, nilOk, nilP, List.map_cons, List.map_nil, List.length_cons, List.length_nil, List.take_succ_cons, List.take_zero, List.drop_succ_cons, List.drop_zero, List.cons_append, List.nil_append, List.append_nil, List.getElem?_cons_zero, List.getElem?_cons_succ, Option.getD_some, Option.isSome_some, Option.isSome_none, Nat.reduceEqDiff, Nat.reduceAdd, Nat.reduceMul, Nat.reduceSub, Nat.reduceLeDiff, Nat.reduceLT, Nat.zero_add, Nat.add_zero, ite_true, ite_false, if_true, if_false, reduceIte, reduceCtorEq, true_and, and_true, implies_true, forall_const, cond_true, cond_false, beq_true, beq_false, Int.toNat_natCast, IntKind.max_i64, true_implies, false_implies, and_self, Bool.not_true, Bool.not_false, eq_self, Bool.cond_true_left, Bool.cond_false_left, Bool.cond_true_right, Bool.cond_false_right, imp_self, Bool.not_eq_true', pickE, isLd])
  refine AC.tips 42 7 key ?_
  rintro r s (⟨rfl, rfl, rfl, rfl⟩ | h)
  · exact .inr ⟨0, [], trivial, rfl, fun τ hτ => ⟨τ, hτ, rfl, rfl⟩⟩
  · exact .inl h
def X : Go.Abs.Call := xClone 56 42 7 104
theorem t_aw : eB X eT 100 50 9 [] isTrue = true := by kernel_rfl
theorem t_kn : eB X eT 100 50 4 [] isTrue = true := by kernel_rfl
theorem awake_pu : Pu Try.prog 9 [] (.bool true) := closed_true (xClone_ok clone_items) (tabB_ok eT_ok) rfl t_aw
theorem known_pu : Pu Try.prog 4 [] (.bool true) := closed_true (xClone_ok clone_items) (tabB_ok eT_ok) rfl t_kn
end Go.Proofs.Ytelmgkneacbneaa
