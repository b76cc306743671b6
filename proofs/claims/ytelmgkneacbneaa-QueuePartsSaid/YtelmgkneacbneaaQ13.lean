/-
  QueueParts: the plain part.
-/
import Derived.Test.YtelmgkneacbneaaQ11
namespace Go.Proofs.Ytelmgkneacbneaa
open Go.Abs
set_option linter.all false
set_option maxRecDepth 100000

theorem putAll_app (q : Qu) (l m : List It) : putAll q (l ++ m) = ((putAll (putAll q l).1 m).1, (putAll q l).2 + (putAll (putAll q l).1 m).2) := by
  unfold putAll
  rw [List.foldl_append]
  generalize List.foldl _ (q, 0) l = a
  have key : ∀ (m : List It) (q : Qu) (n : Nat), List.foldl (fun (a : Qu × Nat) x => ((putS a.1 x).1, if (putS a.1 x).2 then a.2 + 1 else a.2)) (q, n) m = ((List.foldl (fun (a : Qu × Nat) x => ((putS a.1 x).1, if (putS a.1 x).2 then a.2 + 1 else a.2)) (q, 0) m).1, n + (List.foldl (fun (a : Qu × Nat) x => ((putS a.1 x).1, if (putS a.1 x).2 then a.2 + 1 else a.2)) (q, 0) m).2) := by
    intro m
    induction m with
    | nil => intro q n; rfl
    | cons x m ih =>
      intro q n
      simp only [List.foldl_cons]
      rw [ih _ (if (putS q x).2 then n + 1 else n), ih _ (if (putS q x).2 then 0 + 1 else 0)]
      simp only [Prod.mk.injEq, true_and]
      split <;> omega
  exact key m a.1 a.2
theorem kept_parts (p : Nat) (l : List It) (hl : l.length ≤ 80) (at_ : Nat) (ha : at_ ≤ l.length) : (putAll (keptQ p (l.take at_)) (l.drop at_)).1 = keptQ p l ∧ (putAll (keptQ p (l.take at_)) (l.drop at_)).2 ≤ l.length - at_ := by
  have h1 := putAll_kept p l (by omega)
  have h2 := putAll_kept p (l.take at_) (by simp; omega)
  have h3 := putAll_app ⟨p, [], 0⟩ (l.take at_) (l.drop at_)
  rw [List.take_append_drop, h1, h2] at h3
  simp only [Prod.mk.injEq] at h3
  refine ⟨h3.1.symm, ?_⟩
  have h4 := h3.2
  simp only [List.length_take] at h4
  omega
/-- One is polled. -/
theorem pollL_one (q : Qu) (h0 : 0 ≤ q.dropped) : (pollL q 1).length ≤ 1 ∧ (pollL q 1 = [] → allL q = []) := by
  have hl := pollL_len q 1
  have hn : pollN q 1 = min 1 q.items.length := rfl
  refine ⟨?_, fun h => ?_⟩
  · rw [hl]
    by_cases hb : pollB q 1 = true
    · have : pollN q 1 < 1 := by simp [pollB] at hb; omega
      rw [if_pos hb]; omega
    · rw [if_neg hb]; omega
  · rw [h] at hl
    simp only [List.length_nil] at hl
    have hp : pollN q 1 = 0 := by split at hl <;> omega
    have hi : q.items = [] := List.eq_nil_of_length_eq_zero (by omega)
    have hd : ¬ 0 < q.dropped := by
      intro hd
      have : pollB q 1 = true := by simp [pollB, hp, hd]
      rw [if_pos this] at hl; omega
    unfold allL
    simp [hi, hd]
theorem half_ok {q : Qu} (he : quE q = 0) (hd : q.dropped ≠ 0) : pollQ q (max 1 q.items.length) = ⟨q.out, [], if q.items.length = 0 then 0 else q.dropped⟩ := by
  obtain ⟨e1, e2, e3, e4, e5, e6⟩ := quE_ok he
  have hn : pollN q (max 1 q.items.length) = q.items.length := by unfold pollN; omega
  unfold pollQ
  rw [hn, List.drop_length]
  congr 1
  by_cases h : q.items.length = 0
  · have hb : pollB q (max 1 q.items.length) = true := by
      unfold pollB
      rw [hn]
      simp only [Bool.and_eq_true, decide_eq_true_eq]
      omega
    rw [if_pos hb, if_pos h]
  · have hb : ¬ pollB q (max 1 q.items.length) = true := by
      unfold pollB
      rw [hn]
      simp only [Bool.and_eq_true, decide_eq_true_eq]
      omega
    rw [if_neg hb, if_neg h]
theorem put_full {q : Qu} {x : It} (hd : q.dropped ≠ 0) (hM : q.dropped < 1099511627776) (he : quE q = 0) (hx : itE x = 0) : putAllV q [x] = .tup [.agg (cQ ⟨q.out, q.items, q.dropped + 1⟩), .int .i64 0, .int .i64 0] := by
  have h1 : firstE itE [x] = 0 := by simp [firstE, hx]
  have h2 : putAll q [x] = (⟨q.out, q.items, q.dropped + 1⟩, 0) := by
    simp [putAll, putS, fullB, hd, dropS, hM]
  simp [putAllV, he, h1, h2]
theorem p19 (q q' : Qu) (x : It) (n : Int) (hv : putAllV q [x] = .tup [.agg (cQ q'), .int .i64 n, .int .i64 0]) (hq : quFit q) (hx : itFit x) : Pu Try.prog 19 [.agg (cQ q), .agg (cIt x)] (.tup [.agg (cQ q'), .bool (n == 1), .int .i64 0]) := by
  have pp := p17 q [x] hq ⟨by simp, fun y hy => by rw [List.mem_singleton.1 hy]; exact hx⟩
  rw [hv] at pp
  simp only [sl, List.flatMap_cons, List.flatMap_nil, List.length_cons, List.length_nil, cIt, cQ, List.append_nil] at pp
  (refine Pu_intro c19 b19 (Nat.le_of_ble_eq_true rfl) fun σ => ?_; simp only [c19, ↓R1, R2, R3, keepF, initF, ps, pf, ev, slot, putF, guardC, CO.ods, optAll, evU, binV, binS, intV, intS, strV, strS, unV, unS, pickV, pickS, boolS, slv, intOfA, isIntA, isIntO, bnd, ldV, ldS, pcells, AV.fits, AV.one, AV.cells, putParts, partsS, fresh, nilOk, nilP, pickE, isLd, sqL, sqV, Nat.reduceEqDiff, Nat.reduceAdd, Nat.reduceMul, Nat.reduceSub, Nat.reduceLeDiff, Nat.reduceLT, reduceIte, reduceCtorEq, Int.reduceBNe, Int.reduceBEq, cIt, cQ, cIt_gA])
  repeat' (first | (with_reducible rw [allocV_eq]) | (refine gdV_split (fun hc => ?_) (fun hc => ?_) <;> (try simp only [hc, ↓R1, R2, R3, keepF, initF, ps, pf, ev, slot, putF, guardC, CO.ods, optAll, evU, binV, binS, intV, intS, strV, strS, unV, unS, pickV, pickS, boolS, slv, intOfA, isIntA, isIntO, bnd, ldV, ldS, pcells, AV.fits, AV.one, AV.cells, putParts, partsS, fresh, nilOk, nilP, pickE, isLd, sqL, sqV, Nat.reduceEqDiff, Nat.reduceAdd, Nat.reduceMul, Nat.reduceSub, Nat.reduceLeDiff, Nat.reduceLT, reduceIte, reduceCtorEq, Int.reduceBNe, Int.reduceBEq, cIt, cQ, cIt_gA])) | ((first | refine condV_split (fun hc => ?_) (fun hc => ?_) | (with_reducible intro β hβ; (try simp only [St.box_noneA, St.tip_noneA, St.tip_set, St.box_tip] at hβ); (repeat (obtain ⟨⟨_, _⟩, hβ⟩ := hβ)); (try (have hbis := apart_is (by assumption) hβ; obtain ⟨_, _⟩ := hbis))) | ((first | (refine appV_tslK rfl ?_ ?_ ?_ ?_ ?_ ?_; (first | rfl | exact St.tip_same _ _ _ | (simp only [↓R1, R2, R3, keepF, initF, ps, pf, ev, slot, putF, guardC, CO.ods, optAll, evU, binV, binS, intV, intS, strV, strS, unV, unS, pickV, pickS, boolS, slv, intOfA, isIntA, isIntO, bnd, ldV, ldS, pcells, AV.fits, AV.one, AV.cells, putParts, partsS, fresh, nilOk, nilP, pickE, isLd, sqL, sqV, Nat.reduceEqDiff, Nat.reduceAdd, Nat.reduceMul, Nat.reduceSub, Nat.reduceLeDiff, Nat.reduceLT, reduceIte, reduceCtorEq, Int.reduceBNe, Int.reduceBEq, cIt, cQ, cIt_gA])); (first | omega | (simp only [cId_len, cInt_len, cIt_len, List.length_take, List.length_drop, List.length_append, List.length_nil, List.length_cons]; omega) | (simp only [cId_len, cInt_len, cIt_len, List.length_take, List.length_drop, List.length_append, List.length_nil, List.length_cons])); (first | rfl | first | omega | (simp only [cId_len, cInt_len, cIt_len, List.length_take, List.length_drop, List.length_append, List.length_nil, List.length_cons]; omega) | (simp only [cId_len, cInt_len, cIt_len, List.length_take, List.length_drop, List.length_append, List.length_nil, List.length_cons]))) | (refine appV_own ?_ ?_ ?_ ?_; exact flat_len (by intro _; rfl) _) | (refine appD_own ?_ ?_ ?_ ?_ ?_; omega; exact flat_len (by intro _; rfl) _) | (refine appV_fresh rfl trivial rfl ?_ ?_ ?_ ?_ ?_; (first | rfl | first | omega | (simp only [cId_len, cInt_len, cIt_len, List.length_take, List.length_drop, List.length_append, List.length_nil, List.length_cons]; omega) | (simp only [cId_len, cInt_len, cIt_len, List.length_take, List.length_drop, List.length_append, List.length_nil, List.length_cons])); (first | rfl | first | omega | (simp only [cId_len, cInt_len, cIt_len, List.length_take, List.length_drop, List.length_append, List.length_nil, List.length_cons]; omega) | (simp only [cId_len, cInt_len, cIt_len, List.length_take, List.length_drop, List.length_append, List.length_nil, List.length_cons]))) | (refine appD_fresh rfl trivial rfl ?_ ?_ ?_ ?_ ?_ ?_; omega; (first | rfl | first | omega | (simp only [cId_len, cInt_len, cIt_len, List.length_take, List.length_drop, List.length_append, List.length_nil, List.length_cons]; omega) | (simp only [cId_len, cInt_len, cIt_len, List.length_take, List.length_drop, List.length_append, List.length_nil, List.length_cons])); (first | rfl | first | omega | (simp only [cId_len, cInt_len, cIt_len, List.length_take, List.length_drop, List.length_append, List.length_nil, List.length_cons]; omega) | (simp only [cId_len, cInt_len, cIt_len, List.length_take, List.length_drop, List.length_append, List.length_nil, List.length_cons])))); (unfold maxLen; omega); omega)) <;> (try simp only [↓R1, R2, R3, keepF, initF, ps, pf, ev, slot, putF, guardC, CO.ods, optAll, evU, binV, binS, intV, intS, strV, strS, unV, unS, pickV, pickS, boolS, slv, intOfA, isIntA, isIntO, bnd, ldV, ldS, pcells, AV.fits, AV.one, AV.cells, putParts, partsS, fresh, nilOk, nilP, pickE, isLd, sqL, sqV, Nat.reduceEqDiff, Nat.reduceAdd, Nat.reduceMul, Nat.reduceSub, Nat.reduceLeDiff, Nat.reduceLT, reduceIte, reduceCtorEq, Int.reduceBNe, Int.reduceBEq, cIt, cQ, cIt_gA])) | (with_reducible refine And.intro ?_ ?_; (focus (first | omega | (intros; (repeat' (with_reducible apply And.intro)) <;> first | omega | (simp only [cId_len, cInt_len, cIt_len, List.length_take, List.length_drop, List.length_append]; omega))))) | (with_reducible apply And.intro) | ((first | refine Pu.to (pp) (wkL_refl _) ?_ | refine callDV_pu (pp) (wkL_refl _) ?_); (try simp only [↓R1, R2, R3, keepF, initF, ps, pf, ev, slot, putF, guardC, CO.ods, optAll, evU, binV, binS, intV, intS, strV, strS, unV, unS, pickV, pickS, boolS, slv, intOfA, isIntA, isIntO, bnd, ldV, ldS, pcells, AV.fits, AV.one, AV.cells, putParts, partsS, fresh, nilOk, nilP, pickE, isLd, sqL, sqV, Nat.reduceEqDiff, Nat.reduceAdd, Nat.reduceMul, Nat.reduceSub, Nat.reduceLeDiff, Nat.reduceLT, reduceIte, reduceCtorEq, Int.reduceBNe, Int.reduceBEq, cIt, cQ, cIt_gA])) | (refine Pu.to (pp) ?_ ?_; (focus ((repeat' (first | exact wk_refl _ | exact wk_nils | exact wk_tsl _ _ _ | exact wk_full _ _ | exact wkL.nil | exact wkL_refl _ | refine wk_tup ?_ | refine wk_agg ?_ | refine wkL.cons ?_ ?_)); done)); (try simp only [↓R1, R2, R3, keepF, initF, ps, pf, ev, slot, putF, guardC, CO.ods, optAll, evU, binV, binS, intV, intS, strV, strS, unV, unS, pickV, pickS, boolS, slv, intOfA, isIntA, isIntO, bnd, ldV, ldS, pcells, AV.fits, AV.one, AV.cells, putParts, partsS, fresh, nilOk, nilP, pickE, isLd, sqL, sqV, Nat.reduceEqDiff, Nat.reduceAdd, Nat.reduceMul, Nat.reduceSub, Nat.reduceLeDiff, Nat.reduceLT, reduceIte, reduceCtorEq, Int.reduceBNe, Int.reduceBEq, cIt, cQ, cIt_gA])))
  all_goals first | omega | exact Nat.le_refl _ | assumption | exact St.le_refl _ | (intros; (repeat' (with_reducible apply And.intro)) <;> first | omega | (simp only [cId_len, cInt_len, cIt_len, List.length_take, List.length_drop, List.length_append]; omega)) | (simp only [subF, slot, wk_refl, ↓R1, R2, R3, keepF, initF, ps, pf, ev, slot, putF, guardC, CO.ods, optAll, evU, binV, binS, intV, intS, strV, strS, unV, unS, pickV, pickS, boolS, slv, intOfA, isIntA, isIntO, bnd, ldV, ldS, pcells, AV.fits, AV.one, AV.cells, putParts, partsS, fresh, nilOk, nilP, pickE, isLd, sqL, sqV, Nat.reduceEqDiff, Nat.reduceAdd, Nat.reduceMul, Nat.reduceSub, Nat.reduceLeDiff, Nat.reduceLT, reduceIte, reduceCtorEq, Int.reduceBNe, Int.reduceBEq, cIt, cQ, cIt_gA]; (repeat' (with_reducible apply And.intro)) <;> first | exact wk_k (by have := maxLen_lt; omega) | exact wk_tsl _ _ _ | exact wk_full _ _ | exact wk_of_eq (congrArg (AV.tsl _ _) (flat_step (by assumption)))) | ((repeat (first | exact St.le_refl _ | (refine St.le_new ?_ (by assumption)) | (refine St.le_newT ?_ (by assumption)))); done) | (simp_all; done) | skip
  (refine endP_pu (by simp) (by first | (simp [rvsS, rvS]; done) | (simp only [rvsS, rvS, ↓R1, R2, R3, keepF, initF, ps, pf, ev, slot, putF, guardC, CO.ods, optAll, evU, binV, binS, intV, intS, strV, strS, unV, unS, pickV, pickS, boolS, slv, intOfA, isIntA, isIntO, bnd, ldV, ldS, pcells, AV.fits, AV.one, AV.cells, putParts, partsS, fresh, nilOk, nilP, pickE, isLd, sqL, sqV, Nat.reduceEqDiff, Nat.reduceAdd, Nat.reduceMul, Nat.reduceSub, Nat.reduceLeDiff, Nat.reduceLT, reduceIte, reduceCtorEq, Int.reduceBNe, Int.reduceBEq, cIt, cQ, cIt_gA]; try simp)) ?_ (by (repeat (first | exact St.le_refl _ | (refine St.le_new ?_ (by assumption)) | (refine St.le_newT ?_ (by assumption))))))
  simp only [resAV, rvV, List.map_cons, List.map_nil, ↓R1, R2, R3, keepF, initF, ps, pf, ev, slot, putF, guardC, CO.ods, optAll, evU, binV, binS, intV, intS, strV, strS, unV, unS, pickV, pickS, boolS, slv, intOfA, isIntA, isIntO, bnd, ldV, ldS, pcells, AV.fits, AV.one, AV.cells, putParts, partsS, fresh, nilOk, nilP, pickE, isLd, sqL, sqV, Nat.reduceEqDiff, Nat.reduceAdd, Nat.reduceMul, Nat.reduceSub, Nat.reduceLeDiff, Nat.reduceLT, reduceIte, reduceCtorEq, Int.reduceBNe, Int.reduceBEq, cIt, cQ, cIt_gA]
  (repeat' (first | exact wk_refl _ | exact wk_nils | exact wk_tsl _ _ _ | exact wk_full _ _ | exact wkL.nil | exact wkL_refl _ | refine wk_tup ?_ | refine wk_agg ?_ | refine wkL.cons ?_ ?_))
end Go.Proofs.Ytelmgkneacbneaa
