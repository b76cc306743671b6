/-
  QueueKeeps.
-/
import Derived.Test.YtelmgkneacbneaaQ11
import Derived.Test.YtelmgkneacbneaaCL
namespace Go.Proofs.Ytelmgkneacbneaa
open Go.Abs
set_option linter.all false
set_option maxRecDepth 100000

set_option maxHeartbeats 4000000 in
theorem law_QueueKeeps (p : Int) (l : List Int) (hp : -9223372036854775808 ≤ p ∧ p ≤ 9223372036854775807) (hl : i64s l) (hm : l.length ≤ maxLen) : Pu Try.prog 7 [.int .i64 p, sl cInt l] (.bool true) := by
  obtain ⟨m, hm1⟩ : ∃ m : Nat, p % 21 = m := ⟨(p % 21).toNat, by have := Int.emod_nonneg p (show (21 : Int) ≠ 0 by omega); omega⟩
  have hm2 : m ≤ 20 := by have := Int.emod_lt_of_pos p (show (0 : Int) < 21 by omega); omega
  have pm := p29 p 21 hp (by omega)
  rw [hm1] at pm
  have okI := itemsL_okL l
  have okK := keptQ_ok m (itemsL l) (by omega) okI
  have pb : Pu Try.prog 25 [.int .i64 m, .sl false (itemsL l).length ((itemsL l).flatMap cIt)] (.tup [.agg (cQ (keptQ m (itemsL l))), .int .i64 (min m (itemsL l).length : Nat)]) := p25 m (itemsL l) (by omega) okI
  have pi := t30 l hl hm
  have p3 := p31 (keptQ m (itemsL l)) okK.2
  have p4 := p28 (keptQ m (itemsL l)) 64 okK.2
  have hpl := kept_plain m l
  obtain ⟨f1, f2, f3, f4, f5, f6⟩ := quE_ok okK.1
  have hI0 : (keptQ m (itemsL l)).items.length = min m (itemsL l).length := by simp [keptQ]
  have hA := poll_all (keptQ m (itemsL l)) 64 f3
  have hq0 : allL (pollQ (keptQ m (itemsL l)) 64) = [] := by
    have hn : pollN (keptQ m (itemsL l)) 64 = (keptQ m (itemsL l)).items.length := by unfold pollN; omega
    unfold allL pollQ
    rw [hn]
    by_cases hd : 0 < (keptQ m (itemsL l)).dropped
    · have hb : pollB (keptQ m (itemsL l)) 64 = true := by simp [pollB, hn, hd]; omega
      simp [hb]
    · simp [hd]; split <;> omega
  rw [hq0, List.append_nil] at hA
  have hQ : pollQ (keptQ m (itemsL l)) 64 = ⟨m, [], 0⟩ := by
    have h0 : (pollQ (keptQ m (itemsL l)) 64).items = [] ∧ ¬ 0 < (pollQ (keptQ m (itemsL l)) 64).dropped := by
      unfold allL at hq0
      simp only [List.append_eq_nil_iff] at hq0
      refine ⟨hq0.1, fun hd => ?_⟩
      have := hq0.2
      rw [if_pos hd] at this
      cases this
    have hdn : 0 ≤ (pollQ (keptQ m (itemsL l)) 64).dropped := by unfold pollQ; simp only; split <;> omega
    have ho : (pollQ (keptQ m (itemsL l)) 64).out = m := rfl
    generalize pollQ (keptQ m (itemsL l)) 64 = Q at *
    obtain ⟨o, i, d⟩ := Q
    simp only at h0 hdn ho
    rw [ho, h0.1]
    congr 1; omega
  have hAfit : itsFit (allL (keptQ m (itemsL l))) := allL_fit okK.2 (by have := okI.2.2; omega)
  have p5 := p34 (allL (keptQ m (itemsL l))) hAfit
  have hD0 : (keptQ m (itemsL l)).dropped = ((itemsL l).length - min m (itemsL l).length : Nat) := rfl
  have htold : told (allL (keptQ m (itemsL l))) = (((min m (itemsL l).length : Nat) : Int), (((itemsL l).length - min m (itemsL l).length : Nat) : Int)) ∧ firstE itE (allL (keptQ m (itemsL l))) = 0 := by
    unfold told allL
    by_cases hd : 0 < (keptQ m (itemsL l)).dropped
    · rw [if_pos hd, List.foldl_append, told_plain hpl]
      refine ⟨?_, firstE_app f6 (notice_ok (by omega) f4)⟩
      simp only [List.foldl_cons, List.foldl_nil, toldS, noticeIt, if_true, and_self, Prod.mk.injEq]
      rw [hI0, hD0]
      refine ⟨by omega, by omega⟩
    · rw [if_neg hd, List.append_nil, told_plain hpl]
      refine ⟨?_, f6⟩
      simp only [Prod.mk.injEq]
      rw [hI0]
      refine ⟨by omega, by omega⟩
  have hAl : (allL (keptQ m (itemsL l))).length = min m (itemsL l).length + (if 0 < (itemsL l).length - min m (itemsL l).length then 1 else 0) := by
    unfold allL
    rw [List.length_append, hI0, hD0]
    by_cases hd : 0 < (itemsL l).length - min m (itemsL l).length
    · rw [if_pos hd, if_pos (by omega)]; rfl
    · rw [if_neg hd, if_neg (by omega)]; rfl
  simp only [toldV, htold.2, htold.1, ne_eq, not_true_eq_false, if_false] at p5
  simp only [allV, okK.1, ne_eq, not_true_eq_false, if_false] at p3
  have hfl : ¬ ((64 : Int) < 1 ∨ (64 : Int) < 64) := by omega
  simp only [pollV, okK.1, ne_eq, not_true_eq_false, if_false, if_neg hfl, show (64 : Int).toNat = 64 from rfl, hQ, hA] at p4
  have s1 : Pu Try.prog 23 [sl cIt (allL (keptQ m (itemsL l))), sl cIt (allL (keptQ m (itemsL l)))] (.bool true) := by simpa using p23 _ (allL (keptQ m (itemsL l))) hAfit
  have s2 : Pu Try.prog 23 [sl cIt (keptQ m (itemsL l)).items, sl cIt (keptQ m (itemsL l)).items] (.bool true) := by simpa using p23 _ (keptQ m (itemsL l)).items okK.2
  have hsl : sl cIt (keptQ m (itemsL l)).items = .sl false (min m (itemsL l).length) (List.take (min m (itemsL l).length * 7) ((itemsL l).flatMap cIt)) := by
    unfold sl
    rw [hI0]
    congr 1
    have e1 : (keptQ m (itemsL l)).items = (itemsL l).take (min m (itemsL l).length) := by
      unfold keptQ; simp only
      rw [show min m (itemsL l).length = min m (itemsL l).length from rfl, ← List.take_length (l := itemsL l), List.take_take, List.take_length]
    rw [e1, flat_take (f := cIt) (s := 7) (fun _ => rfl)]
  have s3 : Pu Try.prog 23 [sl cIt (keptQ m (itemsL l)).items, .sl false (min m (itemsL l).length) (List.take (min m (itemsL l).length * 7) ((itemsL l).flatMap cIt))] (.bool true) := by rw [← hsl]; exact s2
  have hL30 := okI.2.2
  have hcl := cIt_len (itemsL l)
  generalize hNe : min m (itemsL l).length = N at *
  generalize hLe : (itemsL l).length = Ln at *
  have hN : (if (Ln : Int) < (m : Int) then (Ln : Int) else (m : Int)) = (N : Int) := by split <;> omega
  have hI : (keptQ m (itemsL l)).items.length = N := hI0
  have hW : IntKind.i64.wrap ((Ln : Int) - (N : Int)) = ((Ln - N : Nat) : Int) := by rw [wrap64 (by omega) (by omega)]; omega
  have hT : (keptQ m (itemsL l)).dropped = ((Ln - N : Nat) : Int) := hD0
  simp only [cQ, hT] at pb p3 p4
  clear hpl hA hq0 hQ hAfit htold hD0 hNe
  (refine Pu_intro c7 b7 (Nat.le_of_ble_eq_true rfl) fun σ => ?_; simp only [c7, ↓R1, R2, R3, keepF, initF, ps, pf, ev, slot, putF, guardC, CO.ods, optAll, evU, binV, binS, intV, intS, strV, strS, unV, unS, pickV, pickS, boolS, slv, intOfA, isIntA, isIntO, bnd, ldV, ldS, pcells, AV.fits, AV.one, AV.cells, putParts, partsS, fresh, nilOk, nilP, pickE, isLd, sqL, sqV, Nat.reduceEqDiff, Nat.reduceAdd, Nat.reduceMul, Nat.reduceSub, Nat.reduceLeDiff, Nat.reduceLT, reduceIte, reduceCtorEq, Int.reduceBNe, Int.reduceBEq, cIt, cIt_gA, hN, hI, hW, hT, Int.toNat_natCast])
  repeat' (first | (with_reducible rw [allocV_eq]) | (refine gdV_split (fun hc => ?_) (fun hc => ?_) <;> (try simp only [hc, ↓R1, R2, R3, keepF, initF, ps, pf, ev, slot, putF, guardC, CO.ods, optAll, evU, binV, binS, intV, intS, strV, strS, unV, unS, pickV, pickS, boolS, slv, intOfA, isIntA, isIntO, bnd, ldV, ldS, pcells, AV.fits, AV.one, AV.cells, putParts, partsS, fresh, nilOk, nilP, pickE, isLd, sqL, sqV, Nat.reduceEqDiff, Nat.reduceAdd, Nat.reduceMul, Nat.reduceSub, Nat.reduceLeDiff, Nat.reduceLT, reduceIte, reduceCtorEq, Int.reduceBNe, Int.reduceBEq, cIt, cIt_gA, hN, hI, hW, hT, Int.toNat_natCast])) | ((first | refine condV_split (fun hc => ?_) (fun hc => ?_) | (with_reducible intro β hβ; (try simp only [St.box_noneA, St.tip_noneA, St.tip_set, St.box_tip] at hβ); (repeat (obtain ⟨⟨_, _⟩, hβ⟩ := hβ)); (try (have hbis := apart_is (by assumption) hβ; obtain ⟨_, _⟩ := hbis))) | ((first | (refine appV_tslK rfl ?_ ?_ ?_ ?_ ?_ ?_; (first | rfl | exact St.tip_same _ _ _ | (simp only [↓R1, R2, R3, keepF, initF, ps, pf, ev, slot, putF, guardC, CO.ods, optAll, evU, binV, binS, intV, intS, strV, strS, unV, unS, pickV, pickS, boolS, slv, intOfA, isIntA, isIntO, bnd, ldV, ldS, pcells, AV.fits, AV.one, AV.cells, putParts, partsS, fresh, nilOk, nilP, pickE, isLd, sqL, sqV, Nat.reduceEqDiff, Nat.reduceAdd, Nat.reduceMul, Nat.reduceSub, Nat.reduceLeDiff, Nat.reduceLT, reduceIte, reduceCtorEq, Int.reduceBNe, Int.reduceBEq, cIt, cIt_gA, hN, hI, hW, hT, Int.toNat_natCast])); (first | omega | (simp only [cId_len, cInt_len, cIt_len, List.length_take, List.length_drop, List.length_append, List.length_nil, List.length_cons]; omega) | (simp only [cId_len, cInt_len, cIt_len, List.length_take, List.length_drop, List.length_append, List.length_nil, List.length_cons])); (first | rfl | first | omega | (simp only [cId_len, cInt_len, cIt_len, List.length_take, List.length_drop, List.length_append, List.length_nil, List.length_cons]; omega) | (simp only [cId_len, cInt_len, cIt_len, List.length_take, List.length_drop, List.length_append, List.length_nil, List.length_cons]))) | (refine appV_own ?_ ?_ ?_ ?_; exact flat_len (by intro _; rfl) _) | (refine appD_own ?_ ?_ ?_ ?_ ?_; omega; exact flat_len (by intro _; rfl) _) | (refine appV_fresh rfl trivial rfl ?_ ?_ ?_ ?_ ?_; (first | rfl | first | omega | (simp only [cId_len, cInt_len, cIt_len, List.length_take, List.length_drop, List.length_append, List.length_nil, List.length_cons]; omega) | (simp only [cId_len, cInt_len, cIt_len, List.length_take, List.length_drop, List.length_append, List.length_nil, List.length_cons])); (first | rfl | first | omega | (simp only [cId_len, cInt_len, cIt_len, List.length_take, List.length_drop, List.length_append, List.length_nil, List.length_cons]; omega) | (simp only [cId_len, cInt_len, cIt_len, List.length_take, List.length_drop, List.length_append, List.length_nil, List.length_cons]))) | (refine appD_fresh rfl trivial rfl ?_ ?_ ?_ ?_ ?_ ?_; omega; (first | rfl | first | omega | (simp only [cId_len, cInt_len, cIt_len, List.length_take, List.length_drop, List.length_append, List.length_nil, List.length_cons]; omega) | (simp only [cId_len, cInt_len, cIt_len, List.length_take, List.length_drop, List.length_append, List.length_nil, List.length_cons])); (first | rfl | first | omega | (simp only [cId_len, cInt_len, cIt_len, List.length_take, List.length_drop, List.length_append, List.length_nil, List.length_cons]; omega) | (simp only [cId_len, cInt_len, cIt_len, List.length_take, List.length_drop, List.length_append, List.length_nil, List.length_cons])))); (unfold maxLen; omega); omega)) <;> (try simp only [↓R1, R2, R3, keepF, initF, ps, pf, ev, slot, putF, guardC, CO.ods, optAll, evU, binV, binS, intV, intS, strV, strS, unV, unS, pickV, pickS, boolS, slv, intOfA, isIntA, isIntO, bnd, ldV, ldS, pcells, AV.fits, AV.one, AV.cells, putParts, partsS, fresh, nilOk, nilP, pickE, isLd, sqL, sqV, Nat.reduceEqDiff, Nat.reduceAdd, Nat.reduceMul, Nat.reduceSub, Nat.reduceLeDiff, Nat.reduceLT, reduceIte, reduceCtorEq, Int.reduceBNe, Int.reduceBEq, cIt, cIt_gA, hN, hI, hW, hT, Int.toNat_natCast])) | (with_reducible refine And.intro ?_ ?_; (focus (first | omega | (intros; (repeat' (with_reducible apply And.intro)) <;> first | omega | (simp only [cId_len, cInt_len, cIt_len, List.length_take, List.length_drop, List.length_append]; omega))))) | (with_reducible apply And.intro) | ((first | refine Pu.to (known_pu) (wkL_refl _) ?_ | refine callDV_pu (known_pu) (wkL_refl _) ?_ | refine Pu.to (pm) (wkL_refl _) ?_ | refine callDV_pu (pm) (wkL_refl _) ?_ | refine Pu.to (p3) (wkL_refl _) ?_ | refine callDV_pu (p3) (wkL_refl _) ?_ | refine Pu.to (p4) (wkL_refl _) ?_ | refine callDV_pu (p4) (wkL_refl _) ?_ | refine Pu.to (p5) (wkL_refl _) ?_ | refine callDV_pu (p5) (wkL_refl _) ?_ | refine Pu.to (s1) (wkL_refl _) ?_ | refine callDV_pu (s1) (wkL_refl _) ?_ | refine Pu.to (s2) (wkL_refl _) ?_ | refine callDV_pu (s2) (wkL_refl _) ?_ | (refine callGV_pu (fun hgv => ⟨?_, (s1), wkL_refl _⟩) ?_; (first | trivial | (focus (simp only [↓R1, R2, R3, keepF, initF, ps, pf, ev, slot, putF, guardC, CO.ods, optAll, evU, binV, binS, intV, intS, strV, strS, unV, unS, pickV, pickS, boolS, slv, intOfA, isIntA, isIntO, bnd, ldV, ldS, pcells, AV.fits, AV.one, AV.cells, putParts, partsS, fresh, nilOk, nilP, pickE, isLd, sqL, sqV, Nat.reduceEqDiff, Nat.reduceAdd, Nat.reduceMul, Nat.reduceSub, Nat.reduceLeDiff, Nat.reduceLT, reduceIte, reduceCtorEq, Int.reduceBNe, Int.reduceBEq, cIt, cIt_gA, hN, hI, hW, hT, Int.toNat_natCast]; done)))) | (refine callGV_pu (fun hgv => ⟨?_, (s3), wkL_refl _⟩) ?_; (first | trivial | (focus (simp only [↓R1, R2, R3, keepF, initF, ps, pf, ev, slot, putF, guardC, CO.ods, optAll, evU, binV, binS, intV, intS, strV, strS, unV, unS, pickV, pickS, boolS, slv, intOfA, isIntA, isIntO, bnd, ldV, ldS, pcells, AV.fits, AV.one, AV.cells, putParts, partsS, fresh, nilOk, nilP, pickE, isLd, sqL, sqV, Nat.reduceEqDiff, Nat.reduceAdd, Nat.reduceMul, Nat.reduceSub, Nat.reduceLeDiff, Nat.reduceLT, reduceIte, reduceCtorEq, Int.reduceBNe, Int.reduceBEq, cIt, cIt_gA, hN, hI, hW, hT, Int.toNat_natCast]; done)))) | refine Pu.to (s3) (wkL_refl _) ?_ | refine callDV_pu (s3) (wkL_refl _) ?_); (try simp only [↓R1, R2, R3, keepF, initF, ps, pf, ev, slot, putF, guardC, CO.ods, optAll, evU, binV, binS, intV, intS, strV, strS, unV, unS, pickV, pickS, boolS, slv, intOfA, isIntA, isIntO, bnd, ldV, ldS, pcells, AV.fits, AV.one, AV.cells, putParts, partsS, fresh, nilOk, nilP, pickE, isLd, sqL, sqV, Nat.reduceEqDiff, Nat.reduceAdd, Nat.reduceMul, Nat.reduceSub, Nat.reduceLeDiff, Nat.reduceLT, reduceIte, reduceCtorEq, Int.reduceBNe, Int.reduceBEq, cIt, cIt_gA, hN, hI, hW, hT, Int.toNat_natCast])) | (refine Tp.to ( pi) ?_ ?_; (focus ((repeat' (first | exact wk_refl _ | exact wk_nils | exact wk_tsl _ _ _ | exact wk_full _ _ | exact wkL.nil | exact wkL_refl _ | refine wk_tup ?_ | refine wk_agg ?_ | refine wkL.cons ?_ ?_)); done)); intro τ hβ; (try simp only [St.box_noneA, St.tip_noneA, St.tip_set, St.box_tip] at hβ); (repeat (obtain ⟨⟨_, _⟩, hβ⟩ := hβ)); (try (have hbis := apart_is (by assumption) hβ; obtain ⟨_, _⟩ := hbis)); (try simp only [↓R1, R2, R3, keepF, initF, ps, pf, ev, slot, putF, guardC, CO.ods, optAll, evU, binV, binS, intV, intS, strV, strS, unV, unS, pickV, pickS, boolS, slv, intOfA, isIntA, isIntO, bnd, ldV, ldS, pcells, AV.fits, AV.one, AV.cells, putParts, partsS, fresh, nilOk, nilP, pickE, isLd, sqL, sqV, Nat.reduceEqDiff, Nat.reduceAdd, Nat.reduceMul, Nat.reduceSub, Nat.reduceLeDiff, Nat.reduceLT, reduceIte, reduceCtorEq, Int.reduceBNe, Int.reduceBEq, cIt, cIt_gA, hN, hI, hW, hT, Int.toNat_natCast])) | (refine Pu.to (pb) ?_ ?_; (focus ((repeat' (first | exact wk_refl _ | exact wk_nils | exact wk_tsl _ _ _ | exact wk_full _ _ | exact wkL.nil | exact wkL_refl _ | refine wk_tup ?_ | refine wk_agg ?_ | refine wkL.cons ?_ ?_)); done)); (try simp only [↓R1, R2, R3, keepF, initF, ps, pf, ev, slot, putF, guardC, CO.ods, optAll, evU, binV, binS, intV, intS, strV, strS, unV, unS, pickV, pickS, boolS, slv, intOfA, isIntA, isIntO, bnd, ldV, ldS, pcells, AV.fits, AV.one, AV.cells, putParts, partsS, fresh, nilOk, nilP, pickE, isLd, sqL, sqV, Nat.reduceEqDiff, Nat.reduceAdd, Nat.reduceMul, Nat.reduceSub, Nat.reduceLeDiff, Nat.reduceLT, reduceIte, reduceCtorEq, Int.reduceBNe, Int.reduceBEq, cIt, cIt_gA, hN, hI, hW, hT, Int.toNat_natCast])))
  all_goals first | omega | exact Nat.le_refl _ | assumption | exact St.le_refl _ | (intros; (repeat' (with_reducible apply And.intro)) <;> first | omega | (simp only [cId_len, cInt_len, cIt_len, List.length_take, List.length_drop, List.length_append]; omega)) | (simp only [subF, slot, wk_refl, ↓R1, R2, R3, keepF, initF, ps, pf, ev, slot, putF, guardC, CO.ods, optAll, evU, binV, binS, intV, intS, strV, strS, unV, unS, pickV, pickS, boolS, slv, intOfA, isIntA, isIntO, bnd, ldV, ldS, pcells, AV.fits, AV.one, AV.cells, putParts, partsS, fresh, nilOk, nilP, pickE, isLd, sqL, sqV, Nat.reduceEqDiff, Nat.reduceAdd, Nat.reduceMul, Nat.reduceSub, Nat.reduceLeDiff, Nat.reduceLT, reduceIte, reduceCtorEq, Int.reduceBNe, Int.reduceBEq, cIt, cIt_gA, hN, hI, hW, hT, Int.toNat_natCast]; (repeat' (with_reducible apply And.intro)) <;> first | exact wk_k (by have := maxLen_lt; omega) | exact wk_tsl _ _ _ | exact wk_full _ _ | exact wk_of_eq (congrArg (AV.tsl _ _) (flat_step (by assumption)))) | ((repeat (first | exact St.le_refl _ | (refine St.le_new ?_ (by assumption)) | (refine St.le_newT ?_ (by assumption)))); done) | (simp_all; done) | skip
  (refine endP_pu (by simp) (by first | (simp [rvsS, rvS]; done) | (simp only [rvsS, rvS, ↓R1, R2, R3, keepF, initF, ps, pf, ev, slot, putF, guardC, CO.ods, optAll, evU, binV, binS, intV, intS, strV, strS, unV, unS, pickV, pickS, boolS, slv, intOfA, isIntA, isIntO, bnd, ldV, ldS, pcells, AV.fits, AV.one, AV.cells, putParts, partsS, fresh, nilOk, nilP, pickE, isLd, sqL, sqV, Nat.reduceEqDiff, Nat.reduceAdd, Nat.reduceMul, Nat.reduceSub, Nat.reduceLeDiff, Nat.reduceLT, reduceIte, reduceCtorEq, Int.reduceBNe, Int.reduceBEq, cIt, cIt_gA, hN, hI, hW, hT, Int.toNat_natCast]; try simp)) (wk_of_eq ?_) (by (repeat (first | exact St.le_refl _ | (refine St.le_new ?_ (by assumption)) | (refine St.le_newT ?_ (by assumption))))))
  (simp only [resAV, rvV, List.map_cons, List.map_nil, ↓R1, R2, R3, keepF, initF, ps, pf, ev, slot, putF, guardC, CO.ods, optAll, evU, binV, binS, intV, intS, strV, strS, unV, unS, pickV, pickS, boolS, slv, intOfA, isIntA, isIntO, bnd, ldV, ldS, pcells, AV.fits, AV.one, AV.cells, putParts, partsS, fresh, nilOk, nilP, pickE, isLd, sqL, sqV, Nat.reduceEqDiff, Nat.reduceAdd, Nat.reduceMul, Nat.reduceSub, Nat.reduceLeDiff, Nat.reduceLT, reduceIte, reduceCtorEq, Int.reduceBNe, Int.reduceBEq, cIt, cIt_gA, hN, hI, hW, hT, Int.toNat_natCast])
  have hw : IntKind.i64.wrap ((N : Int) + (if ((Ln - N : Nat) : Int) < 1 then ((Ln - N : Nat) : Int) else 1)) = (allL (keptQ m (itemsL l))).length := by
    rw [hAl, wrap64 (by split <;> omega) (by split <;> omega)]
    split <;> split <;> omega
  simp only [hw, beq_self_eq_true]
end Go.Proofs.Ytelmgkneacbneaa
