/-
  Queues: QueueKeeps.
-/
import Derived.Test.YtelmgkneacbneaaQ10
namespace Go.Proofs.Ytelmgkneacbneaa
open Go.Abs
set_option linter.all false
set_option maxRecDepth 100000

theorem fresh_ok {p : Int} (h0 : 0 ≤ p) (h1 : p ≤ 64) : quE ⟨p, [], 0⟩ = 0 := by
  unfold quE
  simp only [List.length_nil]
  rw [if_neg (by omega), if_neg (by omega)]; rfl
def keptQ (p : Nat) (l : List It) : Qu := ⟨p, l.take p, (l.length - min p l.length : Nat)⟩
theorem putAll_closed (p : Nat) (l : List It) (hl : l.length ≤ 4096) (k : Nat) (hk : k ≤ l.length) : putAll ⟨p, [], 0⟩ (l.take k) = (⟨p, (l.take k).take p, (k - min p k : Nat)⟩, min p k) := by
  induction k with
  | zero => simp [putAll]
  | succ k ih =>
    have ih := ih (by omega)
    have hk' : k < l.length := by omega
    unfold putAll at *
    rw [foldl_step _ _ hk', ih]
    have hlen : ((l.take k).take p).length = min p k := by simp; omega
    by_cases hp : k < p
    · have hb : fullB (⟨p, (l.take k).take p, (k - min p k : Nat)⟩ : Qu) = false := by
        simp only [fullB, hlen]; simp; omega
      simp only [putS, hb, Bool.false_eq_true, if_false, if_true]
      simp only [Prod.mk.injEq, Qu.mk.injEq, true_and]
      refine ⟨⟨?_, ?_⟩, ?_⟩
      rotate_left
      · omega
      · omega
      have e1 : (l.take k).take p = l.take k := List.take_of_length_le (by simp; omega)
      have e2 : (l.take (k + 1)).take p = l.take (k + 1) := List.take_of_length_le (by simp; omega)
      rw [e1, e2, List.take_append_getElem hk']
    · have hb : fullB (⟨p, (l.take k).take p, (k - min p k : Nat)⟩ : Qu) = true := by
        simp only [fullB, hlen]; simp; omega
      simp only [putS, hb, if_true, dropS, Bool.false_eq_true, if_false]
      simp only [Prod.mk.injEq, Qu.mk.injEq, true_and]
      refine ⟨⟨?_, ?_⟩, by omega⟩
      · rw [List.take_take, List.take_take]
        congr 1; omega
      · rw [if_pos (by omega)]; omega
theorem putAll_kept (p : Nat) (l : List It) (hl : l.length ≤ 4096) : putAll ⟨p, [], 0⟩ l = (keptQ p l, min p l.length) := by
  have := putAll_closed p l hl l.length (Nat.le_refl _)
  rw [List.take_length] at this
  exact this
theorem firstE_zero {f : It → Int} : ∀ {l : List It}, (∀ x ∈ l, f x = 0) → firstE f l = 0
  | [], _ => rfl
  | x :: l, h => by
    unfold firstE
    rw [if_neg (by simp [h x (by simp)])]
    exact firstE_zero fun y hy => h y (by simp [hy])
def okL (l : List It) : Prop := itsFit l ∧ (∀ x ∈ l, itE x = 0) ∧ l.length ≤ 80
theorem p25 (p : Nat) (l : List It) (hp : p ≤ 64) (hl : okL l) : Pu Try.prog 25 [.int .i64 p, sl cIt l] (.tup [.agg (cQ (keptQ p l)), .int .i64 (min p l.length : Nat)]) := by
  obtain ⟨h1, h2, h3⟩ := hl
  have e0 := fresh_ok (p := p) (by omega) (by omega)
  have e1 := firstE_zero h2
  have p1 := p12 p
  have p2 := p17 ⟨p, [], 0⟩ l nilFit h1
  simp only [newV, if_neg (show ¬ ((p : Int) < 0 ∨ 64 < (p : Int)) by omega)] at p1
  simp only [putAllV, e0, e1, ne_eq, not_true_eq_false, if_false, putAll_kept p l (by omega)] at p2
  (refine Pu_intro c25 b25 (Nat.le_of_ble_eq_true rfl) fun σ => ?_; simp only [c25, ↓R1, R2, R3, keepF, initF, ps, pf, ev, slot, putF, guardC, CO.ods, optAll, evU, binV, binS, intV, intS, strV, strS, unV, unS, pickV, pickS, boolS, slv, intOfA, isIntA, isIntO, bnd, ldV, ldS, pcells, AV.fits, AV.one, AV.cells, putParts, partsS, fresh, nilOk, nilP, pickE, isLd, sqL, sqV, Nat.reduceEqDiff, Nat.reduceAdd, Nat.reduceMul, Nat.reduceSub, Nat.reduceLeDiff, Nat.reduceLT, reduceIte, reduceCtorEq, Int.reduceBNe, Int.reduceBEq, cIt, cQ, cIt_gA])
  simp only [cQ] at p1 p2
  repeat' (first | (with_reducible rw [allocV_eq]) | (refine gdV_split (fun hc => ?_) (fun hc => ?_) <;> (try simp only [hc, ↓R1, R2, R3, keepF, initF, ps, pf, ev, slot, putF, guardC, CO.ods, optAll, evU, binV, binS, intV, intS, strV, strS, unV, unS, pickV, pickS, boolS, slv, intOfA, isIntA, isIntO, bnd, ldV, ldS, pcells, AV.fits, AV.one, AV.cells, putParts, partsS, fresh, nilOk, nilP, pickE, isLd, sqL, sqV, Nat.reduceEqDiff, Nat.reduceAdd, Nat.reduceMul, Nat.reduceSub, Nat.reduceLeDiff, Nat.reduceLT, reduceIte, reduceCtorEq, Int.reduceBNe, Int.reduceBEq, cIt, cQ, cIt_gA])) | ((first | refine condV_split (fun hc => ?_) (fun hc => ?_) | (with_reducible intro β hβ; (try simp only [St.box_noneA, St.tip_noneA, St.tip_set, St.box_tip] at hβ); (repeat (obtain ⟨⟨_, _⟩, hβ⟩ := hβ)); (try (have hbis := apart_is (by assumption) hβ; obtain ⟨_, _⟩ := hbis))) | ((first | (refine appV_tslK rfl ?_ ?_ ?_ ?_ ?_ ?_; (first | rfl | exact St.tip_same _ _ _ | (simp only [↓R1, R2, R3, keepF, initF, ps, pf, ev, slot, putF, guardC, CO.ods, optAll, evU, binV, binS, intV, intS, strV, strS, unV, unS, pickV, pickS, boolS, slv, intOfA, isIntA, isIntO, bnd, ldV, ldS, pcells, AV.fits, AV.one, AV.cells, putParts, partsS, fresh, nilOk, nilP, pickE, isLd, sqL, sqV, Nat.reduceEqDiff, Nat.reduceAdd, Nat.reduceMul, Nat.reduceSub, Nat.reduceLeDiff, Nat.reduceLT, reduceIte, reduceCtorEq, Int.reduceBNe, Int.reduceBEq, cIt, cQ, cIt_gA])); (first | omega | (simp only [cId_len, cInt_len, cIt_len, List.length_take, List.length_drop, List.length_append, List.length_nil, List.length_cons]; omega) | (simp only [cId_len, cInt_len, cIt_len, List.length_take, List.length_drop, List.length_append, List.length_nil, List.length_cons])); (first | rfl | first | omega | (simp only [cId_len, cInt_len, cIt_len, List.length_take, List.length_drop, List.length_append, List.length_nil, List.length_cons]; omega) | (simp only [cId_len, cInt_len, cIt_len, List.length_take, List.length_drop, List.length_append, List.length_nil, List.length_cons]))) | (refine appV_own ?_ ?_ ?_ ?_; exact flat_len (by intro _; rfl) _) | (refine appD_own ?_ ?_ ?_ ?_ ?_; omega; exact flat_len (by intro _; rfl) _) | (refine appV_fresh rfl trivial rfl ?_ ?_ ?_ ?_ ?_; (first | rfl | first | omega | (simp only [cId_len, cInt_len, cIt_len, List.length_take, List.length_drop, List.length_append, List.length_nil, List.length_cons]; omega) | (simp only [cId_len, cInt_len, cIt_len, List.length_take, List.length_drop, List.length_append, List.length_nil, List.length_cons])); (first | rfl | first | omega | (simp only [cId_len, cInt_len, cIt_len, List.length_take, List.length_drop, List.length_append, List.length_nil, List.length_cons]; omega) | (simp only [cId_len, cInt_len, cIt_len, List.length_take, List.length_drop, List.length_append, List.length_nil, List.length_cons]))) | (refine appD_fresh rfl trivial rfl ?_ ?_ ?_ ?_ ?_ ?_; omega; (first | rfl | first | omega | (simp only [cId_len, cInt_len, cIt_len, List.length_take, List.length_drop, List.length_append, List.length_nil, List.length_cons]; omega) | (simp only [cId_len, cInt_len, cIt_len, List.length_take, List.length_drop, List.length_append, List.length_nil, List.length_cons])); (first | rfl | first | omega | (simp only [cId_len, cInt_len, cIt_len, List.length_take, List.length_drop, List.length_append, List.length_nil, List.length_cons]; omega) | (simp only [cId_len, cInt_len, cIt_len, List.length_take, List.length_drop, List.length_append, List.length_nil, List.length_cons])))); (unfold maxLen; omega); omega)) <;> (try simp only [↓R1, R2, R3, keepF, initF, ps, pf, ev, slot, putF, guardC, CO.ods, optAll, evU, binV, binS, intV, intS, strV, strS, unV, unS, pickV, pickS, boolS, slv, intOfA, isIntA, isIntO, bnd, ldV, ldS, pcells, AV.fits, AV.one, AV.cells, putParts, partsS, fresh, nilOk, nilP, pickE, isLd, sqL, sqV, Nat.reduceEqDiff, Nat.reduceAdd, Nat.reduceMul, Nat.reduceSub, Nat.reduceLeDiff, Nat.reduceLT, reduceIte, reduceCtorEq, Int.reduceBNe, Int.reduceBEq, cIt, cQ, cIt_gA])) | (with_reducible refine And.intro ?_ ?_; (focus (first | omega | (intros; (repeat' (with_reducible apply And.intro)) <;> first | omega | (simp only [cId_len, cInt_len, cIt_len, List.length_take, List.length_drop, List.length_append]; omega))))) | (with_reducible apply And.intro) | ((first | refine Pu.to (p1) (wkL_refl _) ?_ | refine callDV_pu (p1) (wkL_refl _) ?_); (try simp only [↓R1, R2, R3, keepF, initF, ps, pf, ev, slot, putF, guardC, CO.ods, optAll, evU, binV, binS, intV, intS, strV, strS, unV, unS, pickV, pickS, boolS, slv, intOfA, isIntA, isIntO, bnd, ldV, ldS, pcells, AV.fits, AV.one, AV.cells, putParts, partsS, fresh, nilOk, nilP, pickE, isLd, sqL, sqV, Nat.reduceEqDiff, Nat.reduceAdd, Nat.reduceMul, Nat.reduceSub, Nat.reduceLeDiff, Nat.reduceLT, reduceIte, reduceCtorEq, Int.reduceBNe, Int.reduceBEq, cIt, cQ, cIt_gA])) | (refine Pu.to (p2) ?_ ?_; (focus ((repeat' (first | exact wk_refl _ | exact wk_nils | exact wk_tsl _ _ _ | exact wk_full _ _ | exact wkL.nil | exact wkL_refl _ | refine wk_tup ?_ | refine wk_agg ?_ | refine wkL.cons ?_ ?_)); done)); (try simp only [↓R1, R2, R3, keepF, initF, ps, pf, ev, slot, putF, guardC, CO.ods, optAll, evU, binV, binS, intV, intS, strV, strS, unV, unS, pickV, pickS, boolS, slv, intOfA, isIntA, isIntO, bnd, ldV, ldS, pcells, AV.fits, AV.one, AV.cells, putParts, partsS, fresh, nilOk, nilP, pickE, isLd, sqL, sqV, Nat.reduceEqDiff, Nat.reduceAdd, Nat.reduceMul, Nat.reduceSub, Nat.reduceLeDiff, Nat.reduceLT, reduceIte, reduceCtorEq, Int.reduceBNe, Int.reduceBEq, cIt, cQ, cIt_gA])))
  (refine endP_pu (by simp) (by first | (simp [rvsS, rvS]; done) | (simp only [rvsS, rvS, ↓R1, R2, R3, keepF, initF, ps, pf, ev, slot, putF, guardC, CO.ods, optAll, evU, binV, binS, intV, intS, strV, strS, unV, unS, pickV, pickS, boolS, slv, intOfA, isIntA, isIntO, bnd, ldV, ldS, pcells, AV.fits, AV.one, AV.cells, putParts, partsS, fresh, nilOk, nilP, pickE, isLd, sqL, sqV, Nat.reduceEqDiff, Nat.reduceAdd, Nat.reduceMul, Nat.reduceSub, Nat.reduceLeDiff, Nat.reduceLT, reduceIte, reduceCtorEq, Int.reduceBNe, Int.reduceBEq, cIt, cQ, cIt_gA]; try simp)) ?_ (by (repeat (first | exact St.le_refl _ | (refine St.le_new ?_ (by assumption)) | (refine St.le_newT ?_ (by assumption))))))
  simp only [resAV, rvV, List.map_cons, List.map_nil, ↓R1, R2, R3, keepF, initF, ps, pf, ev, slot, putF, guardC, CO.ods, optAll, evU, binV, binS, intV, intS, strV, strS, unV, unS, pickV, pickS, boolS, slv, intOfA, isIntA, isIntO, bnd, ldV, ldS, pcells, AV.fits, AV.one, AV.cells, putParts, partsS, fresh, nilOk, nilP, pickE, isLd, sqL, sqV, Nat.reduceEqDiff, Nat.reduceAdd, Nat.reduceMul, Nat.reduceSub, Nat.reduceLeDiff, Nat.reduceLT, reduceIte, reduceCtorEq, Int.reduceBNe, Int.reduceBEq, cIt, cQ, cIt_gA]
  (repeat' (first | exact wk_refl _ | exact wk_nils | exact wk_tsl _ _ _ | exact wk_full _ _ | exact wkL.nil | exact wkL_refl _ | refine wk_tup ?_ | refine wk_agg ?_ | refine wkL.cons ?_ ?_))
theorem keptQ_ok (p : Nat) (l : List It) (hp : p ≤ 64) (hl : okL l) : quE (keptQ p l) = 0 ∧ quFit (keptQ p l) := by
  obtain ⟨h1, h2, h3⟩ := hl
  have := putAll_ok (q := ⟨p, [], 0⟩) (l := l) (fresh_ok (by omega) (by omega)) nilFit h1 h2 l.length (Nat.le_refl _)
  rw [List.take_length, putAll_kept p l (by omega)] at this
  exact ⟨this.1, this.2.1⟩
theorem itemsL_okL (l : List Int) : okL (itemsL l) := ⟨(itemsL_ok l).1, (itemsL_ok l).2, by rw [itemsL_len]; omega⟩
theorem told_plain {l : List It} (h : ∀ x ∈ l, ¬ (x.kind = 2 ∧ x.err = 19)) (a : Int × Int) : l.foldl toldS a = (a.1 + l.length, a.2) := by
  induction l generalizing a with
  | nil => simp
  | cons x l ih =>
    rw [List.foldl_cons, ih (fun y hy => h y (by simp [hy]))]
    simp only [toldS, if_neg (h x (by simp)), List.length_cons, Prod.mk.injEq, and_true]
    omega
theorem itemK_plain (k : Int) : ¬ ((itemK k).kind = 2 ∧ (itemK k).err = 19) := by
  unfold itemK itemN
  split <;> simp
theorem kept_plain (m : Nat) (l : List Int) : ∀ x ∈ (keptQ m (itemsL l)).items, ¬ (x.kind = 2 ∧ x.err = 19) := by
  intro x hx
  have : x ∈ itemsL l := List.mem_of_mem_take hx
  obtain ⟨k, _, rfl⟩ := List.mem_map.1 this
  exact itemK_plain k
theorem notice_ok {n : Int} (h : 1 ≤ n) (h2 : n ≤ 1099511627776) : itE (noticeIt n) = 0 := by
  have : cntB n = true := by simp [cntB, h, h2]
  simp [itE, noticeE, noticeIt, this]
end Go.Proofs.Ytelmgkneacbneaa
