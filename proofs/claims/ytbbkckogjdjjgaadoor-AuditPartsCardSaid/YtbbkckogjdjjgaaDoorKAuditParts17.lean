/- Part 17 of the proof of AuditParts: an abstract semantics that is proved sound for the model, contracts of functions in it, and plain facts (AU12 AU13). No condition. -/
import Derived.Test.YtbbkckogjdjjgaaDoorKAuditParts16
set_option linter.all false
namespace Go.Proofs.YtbbkckogjdjjgaaDoor
open Go.Abs
set_option linter.all false
set_option maxRecDepth 100000
theorem app_e3 (l : List LE) (x : LE) (p : Int) (hl : l.length ≤ 1000000) (he : chkE l = 0) (ht : tenE x.t = 0) (hp : plB p = false) (hr : rightE x ≠ 0) : Pu Tryd.prog 11 [.agg [sl cLE l], .int .i64 x.t, .int .u64 x.lab, .agg (cRec x), .int .i64 p] (.tup [.agg [sl cLE []], .int .i64 (rightE x)]) := by
  have h := p34 l hl
  have h2 := p35 x.t
  have h3 := p17 x
  have hB2 := hp
  simp only [plB] at hB2
  have hB3 : (rightE x == 0) = false := by simpa using hr
  have hB4 : (rightE x != 0) = true := by simpa using hr
  have h5 := cRec_f x
  rw [he] at h
  rw [ht] at h2
  (refine Pu_intro c11 b11 (Nat.le_of_ble_eq_true rfl) fun σ => ?_; simp only [c11, ↓R1, R2, R3, R4, R5, Nat.reduceEqDiff, Nat.reduceAdd, Nat.reduceMul, Nat.reduceSub, Nat.reduceLeDiff, Nat.reduceLT, reduceIte, reduceCtorEq, Int.reduceBNe, Int.reduceBEq, hB2, hB3, hB4, taC_take, taC_len, taC_drop])
  repeat' (first | (with_reducible rw [allocV_eq]) | (refine gdV_split (fun hc => ?_) (fun hc => ?_) <;> (try simp only [hc, ↓R1, R2, R3, R4, R5, Nat.reduceEqDiff, Nat.reduceAdd, Nat.reduceMul, Nat.reduceSub, Nat.reduceLeDiff, Nat.reduceLT, reduceIte, reduceCtorEq, Int.reduceBNe, Int.reduceBEq, hB2, hB3, hB4, taC_take, taC_len, taC_drop])) | ((first | refine condV_split (fun hc => ?_) (fun hc => ?_) | (with_reducible intro β hβ; (try simp only [St.box_noneA, St.tip_noneA, St.tip_set, St.box_tip, St.box_lp, St.tip_lp] at hβ); (repeat (obtain ⟨⟨_, _⟩, hβ⟩ := hβ)); (try (have hbis := apart_is (by assumption) hβ; obtain ⟨_, _⟩ := hbis)))) <;> (try simp only [↓R1, R2, R3, R4, R5, Nat.reduceEqDiff, Nat.reduceAdd, Nat.reduceMul, Nat.reduceSub, Nat.reduceLeDiff, Nat.reduceLT, reduceIte, reduceCtorEq, Int.reduceBNe, Int.reduceBEq, hB2, hB3, hB4, taC_take, taC_len, taC_drop])) | (with_reducible refine And.intro ?_ ?_; (focus (first | omega | (intros; (repeat' (with_reducible apply And.intro)) <;> first | omega | (simp only [cLE_len, taC_len, cRec_len, List.length_append, List.length_cons, List.length_nil]; omega))))) | (with_reducible apply And.intro) | ((first | refine Pu.to (h) (wkL_refl _) ?_ | refine callDV_pu (h) (wkL_refl _) ?_ | refine Pu.to (h2) (wkL_refl _) ?_ | refine callDV_pu (h2) (wkL_refl _) ?_ | (refine callGV_pu (fun hgv => ⟨?_, (h2), wkL_refl _⟩) ?_; (first | trivial | (focus (simp only [↓R1, R2, R3, R4, R5, Nat.reduceEqDiff, Nat.reduceAdd, Nat.reduceMul, Nat.reduceSub, Nat.reduceLeDiff, Nat.reduceLT, reduceIte, reduceCtorEq, Int.reduceBNe, Int.reduceBEq, hB2, hB3, hB4, taC_take, taC_len, taC_drop]; done)))) | refine Pu.to (h3) (wkL_refl _) ?_ | refine callDV_pu (h3) (wkL_refl _) ?_); (try simp only [↓R1, R2, R3, R4, R5, Nat.reduceEqDiff, Nat.reduceAdd, Nat.reduceMul, Nat.reduceSub, Nat.reduceLeDiff, Nat.reduceLT, reduceIte, reduceCtorEq, Int.reduceBNe, Int.reduceBEq, hB2, hB3, hB4, taC_take, taC_len, taC_drop])))
  all_goals first | (exfalso; simp_all; done) | (with_reducible intro hno; exfalso; simp_all; done) | skip
  all_goals first | exact taC_len _ | exact cRec_f _ | rfl | skip
  (refine endP_pu (by simp) (by first | (simp [rvsS, rvS]; done) | (simp only [rvsS, rvS, ↓R1, R2, R3, R4, R5, Nat.reduceEqDiff, Nat.reduceAdd, Nat.reduceMul, Nat.reduceSub, Nat.reduceLeDiff, Nat.reduceLT, reduceIte, reduceCtorEq, Int.reduceBNe, Int.reduceBEq, hB2, hB3, hB4, taC_take, taC_len, taC_drop]; try simp)) ?_ (by (repeat (first | exact St.le_refl _ | (refine St.le_new ?_ (by assumption)) | (refine St.le_newT ?_ (by assumption))))))
  simp only [resAV, rvV, List.map_cons, List.map_nil, ↓R1, R2, R3, R4, R5, Nat.reduceEqDiff, Nat.reduceAdd, Nat.reduceMul, Nat.reduceSub, Nat.reduceLeDiff, Nat.reduceLT, reduceIte, reduceCtorEq, Int.reduceBNe, Int.reduceBEq, hB2, hB3, hB4, taC_take, taC_len, taC_drop]
  (repeat' (first | exact wk_refl _ | exact wk_nils | exact wk_tsl _ _ _ | exact wk_full _ _ | exact wkL.nil | exact wkL_refl _ | refine wk_tup ?_ | refine wk_agg ?_ | refine wkL.cons ?_ ?_))
set_option maxHeartbeats 4000000 in
theorem app_13 (l : List LE) (x : LE) (p : Int) (hl : l.length ≤ 1000000) (he : chkE l = 0) (ht : tenE x.t = 0) (hp : plB p = false) (hr : rightE x = 0) (f : Int) (c : Nat) (hv : cntT l x.t.toNat = (f, c)) (hc : 0 < c) (hf : (f != x.lab) = true) : Pu Tryd.prog 11 [.agg [sl cLE l], .int .i64 x.t, .int .u64 x.lab, .agg (cRec x), .int .i64 p] (.tup [.agg [sl cLE []], .int .i64 13]) := by
  have h := p34 l hl
  have h2 := p35 x.t
  have h3 := p17 x
  have hB2 := hp
  simp only [plB] at hB2
  obtain ⟨t1, t2⟩ := tenE_ok ht
  have hdt0 := taC_drop2 (cntT l) t1 t2
  rw [hv] at hdt0
  obtain ⟨r, hdt⟩ := hdt0
  simp only [cRec] at h3 ⊢
  rw [he] at h
  rw [ht] at h2
  rw [hr] at h3
  have hN := (show ((f == 0) && ((c : Int) == 0)) = false by rw [Bool.and_eq_false_iff]; right; rw [beq_eq_false_iff_ne]; omega)
  have hC : decide ((0 : Int) < (c : Int)) = true := by rw [decide_eq_true_eq]; omega
  have hF := hf
  have hz : True := trivial
  have hw : True := trivial
  have hd2 : True := trivial
  have hT : True := trivial
  have hP : True := trivial
  (refine Pu_intro c11 b11 (Nat.le_of_ble_eq_true rfl) fun σ => ?_; simp only [c11, ↓R1, R2, R3, R4, R5, Nat.reduceEqDiff, Nat.reduceAdd, Nat.reduceMul, Nat.reduceSub, Nat.reduceLeDiff, Nat.reduceLT, reduceIte, reduceCtorEq, Int.reduceBNe, Int.reduceBEq, hB2, taC_take, taC_len, taC_drop, hdt, hN, hC, hF, hz, hw, hd2, hT, hP, cRec])
  repeat' (first | (with_reducible rw [allocV_eq]) | (refine gdV_split (fun hc => ?_) (fun hc => ?_) <;> (try simp only [hc, ↓R1, R2, R3, R4, R5, Nat.reduceEqDiff, Nat.reduceAdd, Nat.reduceMul, Nat.reduceSub, Nat.reduceLeDiff, Nat.reduceLT, reduceIte, reduceCtorEq, Int.reduceBNe, Int.reduceBEq, hB2, taC_take, taC_len, taC_drop, hdt, hN, hC, hF, hz, hw, hd2, hT, hP, cRec])) | ((first | refine condV_split (fun hc => ?_) (fun hc => ?_) | (with_reducible intro β hβ; (try simp only [St.box_noneA, St.tip_noneA, St.tip_set, St.box_tip, St.box_lp, St.tip_lp] at hβ); (repeat (obtain ⟨⟨_, _⟩, hβ⟩ := hβ)); (try (have hbis := apart_is (by assumption) hβ; obtain ⟨_, _⟩ := hbis)))) <;> (try simp only [↓R1, R2, R3, R4, R5, Nat.reduceEqDiff, Nat.reduceAdd, Nat.reduceMul, Nat.reduceSub, Nat.reduceLeDiff, Nat.reduceLT, reduceIte, reduceCtorEq, Int.reduceBNe, Int.reduceBEq, hB2, taC_take, taC_len, taC_drop, hdt, hN, hC, hF, hz, hw, hd2, hT, hP, cRec])) | (with_reducible refine And.intro ?_ ?_; (focus (first | omega | (intros; (repeat' (with_reducible apply And.intro)) <;> first | omega | (simp only [cLE_len, taC_len, cRec_len, List.length_append, List.length_cons, List.length_nil]; omega))))) | (with_reducible apply And.intro) | ((first | refine Pu.to (h) (wkL_refl _) ?_ | refine callDV_pu (h) (wkL_refl _) ?_ | refine Pu.to (h2) (wkL_refl _) ?_ | refine callDV_pu (h2) (wkL_refl _) ?_ | (refine callGV_pu (fun hgv => ⟨?_, (h2), wkL_refl _⟩) ?_; (first | trivial | (focus (simp only [↓R1, R2, R3, R4, R5, Nat.reduceEqDiff, Nat.reduceAdd, Nat.reduceMul, Nat.reduceSub, Nat.reduceLeDiff, Nat.reduceLT, reduceIte, reduceCtorEq, Int.reduceBNe, Int.reduceBEq, hB2, taC_take, taC_len, taC_drop, hdt, hN, hC, hF, hz, hw, hd2, hT, hP, cRec]; done)))) | refine Pu.to (h3) (wkL_refl _) ?_ | refine callDV_pu (h3) (wkL_refl _) ?_); (try simp only [↓R1, R2, R3, R4, R5, Nat.reduceEqDiff, Nat.reduceAdd, Nat.reduceMul, Nat.reduceSub, Nat.reduceLeDiff, Nat.reduceLT, reduceIte, reduceCtorEq, Int.reduceBNe, Int.reduceBEq, hB2, taC_take, taC_len, taC_drop, hdt, hN, hC, hF, hz, hw, hd2, hT, hP, cRec])))
  all_goals first | (exfalso; simp_all; done) | (with_reducible intro hno; exfalso; simp_all; done) | skip
  all_goals first | exact taC_len _ | (rw [taC_len]; omega) | omega | skip
  (refine endP_pu (by simp) (by first | (simp [rvsS, rvS]; done) | (simp only [rvsS, rvS, ↓R1, R2, R3, R4, R5, Nat.reduceEqDiff, Nat.reduceAdd, Nat.reduceMul, Nat.reduceSub, Nat.reduceLeDiff, Nat.reduceLT, reduceIte, reduceCtorEq, Int.reduceBNe, Int.reduceBEq, hB2, taC_take, taC_len, taC_drop, hdt, hN, hC, hF, hz, hw, hd2, hT, hP, cRec]; try simp)) ?_ (by (repeat (first | exact St.le_refl _ | (refine St.le_new ?_ (by assumption)) | (refine St.le_newT ?_ (by assumption))))))
  simp only [resAV, rvV, List.map_cons, List.map_nil, ↓R1, R2, R3, R4, R5, Nat.reduceEqDiff, Nat.reduceAdd, Nat.reduceMul, Nat.reduceSub, Nat.reduceLeDiff, Nat.reduceLT, reduceIte, reduceCtorEq, Int.reduceBNe, Int.reduceBEq, hB2, taC_take, taC_len, taC_drop, hdt, hN, hC, hF, hz, hw, hd2, hT, hP, cRec]
  (repeat' (first | exact wk_refl _ | exact wk_nils | exact wk_tsl _ _ _ | exact wk_full _ _ | exact wkL.nil | exact wkL_refl _ | refine wk_tup ?_ | refine wk_agg ?_ | refine wkL.cons ?_ ?_))
set_option maxHeartbeats 4000000 in
theorem app_9p (l : List LE) (x : LE) (p : Int) (hl : l.length ≤ 1000000) (he : chkE l = 0) (ht : tenE x.t = 0) (hp : plB p = false) (hr : rightE x = 0) (f : Int) (c : Nat) (hv : cntT l x.t.toNat = (f, c)) (hc : 0 < c) (hf : (f != x.lab) = false) (hn : 0 < l.length) (hlt : decide (x.tick < (eAt l (l.length - 1)).tick) = true) : Pu Tryd.prog 11 [.agg [sl cLE l], .int .i64 x.t, .int .u64 x.lab, .agg (cRec x), .int .i64 p] (.tup [.agg [sl cLE []], .int .i64 9]) := by
  have h := p34 l hl
  have h2 := p35 x.t
  have h3 := p17 x
  have hB2 := hp
  simp only [plB] at hB2
  obtain ⟨t1, t2⟩ := tenE_ok ht
  have hdt0 := taC_drop2 (cntT l) t1 t2
  rw [hv] at hdt0
  obtain ⟨r, hdt⟩ := hdt0
  simp only [cRec] at h3 ⊢
  rw [he] at h
  rw [ht] at h2
  rw [hr] at h3
  have hN := (show ((f == 0) && ((c : Int) == 0)) = false by rw [Bool.and_eq_false_iff]; right; rw [beq_eq_false_iff_ne]; omega)
  have hC : decide ((0 : Int) < (c : Int)) = true := by rw [decide_eq_true_eq]; omega
  have hF := hf
  have hz : decide ((0 : Int) < (l.length : Int)) = true := by rw [decide_eq_true_eq]; omega
  have hw : IntKind.i64.wrap ((l.length : Int) - 1) = ((l.length - 1 : Nat) : Int) := by rw [wrap64 (by omega) (by omega)]; omega
  have hd2 := cLE_drop l (l.length - 1) (by omega)
  have hT := hlt
  have hP : True := trivial
  (refine Pu_intro c11 b11 (Nat.le_of_ble_eq_true rfl) fun σ => ?_; simp only [c11, ↓R1, R2, R3, R4, R5, Nat.reduceEqDiff, Nat.reduceAdd, Nat.reduceMul, Nat.reduceSub, Nat.reduceLeDiff, Nat.reduceLT, reduceIte, reduceCtorEq, Int.reduceBNe, Int.reduceBEq, hB2, taC_take, taC_len, taC_drop, hdt, hN, hC, hF, hz, hw, hd2, hT, hP, cRec])
  repeat' (first | (with_reducible rw [allocV_eq]) | (refine gdV_split (fun hc => ?_) (fun hc => ?_) <;> (try simp only [hc, ↓R1, R2, R3, R4, R5, Nat.reduceEqDiff, Nat.reduceAdd, Nat.reduceMul, Nat.reduceSub, Nat.reduceLeDiff, Nat.reduceLT, reduceIte, reduceCtorEq, Int.reduceBNe, Int.reduceBEq, hB2, taC_take, taC_len, taC_drop, hdt, hN, hC, hF, hz, hw, hd2, hT, hP, cRec])) | ((first | refine condV_split (fun hc => ?_) (fun hc => ?_) | (with_reducible intro β hβ; (try simp only [St.box_noneA, St.tip_noneA, St.tip_set, St.box_tip, St.box_lp, St.tip_lp] at hβ); (repeat (obtain ⟨⟨_, _⟩, hβ⟩ := hβ)); (try (have hbis := apart_is (by assumption) hβ; obtain ⟨_, _⟩ := hbis)))) <;> (try simp only [↓R1, R2, R3, R4, R5, Nat.reduceEqDiff, Nat.reduceAdd, Nat.reduceMul, Nat.reduceSub, Nat.reduceLeDiff, Nat.reduceLT, reduceIte, reduceCtorEq, Int.reduceBNe, Int.reduceBEq, hB2, taC_take, taC_len, taC_drop, hdt, hN, hC, hF, hz, hw, hd2, hT, hP, cRec])) | (with_reducible refine And.intro ?_ ?_; (focus (first | omega | (intros; (repeat' (with_reducible apply And.intro)) <;> first | omega | (simp only [cLE_len, taC_len, cRec_len, List.length_append, List.length_cons, List.length_nil]; omega))))) | (with_reducible apply And.intro) | ((first | refine Pu.to (h) (wkL_refl _) ?_ | refine callDV_pu (h) (wkL_refl _) ?_ | refine Pu.to (h2) (wkL_refl _) ?_ | refine callDV_pu (h2) (wkL_refl _) ?_ | (refine callGV_pu (fun hgv => ⟨?_, (h2), wkL_refl _⟩) ?_; (first | trivial | (focus (simp only [↓R1, R2, R3, R4, R5, Nat.reduceEqDiff, Nat.reduceAdd, Nat.reduceMul, Nat.reduceSub, Nat.reduceLeDiff, Nat.reduceLT, reduceIte, reduceCtorEq, Int.reduceBNe, Int.reduceBEq, hB2, taC_take, taC_len, taC_drop, hdt, hN, hC, hF, hz, hw, hd2, hT, hP, cRec]; done)))) | refine Pu.to (h3) (wkL_refl _) ?_ | refine callDV_pu (h3) (wkL_refl _) ?_); (try simp only [↓R1, R2, R3, R4, R5, Nat.reduceEqDiff, Nat.reduceAdd, Nat.reduceMul, Nat.reduceSub, Nat.reduceLeDiff, Nat.reduceLT, reduceIte, reduceCtorEq, Int.reduceBNe, Int.reduceBEq, hB2, taC_take, taC_len, taC_drop, hdt, hN, hC, hF, hz, hw, hd2, hT, hP, cRec])))
  all_goals first | (exfalso; simp_all; done) | (with_reducible intro hno; exfalso; simp_all; done) | skip
  all_goals first | exact taC_len _ | (rw [taC_len]; omega) | omega | skip
  (refine endP_pu (by simp) (by first | (simp [rvsS, rvS]; done) | (simp only [rvsS, rvS, ↓R1, R2, R3, R4, R5, Nat.reduceEqDiff, Nat.reduceAdd, Nat.reduceMul, Nat.reduceSub, Nat.reduceLeDiff, Nat.reduceLT, reduceIte, reduceCtorEq, Int.reduceBNe, Int.reduceBEq, hB2, taC_take, taC_len, taC_drop, hdt, hN, hC, hF, hz, hw, hd2, hT, hP, cRec]; try simp)) ?_ (by (repeat (first | exact St.le_refl _ | (refine St.le_new ?_ (by assumption)) | (refine St.le_newT ?_ (by assumption))))))
  simp only [resAV, rvV, List.map_cons, List.map_nil, ↓R1, R2, R3, R4, R5, Nat.reduceEqDiff, Nat.reduceAdd, Nat.reduceMul, Nat.reduceSub, Nat.reduceLeDiff, Nat.reduceLT, reduceIte, reduceCtorEq, Int.reduceBNe, Int.reduceBEq, hB2, taC_take, taC_len, taC_drop, hdt, hN, hC, hF, hz, hw, hd2, hT, hP, cRec]
  (repeat' (first | exact wk_refl _ | exact wk_nils | exact wk_tsl _ _ _ | exact wk_full _ _ | exact wkL.nil | exact wkL_refl _ | refine wk_tup ?_ | refine wk_agg ?_ | refine wkL.cons ?_ ?_))
set_option maxHeartbeats 4000000 in
theorem app_21pn (l : List LE) (x : LE) (p : Int) (hl : l.length ≤ 1000000) (he : chkE l = 0) (ht : tenE x.t = 0) (hp : plB p = false) (hr : rightE x = 0) (f : Int) (c : Nat) (hv : cntT l x.t.toNat = (f, c)) (hc : 0 < c) (hf : (f != x.lab) = false) (hn : 0 < l.length) (hlt : decide (x.tick < (eAt l (l.length - 1)).tick) = false) (hpl : decide (p ≤ (c : Int)) = true) : Pu Tryd.prog 11 [.agg [sl cLE l], .int .i64 x.t, .int .u64 x.lab, .agg (cRec x), .int .i64 p] (.tup [.agg [sl cLE []], .int .i64 21]) := by
  have h := p34 l hl
  have h2 := p35 x.t
  have h3 := p17 x
  have hB2 := hp
  simp only [plB] at hB2
  obtain ⟨t1, t2⟩ := tenE_ok ht
  have hdt0 := taC_drop2 (cntT l) t1 t2
  rw [hv] at hdt0
  obtain ⟨r, hdt⟩ := hdt0
  simp only [cRec] at h3 ⊢
  rw [he] at h
  rw [ht] at h2
  rw [hr] at h3
  have hN := (show ((f == 0) && ((c : Int) == 0)) = false by rw [Bool.and_eq_false_iff]; right; rw [beq_eq_false_iff_ne]; omega)
  have hC : decide ((0 : Int) < (c : Int)) = true := by rw [decide_eq_true_eq]; omega
  have hF := hf
  have hz : decide ((0 : Int) < (l.length : Int)) = true := by rw [decide_eq_true_eq]; omega
  have hw : IntKind.i64.wrap ((l.length : Int) - 1) = ((l.length - 1 : Nat) : Int) := by rw [wrap64 (by omega) (by omega)]; omega
  have hd2 := cLE_drop l (l.length - 1) (by omega)
  have hT := hlt
  have hP := hpl
  (refine Pu_intro c11 b11 (Nat.le_of_ble_eq_true rfl) fun σ => ?_; simp only [c11, ↓R1, R2, R3, R4, R5, Nat.reduceEqDiff, Nat.reduceAdd, Nat.reduceMul, Nat.reduceSub, Nat.reduceLeDiff, Nat.reduceLT, reduceIte, reduceCtorEq, Int.reduceBNe, Int.reduceBEq, hB2, taC_take, taC_len, taC_drop, hdt, hN, hC, hF, hz, hw, hd2, hT, hP, cRec])
  repeat' (first | (with_reducible rw [allocV_eq]) | (refine gdV_split (fun hc => ?_) (fun hc => ?_) <;> (try simp only [hc, ↓R1, R2, R3, R4, R5, Nat.reduceEqDiff, Nat.reduceAdd, Nat.reduceMul, Nat.reduceSub, Nat.reduceLeDiff, Nat.reduceLT, reduceIte, reduceCtorEq, Int.reduceBNe, Int.reduceBEq, hB2, taC_take, taC_len, taC_drop, hdt, hN, hC, hF, hz, hw, hd2, hT, hP, cRec])) | ((first | refine condV_split (fun hc => ?_) (fun hc => ?_) | (with_reducible intro β hβ; (try simp only [St.box_noneA, St.tip_noneA, St.tip_set, St.box_tip, St.box_lp, St.tip_lp] at hβ); (repeat (obtain ⟨⟨_, _⟩, hβ⟩ := hβ)); (try (have hbis := apart_is (by assumption) hβ; obtain ⟨_, _⟩ := hbis)))) <;> (try simp only [↓R1, R2, R3, R4, R5, Nat.reduceEqDiff, Nat.reduceAdd, Nat.reduceMul, Nat.reduceSub, Nat.reduceLeDiff, Nat.reduceLT, reduceIte, reduceCtorEq, Int.reduceBNe, Int.reduceBEq, hB2, taC_take, taC_len, taC_drop, hdt, hN, hC, hF, hz, hw, hd2, hT, hP, cRec])) | (with_reducible refine And.intro ?_ ?_; (focus (first | omega | (intros; (repeat' (with_reducible apply And.intro)) <;> first | omega | (simp only [cLE_len, taC_len, cRec_len, List.length_append, List.length_cons, List.length_nil]; omega))))) | (with_reducible apply And.intro) | ((first | refine Pu.to (h) (wkL_refl _) ?_ | refine callDV_pu (h) (wkL_refl _) ?_ | refine Pu.to (h2) (wkL_refl _) ?_ | refine callDV_pu (h2) (wkL_refl _) ?_ | (refine callGV_pu (fun hgv => ⟨?_, (h2), wkL_refl _⟩) ?_; (first | trivial | (focus (simp only [↓R1, R2, R3, R4, R5, Nat.reduceEqDiff, Nat.reduceAdd, Nat.reduceMul, Nat.reduceSub, Nat.reduceLeDiff, Nat.reduceLT, reduceIte, reduceCtorEq, Int.reduceBNe, Int.reduceBEq, hB2, taC_take, taC_len, taC_drop, hdt, hN, hC, hF, hz, hw, hd2, hT, hP, cRec]; done)))) | refine Pu.to (h3) (wkL_refl _) ?_ | refine callDV_pu (h3) (wkL_refl _) ?_); (try simp only [↓R1, R2, R3, R4, R5, Nat.reduceEqDiff, Nat.reduceAdd, Nat.reduceMul, Nat.reduceSub, Nat.reduceLeDiff, Nat.reduceLT, reduceIte, reduceCtorEq, Int.reduceBNe, Int.reduceBEq, hB2, taC_take, taC_len, taC_drop, hdt, hN, hC, hF, hz, hw, hd2, hT, hP, cRec])))
  all_goals first | (exfalso; simp_all; done) | (with_reducible intro hno; exfalso; simp_all; done) | skip
  all_goals first | exact taC_len _ | (rw [taC_len]; omega) | omega | skip
  (refine endP_pu (by simp) (by first | (simp [rvsS, rvS]; done) | (simp only [rvsS, rvS, ↓R1, R2, R3, R4, R5, Nat.reduceEqDiff, Nat.reduceAdd, Nat.reduceMul, Nat.reduceSub, Nat.reduceLeDiff, Nat.reduceLT, reduceIte, reduceCtorEq, Int.reduceBNe, Int.reduceBEq, hB2, taC_take, taC_len, taC_drop, hdt, hN, hC, hF, hz, hw, hd2, hT, hP, cRec]; try simp)) ?_ (by (repeat (first | exact St.le_refl _ | (refine St.le_new ?_ (by assumption)) | (refine St.le_newT ?_ (by assumption))))))
  simp only [resAV, rvV, List.map_cons, List.map_nil, ↓R1, R2, R3, R4, R5, Nat.reduceEqDiff, Nat.reduceAdd, Nat.reduceMul, Nat.reduceSub, Nat.reduceLeDiff, Nat.reduceLT, reduceIte, reduceCtorEq, Int.reduceBNe, Int.reduceBEq, hB2, taC_take, taC_len, taC_drop, hdt, hN, hC, hF, hz, hw, hd2, hT, hP, cRec]
  (repeat' (first | exact wk_refl _ | exact wk_nils | exact wk_tsl _ _ _ | exact wk_full _ _ | exact wkL.nil | exact wkL_refl _ | refine wk_tup ?_ | refine wk_agg ?_ | refine wkL.cons ?_ ?_))
set_option maxHeartbeats 4000000 in
theorem app_0pn (l : List LE) (x : LE) (p : Int) (hl : l.length ≤ 1000000) (he : chkE l = 0) (ht : tenE x.t = 0) (hp : plB p = false) (hr : rightE x = 0) (f : Int) (c : Nat) (hv : cntT l x.t.toNat = (f, c)) (hc : 0 < c) (hf : (f != x.lab) = false) (hn : 0 < l.length) (hlt : decide (x.tick < (eAt l (l.length - 1)).tick) = false) (hpl : decide (p ≤ (c : Int)) = false) : Pu Tryd.prog 11 [.agg [sl cLE l], .int .i64 x.t, .int .u64 x.lab, .agg (cRec x), .int .i64 p] (.tup [.agg [sl cLE (l ++ [x])], .int .i64 0]) := by
  have h := p34 l hl
  have h2 := p35 x.t
  have h3 := p17 x
  have hB2 := hp
  simp only [plB] at hB2
  obtain ⟨t1, t2⟩ := tenE_ok ht
  have hdt0 := taC_drop2 (cntT l) t1 t2
  rw [hv] at hdt0
  obtain ⟨r, hdt⟩ := hdt0
  simp only [cRec] at h3 ⊢
  rw [he] at h
  rw [ht] at h2
  rw [hr] at h3
  have hN := (show ((f == 0) && ((c : Int) == 0)) = false by rw [Bool.and_eq_false_iff]; right; rw [beq_eq_false_iff_ne]; omega)
  have hC : decide ((0 : Int) < (c : Int)) = true := by rw [decide_eq_true_eq]; omega
  have hF := hf
  have hz : decide ((0 : Int) < (l.length : Int)) = true := by rw [decide_eq_true_eq]; omega
  have hw : IntKind.i64.wrap ((l.length : Int) - 1) = ((l.length - 1 : Nat) : Int) := by rw [wrap64 (by omega) (by omega)]; omega
  have hd2 := cLE_drop l (l.length - 1) (by omega)
  have hT := hlt
  have hP := hpl
  (refine Pu_intro c11 b11 (Nat.le_of_ble_eq_true rfl) fun σ => ?_; simp only [c11, ↓R1, R2, R3, R4, R5, Nat.reduceEqDiff, Nat.reduceAdd, Nat.reduceMul, Nat.reduceSub, Nat.reduceLeDiff, Nat.reduceLT, reduceIte, reduceCtorEq, Int.reduceBNe, Int.reduceBEq, hB2, taC_take, taC_len, taC_drop, hdt, hN, hC, hF, hz, hw, hd2, hT, hP, cRec])
  repeat' (first | (with_reducible rw [allocV_eq]) | (refine gdV_split (fun hc => ?_) (fun hc => ?_) <;> (try simp only [hc, ↓R1, R2, R3, R4, R5, Nat.reduceEqDiff, Nat.reduceAdd, Nat.reduceMul, Nat.reduceSub, Nat.reduceLeDiff, Nat.reduceLT, reduceIte, reduceCtorEq, Int.reduceBNe, Int.reduceBEq, hB2, taC_take, taC_len, taC_drop, hdt, hN, hC, hF, hz, hw, hd2, hT, hP, cRec])) | ((first | refine condV_split (fun hc => ?_) (fun hc => ?_) | (with_reducible intro β hβ; (try simp only [St.box_noneA, St.tip_noneA, St.tip_set, St.box_tip, St.box_lp, St.tip_lp] at hβ); (repeat (obtain ⟨⟨_, _⟩, hβ⟩ := hβ)); (try (have hbis := apart_is (by assumption) hβ; obtain ⟨_, _⟩ := hbis)))) <;> (try simp only [↓R1, R2, R3, R4, R5, Nat.reduceEqDiff, Nat.reduceAdd, Nat.reduceMul, Nat.reduceSub, Nat.reduceLeDiff, Nat.reduceLT, reduceIte, reduceCtorEq, Int.reduceBNe, Int.reduceBEq, hB2, taC_take, taC_len, taC_drop, hdt, hN, hC, hF, hz, hw, hd2, hT, hP, cRec])) | (with_reducible refine And.intro ?_ ?_; (focus (first | omega | (intros; (repeat' (with_reducible apply And.intro)) <;> first | omega | (simp only [cLE_len, taC_len, cRec_len, List.length_append, List.length_cons, List.length_nil]; omega))))) | (with_reducible apply And.intro) | ((first | refine Pu.to (h) (wkL_refl _) ?_ | refine callDV_pu (h) (wkL_refl _) ?_ | refine Pu.to (h2) (wkL_refl _) ?_ | refine callDV_pu (h2) (wkL_refl _) ?_ | (refine callGV_pu (fun hgv => ⟨?_, (h2), wkL_refl _⟩) ?_; (first | trivial | (focus (simp only [↓R1, R2, R3, R4, R5, Nat.reduceEqDiff, Nat.reduceAdd, Nat.reduceMul, Nat.reduceSub, Nat.reduceLeDiff, Nat.reduceLT, reduceIte, reduceCtorEq, Int.reduceBNe, Int.reduceBEq, hB2, taC_take, taC_len, taC_drop, hdt, hN, hC, hF, hz, hw, hd2, hT, hP, cRec]; done)))) | refine Pu.to (h3) (wkL_refl _) ?_ | refine callDV_pu (h3) (wkL_refl _) ?_); (try simp only [↓R1, R2, R3, R4, R5, Nat.reduceEqDiff, Nat.reduceAdd, Nat.reduceMul, Nat.reduceSub, Nat.reduceLeDiff, Nat.reduceLT, reduceIte, reduceCtorEq, Int.reduceBNe, Int.reduceBEq, hB2, taC_take, taC_len, taC_drop, hdt, hN, hC, hF, hz, hw, hd2, hT, hP, cRec])))
  all_goals first | (exfalso; simp_all; done) | (with_reducible intro hno; exfalso; simp_all; done) | skip
  all_goals first | exact taC_len _ | (rw [taC_len]; omega) | omega | skip
  refine tail_any (x := x) hl ?_ ?_ ?_ rfl rfl rfl rfl rfl (fun fr τ hτ e10 e11 => ?_)
  · simp only [↓R1, R2, R3, R4, R5, Nat.reduceEqDiff, Nat.reduceAdd, Nat.reduceMul, Nat.reduceSub, Nat.reduceLeDiff, Nat.reduceLT, reduceIte, reduceCtorEq, Int.reduceBNe, Int.reduceBEq, hB2, taC_take, taC_len, taC_drop, hdt, hN, hC, hF, hz, hw, hd2, hT, hP, cRec]
  · simp only [↓R1, R2, R3, R4, R5, Nat.reduceEqDiff, Nat.reduceAdd, Nat.reduceMul, Nat.reduceSub, Nat.reduceLeDiff, Nat.reduceLT, reduceIte, reduceCtorEq, Int.reduceBNe, Int.reduceBEq, hB2, taC_take, taC_len, taC_drop, hdt, hN, hC, hF, hz, hw, hd2, hT, hP, cRec]
  · simp only [↓R1, R2, R3, R4, R5, Nat.reduceEqDiff, Nat.reduceAdd, Nat.reduceMul, Nat.reduceSub, Nat.reduceLeDiff, Nat.reduceLT, reduceIte, reduceCtorEq, Int.reduceBNe, Int.reduceBEq, hB2, taC_take, taC_len, taC_drop, hdt, hN, hC, hF, hz, hw, hd2, hT, hP, cRec]
  simp only [St.tip_set] at hτ
  have hfl : l.flatMap cLE ++ cLE x = (l ++ [x]).flatMap cLE := flat_one (f := cLE) l x
  have hln : l.length + 1 = (l ++ [x]).length := by simp
  rw [hfl, hln]
  simp only [↓R1, R2, R3, R4, R5, Nat.reduceEqDiff, Nat.reduceAdd, Nat.reduceMul, Nat.reduceSub, Nat.reduceLeDiff, Nat.reduceLT, reduceIte, reduceCtorEq, Int.reduceBNe, Int.reduceBEq, hB2, taC_take, taC_len, taC_drop, hdt, hN, hC, hF, hz, hw, hd2, hT, hP, cRec]
  refine endP_pu (by simp) (by simp only [rvsS, rvS, e10, e11, ↓R1, R2, R3, R4, R5, Nat.reduceEqDiff, Nat.reduceAdd, Nat.reduceMul, Nat.reduceSub, Nat.reduceLeDiff, Nat.reduceLT, reduceIte, reduceCtorEq, Int.reduceBNe, Int.reduceBEq, hB2, taC_take, taC_len, taC_drop, hdt, hN, hC, hF, hz, hw, hd2, hT, hP, cRec]; try simp) ?_ (by (repeat (first | exact St.le_refl _ | (refine St.le_new ?_ (by assumption)) | (refine St.le_newT ?_ (by assumption)))))
  simp only [resAV, rvV, List.map_cons, List.map_nil, e10, e11, ↓R1, R2, R3, R4, R5, Nat.reduceEqDiff, Nat.reduceAdd, Nat.reduceMul, Nat.reduceSub, Nat.reduceLeDiff, Nat.reduceLT, reduceIte, reduceCtorEq, Int.reduceBNe, Int.reduceBEq, hB2, taC_take, taC_len, taC_drop, hdt, hN, hC, hF, hz, hw, hd2, hT, hP, cRec]
  (repeat' (first | exact wk_refl _ | exact wk_nils | exact wk_tsl _ _ _ | exact wk_full _ _ | exact wkL.nil | exact wkL_refl _ | refine wk_tup ?_ | refine wk_agg ?_ | refine wkL.cons ?_ ?_))
set_option maxHeartbeats 4000000 in
theorem app_9z (l : List LE) (x : LE) (p : Int) (hl : l.length ≤ 1000000) (he : chkE l = 0) (ht : tenE x.t = 0) (hp : plB p = false) (hr : rightE x = 0) (f : Int) (c : Nat) (hv : cntT l x.t.toNat = (f, c)) (hc0 : c = 0) (hf0 : f = 0) (hn : 0 < l.length) (hlt : decide (x.tick < (eAt l (l.length - 1)).tick) = true) : Pu Tryd.prog 11 [.agg [sl cLE l], .int .i64 x.t, .int .u64 x.lab, .agg (cRec x), .int .i64 p] (.tup [.agg [sl cLE []], .int .i64 9]) := by
  have h := p34 l hl
  have h2 := p35 x.t
  have h3 := p17 x
  have hB2 := hp
  simp only [plB] at hB2
  obtain ⟨t1, t2⟩ := tenE_ok ht
  have hdt0 := taC_drop2 (cntT l) t1 t2
  rw [hv] at hdt0
  obtain ⟨r, hdt⟩ := hdt0
  simp only [cRec] at h3 ⊢
  rw [he] at h
  rw [ht] at h2
  rw [hr] at h3
  have hN := (show ((f == 0) && ((c : Int) == 0)) = true by rw [hf0, hc0]; rfl)
  have hC : decide ((0 : Int) < (c : Int)) = false := by rw [decide_eq_false_iff_not]; omega
  have hF : True := trivial
  have hz : decide ((0 : Int) < (l.length : Int)) = true := by rw [decide_eq_true_eq]; omega
  have hw : IntKind.i64.wrap ((l.length : Int) - 1) = ((l.length - 1 : Nat) : Int) := by rw [wrap64 (by omega) (by omega)]; omega
  have hd2 := cLE_drop l (l.length - 1) (by omega)
  have hT := hlt
  have hP : True := trivial
  (refine Pu_intro c11 b11 (Nat.le_of_ble_eq_true rfl) fun σ => ?_; simp only [c11, ↓R1, R2, R3, R4, R5, Nat.reduceEqDiff, Nat.reduceAdd, Nat.reduceMul, Nat.reduceSub, Nat.reduceLeDiff, Nat.reduceLT, reduceIte, reduceCtorEq, Int.reduceBNe, Int.reduceBEq, hB2, taC_take, taC_len, taC_drop, hdt, hN, hC, hF, hz, hw, hd2, hT, hP, cRec])
  repeat' (first | (with_reducible rw [allocV_eq]) | (refine gdV_split (fun hc => ?_) (fun hc => ?_) <;> (try simp only [hc, ↓R1, R2, R3, R4, R5, Nat.reduceEqDiff, Nat.reduceAdd, Nat.reduceMul, Nat.reduceSub, Nat.reduceLeDiff, Nat.reduceLT, reduceIte, reduceCtorEq, Int.reduceBNe, Int.reduceBEq, hB2, taC_take, taC_len, taC_drop, hdt, hN, hC, hF, hz, hw, hd2, hT, hP, cRec])) | ((first | refine condV_split (fun hc => ?_) (fun hc => ?_) | (with_reducible intro β hβ; (try simp only [St.box_noneA, St.tip_noneA, St.tip_set, St.box_tip, St.box_lp, St.tip_lp] at hβ); (repeat (obtain ⟨⟨_, _⟩, hβ⟩ := hβ)); (try (have hbis := apart_is (by assumption) hβ; obtain ⟨_, _⟩ := hbis)))) <;> (try simp only [↓R1, R2, R3, R4, R5, Nat.reduceEqDiff, Nat.reduceAdd, Nat.reduceMul, Nat.reduceSub, Nat.reduceLeDiff, Nat.reduceLT, reduceIte, reduceCtorEq, Int.reduceBNe, Int.reduceBEq, hB2, taC_take, taC_len, taC_drop, hdt, hN, hC, hF, hz, hw, hd2, hT, hP, cRec])) | (with_reducible refine And.intro ?_ ?_; (focus (first | omega | (intros; (repeat' (with_reducible apply And.intro)) <;> first | omega | (simp only [cLE_len, taC_len, cRec_len, List.length_append, List.length_cons, List.length_nil]; omega))))) | (with_reducible apply And.intro) | ((first | refine Pu.to (h) (wkL_refl _) ?_ | refine callDV_pu (h) (wkL_refl _) ?_ | refine Pu.to (h2) (wkL_refl _) ?_ | refine callDV_pu (h2) (wkL_refl _) ?_ | (refine callGV_pu (fun hgv => ⟨?_, (h2), wkL_refl _⟩) ?_; (first | trivial | (focus (simp only [↓R1, R2, R3, R4, R5, Nat.reduceEqDiff, Nat.reduceAdd, Nat.reduceMul, Nat.reduceSub, Nat.reduceLeDiff, Nat.reduceLT, reduceIte, reduceCtorEq, Int.reduceBNe, Int.reduceBEq, hB2, taC_take, taC_len, taC_drop, hdt, hN, hC, hF, hz, hw, hd2, hT, hP, cRec]; done)))) | refine Pu.to (h3) (wkL_refl _) ?_ | refine callDV_pu (h3) (wkL_refl _) ?_); (try simp only [↓R1, R2, R3, R4, R5, Nat.reduceEqDiff, Nat.reduceAdd, Nat.reduceMul, Nat.reduceSub, Nat.reduceLeDiff, Nat.reduceLT, reduceIte, reduceCtorEq, Int.reduceBNe, Int.reduceBEq, hB2, taC_take, taC_len, taC_drop, hdt, hN, hC, hF, hz, hw, hd2, hT, hP, cRec])))
  all_goals first | (exfalso; simp_all; done) | (with_reducible intro hno; exfalso; simp_all; done) | skip
  all_goals first | exact taC_len _ | (rw [taC_len]; omega) | omega | skip
  (refine endP_pu (by simp) (by first | (simp [rvsS, rvS]; done) | (simp only [rvsS, rvS, ↓R1, R2, R3, R4, R5, Nat.reduceEqDiff, Nat.reduceAdd, Nat.reduceMul, Nat.reduceSub, Nat.reduceLeDiff, Nat.reduceLT, reduceIte, reduceCtorEq, Int.reduceBNe, Int.reduceBEq, hB2, taC_take, taC_len, taC_drop, hdt, hN, hC, hF, hz, hw, hd2, hT, hP, cRec]; try simp)) ?_ (by (repeat (first | exact St.le_refl _ | (refine St.le_new ?_ (by assumption)) | (refine St.le_newT ?_ (by assumption))))))
  simp only [resAV, rvV, List.map_cons, List.map_nil, ↓R1, R2, R3, R4, R5, Nat.reduceEqDiff, Nat.reduceAdd, Nat.reduceMul, Nat.reduceSub, Nat.reduceLeDiff, Nat.reduceLT, reduceIte, reduceCtorEq, Int.reduceBNe, Int.reduceBEq, hB2, taC_take, taC_len, taC_drop, hdt, hN, hC, hF, hz, hw, hd2, hT, hP, cRec]
  (repeat' (first | exact wk_refl _ | exact wk_nils | exact wk_tsl _ _ _ | exact wk_full _ _ | exact wkL.nil | exact wkL_refl _ | refine wk_tup ?_ | refine wk_agg ?_ | refine wkL.cons ?_ ?_))
set_option maxHeartbeats 4000000 in
theorem app_21zn (l : List LE) (x : LE) (p : Int) (hl : l.length ≤ 1000000) (he : chkE l = 0) (ht : tenE x.t = 0) (hp : plB p = false) (hr : rightE x = 0) (f : Int) (c : Nat) (hv : cntT l x.t.toNat = (f, c)) (hc0 : c = 0) (hf0 : f = 0) (hn : 0 < l.length) (hlt : decide (x.tick < (eAt l (l.length - 1)).tick) = false) (hpl : decide (p ≤ (c : Int)) = true) : Pu Tryd.prog 11 [.agg [sl cLE l], .int .i64 x.t, .int .u64 x.lab, .agg (cRec x), .int .i64 p] (.tup [.agg [sl cLE []], .int .i64 21]) := by
  have h := p34 l hl
  have h2 := p35 x.t
  have h3 := p17 x
  have hB2 := hp
  simp only [plB] at hB2
  obtain ⟨t1, t2⟩ := tenE_ok ht
  have hdt0 := taC_drop2 (cntT l) t1 t2
  rw [hv] at hdt0
  obtain ⟨r, hdt⟩ := hdt0
  simp only [cRec] at h3 ⊢
  rw [he] at h
  rw [ht] at h2
  rw [hr] at h3
  have hN := (show ((f == 0) && ((c : Int) == 0)) = true by rw [hf0, hc0]; rfl)
  have hC : decide ((0 : Int) < (c : Int)) = false := by rw [decide_eq_false_iff_not]; omega
  have hF : True := trivial
  have hz : decide ((0 : Int) < (l.length : Int)) = true := by rw [decide_eq_true_eq]; omega
  have hw : IntKind.i64.wrap ((l.length : Int) - 1) = ((l.length - 1 : Nat) : Int) := by rw [wrap64 (by omega) (by omega)]; omega
  have hd2 := cLE_drop l (l.length - 1) (by omega)
  have hT := hlt
  have hP := hpl
  (refine Pu_intro c11 b11 (Nat.le_of_ble_eq_true rfl) fun σ => ?_; simp only [c11, ↓R1, R2, R3, R4, R5, Nat.reduceEqDiff, Nat.reduceAdd, Nat.reduceMul, Nat.reduceSub, Nat.reduceLeDiff, Nat.reduceLT, reduceIte, reduceCtorEq, Int.reduceBNe, Int.reduceBEq, hB2, taC_take, taC_len, taC_drop, hdt, hN, hC, hF, hz, hw, hd2, hT, hP, cRec])
  repeat' (first | (with_reducible rw [allocV_eq]) | (refine gdV_split (fun hc => ?_) (fun hc => ?_) <;> (try simp only [hc, ↓R1, R2, R3, R4, R5, Nat.reduceEqDiff, Nat.reduceAdd, Nat.reduceMul, Nat.reduceSub, Nat.reduceLeDiff, Nat.reduceLT, reduceIte, reduceCtorEq, Int.reduceBNe, Int.reduceBEq, hB2, taC_take, taC_len, taC_drop, hdt, hN, hC, hF, hz, hw, hd2, hT, hP, cRec])) | ((first | refine condV_split (fun hc => ?_) (fun hc => ?_) | (with_reducible intro β hβ; (try simp only [St.box_noneA, St.tip_noneA, St.tip_set, St.box_tip, St.box_lp, St.tip_lp] at hβ); (repeat (obtain ⟨⟨_, _⟩, hβ⟩ := hβ)); (try (have hbis := apart_is (by assumption) hβ; obtain ⟨_, _⟩ := hbis)))) <;> (try simp only [↓R1, R2, R3, R4, R5, Nat.reduceEqDiff, Nat.reduceAdd, Nat.reduceMul, Nat.reduceSub, Nat.reduceLeDiff, Nat.reduceLT, reduceIte, reduceCtorEq, Int.reduceBNe, Int.reduceBEq, hB2, taC_take, taC_len, taC_drop, hdt, hN, hC, hF, hz, hw, hd2, hT, hP, cRec])) | (with_reducible refine And.intro ?_ ?_; (focus (first | omega | (intros; (repeat' (with_reducible apply And.intro)) <;> first | omega | (simp only [cLE_len, taC_len, cRec_len, List.length_append, List.length_cons, List.length_nil]; omega))))) | (with_reducible apply And.intro) | ((first | refine Pu.to (h) (wkL_refl _) ?_ | refine callDV_pu (h) (wkL_refl _) ?_ | refine Pu.to (h2) (wkL_refl _) ?_ | refine callDV_pu (h2) (wkL_refl _) ?_ | (refine callGV_pu (fun hgv => ⟨?_, (h2), wkL_refl _⟩) ?_; (first | trivial | (focus (simp only [↓R1, R2, R3, R4, R5, Nat.reduceEqDiff, Nat.reduceAdd, Nat.reduceMul, Nat.reduceSub, Nat.reduceLeDiff, Nat.reduceLT, reduceIte, reduceCtorEq, Int.reduceBNe, Int.reduceBEq, hB2, taC_take, taC_len, taC_drop, hdt, hN, hC, hF, hz, hw, hd2, hT, hP, cRec]; done)))) | refine Pu.to (h3) (wkL_refl _) ?_ | refine callDV_pu (h3) (wkL_refl _) ?_); (try simp only [↓R1, R2, R3, R4, R5, Nat.reduceEqDiff, Nat.reduceAdd, Nat.reduceMul, Nat.reduceSub, Nat.reduceLeDiff, Nat.reduceLT, reduceIte, reduceCtorEq, Int.reduceBNe, Int.reduceBEq, hB2, taC_take, taC_len, taC_drop, hdt, hN, hC, hF, hz, hw, hd2, hT, hP, cRec])))
  all_goals first | (exfalso; simp_all; done) | (with_reducible intro hno; exfalso; simp_all; done) | skip
  all_goals first | exact taC_len _ | (rw [taC_len]; omega) | omega | skip
  (refine endP_pu (by simp) (by first | (simp [rvsS, rvS]; done) | (simp only [rvsS, rvS, ↓R1, R2, R3, R4, R5, Nat.reduceEqDiff, Nat.reduceAdd, Nat.reduceMul, Nat.reduceSub, Nat.reduceLeDiff, Nat.reduceLT, reduceIte, reduceCtorEq, Int.reduceBNe, Int.reduceBEq, hB2, taC_take, taC_len, taC_drop, hdt, hN, hC, hF, hz, hw, hd2, hT, hP, cRec]; try simp)) ?_ (by (repeat (first | exact St.le_refl _ | (refine St.le_new ?_ (by assumption)) | (refine St.le_newT ?_ (by assumption))))))
  simp only [resAV, rvV, List.map_cons, List.map_nil, ↓R1, R2, R3, R4, R5, Nat.reduceEqDiff, Nat.reduceAdd, Nat.reduceMul, Nat.reduceSub, Nat.reduceLeDiff, Nat.reduceLT, reduceIte, reduceCtorEq, Int.reduceBNe, Int.reduceBEq, hB2, taC_take, taC_len, taC_drop, hdt, hN, hC, hF, hz, hw, hd2, hT, hP, cRec]
  (repeat' (first | exact wk_refl _ | exact wk_nils | exact wk_tsl _ _ _ | exact wk_full _ _ | exact wkL.nil | exact wkL_refl _ | refine wk_tup ?_ | refine wk_agg ?_ | refine wkL.cons ?_ ?_))
set_option maxHeartbeats 4000000 in
theorem app_0zn (l : List LE) (x : LE) (p : Int) (hl : l.length ≤ 1000000) (he : chkE l = 0) (ht : tenE x.t = 0) (hp : plB p = false) (hr : rightE x = 0) (f : Int) (c : Nat) (hv : cntT l x.t.toNat = (f, c)) (hc0 : c = 0) (hf0 : f = 0) (hn : 0 < l.length) (hlt : decide (x.tick < (eAt l (l.length - 1)).tick) = false) (hpl : decide (p ≤ (c : Int)) = false) : Pu Tryd.prog 11 [.agg [sl cLE l], .int .i64 x.t, .int .u64 x.lab, .agg (cRec x), .int .i64 p] (.tup [.agg [sl cLE (l ++ [x])], .int .i64 0]) := by
  have h := p34 l hl
  have h2 := p35 x.t
  have h3 := p17 x
  have hB2 := hp
  simp only [plB] at hB2
  obtain ⟨t1, t2⟩ := tenE_ok ht
  have hdt0 := taC_drop2 (cntT l) t1 t2
  rw [hv] at hdt0
  obtain ⟨r, hdt⟩ := hdt0
  simp only [cRec] at h3 ⊢
  rw [he] at h
  rw [ht] at h2
  rw [hr] at h3
  have hN := (show ((f == 0) && ((c : Int) == 0)) = true by rw [hf0, hc0]; rfl)
  have hC : decide ((0 : Int) < (c : Int)) = false := by rw [decide_eq_false_iff_not]; omega
  have hF : True := trivial
  have hz : decide ((0 : Int) < (l.length : Int)) = true := by rw [decide_eq_true_eq]; omega
  have hw : IntKind.i64.wrap ((l.length : Int) - 1) = ((l.length - 1 : Nat) : Int) := by rw [wrap64 (by omega) (by omega)]; omega
  have hd2 := cLE_drop l (l.length - 1) (by omega)
  have hT := hlt
  have hP := hpl
  (refine Pu_intro c11 b11 (Nat.le_of_ble_eq_true rfl) fun σ => ?_; simp only [c11, ↓R1, R2, R3, R4, R5, Nat.reduceEqDiff, Nat.reduceAdd, Nat.reduceMul, Nat.reduceSub, Nat.reduceLeDiff, Nat.reduceLT, reduceIte, reduceCtorEq, Int.reduceBNe, Int.reduceBEq, hB2, taC_take, taC_len, taC_drop, hdt, hN, hC, hF, hz, hw, hd2, hT, hP, cRec])
  repeat' (first | (with_reducible rw [allocV_eq]) | (refine gdV_split (fun hc => ?_) (fun hc => ?_) <;> (try simp only [hc, ↓R1, R2, R3, R4, R5, Nat.reduceEqDiff, Nat.reduceAdd, Nat.reduceMul, Nat.reduceSub, Nat.reduceLeDiff, Nat.reduceLT, reduceIte, reduceCtorEq, Int.reduceBNe, Int.reduceBEq, hB2, taC_take, taC_len, taC_drop, hdt, hN, hC, hF, hz, hw, hd2, hT, hP, cRec])) | ((first | refine condV_split (fun hc => ?_) (fun hc => ?_) | (with_reducible intro β hβ; (try simp only [St.box_noneA, St.tip_noneA, St.tip_set, St.box_tip, St.box_lp, St.tip_lp] at hβ); (repeat (obtain ⟨⟨_, _⟩, hβ⟩ := hβ)); (try (have hbis := apart_is (by assumption) hβ; obtain ⟨_, _⟩ := hbis)))) <;> (try simp only [↓R1, R2, R3, R4, R5, Nat.reduceEqDiff, Nat.reduceAdd, Nat.reduceMul, Nat.reduceSub, Nat.reduceLeDiff, Nat.reduceLT, reduceIte, reduceCtorEq, Int.reduceBNe, Int.reduceBEq, hB2, taC_take, taC_len, taC_drop, hdt, hN, hC, hF, hz, hw, hd2, hT, hP, cRec])) | (with_reducible refine And.intro ?_ ?_; (focus (first | omega | (intros; (repeat' (with_reducible apply And.intro)) <;> first | omega | (simp only [cLE_len, taC_len, cRec_len, List.length_append, List.length_cons, List.length_nil]; omega))))) | (with_reducible apply And.intro) | ((first | refine Pu.to (h) (wkL_refl _) ?_ | refine callDV_pu (h) (wkL_refl _) ?_ | refine Pu.to (h2) (wkL_refl _) ?_ | refine callDV_pu (h2) (wkL_refl _) ?_ | (refine callGV_pu (fun hgv => ⟨?_, (h2), wkL_refl _⟩) ?_; (first | trivial | (focus (simp only [↓R1, R2, R3, R4, R5, Nat.reduceEqDiff, Nat.reduceAdd, Nat.reduceMul, Nat.reduceSub, Nat.reduceLeDiff, Nat.reduceLT, reduceIte, reduceCtorEq, Int.reduceBNe, Int.reduceBEq, hB2, taC_take, taC_len, taC_drop, hdt, hN, hC, hF, hz, hw, hd2, hT, hP, cRec]; done)))) | refine Pu.to (h3) (wkL_refl _) ?_ | refine callDV_pu (h3) (wkL_refl _) ?_); (try simp only [↓R1, R2, R3, R4, R5, Nat.reduceEqDiff, Nat.reduceAdd, Nat.reduceMul, Nat.reduceSub, Nat.reduceLeDiff, Nat.reduceLT, reduceIte, reduceCtorEq, Int.reduceBNe, Int.reduceBEq, hB2, taC_take, taC_len, taC_drop, hdt, hN, hC, hF, hz, hw, hd2, hT, hP, cRec])))
  all_goals first | (exfalso; simp_all; done) | (with_reducible intro hno; exfalso; simp_all; done) | skip
  all_goals first | exact taC_len _ | (rw [taC_len]; omega) | omega | skip
  refine tail_any (x := x) hl ?_ ?_ ?_ rfl rfl rfl rfl rfl (fun fr τ hτ e10 e11 => ?_)
  · simp only [↓R1, R2, R3, R4, R5, Nat.reduceEqDiff, Nat.reduceAdd, Nat.reduceMul, Nat.reduceSub, Nat.reduceLeDiff, Nat.reduceLT, reduceIte, reduceCtorEq, Int.reduceBNe, Int.reduceBEq, hB2, taC_take, taC_len, taC_drop, hdt, hN, hC, hF, hz, hw, hd2, hT, hP, cRec]
  · simp only [↓R1, R2, R3, R4, R5, Nat.reduceEqDiff, Nat.reduceAdd, Nat.reduceMul, Nat.reduceSub, Nat.reduceLeDiff, Nat.reduceLT, reduceIte, reduceCtorEq, Int.reduceBNe, Int.reduceBEq, hB2, taC_take, taC_len, taC_drop, hdt, hN, hC, hF, hz, hw, hd2, hT, hP, cRec]
  · simp only [↓R1, R2, R3, R4, R5, Nat.reduceEqDiff, Nat.reduceAdd, Nat.reduceMul, Nat.reduceSub, Nat.reduceLeDiff, Nat.reduceLT, reduceIte, reduceCtorEq, Int.reduceBNe, Int.reduceBEq, hB2, taC_take, taC_len, taC_drop, hdt, hN, hC, hF, hz, hw, hd2, hT, hP, cRec]
  simp only [St.tip_set] at hτ
  have hfl : l.flatMap cLE ++ cLE x = (l ++ [x]).flatMap cLE := flat_one (f := cLE) l x
  have hln : l.length + 1 = (l ++ [x]).length := by simp
  rw [hfl, hln]
  simp only [↓R1, R2, R3, R4, R5, Nat.reduceEqDiff, Nat.reduceAdd, Nat.reduceMul, Nat.reduceSub, Nat.reduceLeDiff, Nat.reduceLT, reduceIte, reduceCtorEq, Int.reduceBNe, Int.reduceBEq, hB2, taC_take, taC_len, taC_drop, hdt, hN, hC, hF, hz, hw, hd2, hT, hP, cRec]
  refine endP_pu (by simp) (by simp only [rvsS, rvS, e10, e11, ↓R1, R2, R3, R4, R5, Nat.reduceEqDiff, Nat.reduceAdd, Nat.reduceMul, Nat.reduceSub, Nat.reduceLeDiff, Nat.reduceLT, reduceIte, reduceCtorEq, Int.reduceBNe, Int.reduceBEq, hB2, taC_take, taC_len, taC_drop, hdt, hN, hC, hF, hz, hw, hd2, hT, hP, cRec]; try simp) ?_ (by (repeat (first | exact St.le_refl _ | (refine St.le_new ?_ (by assumption)) | (refine St.le_newT ?_ (by assumption)))))
  simp only [resAV, rvV, List.map_cons, List.map_nil, e10, e11, ↓R1, R2, R3, R4, R5, Nat.reduceEqDiff, Nat.reduceAdd, Nat.reduceMul, Nat.reduceSub, Nat.reduceLeDiff, Nat.reduceLT, reduceIte, reduceCtorEq, Int.reduceBNe, Int.reduceBEq, hB2, taC_take, taC_len, taC_drop, hdt, hN, hC, hF, hz, hw, hd2, hT, hP, cRec]
  (repeat' (first | exact wk_refl _ | exact wk_nils | exact wk_tsl _ _ _ | exact wk_full _ _ | exact wkL.nil | exact wkL_refl _ | refine wk_tup ?_ | refine wk_agg ?_ | refine wkL.cons ?_ ?_))
set_option maxHeartbeats 4000000 in
theorem app_21ze (l : List LE) (x : LE) (p : Int) (hl : l.length ≤ 1000000) (he : chkE l = 0) (ht : tenE x.t = 0) (hp : plB p = false) (hr : rightE x = 0) (f : Int) (c : Nat) (hv : cntT l x.t.toNat = (f, c)) (hc0 : c = 0) (hf0 : f = 0) (hn : l.length = 0) (hpl : decide (p ≤ (c : Int)) = true) : Pu Tryd.prog 11 [.agg [sl cLE l], .int .i64 x.t, .int .u64 x.lab, .agg (cRec x), .int .i64 p] (.tup [.agg [sl cLE []], .int .i64 21]) := by
  have h := p34 l hl
  have h2 := p35 x.t
  have h3 := p17 x
  have hB2 := hp
  simp only [plB] at hB2
  obtain ⟨t1, t2⟩ := tenE_ok ht
  have hdt0 := taC_drop2 (cntT l) t1 t2
  rw [hv] at hdt0
  obtain ⟨r, hdt⟩ := hdt0
  simp only [cRec] at h3 ⊢
  rw [he] at h
  rw [ht] at h2
  rw [hr] at h3
  have hN := (show ((f == 0) && ((c : Int) == 0)) = true by rw [hf0, hc0]; rfl)
  have hC : decide ((0 : Int) < (c : Int)) = false := by rw [decide_eq_false_iff_not]; omega
  have hF : True := trivial
  have hz : decide ((0 : Int) < (l.length : Int)) = false := by rw [decide_eq_false_iff_not]; omega
  have hw : True := trivial
  have hd2 : True := trivial
  have hT : True := trivial
  have hP := hpl
  (refine Pu_intro c11 b11 (Nat.le_of_ble_eq_true rfl) fun σ => ?_; simp only [c11, ↓R1, R2, R3, R4, R5, Nat.reduceEqDiff, Nat.reduceAdd, Nat.reduceMul, Nat.reduceSub, Nat.reduceLeDiff, Nat.reduceLT, reduceIte, reduceCtorEq, Int.reduceBNe, Int.reduceBEq, hB2, taC_take, taC_len, taC_drop, hdt, hN, hC, hF, hz, hw, hd2, hT, hP, cRec])
  repeat' (first | (with_reducible rw [allocV_eq]) | (refine gdV_split (fun hc => ?_) (fun hc => ?_) <;> (try simp only [hc, ↓R1, R2, R3, R4, R5, Nat.reduceEqDiff, Nat.reduceAdd, Nat.reduceMul, Nat.reduceSub, Nat.reduceLeDiff, Nat.reduceLT, reduceIte, reduceCtorEq, Int.reduceBNe, Int.reduceBEq, hB2, taC_take, taC_len, taC_drop, hdt, hN, hC, hF, hz, hw, hd2, hT, hP, cRec])) | ((first | refine condV_split (fun hc => ?_) (fun hc => ?_) | (with_reducible intro β hβ; (try simp only [St.box_noneA, St.tip_noneA, St.tip_set, St.box_tip, St.box_lp, St.tip_lp] at hβ); (repeat (obtain ⟨⟨_, _⟩, hβ⟩ := hβ)); (try (have hbis := apart_is (by assumption) hβ; obtain ⟨_, _⟩ := hbis)))) <;> (try simp only [↓R1, R2, R3, R4, R5, Nat.reduceEqDiff, Nat.reduceAdd, Nat.reduceMul, Nat.reduceSub, Nat.reduceLeDiff, Nat.reduceLT, reduceIte, reduceCtorEq, Int.reduceBNe, Int.reduceBEq, hB2, taC_take, taC_len, taC_drop, hdt, hN, hC, hF, hz, hw, hd2, hT, hP, cRec])) | (with_reducible refine And.intro ?_ ?_; (focus (first | omega | (intros; (repeat' (with_reducible apply And.intro)) <;> first | omega | (simp only [cLE_len, taC_len, cRec_len, List.length_append, List.length_cons, List.length_nil]; omega))))) | (with_reducible apply And.intro) | ((first | refine Pu.to (h) (wkL_refl _) ?_ | refine callDV_pu (h) (wkL_refl _) ?_ | refine Pu.to (h2) (wkL_refl _) ?_ | refine callDV_pu (h2) (wkL_refl _) ?_ | (refine callGV_pu (fun hgv => ⟨?_, (h2), wkL_refl _⟩) ?_; (first | trivial | (focus (simp only [↓R1, R2, R3, R4, R5, Nat.reduceEqDiff, Nat.reduceAdd, Nat.reduceMul, Nat.reduceSub, Nat.reduceLeDiff, Nat.reduceLT, reduceIte, reduceCtorEq, Int.reduceBNe, Int.reduceBEq, hB2, taC_take, taC_len, taC_drop, hdt, hN, hC, hF, hz, hw, hd2, hT, hP, cRec]; done)))) | refine Pu.to (h3) (wkL_refl _) ?_ | refine callDV_pu (h3) (wkL_refl _) ?_); (try simp only [↓R1, R2, R3, R4, R5, Nat.reduceEqDiff, Nat.reduceAdd, Nat.reduceMul, Nat.reduceSub, Nat.reduceLeDiff, Nat.reduceLT, reduceIte, reduceCtorEq, Int.reduceBNe, Int.reduceBEq, hB2, taC_take, taC_len, taC_drop, hdt, hN, hC, hF, hz, hw, hd2, hT, hP, cRec])))
  all_goals first | (exfalso; simp_all; done) | (with_reducible intro hno; exfalso; simp_all; done) | skip
  all_goals first | exact taC_len _ | (rw [taC_len]; omega) | omega | skip
  (refine endP_pu (by simp) (by first | (simp [rvsS, rvS]; done) | (simp only [rvsS, rvS, ↓R1, R2, R3, R4, R5, Nat.reduceEqDiff, Nat.reduceAdd, Nat.reduceMul, Nat.reduceSub, Nat.reduceLeDiff, Nat.reduceLT, reduceIte, reduceCtorEq, Int.reduceBNe, Int.reduceBEq, hB2, taC_take, taC_len, taC_drop, hdt, hN, hC, hF, hz, hw, hd2, hT, hP, cRec]; try simp)) ?_ (by (repeat (first | exact St.le_refl _ | (refine St.le_new ?_ (by assumption)) | (refine St.le_newT ?_ (by assumption))))))
  simp only [resAV, rvV, List.map_cons, List.map_nil, ↓R1, R2, R3, R4, R5, Nat.reduceEqDiff, Nat.reduceAdd, Nat.reduceMul, Nat.reduceSub, Nat.reduceLeDiff, Nat.reduceLT, reduceIte, reduceCtorEq, Int.reduceBNe, Int.reduceBEq, hB2, taC_take, taC_len, taC_drop, hdt, hN, hC, hF, hz, hw, hd2, hT, hP, cRec]
  (repeat' (first | exact wk_refl _ | exact wk_nils | exact wk_tsl _ _ _ | exact wk_full _ _ | exact wkL.nil | exact wkL_refl _ | refine wk_tup ?_ | refine wk_agg ?_ | refine wkL.cons ?_ ?_))
set_option maxHeartbeats 4000000 in
theorem app_0ze (l : List LE) (x : LE) (p : Int) (hl : l.length ≤ 1000000) (he : chkE l = 0) (ht : tenE x.t = 0) (hp : plB p = false) (hr : rightE x = 0) (f : Int) (c : Nat) (hv : cntT l x.t.toNat = (f, c)) (hc0 : c = 0) (hf0 : f = 0) (hn : l.length = 0) (hpl : decide (p ≤ (c : Int)) = false) : Pu Tryd.prog 11 [.agg [sl cLE l], .int .i64 x.t, .int .u64 x.lab, .agg (cRec x), .int .i64 p] (.tup [.agg [sl cLE (l ++ [x])], .int .i64 0]) := by
  have h := p34 l hl
  have h2 := p35 x.t
  have h3 := p17 x
  have hB2 := hp
  simp only [plB] at hB2
  obtain ⟨t1, t2⟩ := tenE_ok ht
  have hdt0 := taC_drop2 (cntT l) t1 t2
  rw [hv] at hdt0
  obtain ⟨r, hdt⟩ := hdt0
  simp only [cRec] at h3 ⊢
  rw [he] at h
  rw [ht] at h2
  rw [hr] at h3
  have hN := (show ((f == 0) && ((c : Int) == 0)) = true by rw [hf0, hc0]; rfl)
  have hC : decide ((0 : Int) < (c : Int)) = false := by rw [decide_eq_false_iff_not]; omega
  have hF : True := trivial
  have hz : decide ((0 : Int) < (l.length : Int)) = false := by rw [decide_eq_false_iff_not]; omega
  have hw : True := trivial
  have hd2 : True := trivial
  have hT : True := trivial
  have hP := hpl
  (refine Pu_intro c11 b11 (Nat.le_of_ble_eq_true rfl) fun σ => ?_; simp only [c11, ↓R1, R2, R3, R4, R5, Nat.reduceEqDiff, Nat.reduceAdd, Nat.reduceMul, Nat.reduceSub, Nat.reduceLeDiff, Nat.reduceLT, reduceIte, reduceCtorEq, Int.reduceBNe, Int.reduceBEq, hB2, taC_take, taC_len, taC_drop, hdt, hN, hC, hF, hz, hw, hd2, hT, hP, cRec])
  repeat' (first | (with_reducible rw [allocV_eq]) | (refine gdV_split (fun hc => ?_) (fun hc => ?_) <;> (try simp only [hc, ↓R1, R2, R3, R4, R5, Nat.reduceEqDiff, Nat.reduceAdd, Nat.reduceMul, Nat.reduceSub, Nat.reduceLeDiff, Nat.reduceLT, reduceIte, reduceCtorEq, Int.reduceBNe, Int.reduceBEq, hB2, taC_take, taC_len, taC_drop, hdt, hN, hC, hF, hz, hw, hd2, hT, hP, cRec])) | ((first | refine condV_split (fun hc => ?_) (fun hc => ?_) | (with_reducible intro β hβ; (try simp only [St.box_noneA, St.tip_noneA, St.tip_set, St.box_tip, St.box_lp, St.tip_lp] at hβ); (repeat (obtain ⟨⟨_, _⟩, hβ⟩ := hβ)); (try (have hbis := apart_is (by assumption) hβ; obtain ⟨_, _⟩ := hbis)))) <;> (try simp only [↓R1, R2, R3, R4, R5, Nat.reduceEqDiff, Nat.reduceAdd, Nat.reduceMul, Nat.reduceSub, Nat.reduceLeDiff, Nat.reduceLT, reduceIte, reduceCtorEq, Int.reduceBNe, Int.reduceBEq, hB2, taC_take, taC_len, taC_drop, hdt, hN, hC, hF, hz, hw, hd2, hT, hP, cRec])) | (with_reducible refine And.intro ?_ ?_; (focus (first | omega | (intros; (repeat' (with_reducible apply And.intro)) <;> first | omega | (simp only [cLE_len, taC_len, cRec_len, List.length_append, List.length_cons, List.length_nil]; omega))))) | (with_reducible apply And.intro) | ((first | refine Pu.to (h) (wkL_refl _) ?_ | refine callDV_pu (h) (wkL_refl _) ?_ | refine Pu.to (h2) (wkL_refl _) ?_ | refine callDV_pu (h2) (wkL_refl _) ?_ | (refine callGV_pu (fun hgv => ⟨?_, (h2), wkL_refl _⟩) ?_; (first | trivial | (focus (simp only [↓R1, R2, R3, R4, R5, Nat.reduceEqDiff, Nat.reduceAdd, Nat.reduceMul, Nat.reduceSub, Nat.reduceLeDiff, Nat.reduceLT, reduceIte, reduceCtorEq, Int.reduceBNe, Int.reduceBEq, hB2, taC_take, taC_len, taC_drop, hdt, hN, hC, hF, hz, hw, hd2, hT, hP, cRec]; done)))) | refine Pu.to (h3) (wkL_refl _) ?_ | refine callDV_pu (h3) (wkL_refl _) ?_); (try simp only [↓R1, R2, R3, R4, R5, Nat.reduceEqDiff, Nat.reduceAdd, Nat.reduceMul, Nat.reduceSub, Nat.reduceLeDiff, Nat.reduceLT, reduceIte, reduceCtorEq, Int.reduceBNe, Int.reduceBEq, hB2, taC_take, taC_len, taC_drop, hdt, hN, hC, hF, hz, hw, hd2, hT, hP, cRec])))
  all_goals first | (exfalso; simp_all; done) | (with_reducible intro hno; exfalso; simp_all; done) | skip
  all_goals first | exact taC_len _ | (rw [taC_len]; omega) | omega | skip
  refine tail_any (x := x) hl ?_ ?_ ?_ rfl rfl rfl rfl rfl (fun fr τ hτ e10 e11 => ?_)
  · simp only [↓R1, R2, R3, R4, R5, Nat.reduceEqDiff, Nat.reduceAdd, Nat.reduceMul, Nat.reduceSub, Nat.reduceLeDiff, Nat.reduceLT, reduceIte, reduceCtorEq, Int.reduceBNe, Int.reduceBEq, hB2, taC_take, taC_len, taC_drop, hdt, hN, hC, hF, hz, hw, hd2, hT, hP, cRec]
  · simp only [↓R1, R2, R3, R4, R5, Nat.reduceEqDiff, Nat.reduceAdd, Nat.reduceMul, Nat.reduceSub, Nat.reduceLeDiff, Nat.reduceLT, reduceIte, reduceCtorEq, Int.reduceBNe, Int.reduceBEq, hB2, taC_take, taC_len, taC_drop, hdt, hN, hC, hF, hz, hw, hd2, hT, hP, cRec]
  · simp only [↓R1, R2, R3, R4, R5, Nat.reduceEqDiff, Nat.reduceAdd, Nat.reduceMul, Nat.reduceSub, Nat.reduceLeDiff, Nat.reduceLT, reduceIte, reduceCtorEq, Int.reduceBNe, Int.reduceBEq, hB2, taC_take, taC_len, taC_drop, hdt, hN, hC, hF, hz, hw, hd2, hT, hP, cRec]
  simp only [St.tip_set] at hτ
  have hfl : l.flatMap cLE ++ cLE x = (l ++ [x]).flatMap cLE := flat_one (f := cLE) l x
  have hln : l.length + 1 = (l ++ [x]).length := by simp
  rw [hfl, hln]
  simp only [↓R1, R2, R3, R4, R5, Nat.reduceEqDiff, Nat.reduceAdd, Nat.reduceMul, Nat.reduceSub, Nat.reduceLeDiff, Nat.reduceLT, reduceIte, reduceCtorEq, Int.reduceBNe, Int.reduceBEq, hB2, taC_take, taC_len, taC_drop, hdt, hN, hC, hF, hz, hw, hd2, hT, hP, cRec]
  refine endP_pu (by simp) (by simp only [rvsS, rvS, e10, e11, ↓R1, R2, R3, R4, R5, Nat.reduceEqDiff, Nat.reduceAdd, Nat.reduceMul, Nat.reduceSub, Nat.reduceLeDiff, Nat.reduceLT, reduceIte, reduceCtorEq, Int.reduceBNe, Int.reduceBEq, hB2, taC_take, taC_len, taC_drop, hdt, hN, hC, hF, hz, hw, hd2, hT, hP, cRec]; try simp) ?_ (by (repeat (first | exact St.le_refl _ | (refine St.le_new ?_ (by assumption)) | (refine St.le_newT ?_ (by assumption)))))
  simp only [resAV, rvV, List.map_cons, List.map_nil, e10, e11, ↓R1, R2, R3, R4, R5, Nat.reduceEqDiff, Nat.reduceAdd, Nat.reduceMul, Nat.reduceSub, Nat.reduceLeDiff, Nat.reduceLT, reduceIte, reduceCtorEq, Int.reduceBNe, Int.reduceBEq, hB2, taC_take, taC_len, taC_drop, hdt, hN, hC, hF, hz, hw, hd2, hT, hP, cRec]
  (repeat' (first | exact wk_refl _ | exact wk_nils | exact wk_tsl _ _ _ | exact wk_full _ _ | exact wkL.nil | exact wkL_refl _ | refine wk_tup ?_ | refine wk_agg ?_ | refine wkL.cons ?_ ?_))
end Go.Proofs.YtbbkckogjdjjgaaDoor
namespace Go.Proofs.YtbbkckogjdjjgaaDoor
open Go.Abs
set_option linter.all false
set_option maxRecDepth 100000
theorem chk_all {l : List LE} (h : chkE l = 0) : l.length ≤ 384 ∧ ∀ j, j < l.length → stE l j = 0 := by
  unfold chkE at h
  cases hq : decide (384 < l.length) with
  | true => rw [hq] at h; cases h
  | false =>
    rw [hq, cond_false] at h
    exact ⟨by simpa using hq, fun j hj => firstE_zero h j (by omega) (by omega)⟩
theorem p11 (l : List LE) (x : LE) (p : Int) (hl : l.length ≤ 1000000) : Pu Tryd.prog 11 [.agg [sl cLE l], .int .i64 x.t, .int .u64 x.lab, .agg (cRec x), .int .i64 p] (.tup [.agg [sl cLE (appL l x p)], .int .i64 (appE l x p)]) := by
  by_cases he : chkE l = 0
  · cases hb : ((tenE x.t == 0) && !plB p) with
    | false => exact app_e2 l x p hl he hb
    | true =>
      have hb2 := hb
      rw [Bool.and_eq_true, beq_iff_eq, Bool.not_eq_true'] at hb2
      obtain ⟨ht, hp⟩ := hb2
      by_cases hr : rightE x = 0
      · obtain ⟨c1, c2⟩ := chk_all he
        obtain ⟨t1, t2⟩ := tenE_ok ht
        have hT : cntT l = taK l l.length := by simp [cntT, he]
        have hm := mis_ta l l.length (Nat.le_refl _) (fun j hj => stE_with (c2 j hj)) x.t x.lab t1 t2
        have hc := (taK_says l l.length (Nat.le_refl _) (fun j hj => stE_with (c2 j hj)) x.t t1 t2).1
        have hz := ta_zero l l.length (Nat.le_refl _) x.t.toNat
        rw [← hT, List.take_length] at hm hc
        rw [← hT] at hz
        obtain ⟨f, c, hv⟩ : ∃ f c, cntT l x.t.toNat = (f, c) := ⟨_, _, rfl⟩
        rw [hv] at hm hc hz
        simp only at hm hc hz
        have hE : appE l x p = bif misT l x.t x.lab then 13 else bif lateX l x then 9 else bif decide (p ≤ (c : Int)) then 21 else 0 := by
          simp only [appE, he, beq_self_eq_true, hb, hr, cond_true, hc]
        have hne : appE l x p ≠ 0 → appL l x p = [] := appL_no
        have hyes : appE l x p = 0 → appL l x p = l ++ [x] := fun h => by rw [appL, h]; rfl
        rcases Nat.eq_zero_or_pos c with h0 | h0
        · have hf0 := hz h0
          have hm2 : misT l x.t x.lab = false := by rw [← hm, h0]; rfl
          rw [hm2, cond_false] at hE
          cases hlt : lateX l x with
          | true =>
            rw [hlt, cond_true] at hE
            rw [hne (by rw [hE]; decide), hE]
            unfold lateX at hlt
            rw [Bool.and_eq_true, decide_eq_true_eq] at hlt
            exact app_9z l x p hl he ht hp hr f c hv h0 hf0 hlt.1 hlt.2
          | false =>
            rw [hlt, cond_false] at hE
            rcases Nat.eq_zero_or_pos l.length with hn | hn
            · cases hpl : decide (p ≤ (c : Int)) with
              | true => rw [hpl, cond_true] at hE; rw [hne (by rw [hE]; decide), hE]; exact app_21ze l x p hl he ht hp hr f c hv h0 hf0 hn hpl
              | false => rw [hpl, cond_false] at hE; rw [hyes hE, hE]; exact app_0ze l x p hl he ht hp hr f c hv h0 hf0 hn hpl
            · have hl2 : decide (x.tick < (eAt l (l.length - 1)).tick) = false := by
                unfold lateX at hlt; rw [decide_eq_true hn] at hlt; exact hlt
              cases hpl : decide (p ≤ (c : Int)) with
              | true => rw [hpl, cond_true] at hE; rw [hne (by rw [hE]; decide), hE]; exact app_21zn l x p hl he ht hp hr f c hv h0 hf0 hn hl2 hpl
              | false => rw [hpl, cond_false] at hE; rw [hyes hE, hE]; exact app_0zn l x p hl he ht hp hr f c hv h0 hf0 hn hl2 hpl
        · have hn : 0 < l.length := by
            rw [hc] at h0
            exact Nat.lt_of_lt_of_le h0 (ofT_le l x.t)
          rw [decide_eq_true h0, Bool.true_and] at hm
          cases hf : (f != x.lab) with
          | true =>
            rw [← hm, hf, cond_true] at hE
            rw [hne (by rw [hE]; decide), hE]
            exact app_13 l x p hl he ht hp hr f c hv h0 hf
          | false =>
            rw [← hm, hf, cond_false] at hE
            cases hlt : lateX l x with
            | true =>
              rw [hlt, cond_true] at hE
              rw [hne (by rw [hE]; decide), hE]
              unfold lateX at hlt
              rw [Bool.and_eq_true, decide_eq_true_eq] at hlt
              exact app_9p l x p hl he ht hp hr f c hv h0 hf hlt.1 hlt.2
            | false =>
              rw [hlt, cond_false] at hE
              have hl2 : decide (x.tick < (eAt l (l.length - 1)).tick) = false := by
                unfold lateX at hlt; rw [decide_eq_true hn] at hlt; exact hlt
              cases hpl : decide (p ≤ (c : Int)) with
              | true => rw [hpl, cond_true] at hE; rw [hne (by rw [hE]; decide), hE]; exact app_21pn l x p hl he ht hp hr f c hv h0 hf hn hl2 hpl
              | false => rw [hpl, cond_false] at hE; rw [hyes hE, hE]; exact app_0pn l x p hl he ht hp hr f c hv h0 hf hn hl2 hpl
      · have hE : appE l x p = rightE x := by simp only [appE, he, beq_self_eq_true, hb, beq_eq_false_iff_ne.2 hr, cond_true, cond_false]
        rw [appL_no (by rw [hE]; exact hr), hE]
        exact app_e3 l x p hl he ht hp hr
  · exact app_e1 l x p hl he
end Go.Proofs.YtbbkckogjdjjgaaDoor
