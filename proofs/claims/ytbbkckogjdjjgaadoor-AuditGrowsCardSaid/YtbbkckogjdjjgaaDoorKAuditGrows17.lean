/- Part 17 of the proof of AuditGrows: an abstract semantics that is proved sound for the model, contracts of functions in it, and plain facts (AU11 AU12 AU13). No condition. -/
import Derived.Test.YtbbkckogjdjjgaaDoorKAuditGrows16
set_option linter.all false
namespace Go.Proofs.YtbbkckogjdjjgaaDoor
open Go.Abs
set_option linter.all false
set_option maxRecDepth 100000
theorem tail_any {K : Fr → St → Prop} {σ0 : St} {β5 β8 β10 : Nat} {l : List LE} {x : LE} {fr0 : Fr} (hl : l.length ≤ 1000000) (h5 : σ0.box β5 = some [sl cLE l]) (h8 : σ0.box β8 = some (cRec x)) (h10 : σ0.box β10 = some [.nils])
    (s1 : slot 1 fr0 = .int .i64 x.t) (s2 : slot 2 fr0 = .int .u64 x.lab) (s5 : slot 5 fr0 = .ptr β5 0) (s8 : slot 8 fr0 = .ptr β8 0) (s10 : slot 10 fr0 = .ptr β10 0)
    (hK : ∀ fr τ, σ0.tip τ = none → slot 10 fr = .ptr β10 0 → slot 11 fr = .int .i64 0 → K fr ((σ0.setTip τ (31, 8, l.length + 1)).setBox β10 [.tsl τ (l.length + 1) (l.flatMap cLE ++ cLE x)])) :
    anyK Tryd.prog (mkT tl11 dp11 13 0) K fr0 σ0 := by
  refine any_mk tl11 dp11 (InvA σ0 β5 β8 β10 l x) (inv_step σ0 β5 β8 β10 l x hl h5 h8 h10) (fun D hq fr σ h => ?_) 13 0 fr0 σ0 ?_
  · have q0 := hq 0 (by decide)
    have q1 := hq 1 (by decide)
    have q2 := hq 2 (by decide)
    have q3 := hq 3 (by decide)
    have q4 := hq 4 (by decide)
    have q5 := hq 5 (by decide)
    have q6 := hq 6 (by decide)
    have q7 := hq 7 (by decide)
    have q8 := hq 8 (by decide)
    have q9 := hq 9 (by decide)
    have q10 := hq 10 (by decide)
    have q11 := hq 11 (by decide)
    simp [dp11] at q0
    simp [dp11, q0] at q1
    simp [dp11, q0, q1] at q2
    simp [dp11] at q3
    simp [dp11] at q4
    simp [dp11] at q5
    simp [dp11, q3, q4, q5] at q6
    simp [dp11, q6] at q7
    simp [dp11, q2, q7] at q8
    simp [dp11, q8] at q9
    simp [dp11, q0, q1, q2, q3, q4, q5, q6, q7, q8, q9] at q10
    simp [dp11, q0, q1, q2, q3, q4, q5, q6, q7, q8, q9, q10] at q11
    obtain ⟨τ, hτ, _, h3⟩ := h.st1 q2
    obtain ⟨_, _, _, h4⟩ := h3 q8
    rw [h4 q10]
    exact hK fr τ hτ h.s10 (h.d11 q11)
  · exact { s1 := s1, s2 := s2, s5 := s5, s8 := s8, s10 := s10, d0 := by simp, d1 := by simp, d3 := by simp, d4 := by simp, d5 := by simp, d6 := by simp, d7 := by simp, d11 := by simp, c1 := by simp, c2 := by simp, c6 := by simp, c7 := by simp, c8 := by simp, c82 := by simp, c9 := by simp, c10 := by simp, st0 := fun _ => rfl, st1 := by simp }
def lateX (l : List LE) (x : LE) : Bool := decide (0 < l.length) && decide (x.tick < (eAt l (l.length - 1)).tick)
def plB (p : Int) : Bool := decide (p < 0) || decide (64 < p)
def appE (l : List LE) (x : LE) (p : Int) : Int := bif chkE l == 0 then (bif (tenE x.t == 0) && !plB p then (bif rightE x == 0 then (bif misT l x.t x.lab then 13 else bif lateX l x then 9 else bif decide (p ≤ ((ofT l x.t).length : Int)) then 21 else 0) else rightE x) else 2) else chkE l
def appL (l : List LE) (x : LE) (p : Int) : List LE := bif appE l x p == 0 then l ++ [x] else []
theorem appL_no {l : List LE} {x : LE} {p : Int} (h : appE l x p ≠ 0) : appL l x p = [] := by
  rw [appL, beq_eq_false_iff_ne.2 h]; rfl
theorem ta_zero (l : List LE) : ∀ k, k ≤ l.length → ∀ i, (taK l k i).2 = 0 → (taK l k i).1 = 0
  | 0, _, i, _ => rfl
  | k + 1, hk, i, h => by
    have ih := ta_zero l k (by omega) i
    rw [taK_succ (by omega)] at h ⊢
    unfold withT at h ⊢
    cases hq : (withE (taK l k) (eAt l k) == 0) with
    | false => rw [hq] at h; simp only [cond_false] at h ⊢; exact ih h
    | true =>
      rw [hq] at h
      simp only [cond_true, taUp] at h ⊢
      cases hb : Nat.beq i (eAt l k).t.toNat with
      | false => rw [hb] at h; simp only [cond_false] at h ⊢; exact ih h
      | true => rw [hb] at h; simp at h
theorem taC_drop2 (T : Ta) {t : Int} (h1 : 1 ≤ t) (h2 : t ≤ 6) : ∃ r, (taC T).drop (Int.toNat t * 2) = .int .u64 (T t.toNat).1 :: .int .i64 (T t.toNat).2 :: r := by
  have h6 : t = 1 ∨ t = 2 ∨ t = 3 ∨ t = 4 ∨ t = 5 ∨ t = 6 := by omega
  rcases h6 with rfl | rfl | rfl | rfl | rfl | rfl <;> exact ⟨_, rfl⟩
theorem app_e1 (l : List LE) (x : LE) (p : Int) (hl : l.length ≤ 1000000) (he : chkE l ≠ 0) : Pu Tryd.prog 11 [.agg [sl cLE l], .int .i64 x.t, .int .u64 x.lab, .agg (cRec x), .int .i64 p] (.tup [.agg [sl cLE (appL l x p)], .int .i64 (appE l x p)]) := by
  have h := p34 l hl
  have hq : (chkE l == 0) = false := by simpa using he
  have hq2 : (chkE l != 0) = true := by simpa using he
  have hB : True := trivial
  have hB2 : True := trivial
  have e1 : appE l x p = chkE l := by simp only [appE, hq, cond_false]
  rw [appL_no (by rw [e1]; exact he), e1]
  (refine Pu_intro c11 b11 (Nat.le_of_ble_eq_true rfl) fun σ => ?_; simp only [c11, ↓R1, R2, R3, R4, R5, Nat.reduceEqDiff, Nat.reduceAdd, Nat.reduceMul, Nat.reduceSub, Nat.reduceLeDiff, Nat.reduceLT, reduceIte, reduceCtorEq, Int.reduceBNe, Int.reduceBEq, hq, hq2, hB, hB2, taC_take, taC_len, taC_drop])
  repeat' (first | (with_reducible rw [allocV_eq]) | (refine gdV_split (fun hc => ?_) (fun hc => ?_) <;> (try simp only [hc, ↓R1, R2, R3, R4, R5, Nat.reduceEqDiff, Nat.reduceAdd, Nat.reduceMul, Nat.reduceSub, Nat.reduceLeDiff, Nat.reduceLT, reduceIte, reduceCtorEq, Int.reduceBNe, Int.reduceBEq, hq, hq2, hB, hB2, taC_take, taC_len, taC_drop])) | ((first | refine condV_split (fun hc => ?_) (fun hc => ?_) | (with_reducible intro β hβ; (try simp only [St.box_noneA, St.tip_noneA, St.tip_set, St.box_tip, St.box_lp, St.tip_lp] at hβ); (repeat (obtain ⟨⟨_, _⟩, hβ⟩ := hβ)); (try (have hbis := apart_is (by assumption) hβ; obtain ⟨_, _⟩ := hbis)))) <;> (try simp only [↓R1, R2, R3, R4, R5, Nat.reduceEqDiff, Nat.reduceAdd, Nat.reduceMul, Nat.reduceSub, Nat.reduceLeDiff, Nat.reduceLT, reduceIte, reduceCtorEq, Int.reduceBNe, Int.reduceBEq, hq, hq2, hB, hB2, taC_take, taC_len, taC_drop])) | (with_reducible refine And.intro ?_ ?_; (focus (first | omega | (intros; (repeat' (with_reducible apply And.intro)) <;> first | omega | (simp only [cLE_len, taC_len, cRec_len, List.length_append, List.length_cons, List.length_nil]; omega))))) | (with_reducible apply And.intro) | ((first | refine Pu.to (h) (wkL_refl _) ?_ | refine callDV_pu (h) (wkL_refl _) ?_); (try simp only [↓R1, R2, R3, R4, R5, Nat.reduceEqDiff, Nat.reduceAdd, Nat.reduceMul, Nat.reduceSub, Nat.reduceLeDiff, Nat.reduceLT, reduceIte, reduceCtorEq, Int.reduceBNe, Int.reduceBEq, hq, hq2, hB, hB2, taC_take, taC_len, taC_drop])))
  all_goals first | (exfalso; simp_all; done) | (with_reducible intro hno; exfalso; simp_all; done) | skip
  all_goals first | exact taC_len _ | exact cRec_f _ | skip
  (refine endP_pu (by simp) (by first | (simp [rvsS, rvS]; done) | (simp only [rvsS, rvS, ↓R1, R2, R3, R4, R5, Nat.reduceEqDiff, Nat.reduceAdd, Nat.reduceMul, Nat.reduceSub, Nat.reduceLeDiff, Nat.reduceLT, reduceIte, reduceCtorEq, Int.reduceBNe, Int.reduceBEq, hq, hq2, hB, hB2, taC_take, taC_len, taC_drop]; try simp)) ?_ (by (repeat (first | exact St.le_refl _ | (refine St.le_new ?_ (by assumption)) | (refine St.le_newT ?_ (by assumption))))))
  simp only [resAV, rvV, List.map_cons, List.map_nil, ↓R1, R2, R3, R4, R5, Nat.reduceEqDiff, Nat.reduceAdd, Nat.reduceMul, Nat.reduceSub, Nat.reduceLeDiff, Nat.reduceLT, reduceIte, reduceCtorEq, Int.reduceBNe, Int.reduceBEq, hq, hq2, hB, hB2, taC_take, taC_len, taC_drop]
  (repeat' (first | exact wk_refl _ | exact wk_nils | exact wk_tsl _ _ _ | exact wk_full _ _ | exact wkL.nil | exact wkL_refl _ | refine wk_tup ?_ | refine wk_agg ?_ | refine wkL.cons ?_ ?_))
theorem app_e2 (l : List LE) (x : LE) (p : Int) (hl : l.length ≤ 1000000) (he : chkE l = 0) (hb : ((tenE x.t == 0) && !plB p) = false) : Pu Tryd.prog 11 [.agg [sl cLE l], .int .i64 x.t, .int .u64 x.lab, .agg (cRec x), .int .i64 p] (.tup [.agg [sl cLE (appL l x p)], .int .i64 (appE l x p)]) := by
  have h := p34 l hl
  have h2 := p35 x.t
  have hq : True := trivial
  have hq2 : True := trivial
  have e1 : appE l x p = 2 := by simp only [appE, he, hb]; rfl
  rw [appL_no (by rw [e1]; decide), e1]
  rw [he] at h
  cases ht : (tenE x.t == 0) with
  | true =>
    rw [ht] at h2 hb
    have hB : plB p = true := by simpa using hb
    have hB2 := hB
    simp only [plB] at hB2
    (refine Pu_intro c11 b11 (Nat.le_of_ble_eq_true rfl) fun σ => ?_; simp only [c11, ↓R1, R2, R3, R4, R5, Nat.reduceEqDiff, Nat.reduceAdd, Nat.reduceMul, Nat.reduceSub, Nat.reduceLeDiff, Nat.reduceLT, reduceIte, reduceCtorEq, Int.reduceBNe, Int.reduceBEq, hq, hq2, hB, hB2, taC_take, taC_len, taC_drop])
    repeat' (first | (with_reducible rw [allocV_eq]) | (refine gdV_split (fun hc => ?_) (fun hc => ?_) <;> (try simp only [hc, ↓R1, R2, R3, R4, R5, Nat.reduceEqDiff, Nat.reduceAdd, Nat.reduceMul, Nat.reduceSub, Nat.reduceLeDiff, Nat.reduceLT, reduceIte, reduceCtorEq, Int.reduceBNe, Int.reduceBEq, hq, hq2, hB, hB2, taC_take, taC_len, taC_drop])) | ((first | refine condV_split (fun hc => ?_) (fun hc => ?_) | (with_reducible intro β hβ; (try simp only [St.box_noneA, St.tip_noneA, St.tip_set, St.box_tip, St.box_lp, St.tip_lp] at hβ); (repeat (obtain ⟨⟨_, _⟩, hβ⟩ := hβ)); (try (have hbis := apart_is (by assumption) hβ; obtain ⟨_, _⟩ := hbis)))) <;> (try simp only [↓R1, R2, R3, R4, R5, Nat.reduceEqDiff, Nat.reduceAdd, Nat.reduceMul, Nat.reduceSub, Nat.reduceLeDiff, Nat.reduceLT, reduceIte, reduceCtorEq, Int.reduceBNe, Int.reduceBEq, hq, hq2, hB, hB2, taC_take, taC_len, taC_drop])) | (with_reducible refine And.intro ?_ ?_; (focus (first | omega | (intros; (repeat' (with_reducible apply And.intro)) <;> first | omega | (simp only [cLE_len, taC_len, cRec_len, List.length_append, List.length_cons, List.length_nil]; omega))))) | (with_reducible apply And.intro) | ((first | refine Pu.to (h) (wkL_refl _) ?_ | refine callDV_pu (h) (wkL_refl _) ?_ | refine Pu.to (h2) (wkL_refl _) ?_ | refine callDV_pu (h2) (wkL_refl _) ?_ | (refine callGV_pu (fun hgv => ⟨?_, (h2), wkL_refl _⟩) ?_; (first | trivial | (focus (simp only [↓R1, R2, R3, R4, R5, Nat.reduceEqDiff, Nat.reduceAdd, Nat.reduceMul, Nat.reduceSub, Nat.reduceLeDiff, Nat.reduceLT, reduceIte, reduceCtorEq, Int.reduceBNe, Int.reduceBEq, hq, hq2, hB, hB2, taC_take, taC_len, taC_drop]; done))))); (try simp only [↓R1, R2, R3, R4, R5, Nat.reduceEqDiff, Nat.reduceAdd, Nat.reduceMul, Nat.reduceSub, Nat.reduceLeDiff, Nat.reduceLT, reduceIte, reduceCtorEq, Int.reduceBNe, Int.reduceBEq, hq, hq2, hB, hB2, taC_take, taC_len, taC_drop])))
    all_goals first | (exfalso; simp_all; done) | (with_reducible intro hno; exfalso; simp_all; done) | skip
    all_goals first | exact taC_len _ | exact cRec_f _ | skip
    (refine endP_pu (by simp) (by first | (simp [rvsS, rvS]; done) | (simp only [rvsS, rvS, ↓R1, R2, R3, R4, R5, Nat.reduceEqDiff, Nat.reduceAdd, Nat.reduceMul, Nat.reduceSub, Nat.reduceLeDiff, Nat.reduceLT, reduceIte, reduceCtorEq, Int.reduceBNe, Int.reduceBEq, hq, hq2, hB, hB2, taC_take, taC_len, taC_drop]; try simp)) ?_ (by (repeat (first | exact St.le_refl _ | (refine St.le_new ?_ (by assumption)) | (refine St.le_newT ?_ (by assumption))))))
    simp only [resAV, rvV, List.map_cons, List.map_nil, ↓R1, R2, R3, R4, R5, Nat.reduceEqDiff, Nat.reduceAdd, Nat.reduceMul, Nat.reduceSub, Nat.reduceLeDiff, Nat.reduceLT, reduceIte, reduceCtorEq, Int.reduceBNe, Int.reduceBEq, hq, hq2, hB, hB2, taC_take, taC_len, taC_drop]
    (repeat' (first | exact wk_refl _ | exact wk_nils | exact wk_tsl _ _ _ | exact wk_full _ _ | exact wkL.nil | exact wkL_refl _ | refine wk_tup ?_ | refine wk_agg ?_ | refine wkL.cons ?_ ?_))
  | false =>
    rw [ht] at h2
    have hB : True := trivial
    have hB2 : True := trivial
    (refine Pu_intro c11 b11 (Nat.le_of_ble_eq_true rfl) fun σ => ?_; simp only [c11, ↓R1, R2, R3, R4, R5, Nat.reduceEqDiff, Nat.reduceAdd, Nat.reduceMul, Nat.reduceSub, Nat.reduceLeDiff, Nat.reduceLT, reduceIte, reduceCtorEq, Int.reduceBNe, Int.reduceBEq, hq, hq2, hB, hB2, taC_take, taC_len, taC_drop])
    repeat' (first | (with_reducible rw [allocV_eq]) | (refine gdV_split (fun hc => ?_) (fun hc => ?_) <;> (try simp only [hc, ↓R1, R2, R3, R4, R5, Nat.reduceEqDiff, Nat.reduceAdd, Nat.reduceMul, Nat.reduceSub, Nat.reduceLeDiff, Nat.reduceLT, reduceIte, reduceCtorEq, Int.reduceBNe, Int.reduceBEq, hq, hq2, hB, hB2, taC_take, taC_len, taC_drop])) | ((first | refine condV_split (fun hc => ?_) (fun hc => ?_) | (with_reducible intro β hβ; (try simp only [St.box_noneA, St.tip_noneA, St.tip_set, St.box_tip, St.box_lp, St.tip_lp] at hβ); (repeat (obtain ⟨⟨_, _⟩, hβ⟩ := hβ)); (try (have hbis := apart_is (by assumption) hβ; obtain ⟨_, _⟩ := hbis)))) <;> (try simp only [↓R1, R2, R3, R4, R5, Nat.reduceEqDiff, Nat.reduceAdd, Nat.reduceMul, Nat.reduceSub, Nat.reduceLeDiff, Nat.reduceLT, reduceIte, reduceCtorEq, Int.reduceBNe, Int.reduceBEq, hq, hq2, hB, hB2, taC_take, taC_len, taC_drop])) | (with_reducible refine And.intro ?_ ?_; (focus (first | omega | (intros; (repeat' (with_reducible apply And.intro)) <;> first | omega | (simp only [cLE_len, taC_len, cRec_len, List.length_append, List.length_cons, List.length_nil]; omega))))) | (with_reducible apply And.intro) | ((first | refine Pu.to (h) (wkL_refl _) ?_ | refine callDV_pu (h) (wkL_refl _) ?_ | refine Pu.to (h2) (wkL_refl _) ?_ | refine callDV_pu (h2) (wkL_refl _) ?_ | (refine callGV_pu (fun hgv => ⟨?_, (h2), wkL_refl _⟩) ?_; (first | trivial | (focus (simp only [↓R1, R2, R3, R4, R5, Nat.reduceEqDiff, Nat.reduceAdd, Nat.reduceMul, Nat.reduceSub, Nat.reduceLeDiff, Nat.reduceLT, reduceIte, reduceCtorEq, Int.reduceBNe, Int.reduceBEq, hq, hq2, hB, hB2, taC_take, taC_len, taC_drop]; done))))); (try simp only [↓R1, R2, R3, R4, R5, Nat.reduceEqDiff, Nat.reduceAdd, Nat.reduceMul, Nat.reduceSub, Nat.reduceLeDiff, Nat.reduceLT, reduceIte, reduceCtorEq, Int.reduceBNe, Int.reduceBEq, hq, hq2, hB, hB2, taC_take, taC_len, taC_drop])))
    all_goals first | (exfalso; simp_all; done) | (with_reducible intro hno; exfalso; simp_all; done) | skip
    all_goals first | exact taC_len _ | exact cRec_f _ | skip
    (refine endP_pu (by simp) (by first | (simp [rvsS, rvS]; done) | (simp only [rvsS, rvS, ↓R1, R2, R3, R4, R5, Nat.reduceEqDiff, Nat.reduceAdd, Nat.reduceMul, Nat.reduceSub, Nat.reduceLeDiff, Nat.reduceLT, reduceIte, reduceCtorEq, Int.reduceBNe, Int.reduceBEq, hq, hq2, hB, hB2, taC_take, taC_len, taC_drop]; try simp)) ?_ (by (repeat (first | exact St.le_refl _ | (refine St.le_new ?_ (by assumption)) | (refine St.le_newT ?_ (by assumption))))))
    simp only [resAV, rvV, List.map_cons, List.map_nil, ↓R1, R2, R3, R4, R5, Nat.reduceEqDiff, Nat.reduceAdd, Nat.reduceMul, Nat.reduceSub, Nat.reduceLeDiff, Nat.reduceLT, reduceIte, reduceCtorEq, Int.reduceBNe, Int.reduceBEq, hq, hq2, hB, hB2, taC_take, taC_len, taC_drop]
    (repeat' (first | exact wk_refl _ | exact wk_nils | exact wk_tsl _ _ _ | exact wk_full _ _ | exact wkL.nil | exact wkL_refl _ | refine wk_tup ?_ | refine wk_agg ?_ | refine wkL.cons ?_ ?_))
end Go.Proofs.YtbbkckogjdjjgaaDoor
namespace Go.Proofs.YtbbkckogjdjjgaaDoor
open Go.Abs
set_option linter.all false
set_option maxRecDepth 100000
theorem app_e3 (l : List LE) (x : LE) (p : Int) (hl : l.length ≤ 1000000) (he : chkE l = 0) (ht : tenE x.t = 0) (hp : plB p = false) (hr : rightE x ≠ 0) : Pu Tryd.prog 11 [.agg [sl cLE l], .int .i64 x.t, .int .u64 x.lab, .agg (cRec x), .int .i64 p] (.tup [.agg [sl cLE []], .int .i64 (rightE x)]) := by
  have h := p34 l hl
  have h2 := p35 x.t
  have h3 := p17 x
  have hB2 := hp
  simp only [plB] at hB2
  have hB3 : (rightE x == 0) = false := by simpa using hr
  have hB4 : (rightE x != 0) = true := by simpa using hr
  have h5 := cRec_f x
  rw [he] at h
  rw [ht] at h2
  (refine Pu_intro c11 b11 (Nat.le_of_ble_eq_true rfl) fun σ => ?_; simp only [c11, ↓R1, R2, R3, R4, R5, Nat.reduceEqDiff, Nat.reduceAdd, Nat.reduceMul, Nat.reduceSub, Nat.reduceLeDiff, Nat.reduceLT, reduceIte, reduceCtorEq, Int.reduceBNe, Int.reduceBEq, hB2, hB3, hB4, taC_take, taC_len, taC_drop])
  repeat' (first | (with_reducible rw [allocV_eq]) | (refine gdV_split (fun hc => ?_) (fun hc => ?_) <;> (try simp only [hc, ↓R1, R2, R3, R4, R5, Nat.reduceEqDiff, Nat.reduceAdd, Nat.reduceMul, Nat.reduceSub, Nat.reduceLeDiff, Nat.reduceLT, reduceIte, reduceCtorEq, Int.reduceBNe, Int.reduceBEq, hB2, hB3, hB4, taC_take, taC_len, taC_drop])) | ((first | refine condV_split (fun hc => ?_) (fun hc => ?_) | (with_reducible intro β hβ; (try simp only [St.box_noneA, St.tip_noneA, St.tip_set, St.box_tip, St.box_lp, St.tip_lp] at hβ); (repeat (obtain ⟨⟨_, _⟩, hβ⟩ := hβ)); (try (have hbis := apart_is (by assumption) hβ; obtain ⟨_, _⟩ := hbis)))) <;> (try simp only [↓R1, R2, R3, R4, R5, Nat.reduceEqDiff, Nat.reduceAdd, Nat.reduceMul, Nat.reduceSub, Nat.reduceLeDiff, Nat.reduceLT, reduceIte, reduceCtorEq, Int.reduceBNe, Int.reduceBEq, hB2, hB3, hB4, taC_take, taC_len, taC_drop])) | (with_reducible refine And.intro ?_ ?_; (focus (first | omega | (intros; (repeat' (with_reducible apply And.intro)) <;> first | omega | (simp only [cLE_len, taC_len, cRec_len, List.length_append, List.length_cons, List.length_nil]; omega))))) | (with_reducible apply And.intro) | ((first | refine Pu.to (h) (wkL_refl _) ?_ | refine callDV_pu (h) (wkL_refl _) ?_ | refine Pu.to (h2) (wkL_refl _) ?_ | refine callDV_pu (h2) (wkL_refl _) ?_ | (refine callGV_pu (fun hgv => ⟨?_, (h2), wkL_refl _⟩) ?_; (first | trivial | (focus (simp only [↓R1, R2, R3, R4, R5, Nat.reduceEqDiff, Nat.reduceAdd, Nat.reduceMul, Nat.reduceSub, Nat.reduceLeDiff, Nat.reduceLT, reduceIte, reduceCtorEq, Int.reduceBNe, Int.reduceBEq, hB2, hB3, hB4, taC_take, taC_len, taC_drop]; done)))) | refine Pu.to (h3) (wkL_refl _) ?_ | refine callDV_pu (h3) (wkL_refl _) ?_); (try simp only [↓R1, R2, R3, R4, R5, Nat.reduceEqDiff, Nat.reduceAdd, Nat.reduceMul, Nat.reduceSub, Nat.reduceLeDiff, Nat.reduceLT, reduceIte, reduceCtorEq, Int.reduceBNe, Int.reduceBEq, hB2, hB3, hB4, taC_take, taC_len, taC_drop])))
  all_goals first | (exfalso; simp_all; done) | (with_reducible intro hno; exfalso; simp_all; done) | skip
  all_goals first | exact taC_len _ | exact cRec_f _ | rfl | skip
  (refine endP_pu (by simp) (by first | (simp [rvsS, rvS]; done) | (simp only [rvsS, rvS, ↓R1, R2, R3, R4, R5, Nat.reduceEqDiff, Nat.reduceAdd, Nat.reduceMul, Nat.reduceSub, Nat.reduceLeDiff, Nat.reduceLT, reduceIte, reduceCtorEq, Int.reduceBNe, Int.reduceBEq, hB2, hB3, hB4, taC_take, taC_len, taC_drop]; try simp)) ?_ (by (repeat (first | exact St.le_refl _ | (refine St.le_new ?_ (by assumption)) | (refine St.le_newT ?_ (by assumption))))))
  simp only [resAV, rvV, List.map_cons, List.map_nil, ↓R1, R2, R3, R4, R5, Nat.reduceEqDiff, Nat.reduceAdd, Nat.reduceMul, Nat.reduceSub, Nat.reduceLeDiff, Nat.reduceLT, reduceIte, reduceCtorEq, Int.reduceBNe, Int.reduceBEq, hB2, hB3, hB4, taC_take, taC_len, taC_drop]
  (repeat' (first | exact wk_refl _ | exact wk_nils | exact wk_tsl _ _ _ | exact wk_full _ _ | exact wkL.nil | exact wkL_refl _ | refine wk_tup ?_ | refine wk_agg ?_ | refine wkL.cons ?_ ?_))
set_option maxHeartbeats 4000000 in
theorem app_13 (l : List LE) (x : LE) (p : Int) (hl : l.length ≤ 1000000) (he : chkE l = 0) (ht : tenE x.t = 0) (hp : plB p = false) (hr : rightE x = 0) (f : Int) (c : Nat) (hv : cntT l x.t.toNat = (f, c)) (hc : 0 < c) (hf : (f != x.lab) = true) : Pu Tryd.prog 11 [.agg [sl cLE l], .int .i64 x.t, .int .u64 x.lab, .agg (cRec x), .int .i64 p] (.tup [.agg [sl cLE []], .int .i64 13]) := by
  have h := p34 l hl
  have h2 := p35 x.t
  have h3 := p17 x
  have hB2 := hp
  simp only [plB] at hB2
  obtain ⟨t1, t2⟩ := tenE_ok ht
  have hdt0 := taC_drop2 (cntT l) t1 t2
  rw [hv] at hdt0
  obtain ⟨r, hdt⟩ := hdt0
  simp only [cRec] at h3 ⊢
  rw [he] at h
  rw [ht] at h2
  rw [hr] at h3
  have hN := (show ((f == 0) && ((c : Int) == 0)) = false by rw [Bool.and_eq_false_iff]; right; rw [beq_eq_false_iff_ne]; omega)
  have hC : decide ((0 : Int) < (c : Int)) = true := by rw [decide_eq_true_eq]; omega
  have hF := hf
  have hz : True := trivial
  have hw : True := trivial
  have hd2 : True := trivial
  have hT : True := trivial
  have hP : True := trivial
  (refine Pu_intro c11 b11 (Nat.le_of_ble_eq_true rfl) fun σ => ?_; simp only [c11, ↓R1, R2, R3, R4, R5, Nat.reduceEqDiff, Nat.reduceAdd, Nat.reduceMul, Nat.reduceSub, Nat.reduceLeDiff, Nat.reduceLT, reduceIte, reduceCtorEq, Int.reduceBNe, Int.reduceBEq, hB2, taC_take, taC_len, taC_drop, hdt, hN, hC, hF, hz, hw, hd2, hT, hP, cRec])
  repeat' (first | (with_reducible rw [allocV_eq]) | (refine gdV_split (fun hc => ?_) (fun hc => ?_) <;> (try simp only [hc, ↓R1, R2, R3, R4, R5, Nat.reduceEqDiff, Nat.reduceAdd, Nat.reduceMul, Nat.reduceSub, Nat.reduceLeDiff, Nat.reduceLT, reduceIte, reduceCtorEq, Int.reduceBNe, Int.reduceBEq, hB2, taC_take, taC_len, taC_drop, hdt, hN, hC, hF, hz, hw, hd2, hT, hP, cRec])) | ((first | refine condV_split (fun hc => ?_) (fun hc => ?_) | (with_reducible intro β hβ; (try simp only [St.box_noneA, St.tip_noneA, St.tip_set, St.box_tip, St.box_lp, St.tip_lp] at hβ); (repeat (obtain ⟨⟨_, _⟩, hβ⟩ := hβ)); (try (have hbis := apart_is (by assumption) hβ; obtain ⟨_, _⟩ := hbis)))) <;> (try simp only [↓R1, R2, R3, R4, R5, Nat.reduceEqDiff, Nat.reduceAdd, Nat.reduceMul, Nat.reduceSub, Nat.reduceLeDiff, Nat.reduceLT, reduceIte, reduceCtorEq, Int.reduceBNe, Int.reduceBEq, hB2, taC_take, taC_len, taC_drop, hdt, hN, hC, hF, hz, hw, hd2, hT, hP, cRec])) | (with_reducible refine And.intro ?_ ?_; (focus (first | omega | (intros; (repeat' (with_reducible apply And.intro)) <;> first | omega | (simp only [cLE_len, taC_len, cRec_len, List.length_append, List.length_cons, List.length_nil]; omega))))) | (with_reducible apply And.intro) | ((first | refine Pu.to (h) (wkL_refl _) ?_ | refine callDV_pu (h) (wkL_refl _) ?_ | refine Pu.to (h2) (wkL_refl _) ?_ | refine callDV_pu (h2) (wkL_refl _) ?_ | (refine callGV_pu (fun hgv => ⟨?_, (h2), wkL_refl _⟩) ?_; (first | trivial | (focus (simp only [↓R1, R2, R3, R4, R5, Nat.reduceEqDiff, Nat.reduceAdd, Nat.reduceMul, Nat.reduceSub, Nat.reduceLeDiff, Nat.reduceLT, reduceIte, reduceCtorEq, Int.reduceBNe, Int.reduceBEq, hB2, taC_take, taC_len, taC_drop, hdt, hN, hC, hF, hz, hw, hd2, hT, hP, cRec]; done)))) | refine Pu.to (h3) (wkL_refl _) ?_ | refine callDV_pu (h3) (wkL_refl _) ?_); (try simp only [↓R1, R2, R3, R4, R5, Nat.reduceEqDiff, Nat.reduceAdd, Nat.reduceMul, Nat.reduceSub, Nat.reduceLeDiff, Nat.reduceLT, reduceIte, reduceCtorEq, Int.reduceBNe, Int.reduceBEq, hB2, taC_take, taC_len, taC_drop, hdt, hN, hC, hF, hz, hw, hd2, hT, hP, cRec])))
  all_goals first | (exfalso; simp_all; done) | (with_reducible intro hno; exfalso; simp_all; done) | skip
  all_goals first | exact taC_len _ | (rw [taC_len]; omega) | omega | skip
  (refine endP_pu (by simp) (by first | (simp [rvsS, rvS]; done) | (simp only [rvsS, rvS, ↓R1, R2, R3, R4, R5, Nat.reduceEqDiff, Nat.reduceAdd, Nat.reduceMul, Nat.reduceSub, Nat.reduceLeDiff, Nat.reduceLT, reduceIte, reduceCtorEq, Int.reduceBNe, Int.reduceBEq, hB2, taC_take, taC_len, taC_drop, hdt, hN, hC, hF, hz, hw, hd2, hT, hP, cRec]; try simp)) ?_ (by (repeat (first | exact St.le_refl _ | (refine St.le_new ?_ (by assumption)) | (refine St.le_newT ?_ (by assumption))))))
  simp only [resAV, rvV, List.map_cons, List.map_nil, ↓R1, R2, R3, R4, R5, Nat.reduceEqDiff, Nat.reduceAdd, Nat.reduceMul, Nat.reduceSub, Nat.reduceLeDiff, Nat.reduceLT, reduceIte, reduceCtorEq, Int.reduceBNe, Int.reduceBEq, hB2, taC_take, taC_len, taC_drop, hdt, hN, hC, hF, hz, hw, hd2, hT, hP, cRec]
  (repeat' (first | exact wk_refl _ | exact wk_nils | exact wk_tsl _ _ _ | exact wk_full _ _ | exact wkL.nil | exact wkL_refl _ | refine wk_tup ?_ | refine wk_agg ?_ | refine wkL.cons ?_ ?_))
set_option maxHeartbeats 4000000 in
theorem app_9p (l : List LE) (x : LE) (p : Int) (hl : l.length ≤ 1000000) (he : chkE l = 0) (ht : tenE x.t = 0) (hp : plB p = false) (hr : rightE x = 0) (f : Int) (c : Nat) (hv : cntT l x.t.toNat = (f, c)) (hc : 0 < c) (hf : (f != x.lab) = false) (hn : 0 < l.length) (hlt : decide (x.tick < (eAt l (l.length - 1)).tick) = true) : Pu Tryd.prog 11 [.agg [sl cLE l], .int .i64 x.t, .int .u64 x.lab, .agg (cRec x), .int .i64 p] (.tup [.agg [sl cLE []], .int .i64 9]) := by
  have h := p34 l hl
  have h2 := p35 x.t
  have h3 := p17 x
  have hB2 := hp
  simp only [plB] at hB2
  obtain ⟨t1, t2⟩ := tenE_ok ht
  have hdt0 := taC_drop2 (cntT l) t1 t2
  rw [hv] at hdt0
  obtain ⟨r, hdt⟩ := hdt0
  simp only [cRec] at h3 ⊢
  rw [he] at h
  rw [ht] at h2
  rw [hr] at h3
  have hN := (show ((f == 0) && ((c : Int) == 0)) = false by rw [Bool.and_eq_false_iff]; right; rw [beq_eq_false_iff_ne]; omega)
  have hC : decide ((0 : Int) < (c : Int)) = true := by rw [decide_eq_true_eq]; omega
  have hF := hf
  have hz : decide ((0 : Int) < (l.length : Int)) = true := by rw [decide_eq_true_eq]; omega
  have hw : IntKind.i64.wrap ((l.length : Int) - 1) = ((l.length - 1 : Nat) : Int) := by rw [wrap64 (by omega) (by omega)]; omega
  have hd2 := cLE_drop l (l.length - 1) (by omega)
  have hT := hlt
  have hP : True := trivial
  (refine Pu_intro c11 b11 (Nat.le_of_ble_eq_true rfl) fun σ => ?_; simp only [c11, ↓R1, R2, R3, R4, R5, Nat.reduceEqDiff, Nat.reduceAdd, Nat.reduceMul, Nat.reduceSub, Nat.reduceLeDiff, Nat.reduceLT, reduceIte, reduceCtorEq, Int.reduceBNe, Int.reduceBEq, hB2, taC_take, taC_len, taC_drop, hdt, hN, hC, hF, hz, hw, hd2, hT, hP, cRec])
  repeat' (first | (with_reducible rw [allocV_eq]) | (refine gdV_split (fun hc => ?_) (fun hc => ?_) <;> (try simp only [hc, ↓R1, R2, R3, R4, R5, Nat.reduceEqDiff, Nat.reduceAdd, Nat.reduceMul, Nat.reduceSub, Nat.reduceLeDiff, Nat.reduceLT, reduceIte, reduceCtorEq, Int.reduceBNe, Int.reduceBEq, hB2, taC_take, taC_len, taC_drop, hdt, hN, hC, hF, hz, hw, hd2, hT, hP, cRec])) | ((first | refine condV_split (fun hc => ?_) (fun hc => ?_) | (with_reducible intro β hβ; (try simp only [St.box_noneA, St.tip_noneA, St.tip_set, St.box_tip, St.box_lp, St.tip_lp] at hβ); (repeat (obtain ⟨⟨_, _⟩, hβ⟩ := hβ)); (try (have hbis := apart_is (by assumption) hβ; obtain ⟨_, _⟩ := hbis)))) <;> (try simp only [↓R1, R2, R3, R4, R5, Nat.reduceEqDiff, Nat.reduceAdd, Nat.reduceMul, Nat.reduceSub, Nat.reduceLeDiff, Nat.reduceLT, reduceIte, reduceCtorEq, Int.reduceBNe, Int.reduceBEq, hB2, taC_take, taC_len, taC_drop, hdt, hN, hC, hF, hz, hw, hd2, hT, hP, cRec])) | (with_reducible refine And.intro ?_ ?_; (focus (first | omega | (intros; (repeat' (with_reducible apply And.intro)) <;> first | omega | (simp only [cLE_len, taC_len, cRec_len, List.length_append, List.length_cons, List.length_nil]; omega))))) | (with_reducible apply And.intro) | ((first | refine Pu.to (h) (wkL_refl _) ?_ | refine callDV_pu (h) (wkL_refl _) ?_ | refine Pu.to (h2) (wkL_refl _) ?_ | refine callDV_pu (h2) (wkL_refl _) ?_ | (refine callGV_pu (fun hgv => ⟨?_, (h2), wkL_refl _⟩) ?_; (first | trivial | (focus (simp only [↓R1, R2, R3, R4, R5, Nat.reduceEqDiff, Nat.reduceAdd, Nat.reduceMul, Nat.reduceSub, Nat.reduceLeDiff, Nat.reduceLT, reduceIte, reduceCtorEq, Int.reduceBNe, Int.reduceBEq, hB2, taC_take, taC_len, taC_drop, hdt, hN, hC, hF, hz, hw, hd2, hT, hP, cRec]; done)))) | refine Pu.to (h3) (wkL_refl _) ?_ | refine callDV_pu (h3) (wkL_refl _) ?_); (try simp only [↓R1, R2, R3, R4, R5, Nat.reduceEqDiff, Nat.reduceAdd, Nat.reduceMul, Nat.reduceSub, Nat.reduceLeDiff, Nat.reduceLT, reduceIte, reduceCtorEq, Int.reduceBNe, Int.reduceBEq, hB2, taC_take, taC_len, taC_drop, hdt, hN, hC, hF, hz, hw, hd2, hT, hP, cRec])))
  all_goals first | (exfalso; simp_all; done) | (with_reducible intro hno; exfalso; simp_all; done) | skip
  all_goals first | exact taC_len _ | (rw [taC_len]; omega) | omega | skip
  (refine endP_pu (by simp) (by first | (simp [rvsS, rvS]; done) | (simp only [rvsS, rvS, ↓R1, R2, R3, R4, R5, Nat.reduceEqDiff, Nat.reduceAdd, Nat.reduceMul, Nat.reduceSub, Nat.reduceLeDiff, Nat.reduceLT, reduceIte, reduceCtorEq, Int.reduceBNe, Int.reduceBEq, hB2, taC_take, taC_len, taC_drop, hdt, hN, hC, hF, hz, hw, hd2, hT, hP, cRec]; try simp)) ?_ (by (repeat (first | exact St.le_refl _ | (refine St.le_new ?_ (by assumption)) | (refine St.le_newT ?_ (by assumption))))))
  simp only [resAV, rvV, List.map_cons, List.map_nil, ↓R1, R2, R3, R4, R5, Nat.reduceEqDiff, Nat.reduceAdd, Nat.reduceMul, Nat.reduceSub, Nat.reduceLeDiff, Nat.reduceLT, reduceIte, reduceCtorEq, Int.reduceBNe, Int.reduceBEq, hB2, taC_take, taC_len, taC_drop, hdt, hN, hC, hF, hz, hw, hd2, hT, hP, cRec]
  (repeat' (first | exact wk_refl _ | exact wk_nils | exact wk_tsl _ _ _ | exact wk_full _ _ | exact wkL.nil | exact wkL_refl _ | refine wk_tup ?_ | refine wk_agg ?_ | refine wkL.cons ?_ ?_))
set_option maxHeartbeats 4000000 in
theorem app_21pn (l : List LE) (x : LE) (p : Int) (hl : l.length ≤ 1000000) (he : chkE l = 0) (ht : tenE x.t = 0) (hp : plB p = false) (hr : rightE x = 0) (f : Int) (c : Nat) (hv : cntT l x.t.toNat = (f, c)) (hc : 0 < c) (hf : (f != x.lab) = false) (hn : 0 < l.length) (hlt : decide (x.tick < (eAt l (l.length - 1)).tick) = false) (hpl : decide (p ≤ (c : Int)) = true) : Pu Tryd.prog 11 [.agg [sl cLE l], .int .i64 x.t, .int .u64 x.lab, .agg (cRec x), .int .i64 p] (.tup [.agg [sl cLE []], .int .i64 21]) := by
  have h := p34 l hl
  have h2 := p35 x.t
  have h3 := p17 x
  have hB2 := hp
  simp only [plB] at hB2
  obtain ⟨t1, t2⟩ := tenE_ok ht
  have hdt0 := taC_drop2 (cntT l) t1 t2
  rw [hv] at hdt0
  obtain ⟨r, hdt⟩ := hdt0
  simp only [cRec] at h3 ⊢
  rw [he] at h
  rw [ht] at h2
  rw [hr] at h3
  have hN := (show ((f == 0) && ((c : Int) == 0)) = false by rw [Bool.and_eq_false_iff]; right; rw [beq_eq_false_iff_ne]; omega)
  have hC : decide ((0 : Int) < (c : Int)) = true := by rw [decide_eq_true_eq]; omega
  have hF := hf
  have hz : decide ((0 : Int) < (l.length : Int)) = true := by rw [decide_eq_true_eq]; omega
  have hw : IntKind.i64.wrap ((l.length : Int) - 1) = ((l.length - 1 : Nat) : Int) := by rw [wrap64 (by omega) (by omega)]; omega
  have hd2 := cLE_drop l (l.length - 1) (by omega)
  have hT := hlt
  have hP := hpl
  (refine Pu_intro c11 b11 (Nat.le_of_ble_eq_true rfl) fun σ => ?_; simp only [c11, ↓R1, R2, R3, R4, R5, Nat.reduceEqDiff, Nat.reduceAdd, Nat.reduceMul, Nat.reduceSub, Nat.reduceLeDiff, Nat.reduceLT, reduceIte, reduceCtorEq, Int.reduceBNe, Int.reduceBEq, hB2, taC_take, taC_len, taC_drop, hdt, hN, hC, hF, hz, hw, hd2, hT, hP, cRec])
  repeat' (first | (with_reducible rw [allocV_eq]) | (refine gdV_split (fun hc => ?_) (fun hc => ?_) <;> (try simp only [hc, ↓R1, R2, R3, R4, R5, Nat.reduceEqDiff, Nat.reduceAdd, Nat.reduceMul, Nat.reduceSub, Nat.reduceLeDiff, Nat.reduceLT, reduceIte, reduceCtorEq, Int.reduceBNe, Int.reduceBEq, hB2, taC_take, taC_len, taC_drop, hdt, hN, hC, hF, hz, hw, hd2, hT, hP, cRec])) | ((first | refine condV_split (fun hc => ?_) (fun hc => ?_) | (with_reducible intro β hβ; (try simp only [St.box_noneA, St.tip_noneA, St.tip_set, St.box_tip, St.box_lp, St.tip_lp] at hβ); (repeat (obtain ⟨⟨_, _⟩, hβ⟩ := hβ)); (try (have hbis := apart_is (by assumption) hβ; obtain ⟨_, _⟩ := hbis)))) <;> (try simp only [↓R1, R2, R3, R4, R5, Nat.reduceEqDiff, Nat.reduceAdd, Nat.reduceMul, Nat.reduceSub, Nat.reduceLeDiff, Nat.reduceLT, reduceIte, reduceCtorEq, Int.reduceBNe, Int.reduceBEq, hB2, taC_take, taC_len, taC_drop, hdt, hN, hC, hF, hz, hw, hd2, hT, hP, cRec])) | (with_reducible refine And.intro ?_ ?_; (focus (first | omega | (intros; (repeat' (with_reducible apply And.intro)) <;> first | omega | (simp only [cLE_len, taC_len, cRec_len, List.length_append, List.length_cons, List.length_nil]; omega))))) | (with_reducible apply And.intro) | ((first | refine Pu.to (h) (wkL_refl _) ?_ | refine callDV_pu (h) (wkL_refl _) ?_ | refine Pu.to (h2) (wkL_refl _) ?_ | refine callDV_pu (h2) (wkL_refl _) ?_ | (refine callGV_pu (fun hgv => ⟨?_, (h2), wkL_refl _⟩) ?_; (first | trivial | (focus (simp only [↓R1, R2, R3, R4, R5, Nat.reduceEqDiff, Nat.reduceAdd, Nat.reduceMul, Nat.reduceSub, Nat.reduceLeDiff, Nat.reduceLT, reduceIte, reduceCtorEq, Int.reduceBNe, Int.reduceBEq, hB2, taC_take, taC_len, taC_drop, hdt, hN, hC, hF, hz, hw, hd2, hT, hP, cRec]; done)))) | refine Pu.to (h3) (wkL_refl _) ?_ | refine callDV_pu (h3) (wkL_refl _) ?_); (try simp only [↓R1, R2, R3, R4, R5, Nat.reduceEqDiff, Nat.reduceAdd, Nat.reduceMul, Nat.reduceSub, Nat.reduceLeDiff, Nat.reduceLT, reduceIte, reduceCtorEq, Int.reduceBNe, Int.reduceBEq, hB2, taC_take, taC_len, taC_drop, hdt, hN, hC, hF, hz, hw, hd2, hT, hP, cRec])))
  all_goals first | (exfalso; simp_all; done) | (with_reducible intro hno; exfalso; simp_all; done) | skip
  all_goals first | exact taC_len _ | (rw [taC_len]; omega) | omega | skip
  (refine endP_pu (by simp) (by first | (simp [rvsS, rvS]; done) | (simp only [rvsS, rvS, ↓R1, R2, R3, R4, R5, Nat.reduceEqDiff, Nat.reduceAdd, Nat.reduceMul, Nat.reduceSub, Nat.reduceLeDiff, Nat.reduceLT, reduceIte, reduceCtorEq, Int.reduceBNe, Int.reduceBEq, hB2, taC_take, taC_len, taC_drop, hdt, hN, hC, hF, hz, hw, hd2, hT, hP, cRec]; try simp)) ?_ (by (repeat (first | exact St.le_refl _ | (refine St.le_new ?_ (by assumption)) | (refine St.le_newT ?_ (by assumption))))))
  simp only [resAV, rvV, List.map_cons, List.map_nil, ↓R1, R2, R3, R4, R5, Nat.reduceEqDiff, Nat.reduceAdd, Nat.reduceMul, Nat.reduceSub, Nat.reduceLeDiff, Nat.reduceLT, reduceIte, reduceCtorEq, Int.reduceBNe, Int.reduceBEq, hB2, taC_take, taC_len, taC_drop, hdt, hN, hC, hF, hz, hw, hd2, hT, hP, cRec]
  (repeat' (first | exact wk_refl _ | exact wk_nils | exact wk_tsl _ _ _ | exact wk_full _ _ | exact wkL.nil | exact wkL_refl _ | refine wk_tup ?_ | refine wk_agg ?_ | refine wkL.cons ?_ ?_))
set_option maxHeartbeats 4000000 in
theorem app_0pn (l : List LE) (x : LE) (p : Int) (hl : l.length ≤ 1000000) (he : chkE l = 0) (ht : tenE x.t = 0) (hp : plB p = false) (hr : rightE x = 0) (f : Int) (c : Nat) (hv : cntT l x.t.toNat = (f, c)) (hc : 0 < c) (hf : (f != x.lab) = false) (hn : 0 < l.length) (hlt : decide (x.tick < (eAt l (l.length - 1)).tick) = false) (hpl : decide (p ≤ (c : Int)) = false) : Pu Tryd.prog 11 [.agg [sl cLE l], .int .i64 x.t, .int .u64 x.lab, .agg (cRec x), .int .i64 p] (.tup [.agg [sl cLE (l ++ [x])], .int .i64 0]) := by
  have h := p34 l hl
  have h2 := p35 x.t
  have h3 := p17 x
  have hB2 := hp
  simp only [plB] at hB2
  obtain ⟨t1, t2⟩ := tenE_ok ht
  have hdt0 := taC_drop2 (cntT l) t1 t2
  rw [hv] at hdt0
  obtain ⟨r, hdt⟩ := hdt0
  simp only [cRec] at h3 ⊢
  rw [he] at h
  rw [ht] at h2
  rw [hr] at h3
  have hN := (show ((f == 0) && ((c : Int) == 0)) = false by rw [Bool.and_eq_false_iff]; right; rw [beq_eq_false_iff_ne]; omega)
  have hC : decide ((0 : Int) < (c : Int)) = true := by rw [decide_eq_true_eq]; omega
  have hF := hf
  have hz : decide ((0 : Int) < (l.length : Int)) = true := by rw [decide_eq_true_eq]; omega
  have hw : IntKind.i64.wrap ((l.length : Int) - 1) = ((l.length - 1 : Nat) : Int) := by rw [wrap64 (by omega) (by omega)]; omega
  have hd2 := cLE_drop l (l.length - 1) (by omega)
  have hT := hlt
  have hP := hpl
  (refine Pu_intro c11 b11 (Nat.le_of_ble_eq_true rfl) fun σ => ?_; simp only [c11, ↓R1, R2, R3, R4, R5, Nat.reduceEqDiff, Nat.reduceAdd, Nat.reduceMul, Nat.reduceSub, Nat.reduceLeDiff, Nat.reduceLT, reduceIte, reduceCtorEq, Int.reduceBNe, Int.reduceBEq, hB2, taC_take, taC_len, taC_drop, hdt, hN, hC, hF, hz, hw, hd2, hT, hP, cRec])
  repeat' (first | (with_reducible rw [allocV_eq]) | (refine gdV_split (fun hc => ?_) (fun hc => ?_) <;> (try simp only [hc, ↓R1, R2, R3, R4, R5, Nat.reduceEqDiff, Nat.reduceAdd, Nat.reduceMul, Nat.reduceSub, Nat.reduceLeDiff, Nat.reduceLT, reduceIte, reduceCtorEq, Int.reduceBNe, Int.reduceBEq, hB2, taC_take, taC_len, taC_drop, hdt, hN, hC, hF, hz, hw, hd2, hT, hP, cRec])) | ((first | refine condV_split (fun hc => ?_) (fun hc => ?_) | (with_reducible intro β hβ; (try simp only [St.box_noneA, St.tip_noneA, St.tip_set, St.box_tip, St.box_lp, St.tip_lp] at hβ); (repeat (obtain ⟨⟨_, _⟩, hβ⟩ := hβ)); (try (have hbis := apart_is (by assumption) hβ; obtain ⟨_, _⟩ := hbis)))) <;> (try simp only [↓R1, R2, R3, R4, R5, Nat.reduceEqDiff, Nat.reduceAdd, Nat.reduceMul, Nat.reduceSub, Nat.reduceLeDiff, Nat.reduceLT, reduceIte, reduceCtorEq, Int.reduceBNe, Int.reduceBEq, hB2, taC_take, taC_len, taC_drop, hdt, hN, hC, hF, hz, hw, hd2, hT, hP, cRec])) | (with_reducible refine And.intro ?_ ?_; (focus (first | omega | (intros; (repeat' (with_reducible apply And.intro)) <;> first | omega | (simp only [cLE_len, taC_len, cRec_len, List.length_append, List.length_cons, List.length_nil]; omega))))) | (with_reducible apply And.intro) | ((first | refine Pu.to (h) (wkL_refl _) ?_ | refine callDV_pu (h) (wkL_refl _) ?_ | refine Pu.to (h2) (wkL_refl _) ?_ | refine callDV_pu (h2) (wkL_refl _) ?_ | (refine callGV_pu (fun hgv => ⟨?_, (h2), wkL_refl _⟩) ?_; (first | trivial | (focus (simp only [↓R1, R2, R3, R4, R5, Nat.reduceEqDiff, Nat.reduceAdd, Nat.reduceMul, Nat.reduceSub, Nat.reduceLeDiff, Nat.reduceLT, reduceIte, reduceCtorEq, Int.reduceBNe, Int.reduceBEq, hB2, taC_take, taC_len, taC_drop, hdt, hN, hC, hF, hz, hw, hd2, hT, hP, cRec]; done)))) | refine Pu.to (h3) (wkL_refl _) ?_ | refine callDV_pu (h3) (wkL_refl _) ?_); (try simp only [↓R1, R2, R3, R4, R5, Nat.reduceEqDiff, Nat.reduceAdd, Nat.reduceMul, Nat.reduceSub, Nat.reduceLeDiff, Nat.reduceLT, reduceIte, reduceCtorEq, Int.reduceBNe, Int.reduceBEq, hB2, taC_take, taC_len, taC_drop, hdt, hN, hC, hF, hz, hw, hd2, hT, hP, cRec])))
  all_goals first | (exfalso; simp_all; done) | (with_reducible intro hno; exfalso; simp_all; done) | skip
  all_goals first | exact taC_len _ | (rw [taC_len]; omega) | omega | skip
  refine tail_any (x := x) hl ?_ ?_ ?_ rfl rfl rfl rfl rfl (fun fr τ hτ e10 e11 => ?_)
  · simp only [↓R1, R2, R3, R4, R5, Nat.reduceEqDiff, Nat.reduceAdd, Nat.reduceMul, Nat.reduceSub, Nat.reduceLeDiff, Nat.reduceLT, reduceIte, reduceCtorEq, Int.reduceBNe, Int.reduceBEq, hB2, taC_take, taC_len, taC_drop, hdt, hN, hC, hF, hz, hw, hd2, hT, hP, cRec]
  · simp only [↓R1, R2, R3, R4, R5, Nat.reduceEqDiff, Nat.reduceAdd, Nat.reduceMul, Nat.reduceSub, Nat.reduceLeDiff, Nat.reduceLT, reduceIte, reduceCtorEq, Int.reduceBNe, Int.reduceBEq, hB2, taC_take, taC_len, taC_drop, hdt, hN, hC, hF, hz, hw, hd2, hT, hP, cRec]
  · simp only [↓R1, R2, R3, R4, R5, Nat.reduceEqDiff, Nat.reduceAdd, Nat.reduceMul, Nat.reduceSub, Nat.reduceLeDiff, Nat.reduceLT, reduceIte, reduceCtorEq, Int.reduceBNe, Int.reduceBEq, hB2, taC_take, taC_len, taC_drop, hdt, hN, hC, hF, hz, hw, hd2, hT, hP, cRec]
  simp only [St.tip_set] at hτ
  have hfl : l.flatMap cLE ++ cLE x = (l ++ [x]).flatMap cLE := flat_one (f := cLE) l x
  have hln : l.length + 1 = (l ++ [x]).length := by simp
  rw [hfl, hln]
  simp only [↓R1, R2, R3, R4, R5, Nat.reduceEqDiff, Nat.reduceAdd, Nat.reduceMul, Nat.reduceSub, Nat.reduceLeDiff, Nat.reduceLT, reduceIte, reduceCtorEq, Int.reduceBNe, Int.reduceBEq, hB2, taC_take, taC_len, taC_drop, hdt, hN, hC, hF, hz, hw, hd2, hT, hP, cRec]
  refine endP_pu (by simp) (by simp only [rvsS, rvS, e10, e11, ↓R1, R2, R3, R4, R5, Nat.reduceEqDiff, Nat.reduceAdd, Nat.reduceMul, Nat.reduceSub, Nat.reduceLeDiff, Nat.reduceLT, reduceIte, reduceCtorEq, Int.reduceBNe, Int.reduceBEq, hB2, taC_take, taC_len, taC_drop, hdt, hN, hC, hF, hz, hw, hd2, hT, hP, cRec]; try simp) ?_ (by (repeat (first | exact St.le_refl _ | (refine St.le_new ?_ (by assumption)) | (refine St.le_newT ?_ (by assumption)))))
  simp only [resAV, rvV, List.map_cons, List.map_nil, e10, e11, ↓R1, R2, R3, R4, R5, Nat.reduceEqDiff, Nat.reduceAdd, Nat.reduceMul, Nat.reduceSub, Nat.reduceLeDiff, Nat.reduceLT, reduceIte, reduceCtorEq, Int.reduceBNe, Int.reduceBEq, hB2, taC_take, taC_len, taC_drop, hdt, hN, hC, hF, hz, hw, hd2, hT, hP, cRec]
  (repeat' (first | exact wk_refl _ | exact wk_nils | exact wk_tsl _ _ _ | exact wk_full _ _ | exact wkL.nil | exact wkL_refl _ | refine wk_tup ?_ | refine wk_agg ?_ | refine wkL.cons ?_ ?_))
set_option maxHeartbeats 4000000 in
theorem app_9z (l : List LE) (x : LE) (p : Int) (hl : l.length ≤ 1000000) (he : chkE l = 0) (ht : tenE x.t = 0) (hp : plB p = false) (hr : rightE x = 0) (f : Int) (c : Nat) (hv : cntT l x.t.toNat = (f, c)) (hc0 : c = 0) (hf0 : f = 0) (hn : 0 < l.length) (hlt : decide (x.tick < (eAt l (l.length - 1)).tick) = true) : Pu Tryd.prog 11 [.agg [sl cLE l], .int .i64 x.t, .int .u64 x.lab, .agg (cRec x), .int .i64 p] (.tup [.agg [sl cLE []], .int .i64 9]) := by
  have h := p34 l hl
  have h2 := p35 x.t
  have h3 := p17 x
  have hB2 := hp
  simp only [plB] at hB2
  obtain ⟨t1, t2⟩ := tenE_ok ht
  have hdt0 := taC_drop2 (cntT l) t1 t2
  rw [hv] at hdt0
  obtain ⟨r, hdt⟩ := hdt0
  simp only [cRec] at h3 ⊢
  rw [he] at h
  rw [ht] at h2
  rw [hr] at h3
  have hN := (show ((f == 0) && ((c : Int) == 0)) = true by rw [hf0, hc0]; rfl)
  have hC : decide ((0 : Int) < (c : Int)) = false := by rw [decide_eq_false_iff_not]; omega
  have hF : True := trivial
  have hz : decide ((0 : Int) < (l.length : Int)) = true := by rw [decide_eq_true_eq]; omega
  have hw : IntKind.i64.wrap ((l.length : Int) - 1) = ((l.length - 1 : Nat) : Int) := by rw [wrap64 (by omega) (by omega)]; omega
  have hd2 := cLE_drop l (l.length - 1) (by omega)
  have hT := hlt
  have hP : True := trivial
  (refine Pu_intro c11 b11 (Nat.le_of_ble_eq_true rfl) fun σ => ?_; simp only [c11, ↓R1, R2, R3, R4, R5, Nat.reduceEqDiff, Nat.reduceAdd, Nat.reduceMul, Nat.reduceSub, Nat.reduceLeDiff, Nat.reduceLT, reduceIte, reduceCtorEq, Int.reduceBNe, Int.reduceBEq, hB2, taC_take, taC_len, taC_drop, hdt, hN, hC, hF, hz, hw, hd2, hT, hP, cRec])
  repeat' (first | (with_reducible rw [allocV_eq]) | (refine gdV_split (fun hc => ?_) (fun hc => ?_) <;> (try simp only [hc, ↓R1, R2, R3, R4, R5, Nat.reduceEqDiff, Nat.reduceAdd, Nat.reduceMul, Nat.reduceSub, Nat.reduceLeDiff, Nat.reduceLT, reduceIte, reduceCtorEq, Int.reduceBNe, Int.reduceBEq, hB2, taC_take, taC_len, taC_drop, hdt, hN, hC, hF, hz, hw, hd2, hT, hP, cRec])) | ((first | refine condV_split (fun hc => ?_) (fun hc => ?_) | (with_reducible intro β hβ; (try simp only [St.box_noneA, St.tip_noneA, St.tip_set, St.box_tip, St.box_lp, St.tip_lp] at hβ); (repeat (obtain ⟨⟨_, _⟩, hβ⟩ := hβ)); (try (have hbis := apart_is (by assumption) hβ; obtain ⟨_, _⟩ := hbis)))) <;> (try simp only [↓R1, R2, R3, R4, R5, Nat.reduceEqDiff, Nat.reduceAdd, Nat.reduceMul, Nat.reduceSub, Nat.reduceLeDiff, Nat.reduceLT, reduceIte, reduceCtorEq, Int.reduceBNe, Int.reduceBEq, hB2, taC_take, taC_len, taC_drop, hdt, hN, hC, hF, hz, hw, hd2, hT, hP, cRec])) | (with_reducible refine And.intro ?_ ?_; (focus (first | omega | (intros; (repeat' (with_reducible apply And.intro)) <;> first | omega | (simp only [cLE_len, taC_len, cRec_len, List.length_append, List.length_cons, List.length_nil]; omega))))) | (with_reducible apply And.intro) | ((first | refine Pu.to (h) (wkL_refl _) ?_ | refine callDV_pu (h) (wkL_refl _) ?_ | refine Pu.to (h2) (wkL_refl _) ?_ | refine callDV_pu (h2) (wkL_refl _) ?_ | (refine callGV_pu (fun hgv => ⟨?_, (h2), wkL_refl _⟩) ?_; (first | trivial | (focus (simp only [↓R1, R2, R3, R4, R5, Nat.reduceEqDiff, Nat.reduceAdd, Nat.reduceMul, Nat.reduceSub, Nat.reduceLeDiff, Nat.reduceLT, reduceIte, reduceCtorEq, Int.reduceBNe, Int.reduceBEq, hB2, taC_take, taC_len, taC_drop, hdt, hN, hC, hF, hz, hw, hd2, hT, hP, cRec]; done)))) | refine Pu.to (h3) (wkL_refl _) ?_ | refine callDV_pu (h3) (wkL_refl _) ?_); (try simp only [↓R1, R2, R3, R4, R5, Nat.reduceEqDiff, Nat.reduceAdd, Nat.reduceMul, Nat.reduceSub, Nat.reduceLeDiff, Nat.reduceLT, reduceIte, reduceCtorEq, Int.reduceBNe, Int.reduceBEq, hB2, taC_take, taC_len, taC_drop, hdt, hN, hC, hF, hz, hw, hd2, hT, hP, cRec])))
  all_goals first | (exfalso; simp_all; done) | (with_reducible intro hno; exfalso; simp_all; done) | skip
  all_goals first | exact taC_len _ | (rw [taC_len]; omega) | omega | skip
  (refine endP_pu (by simp) (by first | (simp [rvsS, rvS]; done) | (simp only [rvsS, rvS, ↓R1, R2, R3, R4, R5, Nat.reduceEqDiff, Nat.reduceAdd, Nat.reduceMul, Nat.reduceSub, Nat.reduceLeDiff, Nat.reduceLT, reduceIte, reduceCtorEq, Int.reduceBNe, Int.reduceBEq, hB2, taC_take, taC_len, taC_drop, hdt, hN, hC, hF, hz, hw, hd2, hT, hP, cRec]; try simp)) ?_ (by (repeat (first | exact St.le_refl _ | (refine St.le_new ?_ (by assumption)) | (refine St.le_newT ?_ (by assumption))))))
  simp only [resAV, rvV, List.map_cons, List.map_nil, ↓R1, R2, R3, R4, R5, Nat.reduceEqDiff, Nat.reduceAdd, Nat.reduceMul, Nat.reduceSub, Nat.reduceLeDiff, Nat.reduceLT, reduceIte, reduceCtorEq, Int.reduceBNe, Int.reduceBEq, hB2, taC_take, taC_len, taC_drop, hdt, hN, hC, hF, hz, hw, hd2, hT, hP, cRec]
  (repeat' (first | exact wk_refl _ | exact wk_nils | exact wk_tsl _ _ _ | exact wk_full _ _ | exact wkL.nil | exact wkL_refl _ | refine wk_tup ?_ | refine wk_agg ?_ | refine wkL.cons ?_ ?_))
set_option maxHeartbeats 4000000 in
theorem app_21zn (l : List LE) (x : LE) (p : Int) (hl : l.length ≤ 1000000) (he : chkE l = 0) (ht : tenE x.t = 0) (hp : plB p = false) (hr : rightE x = 0) (f : Int) (c : Nat) (hv : cntT l x.t.toNat = (f, c)) (hc0 : c = 0) (hf0 : f = 0) (hn : 0 < l.length) (hlt : decide (x.tick < (eAt l (l.length - 1)).tick) = false) (hpl : decide (p ≤ (c : Int)) = true) : Pu Tryd.prog 11 [.agg [sl cLE l], .int .i64 x.t, .int .u64 x.lab, .agg (cRec x), .int .i64 p] (.tup [.agg [sl cLE []], .int .i64 21]) := by
  have h := p34 l hl
  have h2 := p35 x.t
  have h3 := p17 x
  have hB2 := hp
  simp only [plB] at hB2
  obtain ⟨t1, t2⟩ := tenE_ok ht
  have hdt0 := taC_drop2 (cntT l) t1 t2
  rw [hv] at hdt0
  obtain ⟨r, hdt⟩ := hdt0
  simp only [cRec] at h3 ⊢
  rw [he] at h
  rw [ht] at h2
  rw [hr] at h3
  have hN := (show ((f == 0) && ((c : Int) == 0)) = true by rw [hf0, hc0]; rfl)
  have hC : decide ((0 : Int) < (c : Int)) = false := by rw [decide_eq_false_iff_not]; omega
  have hF : True := trivial
  have hz : decide ((0 : Int) < (l.length : Int)) = true := by rw [decide_eq_true_eq]; omega
  have hw : IntKind.i64.wrap ((l.length : Int) - 1) = ((l.length - 1 : Nat) : Int) := by rw [wrap64 (by omega) (by omega)]; omega
  have hd2 := cLE_drop l (l.length - 1) (by omega)
  have hT := hlt
  have hP := hpl
  (refine Pu_intro c11 b11 (Nat.le_of_ble_eq_true rfl) fun σ => ?_; simp only [c11, ↓R1, R2, R3, R4, R5, Nat.reduceEqDiff, Nat.reduceAdd, Nat.reduceMul, Nat.reduceSub, Nat.reduceLeDiff, Nat.reduceLT, reduceIte, reduceCtorEq, Int.reduceBNe, Int.reduceBEq, hB2, taC_take, taC_len, taC_drop, hdt, hN, hC, hF, hz, hw, hd2, hT, hP, cRec])
  repeat' (first | (with_reducible rw [allocV_eq]) | (refine gdV_split (fun hc => ?_) (fun hc => ?_) <;> (try simp only [hc, ↓R1, R2, R3, R4, R5, Nat.reduceEqDiff, Nat.reduceAdd, Nat.reduceMul, Nat.reduceSub, Nat.reduceLeDiff, Nat.reduceLT, reduceIte, reduceCtorEq, Int.reduceBNe, Int.reduceBEq, hB2, taC_take, taC_len, taC_drop, hdt, hN, hC, hF, hz, hw, hd2, hT, hP, cRec])) | ((first | refine condV_split (fun hc => ?_) (fun hc => ?_) | (with_reducible intro β hβ; (try simp only [St.box_noneA, St.tip_noneA, St.tip_set, St.box_tip, St.box_lp, St.tip_lp] at hβ); (repeat (obtain ⟨⟨_, _⟩, hβ⟩ := hβ)); (try (have hbis := apart_is (by assumption) hβ; obtain ⟨_, _⟩ := hbis)))) <;> (try simp only [↓R1, R2, R3, R4, R5, Nat.reduceEqDiff, Nat.reduceAdd, Nat.reduceMul, Nat.reduceSub, Nat.reduceLeDiff, Nat.reduceLT, reduceIte, reduceCtorEq, Int.reduceBNe, Int.reduceBEq, hB2, taC_take, taC_len, taC_drop, hdt, hN, hC, hF, hz, hw, hd2, hT, hP, cRec])) | (with_reducible refine And.intro ?_ ?_; (focus (first | omega | (intros; (repeat' (with_reducible apply And.intro)) <;> first | omega | (simp only [cLE_len, taC_len, cRec_len, List.length_append, List.length_cons, List.length_nil]; omega))))) | (with_reducible apply And.intro) | ((first | refine Pu.to (h) (wkL_refl _) ?_ | refine callDV_pu (h) (wkL_refl _) ?_ | refine Pu.to (h2) (wkL_refl _) ?_ | refine callDV_pu (h2) (wkL_refl _) ?_ | (refine callGV_pu (fun hgv => ⟨?_, (h2), wkL_refl _⟩) ?_; (first | trivial | (focus (simp only [↓R1, R2, R3, R4, R5, Nat.reduceEqDiff, Nat.reduceAdd, Nat.reduceMul, Nat.reduceSub, Nat.reduceLeDiff, Nat.reduceLT, reduceIte, reduceCtorEq, Int.reduceBNe, Int.reduceBEq, hB2, taC_take, taC_len, taC_drop, hdt, hN, hC, hF, hz, hw, hd2, hT, hP, cRec]; done)))) | refine Pu.to (h3) (wkL_refl _) ?_ | refine callDV_pu (h3) (wkL_refl _) ?_); (try simp only [↓R1, R2, R3, R4, R5, Nat.reduceEqDiff, Nat.reduceAdd, Nat.reduceMul, Nat.reduceSub, Nat.reduceLeDiff, Nat.reduceLT, reduceIte, reduceCtorEq, Int.reduceBNe, Int.reduceBEq, hB2, taC_take, taC_len, taC_drop, hdt, hN, hC, hF, hz, hw, hd2, hT, hP, cRec])))
  all_goals first | (exfalso; simp_all; done) | (with_reducible intro hno; exfalso; simp_all; done) | skip
  all_goals first | exact taC_len _ | (rw [taC_len]; omega) | omega | skip
  (refine endP_pu (by simp) (by first | (simp [rvsS, rvS]; done) | (simp only [rvsS, rvS, ↓R1, R2, R3, R4, R5, Nat.reduceEqDiff, Nat.reduceAdd, Nat.reduceMul, Nat.reduceSub, Nat.reduceLeDiff, Nat.reduceLT, reduceIte, reduceCtorEq, Int.reduceBNe, Int.reduceBEq, hB2, taC_take, taC_len, taC_drop, hdt, hN, hC, hF, hz, hw, hd2, hT, hP, cRec]; try simp)) ?_ (by (repeat (first | exact St.le_refl _ | (refine St.le_new ?_ (by assumption)) | (refine St.le_newT ?_ (by assumption))))))
  simp only [resAV, rvV, List.map_cons, List.map_nil, ↓R1, R2, R3, R4, R5, Nat.reduceEqDiff, Nat.reduceAdd, Nat.reduceMul, Nat.reduceSub, Nat.reduceLeDiff, Nat.reduceLT, reduceIte, reduceCtorEq, Int.reduceBNe, Int.reduceBEq, hB2, taC_take, taC_len, taC_drop, hdt, hN, hC, hF, hz, hw, hd2, hT, hP, cRec]
  (repeat' (first | exact wk_refl _ | exact wk_nils | exact wk_tsl _ _ _ | exact wk_full _ _ | exact wkL.nil | exact wkL_refl _ | refine wk_tup ?_ | refine wk_agg ?_ | refine wkL.cons ?_ ?_))
set_option maxHeartbeats 4000000 in
theorem app_0zn (l : List LE) (x : LE) (p : Int) (hl : l.length ≤ 1000000) (he : chkE l = 0) (ht : tenE x.t = 0) (hp : plB p = false) (hr : rightE x = 0) (f : Int) (c : Nat) (hv : cntT l x.t.toNat = (f, c)) (hc0 : c = 0) (hf0 : f = 0) (hn : 0 < l.length) (hlt : decide (x.tick < (eAt l (l.length - 1)).tick) = false) (hpl : decide (p ≤ (c : Int)) = false) : Pu Tryd.prog 11 [.agg [sl cLE l], .int .i64 x.t, .int .u64 x.lab, .agg (cRec x), .int .i64 p] (.tup [.agg [sl cLE (l ++ [x])], .int .i64 0]) := by
  have h := p34 l hl
  have h2 := p35 x.t
  have h3 := p17 x
  have hB2 := hp
  simp only [plB] at hB2
  obtain ⟨t1, t2⟩ := tenE_ok ht
  have hdt0 := taC_drop2 (cntT l) t1 t2
  rw [hv] at hdt0
  obtain ⟨r, hdt⟩ := hdt0
  simp only [cRec] at h3 ⊢
  rw [he] at h
  rw [ht] at h2
  rw [hr] at h3
  have hN := (show ((f == 0) && ((c : Int) == 0)) = true by rw [hf0, hc0]; rfl)
  have hC : decide ((0 : Int) < (c : Int)) = false := by rw [decide_eq_false_iff_not]; omega
  have hF : True := trivial
  have hz : decide ((0 : Int) < (l.length : Int)) = true := by rw [decide_eq_true_eq]; omega
  have hw : IntKind.i64.wrap ((l.length : Int) - 1) = ((l.length - 1 : Nat) : Int) := by rw [wrap64 (by omega) (by omega)]; omega
  have hd2 := cLE_drop l (l.length - 1) (by omega)
  have hT := hlt
  have hP := hpl
  (refine Pu_intro c11 b11 (Nat.le_of_ble_eq_true rfl) fun σ => ?_; simp only [c11, ↓R1, R2, R3, R4, R5, Nat.reduceEqDiff, Nat.reduceAdd, Nat.reduceMul, Nat.reduceSub, Nat.reduceLeDiff, Nat.reduceLT, reduceIte, reduceCtorEq, Int.reduceBNe, Int.reduceBEq, hB2, taC_take, taC_len, taC_drop, hdt, hN, hC, hF, hz, hw, hd2, hT, hP, cRec])
  repeat' (first | (with_reducible rw [allocV_eq]) | (refine gdV_split (fun hc => ?_) (fun hc => ?_) <;> (try simp only [hc, ↓R1, R2, R3, R4, R5, Nat.reduceEqDiff, Nat.reduceAdd, Nat.reduceMul, Nat.reduceSub, Nat.reduceLeDiff, Nat.reduceLT, reduceIte, reduceCtorEq, Int.reduceBNe, Int.reduceBEq, hB2, taC_take, taC_len, taC_drop, hdt, hN, hC, hF, hz, hw, hd2, hT, hP, cRec])) | ((first | refine condV_split (fun hc => ?_) (fun hc => ?_) | (with_reducible intro β hβ; (try simp only [St.box_noneA, St.tip_noneA, St.tip_set, St.box_tip, St.box_lp, St.tip_lp] at hβ); (repeat (obtain ⟨⟨_, _⟩, hβ⟩ := hβ)); (try (have hbis := apart_is (by assumption) hβ; obtain ⟨_, _⟩ := hbis)))) <;> (try simp only [↓R1, R2, R3, R4, R5, Nat.reduceEqDiff, Nat.reduceAdd, Nat.reduceMul, Nat.reduceSub, Nat.reduceLeDiff, Nat.reduceLT, reduceIte, reduceCtorEq, Int.reduceBNe, Int.reduceBEq, hB2, taC_take, taC_len, taC_drop, hdt, hN, hC, hF, hz, hw, hd2, hT, hP, cRec])) | (with_reducible refine And.intro ?_ ?_; (focus (first | omega | (intros; (repeat' (with_reducible apply And.intro)) <;> first | omega | (simp only [cLE_len, taC_len, cRec_len, List.length_append, List.length_cons, List.length_nil]; omega))))) | (with_reducible apply And.intro) | ((first | refine Pu.to (h) (wkL_refl _) ?_ | refine callDV_pu (h) (wkL_refl _) ?_ | refine Pu.to (h2) (wkL_refl _) ?_ | refine callDV_pu (h2) (wkL_refl _) ?_ | (refine callGV_pu (fun hgv => ⟨?_, (h2), wkL_refl _⟩) ?_; (first | trivial | (focus (simp only [↓R1, R2, R3, R4, R5, Nat.reduceEqDiff, Nat.reduceAdd, Nat.reduceMul, Nat.reduceSub, Nat.reduceLeDiff, Nat.reduceLT, reduceIte, reduceCtorEq, Int.reduceBNe, Int.reduceBEq, hB2, taC_take, taC_len, taC_drop, hdt, hN, hC, hF, hz, hw, hd2, hT, hP, cRec]; done)))) | refine Pu.to (h3) (wkL_refl _) ?_ | refine callDV_pu (h3) (wkL_refl _) ?_); (try simp only [↓R1, R2, R3, R4, R5, Nat.reduceEqDiff, Nat.reduceAdd, Nat.reduceMul, Nat.reduceSub, Nat.reduceLeDiff, Nat.reduceLT, reduceIte, reduceCtorEq, Int.reduceBNe, Int.reduceBEq, hB2, taC_take, taC_len, taC_drop, hdt, hN, hC, hF, hz, hw, hd2, hT, hP, cRec])))
  all_goals first | (exfalso; simp_all; done) | (with_reducible intro hno; exfalso; simp_all; done) | skip
  all_goals first | exact taC_len _ | (rw [taC_len]; omega) | omega | skip
  refine tail_any (x := x) hl ?_ ?_ ?_ rfl rfl rfl rfl rfl (fun fr τ hτ e10 e11 => ?_)
  · simp only [↓R1, R2, R3, R4, R5, Nat.reduceEqDiff, Nat.reduceAdd, Nat.reduceMul, Nat.reduceSub, Nat.reduceLeDiff, Nat.reduceLT, reduceIte, reduceCtorEq, Int.reduceBNe, Int.reduceBEq, hB2, taC_take, taC_len, taC_drop, hdt, hN, hC, hF, hz, hw, hd2, hT, hP, cRec]
  · simp only [↓R1, R2, R3, R4, R5, Nat.reduceEqDiff, Nat.reduceAdd, Nat.reduceMul, Nat.reduceSub, Nat.reduceLeDiff, Nat.reduceLT, reduceIte, reduceCtorEq, Int.reduceBNe, Int.reduceBEq, hB2, taC_take, taC_len, taC_drop, hdt, hN, hC, hF, hz, hw, hd2, hT, hP, cRec]
  · simp only [↓R1, R2, R3, R4, R5, Nat.reduceEqDiff, Nat.reduceAdd, Nat.reduceMul, Nat.reduceSub, Nat.reduceLeDiff, Nat.reduceLT, reduceIte, reduceCtorEq, Int.reduceBNe, Int.reduceBEq, hB2, taC_take, taC_len, taC_drop, hdt, hN, hC, hF, hz, hw, hd2, hT, hP, cRec]
  simp only [St.tip_set] at hτ
  have hfl : l.flatMap cLE ++ cLE x = (l ++ [x]).flatMap cLE := flat_one (f := cLE) l x
  have hln : l.length + 1 = (l ++ [x]).length := by simp
  rw [hfl, hln]
  simp only [↓R1, R2, R3, R4, R5, Nat.reduceEqDiff, Nat.reduceAdd, Nat.reduceMul, Nat.reduceSub, Nat.reduceLeDiff, Nat.reduceLT, reduceIte, reduceCtorEq, Int.reduceBNe, Int.reduceBEq, hB2, taC_take, taC_len, taC_drop, hdt, hN, hC, hF, hz, hw, hd2, hT, hP, cRec]
  refine endP_pu (by simp) (by simp only [rvsS, rvS, e10, e11, ↓R1, R2, R3, R4, R5, Nat.reduceEqDiff, Nat.reduceAdd, Nat.reduceMul, Nat.reduceSub, Nat.reduceLeDiff, Nat.reduceLT, reduceIte, reduceCtorEq, Int.reduceBNe, Int.reduceBEq, hB2, taC_take, taC_len, taC_drop, hdt, hN, hC, hF, hz, hw, hd2, hT, hP, cRec]; try simp) ?_ (by (repeat (first | exact St.le_refl _ | (refine St.le_new ?_ (by assumption)) | (refine St.le_newT ?_ (by assumption)))))
  simp only [resAV, rvV, List.map_cons, List.map_nil, e10, e11, ↓R1, R2, R3, R4, R5, Nat.reduceEqDiff, Nat.reduceAdd, Nat.reduceMul, Nat.reduceSub, Nat.reduceLeDiff, Nat.reduceLT, reduceIte, reduceCtorEq, Int.reduceBNe, Int.reduceBEq, hB2, taC_take, taC_len, taC_drop, hdt, hN, hC, hF, hz, hw, hd2, hT, hP, cRec]
  (repeat' (first | exact wk_refl _ | exact wk_nils | exact wk_tsl _ _ _ | exact wk_full _ _ | exact wkL.nil | exact wkL_refl _ | refine wk_tup ?_ | refine wk_agg ?_ | refine wkL.cons ?_ ?_))
set_option maxHeartbeats 4000000 in
theorem app_21ze (l : List LE) (x : LE) (p : Int) (hl : l.length ≤ 1000000) (he : chkE l = 0) (ht : tenE x.t = 0) (hp : plB p = false) (hr : rightE x = 0) (f : Int) (c : Nat) (hv : cntT l x.t.toNat = (f, c)) (hc0 : c = 0) (hf0 : f = 0) (hn : l.length = 0) (hpl : decide (p ≤ (c : Int)) = true) : Pu Tryd.prog 11 [.agg [sl cLE l], .int .i64 x.t, .int .u64 x.lab, .agg (cRec x), .int .i64 p] (.tup [.agg [sl cLE []], .int .i64 21]) := by
  have h := p34 l hl
  have h2 := p35 x.t
  have h3 := p17 x
  have hB2 := hp
  simp only [plB] at hB2
  obtain ⟨t1, t2⟩ := tenE_ok ht
  have hdt0 := taC_drop2 (cntT l) t1 t2
  rw [hv] at hdt0
  obtain ⟨r, hdt⟩ := hdt0
  simp only [cRec] at h3 ⊢
  rw [he] at h
  rw [ht] at h2
  rw [hr] at h3
  have hN := (show ((f == 0) && ((c : Int) == 0)) = true by rw [hf0, hc0]; rfl)
  have hC : decide ((0 : Int) < (c : Int)) = false := by rw [decide_eq_false_iff_not]; omega
  have hF : True := trivial
  have hz : decide ((0 : Int) < (l.length : Int)) = false := by rw [decide_eq_false_iff_not]; omega
  have hw : True := trivial
  have hd2 : True := trivial
  have hT : True := trivial
  have hP := hpl
  (refine Pu_intro c11 b11 (Nat.le_of_ble_eq_true rfl) fun σ => ?_; simp only [c11, ↓R1, R2, R3, R4, R5, Nat.reduceEqDiff, Nat.reduceAdd, Nat.reduceMul, Nat.reduceSub, Nat.reduceLeDiff, Nat.reduceLT, reduceIte, reduceCtorEq, Int.reduceBNe, Int.reduceBEq, hB2, taC_take, taC_len, taC_drop, hdt, hN, hC, hF, hz, hw, hd2, hT, hP, cRec])
  repeat' (first | (with_reducible rw [allocV_eq]) | (refine gdV_split (fun hc => ?_) (fun hc => ?_) <;> (try simp only [hc, ↓R1, R2, R3, R4, R5, Nat.reduceEqDiff, Nat.reduceAdd, Nat.reduceMul, Nat.reduceSub, Nat.reduceLeDiff, Nat.reduceLT, reduceIte, reduceCtorEq, Int.reduceBNe, Int.reduceBEq, hB2, taC_take, taC_len, taC_drop, hdt, hN, hC, hF, hz, hw, hd2, hT, hP, cRec])) | ((first | refine condV_split (fun hc => ?_) (fun hc => ?_) | (with_reducible intro β hβ; (try simp only [St.box_noneA, St.tip_noneA, St.tip_set, St.box_tip, St.box_lp, St.tip_lp] at hβ); (repeat (obtain ⟨⟨_, _⟩, hβ⟩ := hβ)); (try (have hbis := apart_is (by assumption) hβ; obtain ⟨_, _⟩ := hbis)))) <;> (try simp only [↓R1, R2, R3, R4, R5, Nat.reduceEqDiff, Nat.reduceAdd, Nat.reduceMul, Nat.reduceSub, Nat.reduceLeDiff, Nat.reduceLT, reduceIte, reduceCtorEq, Int.reduceBNe, Int.reduceBEq, hB2, taC_take, taC_len, taC_drop, hdt, hN, hC, hF, hz, hw, hd2, hT, hP, cRec])) | (with_reducible refine And.intro ?_ ?_; (focus (first | omega | (intros; (repeat' (with_reducible apply And.intro)) <;> first | omega | (simp only [cLE_len, taC_len, cRec_len, List.length_append, List.length_cons, List.length_nil]; omega))))) | (with_reducible apply And.intro) | ((first | refine Pu.to (h) (wkL_refl _) ?_ | refine callDV_pu (h) (wkL_refl _) ?_ | refine Pu.to (h2) (wkL_refl _) ?_ | refine callDV_pu (h2) (wkL_refl _) ?_ | (refine callGV_pu (fun hgv => ⟨?_, (h2), wkL_refl _⟩) ?_; (first | trivial | (focus (simp only [↓R1, R2, R3, R4, R5, Nat.reduceEqDiff, Nat.reduceAdd, Nat.reduceMul, Nat.reduceSub, Nat.reduceLeDiff, Nat.reduceLT, reduceIte, reduceCtorEq, Int.reduceBNe, Int.reduceBEq, hB2, taC_take, taC_len, taC_drop, hdt, hN, hC, hF, hz, hw, hd2, hT, hP, cRec]; done)))) | refine Pu.to (h3) (wkL_refl _) ?_ | refine callDV_pu (h3) (wkL_refl _) ?_); (try simp only [↓R1, R2, R3, R4, R5, Nat.reduceEqDiff, Nat.reduceAdd, Nat.reduceMul, Nat.reduceSub, Nat.reduceLeDiff, Nat.reduceLT, reduceIte, reduceCtorEq, Int.reduceBNe, Int.reduceBEq, hB2, taC_take, taC_len, taC_drop, hdt, hN, hC, hF, hz, hw, hd2, hT, hP, cRec])))
  all_goals first | (exfalso; simp_all; done) | (with_reducible intro hno; exfalso; simp_all; done) | skip
  all_goals first | exact taC_len _ | (rw [taC_len]; omega) | omega | skip
  (refine endP_pu (by simp) (by first | (simp [rvsS, rvS]; done) | (simp only [rvsS, rvS, ↓R1, R2, R3, R4, R5, Nat.reduceEqDiff, Nat.reduceAdd, Nat.reduceMul, Nat.reduceSub, Nat.reduceLeDiff, Nat.reduceLT, reduceIte, reduceCtorEq, Int.reduceBNe, Int.reduceBEq, hB2, taC_take, taC_len, taC_drop, hdt, hN, hC, hF, hz, hw, hd2, hT, hP, cRec]; try simp)) ?_ (by (repeat (first | exact St.le_refl _ | (refine St.le_new ?_ (by assumption)) | (refine St.le_newT ?_ (by assumption))))))
  simp only [resAV, rvV, List.map_cons, List.map_nil, ↓R1, R2, R3, R4, R5, Nat.reduceEqDiff, Nat.reduceAdd, Nat.reduceMul, Nat.reduceSub, Nat.reduceLeDiff, Nat.reduceLT, reduceIte, reduceCtorEq, Int.reduceBNe, Int.reduceBEq, hB2, taC_take, taC_len, taC_drop, hdt, hN, hC, hF, hz, hw, hd2, hT, hP, cRec]
  (repeat' (first | exact wk_refl _ | exact wk_nils | exact wk_tsl _ _ _ | exact wk_full _ _ | exact wkL.nil | exact wkL_refl _ | refine wk_tup ?_ | refine wk_agg ?_ | refine wkL.cons ?_ ?_))
set_option maxHeartbeats 4000000 in
theorem app_0ze (l : List LE) (x : LE) (p : Int) (hl : l.length ≤ 1000000) (he : chkE l = 0) (ht : tenE x.t = 0) (hp : plB p = false) (hr : rightE x = 0) (f : Int) (c : Nat) (hv : cntT l x.t.toNat = (f, c)) (hc0 : c = 0) (hf0 : f = 0) (hn : l.length = 0) (hpl : decide (p ≤ (c : Int)) = false) : Pu Tryd.prog 11 [.agg [sl cLE l], .int .i64 x.t, .int .u64 x.lab, .agg (cRec x), .int .i64 p] (.tup [.agg [sl cLE (l ++ [x])], .int .i64 0]) := by
  have h := p34 l hl
  have h2 := p35 x.t
  have h3 := p17 x
  have hB2 := hp
  simp only [plB] at hB2
  obtain ⟨t1, t2⟩ := tenE_ok ht
  have hdt0 := taC_drop2 (cntT l) t1 t2
  rw [hv] at hdt0
  obtain ⟨r, hdt⟩ := hdt0
  simp only [cRec] at h3 ⊢
  rw [he] at h
  rw [ht] at h2
  rw [hr] at h3
  have hN := (show ((f == 0) && ((c : Int) == 0)) = true by rw [hf0, hc0]; rfl)
  have hC : decide ((0 : Int) < (c : Int)) = false := by rw [decide_eq_false_iff_not]; omega
  have hF : True := trivial
  have hz : decide ((0 : Int) < (l.length : Int)) = false := by rw [decide_eq_false_iff_not]; omega
  have hw : True := trivial
  have hd2 : True := trivial
  have hT : True := trivial
  have hP := hpl
  (refine Pu_intro c11 b11 (Nat.le_of_ble_eq_true rfl) fun σ => ?_; simp only [c11, ↓R1, R2, R3, R4, R5, Nat.reduceEqDiff, Nat.reduceAdd, Nat.reduceMul, Nat.reduceSub, Nat.reduceLeDiff, Nat.reduceLT, reduceIte, reduceCtorEq, Int.reduceBNe, Int.reduceBEq, hB2, taC_take, taC_len, taC_drop, hdt, hN, hC, hF, hz, hw, hd2, hT, hP, cRec])
  repeat' (first | (with_reducible rw [allocV_eq]) | (refine gdV_split (fun hc => ?_) (fun hc => ?_) <;> (try simp only [hc, ↓R1, R2, R3, R4, R5, Nat.reduceEqDiff, Nat.reduceAdd, Nat.reduceMul, Nat.reduceSub, Nat.reduceLeDiff, Nat.reduceLT, reduceIte, reduceCtorEq, Int.reduceBNe, Int.reduceBEq, hB2, taC_take, taC_len, taC_drop, hdt, hN, hC, hF, hz, hw, hd2, hT, hP, cRec])) | ((first | refine condV_split (fun hc => ?_) (fun hc => ?_) | (with_reducible intro β hβ; (try simp only [St.box_noneA, St.tip_noneA, St.tip_set, St.box_tip, St.box_lp, St.tip_lp] at hβ); (repeat (obtain ⟨⟨_, _⟩, hβ⟩ := hβ)); (try (have hbis := apart_is (by assumption) hβ; obtain ⟨_, _⟩ := hbis)))) <;> (try simp only [↓R1, R2, R3, R4, R5, Nat.reduceEqDiff, Nat.reduceAdd, Nat.reduceMul, Nat.reduceSub, Nat.reduceLeDiff, Nat.reduceLT, reduceIte, reduceCtorEq, Int.reduceBNe, Int.reduceBEq, hB2, taC_take, taC_len, taC_drop, hdt, hN, hC, hF, hz, hw, hd2, hT, hP, cRec])) | (with_reducible refine And.intro ?_ ?_; (focus (first | omega | (intros; (repeat' (with_reducible apply And.intro)) <;> first | omega | (simp only [cLE_len, taC_len, cRec_len, List.length_append, List.length_cons, List.length_nil]; omega))))) | (with_reducible apply And.intro) | ((first | refine Pu.to (h) (wkL_refl _) ?_ | refine callDV_pu (h) (wkL_refl _) ?_ | refine Pu.to (h2) (wkL_refl _) ?_ | refine callDV_pu (h2) (wkL_refl _) ?_ | (refine callGV_pu (fun hgv => ⟨?_, (h2), wkL_refl _⟩) ?_; (first | trivial | (focus (simp only [↓R1, R2, R3, R4, R5, Nat.reduceEqDiff, Nat.reduceAdd, Nat.reduceMul, Nat.reduceSub, Nat.reduceLeDiff, Nat.reduceLT, reduceIte, reduceCtorEq, Int.reduceBNe, Int.reduceBEq, hB2, taC_take, taC_len, taC_drop, hdt, hN, hC, hF, hz, hw, hd2, hT, hP, cRec]; done)))) | refine Pu.to (h3) (wkL_refl _) ?_ | refine callDV_pu (h3) (wkL_refl _) ?_); (try simp only [↓R1, R2, R3, R4, R5, Nat.reduceEqDiff, Nat.reduceAdd, Nat.reduceMul, Nat.reduceSub, Nat.reduceLeDiff, Nat.reduceLT, reduceIte, reduceCtorEq, Int.reduceBNe, Int.reduceBEq, hB2, taC_take, taC_len, taC_drop, hdt, hN, hC, hF, hz, hw, hd2, hT, hP, cRec])))
  all_goals first | (exfalso; simp_all; done) | (with_reducible intro hno; exfalso; simp_all; done) | skip
  all_goals first | exact taC_len _ | (rw [taC_len]; omega) | omega | skip
  refine tail_any (x := x) hl ?_ ?_ ?_ rfl rfl rfl rfl rfl (fun fr τ hτ e10 e11 => ?_)
  · simp only [↓R1, R2, R3, R4, R5, Nat.reduceEqDiff, Nat.reduceAdd, Nat.reduceMul, Nat.reduceSub, Nat.reduceLeDiff, Nat.reduceLT, reduceIte, reduceCtorEq, Int.reduceBNe, Int.reduceBEq, hB2, taC_take, taC_len, taC_drop, hdt, hN, hC, hF, hz, hw, hd2, hT, hP, cRec]
  · simp only [↓R1, R2, R3, R4, R5, Nat.reduceEqDiff, Nat.reduceAdd, Nat.reduceMul, Nat.reduceSub, Nat.reduceLeDiff, Nat.reduceLT, reduceIte, reduceCtorEq, Int.reduceBNe, Int.reduceBEq, hB2, taC_take, taC_len, taC_drop, hdt, hN, hC, hF, hz, hw, hd2, hT, hP, cRec]
  · simp only [↓R1, R2, R3, R4, R5, Nat.reduceEqDiff, Nat.reduceAdd, Nat.reduceMul, Nat.reduceSub, Nat.reduceLeDiff, Nat.reduceLT, reduceIte, reduceCtorEq, Int.reduceBNe, Int.reduceBEq, hB2, taC_take, taC_len, taC_drop, hdt, hN, hC, hF, hz, hw, hd2, hT, hP, cRec]
  simp only [St.tip_set] at hτ
  have hfl : l.flatMap cLE ++ cLE x = (l ++ [x]).flatMap cLE := flat_one (f := cLE) l x
  have hln : l.length + 1 = (l ++ [x]).length := by simp
  rw [hfl, hln]
  simp only [↓R1, R2, R3, R4, R5, Nat.reduceEqDiff, Nat.reduceAdd, Nat.reduceMul, Nat.reduceSub, Nat.reduceLeDiff, Nat.reduceLT, reduceIte, reduceCtorEq, Int.reduceBNe, Int.reduceBEq, hB2, taC_take, taC_len, taC_drop, hdt, hN, hC, hF, hz, hw, hd2, hT, hP, cRec]
  refine endP_pu (by simp) (by simp only [rvsS, rvS, e10, e11, ↓R1, R2, R3, R4, R5, Nat.reduceEqDiff, Nat.reduceAdd, Nat.reduceMul, Nat.reduceSub, Nat.reduceLeDiff, Nat.reduceLT, reduceIte, reduceCtorEq, Int.reduceBNe, Int.reduceBEq, hB2, taC_take, taC_len, taC_drop, hdt, hN, hC, hF, hz, hw, hd2, hT, hP, cRec]; try simp) ?_ (by (repeat (first | exact St.le_refl _ | (refine St.le_new ?_ (by assumption)) | (refine St.le_newT ?_ (by assumption)))))
  simp only [resAV, rvV, List.map_cons, List.map_nil, e10, e11, ↓R1, R2, R3, R4, R5, Nat.reduceEqDiff, Nat.reduceAdd, Nat.reduceMul, Nat.reduceSub, Nat.reduceLeDiff, Nat.reduceLT, reduceIte, reduceCtorEq, Int.reduceBNe, Int.reduceBEq, hB2, taC_take, taC_len, taC_drop, hdt, hN, hC, hF, hz, hw, hd2, hT, hP, cRec]
  (repeat' (first | exact wk_refl _ | exact wk_nils | exact wk_tsl _ _ _ | exact wk_full _ _ | exact wkL.nil | exact wkL_refl _ | refine wk_tup ?_ | refine wk_agg ?_ | refine wkL.cons ?_ ?_))
end Go.Proofs.YtbbkckogjdjjgaaDoor
namespace Go.Proofs.YtbbkckogjdjjgaaDoor
open Go.Abs
set_option linter.all false
set_option maxRecDepth 100000
theorem chk_all {l : List LE} (h : chkE l = 0) : l.length ≤ 384 ∧ ∀ j, j < l.length → stE l j = 0 := by
  unfold chkE at h
  cases hq : decide (384 < l.length) with
  | true => rw [hq] at h; cases h
  | false =>
    rw [hq, cond_false] at h
    exact ⟨by simpa using hq, fun j hj => firstE_zero h j (by omega) (by omega)⟩
theorem p11 (l : List LE) (x : LE) (p : Int) (hl : l.length ≤ 1000000) : Pu Tryd.prog 11 [.agg [sl cLE l], .int .i64 x.t, .int .u64 x.lab, .agg (cRec x), .int .i64 p] (.tup [.agg [sl cLE (appL l x p)], .int .i64 (appE l x p)]) := by
  by_cases he : chkE l = 0
  · cases hb : ((tenE x.t == 0) && !plB p) with
    | false => exact app_e2 l x p hl he hb
    | true =>
      have hb2 := hb
      rw [Bool.and_eq_true, beq_iff_eq, Bool.not_eq_true'] at hb2
      obtain ⟨ht, hp⟩ := hb2
      by_cases hr : rightE x = 0
      · obtain ⟨c1, c2⟩ := chk_all he
        obtain ⟨t1, t2⟩ := tenE_ok ht
        have hT : cntT l = taK l l.length := by simp [cntT, he]
        have hm := mis_ta l l.length (Nat.le_refl _) (fun j hj => stE_with (c2 j hj)) x.t x.lab t1 t2
        have hc := (taK_says l l.length (Nat.le_refl _) (fun j hj => stE_with (c2 j hj)) x.t t1 t2).1
        have hz := ta_zero l l.length (Nat.le_refl _) x.t.toNat
        rw [← hT, List.take_length] at hm hc
        rw [← hT] at hz
        obtain ⟨f, c, hv⟩ : ∃ f c, cntT l x.t.toNat = (f, c) := ⟨_, _, rfl⟩
        rw [hv] at hm hc hz
        simp only at hm hc hz
        have hE : appE l x p = bif misT l x.t x.lab then 13 else bif lateX l x then 9 else bif decide (p ≤ (c : Int)) then 21 else 0 := by
          simp only [appE, he, beq_self_eq_true, hb, hr, cond_true, hc]
        have hne : appE l x p ≠ 0 → appL l x p = [] := appL_no
        have hyes : appE l x p = 0 → appL l x p = l ++ [x] := fun h => by rw [appL, h]; rfl
        rcases Nat.eq_zero_or_pos c with h0 | h0
        · have hf0 := hz h0
          have hm2 : misT l x.t x.lab = false := by rw [← hm, h0]; rfl
          rw [hm2, cond_false] at hE
          cases hlt : lateX l x with
          | true =>
            rw [hlt, cond_true] at hE
            rw [hne (by rw [hE]; decide), hE]
            unfold lateX at hlt
            rw [Bool.and_eq_true, decide_eq_true_eq] at hlt
            exact app_9z l x p hl he ht hp hr f c hv h0 hf0 hlt.1 hlt.2
          | false =>
            rw [hlt, cond_false] at hE
            rcases Nat.eq_zero_or_pos l.length with hn | hn
            · cases hpl : decide (p ≤ (c : Int)) with
              | true => rw [hpl, cond_true] at hE; rw [hne (by rw [hE]; decide), hE]; exact app_21ze l x p hl he ht hp hr f c hv h0 hf0 hn hpl
              | false => rw [hpl, cond_false] at hE; rw [hyes hE, hE]; exact app_0ze l x p hl he ht hp hr f c hv h0 hf0 hn hpl
            · have hl2 : decide (x.tick < (eAt l (l.length - 1)).tick) = false := by
                unfold lateX at hlt; rw [decide_eq_true hn] at hlt; exact hlt
              cases hpl : decide (p ≤ (c : Int)) with
              | true => rw [hpl, cond_true] at hE; rw [hne (by rw [hE]; decide), hE]; exact app_21zn l x p hl he ht hp hr f c hv h0 hf0 hn hl2 hpl
              | false => rw [hpl, cond_false] at hE; rw [hyes hE, hE]; exact app_0zn l x p hl he ht hp hr f c hv h0 hf0 hn hl2 hpl
        · have hn : 0 < l.length := by
            rw [hc] at h0
            exact Nat.lt_of_lt_of_le h0 (ofT_le l x.t)
          rw [decide_eq_true h0, Bool.true_and] at hm
          cases hf : (f != x.lab) with
          | true =>
            rw [← hm, hf, cond_true] at hE
            rw [hne (by rw [hE]; decide), hE]
            exact app_13 l x p hl he ht hp hr f c hv h0 hf
          | false =>
            rw [← hm, hf, cond_false] at hE
            cases hlt : lateX l x with
            | true =>
              rw [hlt, cond_true] at hE
              rw [hne (by rw [hE]; decide), hE]
              unfold lateX at hlt
              rw [Bool.and_eq_true, decide_eq_true_eq] at hlt
              exact app_9p l x p hl he ht hp hr f c hv h0 hf hlt.1 hlt.2
            | false =>
              rw [hlt, cond_false] at hE
              have hl2 : decide (x.tick < (eAt l (l.length - 1)).tick) = false := by
                unfold lateX at hlt; rw [decide_eq_true hn] at hlt; exact hlt
              cases hpl : decide (p ≤ (c : Int)) with
              | true => rw [hpl, cond_true] at hE; rw [hne (by rw [hE]; decide), hE]; exact app_21pn l x p hl he ht hp hr f c hv h0 hf hn hl2 hpl
              | false => rw [hpl, cond_false] at hE; rw [hyes hE, hE]; exact app_0pn l x p hl he ht hp hr f c hv h0 hf hn hl2 hpl
      · have hE : appE l x p = rightE x := by simp only [appE, he, beq_self_eq_true, hb, beq_eq_false_iff_ne.2 hr, cond_true, cond_false]
        rw [appL_no (by rw [hE]; exact hr), hE]
        exact app_e3 l x p hl he ht hp hr
  · exact app_e1 l x p hl he
end Go.Proofs.YtbbkckogjdjjgaaDoor
