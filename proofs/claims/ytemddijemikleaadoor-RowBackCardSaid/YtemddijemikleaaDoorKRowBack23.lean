/- Part 23 of the proof of RowBack: an abstract semantics that is proved sound for the model, contracts of functions in it, and plain facts (RN2 RN3 RN4 RK1 RC2 A06b RD5). No condition. -/
import Derived.Test.YtemddijemikleaaDoorKRowBack22
set_option linter.all false
namespace Go.Proofs.YtemddijemikleaaDoor
open Go.Abs
set_option linter.all false
set_option maxRecDepth 100000
def numV (q : Bool) (t : List UInt8) (lo hi : Int) : AV :=
  bif q || !digOk t then .tup [.int .u64 0, .int .i64 3]
  else bif (decide (18446744073709551616 ≤ valN t) || decide (((valN t % 18446744073709551616 : Nat) : Int) < lo)) || decide (hi < ((valN t % 18446744073709551616 : Nat) : Int)) then .tup [.int .u64 0, .int .i64 2]
  else .tup [.int .u64 ((valN t % 18446744073709551616 : Nat) : Int), .int .i64 0]
set_option maxHeartbeats 2000000 in
theorem p17 (q : Bool) (t : List UInt8) (a lo hi : Int) (hl : t.length ≤ 1000000) : Pu Tryd.prog 17 [.agg [.bool q, .str t, .int .i64 a], .int .u64 lo, .int .u64 hi] (numV q t lo hi) := by
  have q1 : True := trivial
  have q2 : True := trivial
  have q3 : True := trivial
  have q4 : True := trivial
  have q5 : True := trivial
  have q6 : True := trivial
  have q7 : True := trivial
  have hp := p43 t hl
  cases hd : digOk t with
  | false =>
    simp only [natV, hd, cond_false] at hp
    simp only [numV, hd, Bool.not_false, Bool.or_true, cond_true]
    (refine Pu_intro c17 b17 (Nat.le_of_ble_eq_true rfl) fun σ => ?_; simp only [c17, ↓R1, RR, Nat.reduceEqDiff, Nat.reduceAdd, Nat.reduceMul, Nat.reduceSub, Nat.reduceLeDiff, Nat.reduceLT, reduceIte, reduceCtorEq, Int.reduceBNe, Int.reduceBEq, q1, q2, q3, q4, q5, q6, q7])
    repeat' (first | (with_reducible rw [allocV_eq]) | (with_reducible refine And.intro ?_ ?_; focus (intros; (repeat' (with_reducible apply And.intro)) <;> first | omega | (simp only [RZ]; omega))) | (with_reducible apply And.intro) | ((first | (refine gdV_split (fun hc => ?_) (fun hc => ?_) <;> (try simp only [hc, ↓R1, RR, Nat.reduceEqDiff, Nat.reduceAdd, Nat.reduceMul, Nat.reduceSub, Nat.reduceLeDiff, Nat.reduceLT, reduceIte, reduceCtorEq, Int.reduceBNe, Int.reduceBEq, q1, q2, q3, q4, q5, q6, q7])) | refine condV_split (fun hc => ?_) (fun hc => ?_) | (with_reducible intro β hβ; (try simp only [RB] at hβ); (repeat (obtain ⟨⟨_, _⟩, hβ⟩ := hβ)); (try (have hbis := apart_is (by assumption) hβ; obtain ⟨_, _⟩ := hbis))) | refine Pt (hp) ?_ | refine Ct (hp) ?_) <;> (try simp only [↓R1, RR, Nat.reduceEqDiff, Nat.reduceAdd, Nat.reduceMul, Nat.reduceSub, Nat.reduceLeDiff, Nat.reduceLT, reduceIte, reduceCtorEq, Int.reduceBNe, Int.reduceBEq, q1, q2, q3, q4, q5, q6, q7])))
    (refine endP_pu (by simp) (by first | (simp [rvsS, rvS]; done) | (simp only [rvsS, rvS, ↓R1, RR, Nat.reduceEqDiff, Nat.reduceAdd, Nat.reduceMul, Nat.reduceSub, Nat.reduceLeDiff, Nat.reduceLT, reduceIte, reduceCtorEq, Int.reduceBNe, Int.reduceBEq, q1, q2, q3, q4, q5, q6, q7]; try simp)) (wk_of_eq ?_) (by (repeat (first | exact St.le_refl _ | (refine St.le_new ?_ (by assumption)) | (refine St.le_newT ?_ (by assumption))))))
    (simp only [resAV, rvV, List.map_cons, List.map_nil, ↓R1, RR, Nat.reduceEqDiff, Nat.reduceAdd, Nat.reduceMul, Nat.reduceSub, Nat.reduceLeDiff, Nat.reduceLT, reduceIte, reduceCtorEq, Int.reduceBNe, Int.reduceBEq, q1, q2, q3, q4, q5, q6, q7])
  | true =>
    simp only [natV, hd, cond_true] at hp
    cases q with
    | true =>
      simp only [numV, Bool.true_or, cond_true]
      (refine Pu_intro c17 b17 (Nat.le_of_ble_eq_true rfl) fun σ => ?_; simp only [c17, ↓R1, RR, Nat.reduceEqDiff, Nat.reduceAdd, Nat.reduceMul, Nat.reduceSub, Nat.reduceLeDiff, Nat.reduceLT, reduceIte, reduceCtorEq, Int.reduceBNe, Int.reduceBEq, q1, q2, q3, q4, q5, q6, q7])
      repeat' (first | (with_reducible rw [allocV_eq]) | (with_reducible refine And.intro ?_ ?_; focus (intros; (repeat' (with_reducible apply And.intro)) <;> first | omega | (simp only [RZ]; omega))) | (with_reducible apply And.intro) | ((first | (refine gdV_split (fun hc => ?_) (fun hc => ?_) <;> (try simp only [hc, ↓R1, RR, Nat.reduceEqDiff, Nat.reduceAdd, Nat.reduceMul, Nat.reduceSub, Nat.reduceLeDiff, Nat.reduceLT, reduceIte, reduceCtorEq, Int.reduceBNe, Int.reduceBEq, q1, q2, q3, q4, q5, q6, q7])) | refine condV_split (fun hc => ?_) (fun hc => ?_) | (with_reducible intro β hβ; (try simp only [RB] at hβ); (repeat (obtain ⟨⟨_, _⟩, hβ⟩ := hβ)); (try (have hbis := apart_is (by assumption) hβ; obtain ⟨_, _⟩ := hbis))) | refine Pt (hp) ?_ | refine Ct (hp) ?_) <;> (try simp only [↓R1, RR, Nat.reduceEqDiff, Nat.reduceAdd, Nat.reduceMul, Nat.reduceSub, Nat.reduceLeDiff, Nat.reduceLT, reduceIte, reduceCtorEq, Int.reduceBNe, Int.reduceBEq, q1, q2, q3, q4, q5, q6, q7])))
      (refine endP_pu (by simp) (by first | (simp [rvsS, rvS]; done) | (simp only [rvsS, rvS, ↓R1, RR, Nat.reduceEqDiff, Nat.reduceAdd, Nat.reduceMul, Nat.reduceSub, Nat.reduceLeDiff, Nat.reduceLT, reduceIte, reduceCtorEq, Int.reduceBNe, Int.reduceBEq, q1, q2, q3, q4, q5, q6, q7]; try simp)) (wk_of_eq ?_) (by (repeat (first | exact St.le_refl _ | (refine St.le_new ?_ (by assumption)) | (refine St.le_newT ?_ (by assumption))))))
      (simp only [resAV, rvV, List.map_cons, List.map_nil, ↓R1, RR, Nat.reduceEqDiff, Nat.reduceAdd, Nat.reduceMul, Nat.reduceSub, Nat.reduceLeDiff, Nat.reduceLT, reduceIte, reduceCtorEq, Int.reduceBNe, Int.reduceBEq, q1, q2, q3, q4, q5, q6, q7])
    | false =>
      simp only [numV, hd, Bool.not_true, Bool.or_false, cond_false]
      cases hb : (decide (18446744073709551616 ≤ valN t) || decide (((valN t % 18446744073709551616 : Nat) : Int) < lo)) || decide (hi < ((valN t % 18446744073709551616 : Nat) : Int)) with
      | true =>
        have q1 := hb
        (refine Pu_intro c17 b17 (Nat.le_of_ble_eq_true rfl) fun σ => ?_; simp only [c17, ↓R1, RR, Nat.reduceEqDiff, Nat.reduceAdd, Nat.reduceMul, Nat.reduceSub, Nat.reduceLeDiff, Nat.reduceLT, reduceIte, reduceCtorEq, Int.reduceBNe, Int.reduceBEq, q1, q2, q3, q4, q5, q6, q7])
        repeat' (first | (with_reducible rw [allocV_eq]) | (with_reducible refine And.intro ?_ ?_; focus (intros; (repeat' (with_reducible apply And.intro)) <;> first | omega | (simp only [RZ]; omega))) | (with_reducible apply And.intro) | ((first | (refine gdV_split (fun hc => ?_) (fun hc => ?_) <;> (try simp only [hc, ↓R1, RR, Nat.reduceEqDiff, Nat.reduceAdd, Nat.reduceMul, Nat.reduceSub, Nat.reduceLeDiff, Nat.reduceLT, reduceIte, reduceCtorEq, Int.reduceBNe, Int.reduceBEq, q1, q2, q3, q4, q5, q6, q7])) | refine condV_split (fun hc => ?_) (fun hc => ?_) | (with_reducible intro β hβ; (try simp only [RB] at hβ); (repeat (obtain ⟨⟨_, _⟩, hβ⟩ := hβ)); (try (have hbis := apart_is (by assumption) hβ; obtain ⟨_, _⟩ := hbis))) | refine Pt (hp) ?_ | refine Ct (hp) ?_) <;> (try simp only [↓R1, RR, Nat.reduceEqDiff, Nat.reduceAdd, Nat.reduceMul, Nat.reduceSub, Nat.reduceLeDiff, Nat.reduceLT, reduceIte, reduceCtorEq, Int.reduceBNe, Int.reduceBEq, q1, q2, q3, q4, q5, q6, q7])))
        (refine endP_pu (by simp) (by first | (simp [rvsS, rvS]; done) | (simp only [rvsS, rvS, ↓R1, RR, Nat.reduceEqDiff, Nat.reduceAdd, Nat.reduceMul, Nat.reduceSub, Nat.reduceLeDiff, Nat.reduceLT, reduceIte, reduceCtorEq, Int.reduceBNe, Int.reduceBEq, q1, q2, q3, q4, q5, q6, q7]; try simp)) (wk_of_eq ?_) (by (repeat (first | exact St.le_refl _ | (refine St.le_new ?_ (by assumption)) | (refine St.le_newT ?_ (by assumption))))))
        (simp only [resAV, rvV, List.map_cons, List.map_nil, ↓R1, RR, Nat.reduceEqDiff, Nat.reduceAdd, Nat.reduceMul, Nat.reduceSub, Nat.reduceLeDiff, Nat.reduceLT, reduceIte, reduceCtorEq, Int.reduceBNe, Int.reduceBEq, q1, q2, q3, q4, q5, q6, q7])
        all_goals rfl
      | false =>
        have q1 := hb
        (refine Pu_intro c17 b17 (Nat.le_of_ble_eq_true rfl) fun σ => ?_; simp only [c17, ↓R1, RR, Nat.reduceEqDiff, Nat.reduceAdd, Nat.reduceMul, Nat.reduceSub, Nat.reduceLeDiff, Nat.reduceLT, reduceIte, reduceCtorEq, Int.reduceBNe, Int.reduceBEq, q1, q2, q3, q4, q5, q6, q7])
        repeat' (first | (with_reducible rw [allocV_eq]) | (with_reducible refine And.intro ?_ ?_; focus (intros; (repeat' (with_reducible apply And.intro)) <;> first | omega | (simp only [RZ]; omega))) | (with_reducible apply And.intro) | ((first | (refine gdV_split (fun hc => ?_) (fun hc => ?_) <;> (try simp only [hc, ↓R1, RR, Nat.reduceEqDiff, Nat.reduceAdd, Nat.reduceMul, Nat.reduceSub, Nat.reduceLeDiff, Nat.reduceLT, reduceIte, reduceCtorEq, Int.reduceBNe, Int.reduceBEq, q1, q2, q3, q4, q5, q6, q7])) | refine condV_split (fun hc => ?_) (fun hc => ?_) | (with_reducible intro β hβ; (try simp only [RB] at hβ); (repeat (obtain ⟨⟨_, _⟩, hβ⟩ := hβ)); (try (have hbis := apart_is (by assumption) hβ; obtain ⟨_, _⟩ := hbis))) | refine Pt (hp) ?_ | refine Ct (hp) ?_) <;> (try simp only [↓R1, RR, Nat.reduceEqDiff, Nat.reduceAdd, Nat.reduceMul, Nat.reduceSub, Nat.reduceLeDiff, Nat.reduceLT, reduceIte, reduceCtorEq, Int.reduceBNe, Int.reduceBEq, q1, q2, q3, q4, q5, q6, q7])))
        (refine endP_pu (by simp) (by first | (simp [rvsS, rvS]; done) | (simp only [rvsS, rvS, ↓R1, RR, Nat.reduceEqDiff, Nat.reduceAdd, Nat.reduceMul, Nat.reduceSub, Nat.reduceLeDiff, Nat.reduceLT, reduceIte, reduceCtorEq, Int.reduceBNe, Int.reduceBEq, q1, q2, q3, q4, q5, q6, q7]; try simp)) (wk_of_eq ?_) (by (repeat (first | exact St.le_refl _ | (refine St.le_new ?_ (by assumption)) | (refine St.le_newT ?_ (by assumption))))))
        (simp only [resAV, rvV, List.map_cons, List.map_nil, ↓R1, RR, Nat.reduceEqDiff, Nat.reduceAdd, Nat.reduceMul, Nat.reduceSub, Nat.reduceLeDiff, Nat.reduceLT, reduceIte, reduceCtorEq, Int.reduceBNe, Int.reduceBEq, q1, q2, q3, q4, q5, q6, q7])
        all_goals rfl
def negS (t : List UInt8) : Bool := match t with
  | c :: _ => decide (c = 45)
  | [] => false
def absS (t : List UInt8) : List UInt8 := bif negS t then t.drop 1 else t
theorem p64 (t : List UInt8) (hl : t.length ≤ 1000000) : Pu Tryd.prog 64 [.str t, .str [45]] (.bool (negS t)) := by
  have q1 : True := trivial
  have q2 : True := trivial
  have q3 : True := trivial
  have q4 : True := trivial
  have q5 : True := trivial
  have q6 : True := trivial
  have q7 : True := trivial
  cases t with
  | nil =>
    (refine Pu_intro c64 b64 (Nat.le_of_ble_eq_true rfl) fun σ => ?_; simp only [c64, ↓R1, RR, Nat.reduceEqDiff, Nat.reduceAdd, Nat.reduceMul, Nat.reduceSub, Nat.reduceLeDiff, Nat.reduceLT, reduceIte, reduceCtorEq, Int.reduceBNe, Int.reduceBEq, q1, q2, q3, q4, q5, q6, q7])
    repeat' (first | (with_reducible rw [allocV_eq]) | (with_reducible refine And.intro ?_ ?_; focus (intros; (repeat' (with_reducible apply And.intro)) <;> first | omega | (simp only [RZ]; omega))) | (with_reducible apply And.intro) | ((first | (refine gdV_split (fun hc => ?_) (fun hc => ?_) <;> (try simp only [hc, ↓R1, RR, Nat.reduceEqDiff, Nat.reduceAdd, Nat.reduceMul, Nat.reduceSub, Nat.reduceLeDiff, Nat.reduceLT, reduceIte, reduceCtorEq, Int.reduceBNe, Int.reduceBEq, q1, q2, q3, q4, q5, q6, q7])) | refine condV_split (fun hc => ?_) (fun hc => ?_) | (with_reducible intro β hβ; (try simp only [RB] at hβ); (repeat (obtain ⟨⟨_, _⟩, hβ⟩ := hβ)); (try (have hbis := apart_is (by assumption) hβ; obtain ⟨_, _⟩ := hbis)))) <;> (try simp only [↓R1, RR, Nat.reduceEqDiff, Nat.reduceAdd, Nat.reduceMul, Nat.reduceSub, Nat.reduceLeDiff, Nat.reduceLT, reduceIte, reduceCtorEq, Int.reduceBNe, Int.reduceBEq, q1, q2, q3, q4, q5, q6, q7])))
    all_goals first | (intro h; simp at h; done) | skip
    (refine endP_pu (by simp) (by first | (simp [rvsS, rvS]; done) | (simp only [rvsS, rvS, ↓R1, RR, Nat.reduceEqDiff, Nat.reduceAdd, Nat.reduceMul, Nat.reduceSub, Nat.reduceLeDiff, Nat.reduceLT, reduceIte, reduceCtorEq, Int.reduceBNe, Int.reduceBEq, q1, q2, q3, q4, q5, q6, q7]; try simp)) (wk_of_eq ?_) (by (repeat (first | exact St.le_refl _ | (refine St.le_new ?_ (by assumption)) | (refine St.le_newT ?_ (by assumption))))))
    (simp only [resAV, rvV, List.map_cons, List.map_nil, ↓R1, RR, Nat.reduceEqDiff, Nat.reduceAdd, Nat.reduceMul, Nat.reduceSub, Nat.reduceLeDiff, Nat.reduceLT, reduceIte, reduceCtorEq, Int.reduceBNe, Int.reduceBEq, q1, q2, q3, q4, q5, q6, q7])
    rfl
  | cons c r =>
    (refine Pu_intro c64 b64 (Nat.le_of_ble_eq_true rfl) fun σ => ?_; simp only [c64, ↓R1, RR, Nat.reduceEqDiff, Nat.reduceAdd, Nat.reduceMul, Nat.reduceSub, Nat.reduceLeDiff, Nat.reduceLT, reduceIte, reduceCtorEq, Int.reduceBNe, Int.reduceBEq, q1, q2, q3, q4, q5, q6, q7])
    repeat' (first | (with_reducible rw [allocV_eq]) | (with_reducible refine And.intro ?_ ?_; focus (intros; (repeat' (with_reducible apply And.intro)) <;> first | omega | (simp only [RZ]; omega))) | (with_reducible apply And.intro) | ((first | (refine gdV_split (fun hc => ?_) (fun hc => ?_) <;> (try simp only [hc, ↓R1, RR, Nat.reduceEqDiff, Nat.reduceAdd, Nat.reduceMul, Nat.reduceSub, Nat.reduceLeDiff, Nat.reduceLT, reduceIte, reduceCtorEq, Int.reduceBNe, Int.reduceBEq, q1, q2, q3, q4, q5, q6, q7])) | refine condV_split (fun hc => ?_) (fun hc => ?_) | (with_reducible intro β hβ; (try simp only [RB] at hβ); (repeat (obtain ⟨⟨_, _⟩, hβ⟩ := hβ)); (try (have hbis := apart_is (by assumption) hβ; obtain ⟨_, _⟩ := hbis)))) <;> (try simp only [↓R1, RR, Nat.reduceEqDiff, Nat.reduceAdd, Nat.reduceMul, Nat.reduceSub, Nat.reduceLeDiff, Nat.reduceLT, reduceIte, reduceCtorEq, Int.reduceBNe, Int.reduceBEq, q1, q2, q3, q4, q5, q6, q7])))
    all_goals first | (intro h; simp at h; done) | skip
    (refine endP_pu (by simp) (by first | (simp [rvsS, rvS]; done) | (simp only [rvsS, rvS, ↓R1, RR, Nat.reduceEqDiff, Nat.reduceAdd, Nat.reduceMul, Nat.reduceSub, Nat.reduceLeDiff, Nat.reduceLT, reduceIte, reduceCtorEq, Int.reduceBNe, Int.reduceBEq, q1, q2, q3, q4, q5, q6, q7]; try simp)) (wk_of_eq ?_) (by (repeat (first | exact St.le_refl _ | (refine St.le_new ?_ (by assumption)) | (refine St.le_newT ?_ (by assumption))))))
    (simp only [resAV, rvV, List.map_cons, List.map_nil, ↓R1, RR, Nat.reduceEqDiff, Nat.reduceAdd, Nat.reduceMul, Nat.reduceSub, Nat.reduceLeDiff, Nat.reduceLT, reduceIte, reduceCtorEq, Int.reduceBNe, Int.reduceBEq, q1, q2, q3, q4, q5, q6, q7])
    refine congrArg AV.bool ?_
    rw [Bool.eq_iff_iff]
    simp [negS]
    omega
theorem p55 (t : List UInt8) (hl : t.length ≤ 1000000) : Pu Tryd.prog 55 [.str t, .str [45]] (.tup [.str (absS t), .bool (negS t)]) := by
  have q1 : True := trivial
  have q2 : True := trivial
  have q3 : True := trivial
  have q4 : True := trivial
  have q5 : True := trivial
  have q6 : True := trivial
  have q7 : True := trivial
  have hp := p64 t hl
  cases hn : negS t with
  | false =>
    rw [hn] at hp
    (refine Pu_intro c55 b55 (Nat.le_of_ble_eq_true rfl) fun σ => ?_; simp only [c55, ↓R1, RR, Nat.reduceEqDiff, Nat.reduceAdd, Nat.reduceMul, Nat.reduceSub, Nat.reduceLeDiff, Nat.reduceLT, reduceIte, reduceCtorEq, Int.reduceBNe, Int.reduceBEq, q1, q2, q3, q4, q5, q6, q7])
    repeat' (first | (with_reducible rw [allocV_eq]) | (with_reducible refine And.intro ?_ ?_; focus (intros; (repeat' (with_reducible apply And.intro)) <;> first | omega | (simp only [RZ]; omega))) | (with_reducible apply And.intro) | ((first | (refine gdV_split (fun hc => ?_) (fun hc => ?_) <;> (try simp only [hc, ↓R1, RR, Nat.reduceEqDiff, Nat.reduceAdd, Nat.reduceMul, Nat.reduceSub, Nat.reduceLeDiff, Nat.reduceLT, reduceIte, reduceCtorEq, Int.reduceBNe, Int.reduceBEq, q1, q2, q3, q4, q5, q6, q7])) | refine condV_split (fun hc => ?_) (fun hc => ?_) | (with_reducible intro β hβ; (try simp only [RB] at hβ); (repeat (obtain ⟨⟨_, _⟩, hβ⟩ := hβ)); (try (have hbis := apart_is (by assumption) hβ; obtain ⟨_, _⟩ := hbis))) | refine Pt (hp) ?_ | refine Ct (hp) ?_) <;> (try simp only [↓R1, RR, Nat.reduceEqDiff, Nat.reduceAdd, Nat.reduceMul, Nat.reduceSub, Nat.reduceLeDiff, Nat.reduceLT, reduceIte, reduceCtorEq, Int.reduceBNe, Int.reduceBEq, q1, q2, q3, q4, q5, q6, q7])))
    (refine endP_pu (by simp) (by first | (simp [rvsS, rvS]; done) | (simp only [rvsS, rvS, ↓R1, RR, Nat.reduceEqDiff, Nat.reduceAdd, Nat.reduceMul, Nat.reduceSub, Nat.reduceLeDiff, Nat.reduceLT, reduceIte, reduceCtorEq, Int.reduceBNe, Int.reduceBEq, q1, q2, q3, q4, q5, q6, q7]; try simp)) (wk_of_eq ?_) (by (repeat (first | exact St.le_refl _ | (refine St.le_new ?_ (by assumption)) | (refine St.le_newT ?_ (by assumption))))))
    (simp only [resAV, rvV, List.map_cons, List.map_nil, ↓R1, RR, Nat.reduceEqDiff, Nat.reduceAdd, Nat.reduceMul, Nat.reduceSub, Nat.reduceLeDiff, Nat.reduceLT, reduceIte, reduceCtorEq, Int.reduceBNe, Int.reduceBEq, q1, q2, q3, q4, q5, q6, q7])
    simp [absS, hn]
  | true =>
    rw [hn] at hp
    have hl1 : 1 ≤ t.length := by
      cases t with
      | nil => simp [negS] at hn
      | cons c r => simp
    (refine Pu_intro c55 b55 (Nat.le_of_ble_eq_true rfl) fun σ => ?_; simp only [c55, ↓R1, RR, Nat.reduceEqDiff, Nat.reduceAdd, Nat.reduceMul, Nat.reduceSub, Nat.reduceLeDiff, Nat.reduceLT, reduceIte, reduceCtorEq, Int.reduceBNe, Int.reduceBEq, q1, q2, q3, q4, q5, q6, q7])
    repeat' (first | (with_reducible rw [allocV_eq]) | (with_reducible refine And.intro ?_ ?_; focus (intros; (repeat' (with_reducible apply And.intro)) <;> first | omega | (simp only [RZ]; omega))) | (with_reducible apply And.intro) | ((first | (refine gdV_split (fun hc => ?_) (fun hc => ?_) <;> (try simp only [hc, ↓R1, RR, Nat.reduceEqDiff, Nat.reduceAdd, Nat.reduceMul, Nat.reduceSub, Nat.reduceLeDiff, Nat.reduceLT, reduceIte, reduceCtorEq, Int.reduceBNe, Int.reduceBEq, q1, q2, q3, q4, q5, q6, q7])) | refine condV_split (fun hc => ?_) (fun hc => ?_) | (with_reducible intro β hβ; (try simp only [RB] at hβ); (repeat (obtain ⟨⟨_, _⟩, hβ⟩ := hβ)); (try (have hbis := apart_is (by assumption) hβ; obtain ⟨_, _⟩ := hbis))) | refine Pt (hp) ?_ | refine Ct (hp) ?_) <;> (try simp only [↓R1, RR, Nat.reduceEqDiff, Nat.reduceAdd, Nat.reduceMul, Nat.reduceSub, Nat.reduceLeDiff, Nat.reduceLT, reduceIte, reduceCtorEq, Int.reduceBNe, Int.reduceBEq, q1, q2, q3, q4, q5, q6, q7])))
    all_goals first | omega | skip
    (refine endP_pu (by simp) (by first | (simp [rvsS, rvS]; done) | (simp only [rvsS, rvS, ↓R1, RR, Nat.reduceEqDiff, Nat.reduceAdd, Nat.reduceMul, Nat.reduceSub, Nat.reduceLeDiff, Nat.reduceLT, reduceIte, reduceCtorEq, Int.reduceBNe, Int.reduceBEq, q1, q2, q3, q4, q5, q6, q7]; try simp)) (wk_of_eq ?_) (by (repeat (first | exact St.le_refl _ | (refine St.le_new ?_ (by assumption)) | (refine St.le_newT ?_ (by assumption))))))
    (simp only [resAV, rvV, List.map_cons, List.map_nil, ↓R1, RR, Nat.reduceEqDiff, Nat.reduceAdd, Nat.reduceMul, Nat.reduceSub, Nat.reduceLeDiff, Nat.reduceLT, reduceIte, reduceCtorEq, Int.reduceBNe, Int.reduceBEq, q1, q2, q3, q4, q5, q6, q7])
    have e : (t.drop 1).take (t.length - 1) = t.drop 1 := List.take_of_length_le (by simp)
    simp only [e, absS, hn, cond_true]
theorem p45 (t : List UInt8) (hl : t.length ≤ 1000000) : Pu Tryd.prog 45 [.str t, .str [45]] (.tup [.str (absS t), .bool (negS t)]) := by
  have q1 : True := trivial
  have q2 : True := trivial
  have q3 : True := trivial
  have q4 : True := trivial
  have q5 : True := trivial
  have q6 : True := trivial
  have q7 : True := trivial
  (refine Pu_intro c45 b45 (Nat.le_of_ble_eq_true rfl) fun σ => ?_; simp only [c45, ↓R1, RR, Nat.reduceEqDiff, Nat.reduceAdd, Nat.reduceMul, Nat.reduceSub, Nat.reduceLeDiff, Nat.reduceLT, reduceIte, reduceCtorEq, Int.reduceBNe, Int.reduceBEq, q1, q2, q3, q4, q5, q6, q7])
  repeat' (first | (with_reducible rw [allocV_eq]) | (with_reducible refine And.intro ?_ ?_; focus (intros; (repeat' (with_reducible apply And.intro)) <;> first | omega | (simp only [RZ]; omega))) | (with_reducible apply And.intro) | ((first | (refine gdV_split (fun hc => ?_) (fun hc => ?_) <;> (try simp only [hc, ↓R1, RR, Nat.reduceEqDiff, Nat.reduceAdd, Nat.reduceMul, Nat.reduceSub, Nat.reduceLeDiff, Nat.reduceLT, reduceIte, reduceCtorEq, Int.reduceBNe, Int.reduceBEq, q1, q2, q3, q4, q5, q6, q7])) | refine condV_split (fun hc => ?_) (fun hc => ?_) | (with_reducible intro β hβ; (try simp only [RB] at hβ); (repeat (obtain ⟨⟨_, _⟩, hβ⟩ := hβ)); (try (have hbis := apart_is (by assumption) hβ; obtain ⟨_, _⟩ := hbis))) | refine Pt (p55 t hl) ?_ | refine Ct (p55 t hl) ?_) <;> (try simp only [↓R1, RR, Nat.reduceEqDiff, Nat.reduceAdd, Nat.reduceMul, Nat.reduceSub, Nat.reduceLeDiff, Nat.reduceLT, reduceIte, reduceCtorEq, Int.reduceBNe, Int.reduceBEq, q1, q2, q3, q4, q5, q6, q7])))
  (refine endP_pu (by simp) (by first | (simp [rvsS, rvS]; done) | (simp only [rvsS, rvS, ↓R1, RR, Nat.reduceEqDiff, Nat.reduceAdd, Nat.reduceMul, Nat.reduceSub, Nat.reduceLeDiff, Nat.reduceLT, reduceIte, reduceCtorEq, Int.reduceBNe, Int.reduceBEq, q1, q2, q3, q4, q5, q6, q7]; try simp)) (wk_of_eq ?_) (by (repeat (first | exact St.le_refl _ | (refine St.le_new ?_ (by assumption)) | (refine St.le_newT ?_ (by assumption))))))
  (simp only [resAV, rvV, List.map_cons, List.map_nil, ↓R1, RR, Nat.reduceEqDiff, Nat.reduceAdd, Nat.reduceMul, Nat.reduceSub, Nat.reduceLeDiff, Nat.reduceLT, reduceIte, reduceCtorEq, Int.reduceBNe, Int.reduceBEq, q1, q2, q3, q4, q5, q6, q7])
def signV (q : Bool) (t : List UInt8) : AV :=
  bif (q || !digOk (absS t)) || (negS t && decide (valN (absS t) = 0)) then .tup [.int .i64 0, .int .i64 3]
  else bif (decide (18446744073709551616 ≤ valN (absS t)) || decide (9223372036854775808 < valN (absS t))) || (decide (valN (absS t) = 9223372036854775808) && !negS t) then .tup [.int .i64 0, .int .i64 2]
  else .tup [.int .i64 (bif negS t then -((valN (absS t) : Nat) : Int) else ((valN (absS t) : Nat) : Int)), .int .i64 0]
set_option maxHeartbeats 4000000 in
theorem p21 (q : Bool) (t : List UInt8) (a : Int) (hl : t.length ≤ 1000000) : Pu Tryd.prog 21 [.agg [.bool q, .str t, .int .i64 a]] (signV q t) := by
  have q1 : True := trivial
  have q2 : True := trivial
  have q3 : True := trivial
  have q4 : True := trivial
  have q5 : True := trivial
  have q6 : True := trivial
  have q7 : True := trivial
  have hal : (absS t).length ≤ 1000000 := by
    unfold absS
    cases negS t <;> simp <;> omega
  have hcp := p45 t hl
  have hp := p43 (absS t) hal
  cases hd : digOk (absS t) with
  | false =>
    simp only [natV, hd, cond_false] at hp
    simp only [signV, hd, Bool.not_false, Bool.or_true, Bool.true_or, cond_true]
    (refine Pu_intro c21 b21 (Nat.le_of_ble_eq_true rfl) fun σ => ?_; simp only [c21, ↓R1, RR, Nat.reduceEqDiff, Nat.reduceAdd, Nat.reduceMul, Nat.reduceSub, Nat.reduceLeDiff, Nat.reduceLT, reduceIte, reduceCtorEq, Int.reduceBNe, Int.reduceBEq, q1, q2, q3, q4, q5, q6, q7])
    repeat' (first | (with_reducible rw [allocV_eq]) | (with_reducible refine And.intro ?_ ?_; focus (intros; (repeat' (with_reducible apply And.intro)) <;> first | omega | (simp only [RZ]; omega))) | (with_reducible apply And.intro) | ((first | (refine gdV_split (fun hc => ?_) (fun hc => ?_) <;> (try simp only [hc, ↓R1, RR, Nat.reduceEqDiff, Nat.reduceAdd, Nat.reduceMul, Nat.reduceSub, Nat.reduceLeDiff, Nat.reduceLT, reduceIte, reduceCtorEq, Int.reduceBNe, Int.reduceBEq, q1, q2, q3, q4, q5, q6, q7])) | refine condV_split (fun hc => ?_) (fun hc => ?_) | (with_reducible intro β hβ; (try simp only [RB] at hβ); (repeat (obtain ⟨⟨_, _⟩, hβ⟩ := hβ)); (try (have hbis := apart_is (by assumption) hβ; obtain ⟨_, _⟩ := hbis))) | refine Pt (hcp) ?_ | refine Ct (hcp) ?_ | refine Pt (hp) ?_ | refine Ct (hp) ?_) <;> (try simp only [↓R1, RR, Nat.reduceEqDiff, Nat.reduceAdd, Nat.reduceMul, Nat.reduceSub, Nat.reduceLeDiff, Nat.reduceLT, reduceIte, reduceCtorEq, Int.reduceBNe, Int.reduceBEq, q1, q2, q3, q4, q5, q6, q7])))
    (refine endP_pu (by simp) (by first | (simp [rvsS, rvS]; done) | (simp only [rvsS, rvS, ↓R1, RR, Nat.reduceEqDiff, Nat.reduceAdd, Nat.reduceMul, Nat.reduceSub, Nat.reduceLeDiff, Nat.reduceLT, reduceIte, reduceCtorEq, Int.reduceBNe, Int.reduceBEq, q1, q2, q3, q4, q5, q6, q7]; try simp)) (wk_of_eq ?_) (by (repeat (first | exact St.le_refl _ | (refine St.le_new ?_ (by assumption)) | (refine St.le_newT ?_ (by assumption))))))
    (simp only [resAV, rvV, List.map_cons, List.map_nil, ↓R1, RR, Nat.reduceEqDiff, Nat.reduceAdd, Nat.reduceMul, Nat.reduceSub, Nat.reduceLeDiff, Nat.reduceLT, reduceIte, reduceCtorEq, Int.reduceBNe, Int.reduceBEq, q1, q2, q3, q4, q5, q6, q7])
  | true =>
    simp only [natV, hd, cond_true] at hp
    cases q with
    | true =>
      simp only [signV, Bool.true_or, cond_true]
      (refine Pu_intro c21 b21 (Nat.le_of_ble_eq_true rfl) fun σ => ?_; simp only [c21, ↓R1, RR, Nat.reduceEqDiff, Nat.reduceAdd, Nat.reduceMul, Nat.reduceSub, Nat.reduceLeDiff, Nat.reduceLT, reduceIte, reduceCtorEq, Int.reduceBNe, Int.reduceBEq, q1, q2, q3, q4, q5, q6, q7])
      repeat' (first | (with_reducible rw [allocV_eq]) | (with_reducible refine And.intro ?_ ?_; focus (intros; (repeat' (with_reducible apply And.intro)) <;> first | omega | (simp only [RZ]; omega))) | (with_reducible apply And.intro) | ((first | (refine gdV_split (fun hc => ?_) (fun hc => ?_) <;> (try simp only [hc, ↓R1, RR, Nat.reduceEqDiff, Nat.reduceAdd, Nat.reduceMul, Nat.reduceSub, Nat.reduceLeDiff, Nat.reduceLT, reduceIte, reduceCtorEq, Int.reduceBNe, Int.reduceBEq, q1, q2, q3, q4, q5, q6, q7])) | refine condV_split (fun hc => ?_) (fun hc => ?_) | (with_reducible intro β hβ; (try simp only [RB] at hβ); (repeat (obtain ⟨⟨_, _⟩, hβ⟩ := hβ)); (try (have hbis := apart_is (by assumption) hβ; obtain ⟨_, _⟩ := hbis))) | refine Pt (hcp) ?_ | refine Ct (hcp) ?_ | refine Pt (hp) ?_ | refine Ct (hp) ?_) <;> (try simp only [↓R1, RR, Nat.reduceEqDiff, Nat.reduceAdd, Nat.reduceMul, Nat.reduceSub, Nat.reduceLeDiff, Nat.reduceLT, reduceIte, reduceCtorEq, Int.reduceBNe, Int.reduceBEq, q1, q2, q3, q4, q5, q6, q7])))
      (refine endP_pu (by simp) (by first | (simp [rvsS, rvS]; done) | (simp only [rvsS, rvS, ↓R1, RR, Nat.reduceEqDiff, Nat.reduceAdd, Nat.reduceMul, Nat.reduceSub, Nat.reduceLeDiff, Nat.reduceLT, reduceIte, reduceCtorEq, Int.reduceBNe, Int.reduceBEq, q1, q2, q3, q4, q5, q6, q7]; try simp)) (wk_of_eq ?_) (by (repeat (first | exact St.le_refl _ | (refine St.le_new ?_ (by assumption)) | (refine St.le_newT ?_ (by assumption))))))
      (simp only [resAV, rvV, List.map_cons, List.map_nil, ↓R1, RR, Nat.reduceEqDiff, Nat.reduceAdd, Nat.reduceMul, Nat.reduceSub, Nat.reduceLeDiff, Nat.reduceLT, reduceIte, reduceCtorEq, Int.reduceBNe, Int.reduceBEq, q1, q2, q3, q4, q5, q6, q7])
    | false =>
      simp only [signV, hd, Bool.not_true, Bool.or_false, Bool.false_or]
      obtain ⟨V, hV⟩ : ∃ V, valN (absS t) = V := ⟨_, rfl⟩
      rw [hV] at hp ⊢
      by_cases hg : 18446744073709551616 ≤ V
      · have h0 : decide (V = 0) = false := by rw [decide_eq_false_iff_not]; omega
        have q1 : decide (18446744073709551616 ≤ V) = true := by rw [decide_eq_true_eq]; omega
        rw [q1] at hp
        rw [h0, q1]
        simp only [Bool.and_false, Bool.true_or, cond_false, cond_true]
        (refine Pu_intro c21 b21 (Nat.le_of_ble_eq_true rfl) fun σ => ?_; simp only [c21, ↓R1, RR, Nat.reduceEqDiff, Nat.reduceAdd, Nat.reduceMul, Nat.reduceSub, Nat.reduceLeDiff, Nat.reduceLT, reduceIte, reduceCtorEq, Int.reduceBNe, Int.reduceBEq, q1, q2, q3, q4, q5, q6, q7])
        repeat' (first | (with_reducible rw [allocV_eq]) | (with_reducible refine And.intro ?_ ?_; focus (intros; (repeat' (with_reducible apply And.intro)) <;> first | omega | (simp only [RZ]; omega))) | (with_reducible apply And.intro) | ((first | (refine gdV_split (fun hc => ?_) (fun hc => ?_) <;> (try simp only [hc, ↓R1, RR, Nat.reduceEqDiff, Nat.reduceAdd, Nat.reduceMul, Nat.reduceSub, Nat.reduceLeDiff, Nat.reduceLT, reduceIte, reduceCtorEq, Int.reduceBNe, Int.reduceBEq, q1, q2, q3, q4, q5, q6, q7])) | refine condV_split (fun hc => ?_) (fun hc => ?_) | (with_reducible intro β hβ; (try simp only [RB] at hβ); (repeat (obtain ⟨⟨_, _⟩, hβ⟩ := hβ)); (try (have hbis := apart_is (by assumption) hβ; obtain ⟨_, _⟩ := hbis))) | refine Pt (hcp) ?_ | refine Ct (hcp) ?_ | refine Pt (hp) ?_ | refine Ct (hp) ?_) <;> (try simp only [↓R1, RR, Nat.reduceEqDiff, Nat.reduceAdd, Nat.reduceMul, Nat.reduceSub, Nat.reduceLeDiff, Nat.reduceLT, reduceIte, reduceCtorEq, Int.reduceBNe, Int.reduceBEq, q1, q2, q3, q4, q5, q6, q7])))
        refine endP_pu (by simp) (by first | (simp [rvsS, rvS]; done) | (simp only [rvsS, rvS, ↓R1, RR, Nat.reduceEqDiff, Nat.reduceAdd, Nat.reduceMul, Nat.reduceSub, Nat.reduceLeDiff, Nat.reduceLT, reduceIte, reduceCtorEq, Int.reduceBNe, Int.reduceBEq, q1, q2, q3, q4, q5, q6, q7]; try simp)) (wk_of_eq (by (simp only [resAV, rvV, List.map_cons, List.map_nil, ↓R1, RR, Nat.reduceEqDiff, Nat.reduceAdd, Nat.reduceMul, Nat.reduceSub, Nat.reduceLeDiff, Nat.reduceLT, reduceIte, reduceCtorEq, Int.reduceBNe, Int.reduceBEq, q1, q2, q3, q4, q5, q6, q7]))) (St.le_setBox (St.le_refl _) hβ)
      · have q1 : decide (18446744073709551616 ≤ V) = false := by rw [decide_eq_false_iff_not]; omega
        rw [q1, Nat.mod_eq_of_lt (by omega)] at hp
        rw [q1]
        have h0 : ((V : Int) == 0) = decide (V = 0) := by rw [Bool.eq_iff_iff]; simp
        have h1 : decide ((9223372036854775808 : Int) < (V : Int)) = decide (9223372036854775808 < V) := by rw [Bool.eq_iff_iff]; simp; omega
        have h2 : ((V : Int) == 9223372036854775808) = decide (V = 9223372036854775808) := by rw [Bool.eq_iff_iff]; simp; omega
        cases hn : negS t with
        | true =>
          rw [hn] at hcp
          have h3 : ∀ (hv : V ≤ 9223372036854775808), IntKind.i64.wrap (0 - IntKind.i64.wrap (V : Int)) = -(V : Int) := fun hv => by
            simp [IntKind.wrap, IntKind.signed, IntKind.bits]; omega
          by_cases hz : V = 0
          · have q2 : ((V : Int) == 0) = true := by rw [h0, decide_eq_true_eq]; exact hz
            have z : decide (V = 0) = true := by rw [decide_eq_true_eq]; exact hz
            rw [z]
            simp only [Bool.and_true, cond_true]
            (refine Pu_intro c21 b21 (Nat.le_of_ble_eq_true rfl) fun σ => ?_; simp only [c21, ↓R1, RR, Nat.reduceEqDiff, Nat.reduceAdd, Nat.reduceMul, Nat.reduceSub, Nat.reduceLeDiff, Nat.reduceLT, reduceIte, reduceCtorEq, Int.reduceBNe, Int.reduceBEq, q1, q2, q3, q4, q5, q6, q7])
            repeat' (first | (with_reducible rw [allocV_eq]) | (with_reducible refine And.intro ?_ ?_; focus (intros; (repeat' (with_reducible apply And.intro)) <;> first | omega | (simp only [RZ]; omega))) | (with_reducible apply And.intro) | ((first | (refine gdV_split (fun hc => ?_) (fun hc => ?_) <;> (try simp only [hc, ↓R1, RR, Nat.reduceEqDiff, Nat.reduceAdd, Nat.reduceMul, Nat.reduceSub, Nat.reduceLeDiff, Nat.reduceLT, reduceIte, reduceCtorEq, Int.reduceBNe, Int.reduceBEq, q1, q2, q3, q4, q5, q6, q7])) | refine condV_split (fun hc => ?_) (fun hc => ?_) | (with_reducible intro β hβ; (try simp only [RB] at hβ); (repeat (obtain ⟨⟨_, _⟩, hβ⟩ := hβ)); (try (have hbis := apart_is (by assumption) hβ; obtain ⟨_, _⟩ := hbis))) | refine Pt (hcp) ?_ | refine Ct (hcp) ?_ | refine Pt (hp) ?_ | refine Ct (hp) ?_) <;> (try simp only [↓R1, RR, Nat.reduceEqDiff, Nat.reduceAdd, Nat.reduceMul, Nat.reduceSub, Nat.reduceLeDiff, Nat.reduceLT, reduceIte, reduceCtorEq, Int.reduceBNe, Int.reduceBEq, q1, q2, q3, q4, q5, q6, q7])))
            refine endP_pu (by simp) (by first | (simp [rvsS, rvS]; done) | (simp only [rvsS, rvS, ↓R1, RR, Nat.reduceEqDiff, Nat.reduceAdd, Nat.reduceMul, Nat.reduceSub, Nat.reduceLeDiff, Nat.reduceLT, reduceIte, reduceCtorEq, Int.reduceBNe, Int.reduceBEq, q1, q2, q3, q4, q5, q6, q7]; try simp)) (wk_of_eq (by (simp only [resAV, rvV, List.map_cons, List.map_nil, ↓R1, RR, Nat.reduceEqDiff, Nat.reduceAdd, Nat.reduceMul, Nat.reduceSub, Nat.reduceLeDiff, Nat.reduceLT, reduceIte, reduceCtorEq, Int.reduceBNe, Int.reduceBEq, q1, q2, q3, q4, q5, q6, q7]))) (St.le_setBox (St.le_refl _) hβ)
          · have q2 : ((V : Int) == 0) = false := by rw [h0, decide_eq_false_iff_not]; exact hz
            have z : decide (V = 0) = false := by rw [decide_eq_false_iff_not]; exact hz
            rw [z]
            simp only [Bool.and_false, cond_false, Bool.not_true, Bool.or_false, Bool.false_or]
            by_cases hb : 9223372036854775808 < V
            · have q3 : decide ((9223372036854775808 : Int) < (V : Int)) = true := by rw [h1, decide_eq_true_eq]; exact hb
              have z2 : decide (9223372036854775808 < V) = true := by rw [decide_eq_true_eq]; exact hb
              rw [z2]
              simp only [cond_true]
              (refine Pu_intro c21 b21 (Nat.le_of_ble_eq_true rfl) fun σ => ?_; simp only [c21, ↓R1, RR, Nat.reduceEqDiff, Nat.reduceAdd, Nat.reduceMul, Nat.reduceSub, Nat.reduceLeDiff, Nat.reduceLT, reduceIte, reduceCtorEq, Int.reduceBNe, Int.reduceBEq, q1, q2, q3, q4, q5, q6, q7])
              repeat' (first | (with_reducible rw [allocV_eq]) | (with_reducible refine And.intro ?_ ?_; focus (intros; (repeat' (with_reducible apply And.intro)) <;> first | omega | (simp only [RZ]; omega))) | (with_reducible apply And.intro) | ((first | (refine gdV_split (fun hc => ?_) (fun hc => ?_) <;> (try simp only [hc, ↓R1, RR, Nat.reduceEqDiff, Nat.reduceAdd, Nat.reduceMul, Nat.reduceSub, Nat.reduceLeDiff, Nat.reduceLT, reduceIte, reduceCtorEq, Int.reduceBNe, Int.reduceBEq, q1, q2, q3, q4, q5, q6, q7])) | refine condV_split (fun hc => ?_) (fun hc => ?_) | (with_reducible intro β hβ; (try simp only [RB] at hβ); (repeat (obtain ⟨⟨_, _⟩, hβ⟩ := hβ)); (try (have hbis := apart_is (by assumption) hβ; obtain ⟨_, _⟩ := hbis))) | refine Pt (hcp) ?_ | refine Ct (hcp) ?_ | refine Pt (hp) ?_ | refine Ct (hp) ?_) <;> (try simp only [↓R1, RR, Nat.reduceEqDiff, Nat.reduceAdd, Nat.reduceMul, Nat.reduceSub, Nat.reduceLeDiff, Nat.reduceLT, reduceIte, reduceCtorEq, Int.reduceBNe, Int.reduceBEq, q1, q2, q3, q4, q5, q6, q7])))
              refine endP_pu (by simp) (by first | (simp [rvsS, rvS]; done) | (simp only [rvsS, rvS, ↓R1, RR, Nat.reduceEqDiff, Nat.reduceAdd, Nat.reduceMul, Nat.reduceSub, Nat.reduceLeDiff, Nat.reduceLT, reduceIte, reduceCtorEq, Int.reduceBNe, Int.reduceBEq, q1, q2, q3, q4, q5, q6, q7]; try simp)) (wk_of_eq (by (simp only [resAV, rvV, List.map_cons, List.map_nil, ↓R1, RR, Nat.reduceEqDiff, Nat.reduceAdd, Nat.reduceMul, Nat.reduceSub, Nat.reduceLeDiff, Nat.reduceLT, reduceIte, reduceCtorEq, Int.reduceBNe, Int.reduceBEq, q1, q2, q3, q4, q5, q6, q7]))) (St.le_setBox (St.le_refl _) hβ)
            · have q3 : decide ((9223372036854775808 : Int) < (V : Int)) = false := by rw [h1, decide_eq_false_iff_not]; exact hb
              have z2 : decide (9223372036854775808 < V) = false := by rw [decide_eq_false_iff_not]; exact hb
              have q4 := h3 (by omega)
              rw [z2]
              simp only [cond_false, cond_true]
              (refine Pu_intro c21 b21 (Nat.le_of_ble_eq_true rfl) fun σ => ?_; simp only [c21, ↓R1, RR, Nat.reduceEqDiff, Nat.reduceAdd, Nat.reduceMul, Nat.reduceSub, Nat.reduceLeDiff, Nat.reduceLT, reduceIte, reduceCtorEq, Int.reduceBNe, Int.reduceBEq, q1, q2, q3, q4, q5, q6, q7])
              repeat' (first | (with_reducible rw [allocV_eq]) | (with_reducible refine And.intro ?_ ?_; focus (intros; (repeat' (with_reducible apply And.intro)) <;> first | omega | (simp only [RZ]; omega))) | (with_reducible apply And.intro) | ((first | (refine gdV_split (fun hc => ?_) (fun hc => ?_) <;> (try simp only [hc, ↓R1, RR, Nat.reduceEqDiff, Nat.reduceAdd, Nat.reduceMul, Nat.reduceSub, Nat.reduceLeDiff, Nat.reduceLT, reduceIte, reduceCtorEq, Int.reduceBNe, Int.reduceBEq, q1, q2, q3, q4, q5, q6, q7])) | refine condV_split (fun hc => ?_) (fun hc => ?_) | (with_reducible intro β hβ; (try simp only [RB] at hβ); (repeat (obtain ⟨⟨_, _⟩, hβ⟩ := hβ)); (try (have hbis := apart_is (by assumption) hβ; obtain ⟨_, _⟩ := hbis))) | refine Pt (hcp) ?_ | refine Ct (hcp) ?_ | refine Pt (hp) ?_ | refine Ct (hp) ?_) <;> (try simp only [↓R1, RR, Nat.reduceEqDiff, Nat.reduceAdd, Nat.reduceMul, Nat.reduceSub, Nat.reduceLeDiff, Nat.reduceLT, reduceIte, reduceCtorEq, Int.reduceBNe, Int.reduceBEq, q1, q2, q3, q4, q5, q6, q7])))
              refine endP_pu (by simp) (by first | (simp [rvsS, rvS]; done) | (simp only [rvsS, rvS, ↓R1, RR, Nat.reduceEqDiff, Nat.reduceAdd, Nat.reduceMul, Nat.reduceSub, Nat.reduceLeDiff, Nat.reduceLT, reduceIte, reduceCtorEq, Int.reduceBNe, Int.reduceBEq, q1, q2, q3, q4, q5, q6, q7]; try simp)) (wk_of_eq (by (simp only [resAV, rvV, List.map_cons, List.map_nil, ↓R1, RR, Nat.reduceEqDiff, Nat.reduceAdd, Nat.reduceMul, Nat.reduceSub, Nat.reduceLeDiff, Nat.reduceLT, reduceIte, reduceCtorEq, Int.reduceBNe, Int.reduceBEq, q1, q2, q3, q4, q5, q6, q7]))) (St.le_setBox (St.le_refl _) hβ)
        | false =>
          rw [hn] at hcp
          have h3 : ∀ (hv : V < 9223372036854775808), IntKind.i64.wrap (V : Int) = (V : Int) := fun hv => by
            simp [IntKind.wrap, IntKind.signed, IntKind.bits]; omega
          simp only [Bool.false_and, cond_false, Bool.not_false, Bool.and_true, Bool.false_or]
          by_cases hb : 9223372036854775808 < V
          · have q3 : decide ((9223372036854775808 : Int) < (V : Int)) = true := by rw [h1, decide_eq_true_eq]; exact hb
            have z2 : decide (9223372036854775808 < V) = true := by rw [decide_eq_true_eq]; exact hb
            rw [z2]
            simp only [Bool.true_or, cond_true]
            (refine Pu_intro c21 b21 (Nat.le_of_ble_eq_true rfl) fun σ => ?_; simp only [c21, ↓R1, RR, Nat.reduceEqDiff, Nat.reduceAdd, Nat.reduceMul, Nat.reduceSub, Nat.reduceLeDiff, Nat.reduceLT, reduceIte, reduceCtorEq, Int.reduceBNe, Int.reduceBEq, q1, q2, q3, q4, q5, q6, q7])
            repeat' (first | (with_reducible rw [allocV_eq]) | (with_reducible refine And.intro ?_ ?_; focus (intros; (repeat' (with_reducible apply And.intro)) <;> first | omega | (simp only [RZ]; omega))) | (with_reducible apply And.intro) | ((first | (refine gdV_split (fun hc => ?_) (fun hc => ?_) <;> (try simp only [hc, ↓R1, RR, Nat.reduceEqDiff, Nat.reduceAdd, Nat.reduceMul, Nat.reduceSub, Nat.reduceLeDiff, Nat.reduceLT, reduceIte, reduceCtorEq, Int.reduceBNe, Int.reduceBEq, q1, q2, q3, q4, q5, q6, q7])) | refine condV_split (fun hc => ?_) (fun hc => ?_) | (with_reducible intro β hβ; (try simp only [RB] at hβ); (repeat (obtain ⟨⟨_, _⟩, hβ⟩ := hβ)); (try (have hbis := apart_is (by assumption) hβ; obtain ⟨_, _⟩ := hbis))) | refine Pt (hcp) ?_ | refine Ct (hcp) ?_ | refine Pt (hp) ?_ | refine Ct (hp) ?_) <;> (try simp only [↓R1, RR, Nat.reduceEqDiff, Nat.reduceAdd, Nat.reduceMul, Nat.reduceSub, Nat.reduceLeDiff, Nat.reduceLT, reduceIte, reduceCtorEq, Int.reduceBNe, Int.reduceBEq, q1, q2, q3, q4, q5, q6, q7])))
            refine endP_pu (by simp) (by first | (simp [rvsS, rvS]; done) | (simp only [rvsS, rvS, ↓R1, RR, Nat.reduceEqDiff, Nat.reduceAdd, Nat.reduceMul, Nat.reduceSub, Nat.reduceLeDiff, Nat.reduceLT, reduceIte, reduceCtorEq, Int.reduceBNe, Int.reduceBEq, q1, q2, q3, q4, q5, q6, q7]; try simp)) (wk_of_eq (by (simp only [resAV, rvV, List.map_cons, List.map_nil, ↓R1, RR, Nat.reduceEqDiff, Nat.reduceAdd, Nat.reduceMul, Nat.reduceSub, Nat.reduceLeDiff, Nat.reduceLT, reduceIte, reduceCtorEq, Int.reduceBNe, Int.reduceBEq, q1, q2, q3, q4, q5, q6, q7]))) (St.le_setBox (St.le_refl _) hβ)
          · have q3 : decide ((9223372036854775808 : Int) < (V : Int)) = false := by rw [h1, decide_eq_false_iff_not]; exact hb
            have z2 : decide (9223372036854775808 < V) = false := by rw [decide_eq_false_iff_not]; exact hb
            rw [z2]
            simp only [Bool.false_or]
            by_cases he : V = 9223372036854775808
            · have q5 : ((V : Int) == 9223372036854775808) = true := by rw [h2, decide_eq_true_eq]; exact he
              have z3 : decide (V = 9223372036854775808) = true := by rw [decide_eq_true_eq]; exact he
              rw [z3]
              simp only [cond_true]
              (refine Pu_intro c21 b21 (Nat.le_of_ble_eq_true rfl) fun σ => ?_; simp only [c21, ↓R1, RR, Nat.reduceEqDiff, Nat.reduceAdd, Nat.reduceMul, Nat.reduceSub, Nat.reduceLeDiff, Nat.reduceLT, reduceIte, reduceCtorEq, Int.reduceBNe, Int.reduceBEq, q1, q2, q3, q4, q5, q6, q7])
              repeat' (first | (with_reducible rw [allocV_eq]) | (with_reducible refine And.intro ?_ ?_; focus (intros; (repeat' (with_reducible apply And.intro)) <;> first | omega | (simp only [RZ]; omega))) | (with_reducible apply And.intro) | ((first | (refine gdV_split (fun hc => ?_) (fun hc => ?_) <;> (try simp only [hc, ↓R1, RR, Nat.reduceEqDiff, Nat.reduceAdd, Nat.reduceMul, Nat.reduceSub, Nat.reduceLeDiff, Nat.reduceLT, reduceIte, reduceCtorEq, Int.reduceBNe, Int.reduceBEq, q1, q2, q3, q4, q5, q6, q7])) | refine condV_split (fun hc => ?_) (fun hc => ?_) | (with_reducible intro β hβ; (try simp only [RB] at hβ); (repeat (obtain ⟨⟨_, _⟩, hβ⟩ := hβ)); (try (have hbis := apart_is (by assumption) hβ; obtain ⟨_, _⟩ := hbis))) | refine Pt (hcp) ?_ | refine Ct (hcp) ?_ | refine Pt (hp) ?_ | refine Ct (hp) ?_) <;> (try simp only [↓R1, RR, Nat.reduceEqDiff, Nat.reduceAdd, Nat.reduceMul, Nat.reduceSub, Nat.reduceLeDiff, Nat.reduceLT, reduceIte, reduceCtorEq, Int.reduceBNe, Int.reduceBEq, q1, q2, q3, q4, q5, q6, q7])))
              refine endP_pu (by simp) (by first | (simp [rvsS, rvS]; done) | (simp only [rvsS, rvS, ↓R1, RR, Nat.reduceEqDiff, Nat.reduceAdd, Nat.reduceMul, Nat.reduceSub, Nat.reduceLeDiff, Nat.reduceLT, reduceIte, reduceCtorEq, Int.reduceBNe, Int.reduceBEq, q1, q2, q3, q4, q5, q6, q7]; try simp)) (wk_of_eq (by (simp only [resAV, rvV, List.map_cons, List.map_nil, ↓R1, RR, Nat.reduceEqDiff, Nat.reduceAdd, Nat.reduceMul, Nat.reduceSub, Nat.reduceLeDiff, Nat.reduceLT, reduceIte, reduceCtorEq, Int.reduceBNe, Int.reduceBEq, q1, q2, q3, q4, q5, q6, q7]))) (St.le_setBox (St.le_refl _) hβ)
            · have q5 : ((V : Int) == 9223372036854775808) = false := by rw [h2, decide_eq_false_iff_not]; exact he
              have z3 : decide (V = 9223372036854775808) = false := by rw [decide_eq_false_iff_not]; exact he
              have q4 := h3 (by omega)
              rw [z3]
              simp only [cond_false]
              (refine Pu_intro c21 b21 (Nat.le_of_ble_eq_true rfl) fun σ => ?_; simp only [c21, ↓R1, RR, Nat.reduceEqDiff, Nat.reduceAdd, Nat.reduceMul, Nat.reduceSub, Nat.reduceLeDiff, Nat.reduceLT, reduceIte, reduceCtorEq, Int.reduceBNe, Int.reduceBEq, q1, q2, q3, q4, q5, q6, q7])
              repeat' (first | (with_reducible rw [allocV_eq]) | (with_reducible refine And.intro ?_ ?_; focus (intros; (repeat' (with_reducible apply And.intro)) <;> first | omega | (simp only [RZ]; omega))) | (with_reducible apply And.intro) | ((first | (refine gdV_split (fun hc => ?_) (fun hc => ?_) <;> (try simp only [hc, ↓R1, RR, Nat.reduceEqDiff, Nat.reduceAdd, Nat.reduceMul, Nat.reduceSub, Nat.reduceLeDiff, Nat.reduceLT, reduceIte, reduceCtorEq, Int.reduceBNe, Int.reduceBEq, q1, q2, q3, q4, q5, q6, q7])) | refine condV_split (fun hc => ?_) (fun hc => ?_) | (with_reducible intro β hβ; (try simp only [RB] at hβ); (repeat (obtain ⟨⟨_, _⟩, hβ⟩ := hβ)); (try (have hbis := apart_is (by assumption) hβ; obtain ⟨_, _⟩ := hbis))) | refine Pt (hcp) ?_ | refine Ct (hcp) ?_ | refine Pt (hp) ?_ | refine Ct (hp) ?_) <;> (try simp only [↓R1, RR, Nat.reduceEqDiff, Nat.reduceAdd, Nat.reduceMul, Nat.reduceSub, Nat.reduceLeDiff, Nat.reduceLT, reduceIte, reduceCtorEq, Int.reduceBNe, Int.reduceBEq, q1, q2, q3, q4, q5, q6, q7])))
              refine endP_pu (by simp) (by first | (simp [rvsS, rvS]; done) | (simp only [rvsS, rvS, ↓R1, RR, Nat.reduceEqDiff, Nat.reduceAdd, Nat.reduceMul, Nat.reduceSub, Nat.reduceLeDiff, Nat.reduceLT, reduceIte, reduceCtorEq, Int.reduceBNe, Int.reduceBEq, q1, q2, q3, q4, q5, q6, q7]; try simp)) (wk_of_eq (by (simp only [resAV, rvV, List.map_cons, List.map_nil, ↓R1, RR, Nat.reduceEqDiff, Nat.reduceAdd, Nat.reduceMul, Nat.reduceSub, Nat.reduceLeDiff, Nat.reduceLT, reduceIte, reduceCtorEq, Int.reduceBNe, Int.reduceBEq, q1, q2, q3, q4, q5, q6, q7]))) (St.le_setBox (St.le_refl _) hβ)
end Go.Proofs.YtemddijemikleaaDoor
namespace Go.Proofs.YtemddijemikleaaDoor
open Go.Abs
set_option linter.all false
set_option maxRecDepth 100000
def whichF (t : List UInt8) : List (List UInt8) → Nat → Option Nat
  | [], _ => none
  | n :: l, i => bif n == t then some i else whichF t l (i + 1)
def whichV (q : Bool) (t : List UInt8) (l : List (List UInt8)) : AV :=
  match (bif q then none else whichF t l 0) with
  | some i => .tup [.int .i64 (i : Nat), .int .i64 0]
  | none => .tup [.int .i64 0, .int .i64 7]
theorem whichF_drop (t : List UInt8) (l : List (List UInt8)) {k : Nat} (h : k < l.length) (j : Nat) : whichF t (l.drop k) j = bif l[k] == t then some j else whichF t (l.drop (k + 1)) (j + 1) := by
  rw [List.drop_eq_getElem_cons h]; rfl
set_option maxHeartbeats 2000000 in
theorem p19 (q : Bool) (t : List UInt8) (a : Int) (l : List (List UInt8)) (hl : l.length ≤ 1000) : Pu Tryd.prog 19 [.agg [.bool q, .str t, .int .i64 a], .sl false l.length (l.map AV.str)] (whichV q t l) := by
  have q1 : True := trivial
  have q2 : True := trivial
  have q3 : True := trivial
  have q4 : True := trivial
  have q5 : True := trivial
  have hw : True := trivial
  have hd : True := trivial
  (refine Pu_intro c19 b19 (Nat.le_of_ble_eq_true rfl) fun σ => ?_; simp only [c19, ↓R1, RR, Nat.reduceEqDiff, Nat.reduceAdd, Nat.reduceMul, Nat.reduceSub, Nat.reduceLeDiff, Nat.reduceLT, reduceIte, reduceCtorEq, Int.reduceBNe, Int.reduceBEq, q1, q2, q3, q4, q5, hw, hd])
  intro β hβ
  refine loopV_for l.length (fun k => [(2, .ptr β 0), (8, .sl false l.length (l.map AV.str)), (9, .int .i64 (l.length : Nat)), (10, .int .i64 (k : Nat))]) (fun _ => σ.setBox β [.bool q, .str t, .int .i64 a]) (fun k => (bif q then none else whichF t l 0) = (bif q then none else whichF t (l.drop k) k)) (by simp [subF, slot, wk_refl]) (St.le_refl _) (by simp) (fun k hk hI => ?_)
  by_cases hlt : k < l.length
  · have q1 : decide ((k : Int) < (l.length : Int)) = true := by rw [decide_eq_true_eq]; omega
    have hd := strs_get l hlt
    have hw : IntKind.i64.wrap ((k : Int) + 1) = ((k + 1 : Nat) : Int) := by rw [wrap64 (by omega) (by omega)]; omega
    rw [whichF_drop t l hlt] at hI
    cases q with
    | true =>
      simp only [q1, ↓R1, RR, Nat.reduceEqDiff, Nat.reduceAdd, Nat.reduceMul, Nat.reduceSub, Nat.reduceLeDiff, Nat.reduceLT, reduceIte, reduceCtorEq, Int.reduceBNe, Int.reduceBEq, q1, q2, q3, q4, q5, hw, hd]
      repeat' (first | (with_reducible rw [allocV_eq]) | (with_reducible refine And.intro ?_ ?_; focus (intros; (repeat' (with_reducible apply And.intro)) <;> first | omega | (simp only [RZ]; omega))) | (with_reducible apply And.intro) | ((first | (refine gdV_split (fun hc => ?_) (fun hc => ?_) <;> (try simp only [hc, ↓R1, RR, Nat.reduceEqDiff, Nat.reduceAdd, Nat.reduceMul, Nat.reduceSub, Nat.reduceLeDiff, Nat.reduceLT, reduceIte, reduceCtorEq, Int.reduceBNe, Int.reduceBEq, q1, q2, q3, q4, q5, hw, hd])) | refine condV_split (fun hc => ?_) (fun hc => ?_) | (with_reducible intro β hβ; (try simp only [RB] at hβ); (repeat (obtain ⟨⟨_, _⟩, hβ⟩ := hβ)); (try (have hbis := apart_is (by assumption) hβ; obtain ⟨_, _⟩ := hbis)))) <;> (try simp only [↓R1, RR, Nat.reduceEqDiff, Nat.reduceAdd, Nat.reduceMul, Nat.reduceSub, Nat.reduceLeDiff, Nat.reduceLT, reduceIte, reduceCtorEq, Int.reduceBNe, Int.reduceBEq, q1, q2, q3, q4, q5, hw, hd])))
      all_goals first | (simp; done) | skip
      all_goals first | (rw [List.length_map]; omega) | skip
      · simp [subF, slot, wk_refl]
      · exact St.le_refl _
    | false =>
      cases he : l[k] == t with
      | true =>
        rw [he] at hI
        simp only [cond_true, cond_false] at hI
        have q2 := he
        rw [whichV]; simp only [cond_false]; rw [hI]
        simp only [q1, ↓R1, RR, Nat.reduceEqDiff, Nat.reduceAdd, Nat.reduceMul, Nat.reduceSub, Nat.reduceLeDiff, Nat.reduceLT, reduceIte, reduceCtorEq, Int.reduceBNe, Int.reduceBEq, q1, q2, q3, q4, q5, hw, hd]
        repeat' (first | (with_reducible rw [allocV_eq]) | (with_reducible refine And.intro ?_ ?_; focus (intros; (repeat' (with_reducible apply And.intro)) <;> first | omega | (simp only [RZ]; omega))) | (with_reducible apply And.intro) | ((first | (refine gdV_split (fun hc => ?_) (fun hc => ?_) <;> (try simp only [hc, ↓R1, RR, Nat.reduceEqDiff, Nat.reduceAdd, Nat.reduceMul, Nat.reduceSub, Nat.reduceLeDiff, Nat.reduceLT, reduceIte, reduceCtorEq, Int.reduceBNe, Int.reduceBEq, q1, q2, q3, q4, q5, hw, hd])) | refine condV_split (fun hc => ?_) (fun hc => ?_) | (with_reducible intro β hβ; (try simp only [RB] at hβ); (repeat (obtain ⟨⟨_, _⟩, hβ⟩ := hβ)); (try (have hbis := apart_is (by assumption) hβ; obtain ⟨_, _⟩ := hbis)))) <;> (try simp only [↓R1, RR, Nat.reduceEqDiff, Nat.reduceAdd, Nat.reduceMul, Nat.reduceSub, Nat.reduceLeDiff, Nat.reduceLT, reduceIte, reduceCtorEq, Int.reduceBNe, Int.reduceBEq, q1, q2, q3, q4, q5, hw, hd])))
        all_goals first | (rw [List.length_map]; omega) | skip
        refine endP_pu (by simp) (by first | (simp [rvsS, rvS]; done) | (simp only [rvsS, rvS, ↓R1, RR, Nat.reduceEqDiff, Nat.reduceAdd, Nat.reduceMul, Nat.reduceSub, Nat.reduceLeDiff, Nat.reduceLT, reduceIte, reduceCtorEq, Int.reduceBNe, Int.reduceBEq, q1, q2, q3, q4, q5, hw, hd]; try simp)) (wk_of_eq (by (simp only [resAV, rvV, List.map_cons, List.map_nil, ↓R1, RR, Nat.reduceEqDiff, Nat.reduceAdd, Nat.reduceMul, Nat.reduceSub, Nat.reduceLeDiff, Nat.reduceLT, reduceIte, reduceCtorEq, Int.reduceBNe, Int.reduceBEq, q1, q2, q3, q4, q5, hw, hd]))) (St.le_setBox (St.le_refl _) hβ)
      | false =>
        rw [he] at hI
        have q2 := he
        simp only [q1, ↓R1, RR, Nat.reduceEqDiff, Nat.reduceAdd, Nat.reduceMul, Nat.reduceSub, Nat.reduceLeDiff, Nat.reduceLT, reduceIte, reduceCtorEq, Int.reduceBNe, Int.reduceBEq, q1, q2, q3, q4, q5, hw, hd]
        repeat' (first | (with_reducible rw [allocV_eq]) | (with_reducible refine And.intro ?_ ?_; focus (intros; (repeat' (with_reducible apply And.intro)) <;> first | omega | (simp only [RZ]; omega))) | (with_reducible apply And.intro) | ((first | (refine gdV_split (fun hc => ?_) (fun hc => ?_) <;> (try simp only [hc, ↓R1, RR, Nat.reduceEqDiff, Nat.reduceAdd, Nat.reduceMul, Nat.reduceSub, Nat.reduceLeDiff, Nat.reduceLT, reduceIte, reduceCtorEq, Int.reduceBNe, Int.reduceBEq, q1, q2, q3, q4, q5, hw, hd])) | refine condV_split (fun hc => ?_) (fun hc => ?_) | (with_reducible intro β hβ; (try simp only [RB] at hβ); (repeat (obtain ⟨⟨_, _⟩, hβ⟩ := hβ)); (try (have hbis := apart_is (by assumption) hβ; obtain ⟨_, _⟩ := hbis)))) <;> (try simp only [↓R1, RR, Nat.reduceEqDiff, Nat.reduceAdd, Nat.reduceMul, Nat.reduceSub, Nat.reduceLeDiff, Nat.reduceLT, reduceIte, reduceCtorEq, Int.reduceBNe, Int.reduceBEq, q1, q2, q3, q4, q5, hw, hd])))
        all_goals first | (rw [List.length_map]; omega) | skip
        · simpa using hI
        · simp [subF, slot, wk_refl]
        · exact St.le_refl _
  · have hke : k = l.length := by omega
    subst hke
    have q1 : decide ((l.length : Int) < (l.length : Int)) = false := by simp
    rw [List.drop_length] at hI
    rw [whichV, hI]
    have e : (bif q then none else whichF t [] l.length) = none := by cases q <;> rfl
    rw [e]
    simp only [q1, ↓R1, RR, Nat.reduceEqDiff, Nat.reduceAdd, Nat.reduceMul, Nat.reduceSub, Nat.reduceLeDiff, Nat.reduceLT, reduceIte, reduceCtorEq, Int.reduceBNe, Int.reduceBEq, q1, q2, q3, q4, q5, hw, hd]
    repeat' (first | (with_reducible rw [allocV_eq]) | (with_reducible refine And.intro ?_ ?_; focus (intros; (repeat' (with_reducible apply And.intro)) <;> first | omega | (simp only [RZ]; omega))) | (with_reducible apply And.intro) | ((first | (refine gdV_split (fun hc => ?_) (fun hc => ?_) <;> (try simp only [hc, ↓R1, RR, Nat.reduceEqDiff, Nat.reduceAdd, Nat.reduceMul, Nat.reduceSub, Nat.reduceLeDiff, Nat.reduceLT, reduceIte, reduceCtorEq, Int.reduceBNe, Int.reduceBEq, q1, q2, q3, q4, q5, hw, hd])) | refine condV_split (fun hc => ?_) (fun hc => ?_) | (with_reducible intro β hβ; (try simp only [RB] at hβ); (repeat (obtain ⟨⟨_, _⟩, hβ⟩ := hβ)); (try (have hbis := apart_is (by assumption) hβ; obtain ⟨_, _⟩ := hbis)))) <;> (try simp only [↓R1, RR, Nat.reduceEqDiff, Nat.reduceAdd, Nat.reduceMul, Nat.reduceSub, Nat.reduceLeDiff, Nat.reduceLT, reduceIte, reduceCtorEq, Int.reduceBNe, Int.reduceBEq, q1, q2, q3, q4, q5, hw, hd])))
    refine endP_pu (by simp) (by first | (simp [rvsS, rvS]; done) | (simp only [rvsS, rvS, ↓R1, RR, Nat.reduceEqDiff, Nat.reduceAdd, Nat.reduceMul, Nat.reduceSub, Nat.reduceLeDiff, Nat.reduceLT, reduceIte, reduceCtorEq, Int.reduceBNe, Int.reduceBEq, q1, q2, q3, q4, q5, hw, hd]; try simp)) (wk_of_eq (by (simp only [resAV, rvV, List.map_cons, List.map_nil, ↓R1, RR, Nat.reduceEqDiff, Nat.reduceAdd, Nat.reduceMul, Nat.reduceSub, Nat.reduceLeDiff, Nat.reduceLT, reduceIte, reduceCtorEq, Int.reduceBNe, Int.reduceBEq, q1, q2, q3, q4, q5, hw, hd]))) (St.le_setBox (St.le_refl _) hβ)
end Go.Proofs.YtemddijemikleaaDoor
namespace Go.Proofs.YtemddijemikleaaDoor
open Go.Abs
set_option linter.all false
set_option maxRecDepth 100000
theorem signV_tup (q : Bool) (t : List UInt8) : ∃ x y, signV q t = .tup [.int .i64 x, .int .i64 y] := by
  unfold signV
  cases (q || !digOk (absS t)) || (negS t && decide (valN (absS t) = 0)) with
  | true => exact ⟨_, _, rfl⟩
  | false =>
    simp only [cond_false]
    cases (decide (18446744073709551616 ≤ valN (absS t)) || decide (9223372036854775808 < valN (absS t))) || (decide (valN (absS t) = 9223372036854775808) && !negS t) with
    | true => exact ⟨_, _, rfl⟩
    | false => exact ⟨_, _, rfl⟩
end Go.Proofs.YtemddijemikleaaDoor
namespace Go.Proofs.YtemddijemikleaaDoor
open Go.Abs
set_option linter.all false
set_option maxRecDepth 100000
theorem p26 {s : List UInt8} {q : Bool} {t : List UInt8} {a : Nat} (hl : s.length ≤ 1000000) (ht : t.length ≤ 20000) (h : rowsS s = .ok [⟨0, [⟨q, t, a⟩]⟩]) : Pu Tryd.prog 26 [.str s, .agg [.bool q, .str t, .int .i64 (a : Nat)]] (.bool true) := by
  have q1 : (((0 : Nat) : Int) == 0) = true := rfl
  have q2 : True := trivial
  have q3 : True := trivial
  have h1 := p25 s hl
  rw [h] at h1
  simp only [rowsV, faultV, toRI_flat] at h1
  have h2 := p14 [toRI ⟨0, [⟨q, t, a⟩]⟩] (light_of (by simp [toRI, toWI]; exact ht))
  have e : [toRI ⟨0, [⟨q, t, a⟩]⟩].flatMap cRI = [.int .i64 0, .sl false 1 [.bool q, .str t, .int .i64 (a : Nat)]] := rfl
  simp only [List.map_cons, List.map_nil, e, List.length_cons, List.length_nil, Nat.zero_add] at h1 h2
  have hwk : wk (.sl true 1 [AV.int IntKind.i64 0, AV.sl true 1 [AV.bool q, AV.str t, AV.int IntKind.i64 (a : Nat)]]) (.sl false 1 [AV.int IntKind.i64 0, AV.sl false 1 [AV.bool q, AV.str t, AV.int IntKind.i64 (a : Nat)]]) :=
    wk_trans (wk_full _ _) (wk_sl (.cons (wk_refl _) (.cons (wk_full _ _) .nil)))
  (refine Pu_intro c26 b26 (Nat.le_of_ble_eq_true rfl) fun σ => ?_; simp only [c26, ↓R1, RR, seval, q1, q2, q3, beq_self_eq_true])
  repeat' (first | (with_reducible rw [allocV_eq]) | (with_reducible refine And.intro ?_ ?_; focus (intros; (repeat' (with_reducible apply And.intro)) <;> first | omega | (simp only [RZ]; omega))) | (with_reducible apply And.intro) | ((first | (refine gdV_split (fun hc => ?_) (fun hc => ?_) <;> (try simp only [hc, ↓R1, RR, seval, q1, q2, q3, beq_self_eq_true])) | refine condV_split (fun hc => ?_) (fun hc => ?_) | (with_reducible intro β hβ; (try simp only [RB] at hβ); (repeat (obtain ⟨⟨_, _⟩, hβ⟩ := hβ)); (try (have hbis := apart_is (by assumption) hβ; obtain ⟨_, _⟩ := hbis))) | refine Pt (h1) ?_ | refine Ct (h1) ?_ | (refine Pu.to h2 (.cons (wk_refl _) (.cons hwk .nil)) ?_)) <;> (try simp only [↓R1, RR, seval, q1, q2, q3, beq_self_eq_true])))
  (refine endP_pu (by simp) (by first | (simp [rvsS, rvS]; done) | (simp only [rvsS, rvS, ↓R1, RR, seval, q1, q2, q3, beq_self_eq_true]; try simp)) (wk_of_eq ?_) (by (repeat (first | exact St.le_refl _ | (refine St.le_new ?_ (by assumption)) | (refine St.le_newT ?_ (by assumption))))))
  (simp only [resAV, rvV, List.map_cons, List.map_nil, ↓R1, RR, seval, q1, q2, q3, beq_self_eq_true])
theorem p28 {s : List UInt8} (hl : s.length ≤ 1000000) (h : rowsS s = .error (3, 0)) : Pu Tryd.prog 28 [.str s] (.bool true) := by
  have q1 : (((0 : Nat) : Int) == 0) = true := rfl
  have q2 : (((3 : Nat) : Int) == 3) = true := rfl
  have q3 : True := trivial
  have h1 := p25 s hl
  rw [h] at h1
  simp only [rowsV, faultV] at h1
  (refine Pu_intro c28 b28 (Nat.le_of_ble_eq_true rfl) fun σ => ?_; simp only [c28, ↓R1, RR, seval, q1, q2, q3, beq_self_eq_true])
  repeat' (first | (with_reducible rw [allocV_eq]) | (with_reducible refine And.intro ?_ ?_; focus (intros; (repeat' (with_reducible apply And.intro)) <;> first | omega | (simp only [RZ]; omega))) | (with_reducible apply And.intro) | ((first | (refine gdV_split (fun hc => ?_) (fun hc => ?_) <;> (try simp only [hc, ↓R1, RR, seval, q1, q2, q3, beq_self_eq_true])) | refine condV_split (fun hc => ?_) (fun hc => ?_) | (with_reducible intro β hβ; (try simp only [RB] at hβ); (repeat (obtain ⟨⟨_, _⟩, hβ⟩ := hβ)); (try (have hbis := apart_is (by assumption) hβ; obtain ⟨_, _⟩ := hbis))) | refine Pt (h1) ?_ | refine Ct (h1) ?_) <;> (try simp only [↓R1, RR, seval, q1, q2, q3, beq_self_eq_true])))
  (refine endP_pu (by simp) (by first | (simp [rvsS, rvS]; done) | (simp only [rvsS, rvS, ↓R1, RR, seval, q1, q2, q3, beq_self_eq_true]; try simp)) (wk_of_eq ?_) (by (repeat (first | exact St.le_refl _ | (refine St.le_new ?_ (by assumption)) | (refine St.le_newT ?_ (by assumption))))))
  (simp only [resAV, rvV, List.map_cons, List.map_nil, ↓R1, RR, seval, q1, q2, q3, beq_self_eq_true])
theorem p30 (q : Bool) (t : List UInt8) (a lo hi x y : Int) (hl : t.length ≤ 1000000) (h : numV q t lo hi = .tup [.int .u64 x, .int .i64 y]) : Pu Tryd.prog 30 [.agg [.bool q, .str t, .int .i64 a], .int .u64 lo, .int .u64 hi] (.int .i64 y) := by
  have q1 : True := trivial
  have q2 : True := trivial
  have q3 : True := trivial
  have h1 := p17 q t a lo hi hl
  rw [h] at h1
  (refine Pu_intro c30 b30 (Nat.le_of_ble_eq_true rfl) fun σ => ?_; simp only [c30, ↓R1, RR, seval, q1, q2, q3, beq_self_eq_true])
  repeat' (first | (with_reducible rw [allocV_eq]) | (with_reducible refine And.intro ?_ ?_; focus (intros; (repeat' (with_reducible apply And.intro)) <;> first | omega | (simp only [RZ]; omega))) | (with_reducible apply And.intro) | ((first | (refine gdV_split (fun hc => ?_) (fun hc => ?_) <;> (try simp only [hc, ↓R1, RR, seval, q1, q2, q3, beq_self_eq_true])) | refine condV_split (fun hc => ?_) (fun hc => ?_) | (with_reducible intro β hβ; (try simp only [RB] at hβ); (repeat (obtain ⟨⟨_, _⟩, hβ⟩ := hβ)); (try (have hbis := apart_is (by assumption) hβ; obtain ⟨_, _⟩ := hbis))) | refine Pt (h1) ?_ | refine Ct (h1) ?_) <;> (try simp only [↓R1, RR, seval, q1, q2, q3, beq_self_eq_true])))
  (refine endP_pu (by simp) (by first | (simp [rvsS, rvS]; done) | (simp only [rvsS, rvS, ↓R1, RR, seval, q1, q2, q3, beq_self_eq_true]; try simp)) (wk_of_eq ?_) (by (repeat (first | exact St.le_refl _ | (refine St.le_new ?_ (by assumption)) | (refine St.le_newT ?_ (by assumption))))))
  (simp only [resAV, rvV, List.map_cons, List.map_nil, ↓R1, RR, seval, q1, q2, q3, beq_self_eq_true])
theorem p31 (t : List UInt8) (hl : t.length ≤ 1000000) : Pu Tryd.prog 31 [.str t] (signV false t) := by
  have q1 : True := trivial
  have q2 : True := trivial
  have q3 : True := trivial
  have h1 := p21 false t 0 hl
  obtain ⟨x, y, h⟩ := signV_tup false t
  rw [h] at h1 ⊢
  (refine Pu_intro c31 b31 (Nat.le_of_ble_eq_true rfl) fun σ => ?_; simp only [c31, ↓R1, RR, seval, q1, q2, q3, beq_self_eq_true])
  repeat' (first | (with_reducible rw [allocV_eq]) | (with_reducible refine And.intro ?_ ?_; focus (intros; (repeat' (with_reducible apply And.intro)) <;> first | omega | (simp only [RZ]; omega))) | (with_reducible apply And.intro) | ((first | (refine gdV_split (fun hc => ?_) (fun hc => ?_) <;> (try simp only [hc, ↓R1, RR, seval, q1, q2, q3, beq_self_eq_true])) | refine condV_split (fun hc => ?_) (fun hc => ?_) | (with_reducible intro β hβ; (try simp only [RB] at hβ); (repeat (obtain ⟨⟨_, _⟩, hβ⟩ := hβ)); (try (have hbis := apart_is (by assumption) hβ; obtain ⟨_, _⟩ := hbis))) | refine Pt (p27 _ _ _) ?_ | refine Ct (p27 _ _ _) ?_ | refine Pt (h1) ?_ | refine Ct (h1) ?_) <;> (try simp only [↓R1, RR, seval, q1, q2, q3, beq_self_eq_true])))
  (refine endP_pu (by simp) (by first | (simp [rvsS, rvS]; done) | (simp only [rvsS, rvS, ↓R1, RR, seval, q1, q2, q3, beq_self_eq_true]; try simp)) (wk_of_eq ?_) (by (repeat (first | exact St.le_refl _ | (refine St.le_new ?_ (by assumption)) | (refine St.le_newT ?_ (by assumption))))))
  (simp only [resAV, rvV, List.map_cons, List.map_nil, ↓R1, RR, seval, q1, q2, q3, beq_self_eq_true])
set_option maxHeartbeats 4000000 in
theorem known_pu : Pu Tryd.prog 5 [] (.bool true) := by
  have q1 : (((0 : Nat) : Int) == 0) = true := rfl
  have q2 : (((1 : Nat) : Int) == 1) = true := rfl
  have q3 : True := trivial
  have r1 := p25 [] (by decide)
  rw [show rowsS [] = .ok [] by kernel_rfl] at r1
  have r2 := p25 [35, 32, 111, 110, 108, 121] (by decide)
  rw [show rowsS [35, 32, 111, 110, 108, 121] = .ok [] by kernel_rfl] at r2
  simp only [rowsV, faultV, List.flatMap_nil, List.length_nil] at r1 r2
  have s1 := p26 (s := [34, 92, 120, 52, 49, 92, 34, 34]) (q := true) (t := [65, 34]) (a := 0) (by decide) (by decide) (by kernel_rfl)
  have f1 := p28 (s := [97, 34, 98]) (by decide) (by kernel_rfl)
  have f2 := p28 (s := [34, 97, 34, 98]) (by decide) (by kernel_rfl)
  have f3 := p28 (s := [34, 97]) (by decide) (by kernel_rfl)
  have f4 := p28 (s := [97, 92, 98]) (by decide) (by kernel_rfl)
  have f5 := p28 (s := [34, 92, 110, 34]) (by decide) (by kernel_rfl)
  have w1 := p15 true [255] 0 (by decide)
  rw [show wordV (wordT true [255]) = .tup [.str [34, 92, 120, 102, 102, 34], .int .i64 0] by kernel_rfl] at w1
  have w2 := p15 false [] 0 (by decide)
  rw [show wordV (wordT false []) = .tup [.str [], .int .i64 3] by kernel_rfl] at w2
  have b1 := p29 [97, 35] (by decide)
  rw [show bareS [97, 35] = true by kernel_rfl] at b1
  have b2 := p29 [35, 97] (by decide)
  rw [show bareS [35, 97] = false by kernel_rfl] at b2
  have n1 := p30 false [48, 55] 0 0 9 0 3 (by decide) (by kernel_rfl)
  have n2 := p30 false [49, 56, 52, 52, 54, 55, 52, 52, 48, 55, 51, 55, 48, 57, 53, 53, 49, 54, 49, 54] 0 0 18446744073709551615 0 2 (by decide) (by kernel_rfl)
  have n3 := p30 false [53] 0 6 9 0 2 (by decide) (by kernel_rfl)
  have n4 := p30 true [53] 0 0 9 0 3 (by decide) (by kernel_rfl)
  have g1 := p31 [45, 53] (by decide)
  rw [show signV false [45, 53] = .tup [.int .i64 (-5), .int .i64 0] by kernel_rfl] at g1
  have g2 := p31 [45, 48] (by decide)
  rw [show signV false [45, 48] = .tup [.int .i64 0, .int .i64 3] by kernel_rfl] at g2
  have g3 := p31 [45, 57, 50, 50, 51, 51, 55, 50, 48, 51, 54, 56, 53, 52, 55, 55, 53, 56, 48, 56] (by decide)
  rw [show signV false [45, 57, 50, 50, 51, 51, 55, 50, 48, 51, 54, 56, 53, 52, 55, 55, 53, 56, 48, 56] = .tup [.int .i64 (-9223372036854775808), .int .i64 0] by kernel_rfl] at g3
  have g4 := p31 [57, 50, 50, 51, 51, 55, 50, 48, 51, 54, 56, 53, 52, 55, 55, 53, 56, 48, 56] (by decide)
  rw [show signV false [57, 50, 50, 51, 51, 55, 50, 48, 51, 54, 56, 53, 52, 55, 55, 53, 56, 48, 56] = .tup [.int .i64 0, .int .i64 2] by kernel_rfl] at g4
  have i1 := p19 false [98] 0 [[97], [98], [98]] (by decide)
  rw [show whichV false [98] [[97], [98], [98]] = .tup [.int .i64 1, .int .i64 0] by kernel_rfl] at i1
  have i2 := p19 false [99] 0 [[97]] (by decide)
  rw [show whichV false [99] [[97]] = .tup [.int .i64 0, .int .i64 7] by kernel_rfl] at i2
  have i3 := p19 true [97] 0 [[97]] (by decide)
  rw [show whichV true [97] [[97]] = .tup [.int .i64 0, .int .i64 7] by kernel_rfl] at i3
  simp only [List.map_cons, List.map_nil, List.length_cons, List.length_nil, Nat.zero_add, Nat.reduceAdd] at i1 i2 i3
  (refine Pu_intro c5 b5 (Nat.le_of_ble_eq_true rfl) fun σ => ?_; simp only [c5, ↓R1, RR, seval, q1, q2, q3, beq_self_eq_true])
  repeat' (first | (with_reducible rw [allocV_eq]) | (with_reducible refine And.intro ?_ ?_; focus (intros; (repeat' (with_reducible apply And.intro)) <;> first | omega | (simp only [RZ]; omega))) | (with_reducible apply And.intro) | ((first | (refine gdV_split (fun hc => ?_) (fun hc => ?_) <;> (try simp only [hc, ↓R1, RR, seval, q1, q2, q3, beq_self_eq_true])) | refine condV_split (fun hc => ?_) (fun hc => ?_) | (with_reducible intro β hβ; (try simp only [RB] at hβ); (repeat (obtain ⟨⟨_, _⟩, hβ⟩ := hβ)); (try (have hbis := apart_is (by assumption) hβ; obtain ⟨_, _⟩ := hbis))) | refine Pt (r1) ?_ | refine Ct (r1) ?_ | refine Pt (r2) ?_ | refine Ct (r2) ?_ | refine Pt (s1) ?_ | refine Ct (s1) ?_ | refine Pt (f1) ?_ | refine Ct (f1) ?_ | refine Pt (f2) ?_ | refine Ct (f2) ?_ | refine Pt (f3) ?_ | refine Ct (f3) ?_ | refine Pt (f4) ?_ | refine Ct (f4) ?_ | refine Pt (f5) ?_ | refine Ct (f5) ?_ | refine Pt (w1) ?_ | refine Ct (w1) ?_ | refine Pt (w2) ?_ | refine Ct (w2) ?_ | refine Pt (b1) ?_ | refine Ct (b1) ?_ | refine Pt (b2) ?_ | refine Ct (b2) ?_ | refine Pt (n1) ?_ | refine Ct (n1) ?_ | refine Pt (n2) ?_ | refine Ct (n2) ?_ | refine Pt (n3) ?_ | refine Ct (n3) ?_ | refine Pt (n4) ?_ | refine Ct (n4) ?_ | refine Pt (g1) ?_ | refine Ct (g1) ?_ | refine Pt (g2) ?_ | refine Ct (g2) ?_ | refine Pt (g3) ?_ | refine Ct (g3) ?_ | refine Pt (g4) ?_ | refine Ct (g4) ?_ | refine Pt (awake_pu) ?_ | refine Ct (awake_pu) ?_ | refine Pt (p27 _ _ _) ?_ | refine Ct (p27 _ _ _) ?_ | (refine Pu.to (i1) ?_ ?_; (focus ((repeat' (first | exact wk_refl _ | exact wk_nils | exact wk_tsl _ _ _ | exact wk_full _ _ | exact wkL.nil | exact wkL_refl _ | refine wk_tup ?_ | refine wk_agg ?_ | refine wkL.cons ?_ ?_)); done))) | (refine Pu.to (i2) ?_ ?_; (focus ((repeat' (first | exact wk_refl _ | exact wk_nils | exact wk_tsl _ _ _ | exact wk_full _ _ | exact wkL.nil | exact wkL_refl _ | refine wk_tup ?_ | refine wk_agg ?_ | refine wkL.cons ?_ ?_)); done))) | (refine Pu.to (i3) ?_ ?_; (focus ((repeat' (first | exact wk_refl _ | exact wk_nils | exact wk_tsl _ _ _ | exact wk_full _ _ | exact wkL.nil | exact wkL_refl _ | refine wk_tup ?_ | refine wk_agg ?_ | refine wkL.cons ?_ ?_)); done)))) <;> (try simp only [↓R1, RR, seval, q1, q2, q3, beq_self_eq_true])))
  (refine endP_pu (by simp) (by first | (simp [rvsS, rvS]; done) | (simp only [rvsS, rvS, ↓R1, RR, seval, q1, q2, q3, beq_self_eq_true]; try simp)) (wk_of_eq ?_) (by (repeat (first | exact St.le_refl _ | (refine St.le_new ?_ (by assumption)) | (refine St.le_newT ?_ (by assumption))))))
  (simp only [resAV, rvV, List.map_cons, List.map_nil, ↓R1, RR, seval, q1, q2, q3, beq_self_eq_true])
end Go.Proofs.YtemddijemikleaaDoor
namespace Go.Proofs.YtemddijemikleaaDoor
open Go.Abs
set_option linter.all false
set_option maxRecDepth 100000
theorem rowsV_ok (s : List UInt8) {rs : List Rw} (hl : s.length ≤ 1000000) (h : rowsS s = .ok rs) : Pu Tryd.prog 25 [.str s] (.tup [.sl false rs.length ((rs.map toRI).flatMap cRI), .agg [.int .i64 0, .int .i64 0]]) := by
  have h1 := p25 s hl
  rw [h] at h1
  simp only [rowsV, faultV, toRI_flat] at h1
  exact h1
end Go.Proofs.YtemddijemikleaaDoor
namespace Go.Proofs.YtemddijemikleaaDoor
open Go.Abs
set_option linter.all false
def cS (t : List UInt8) : List AV := [.str t]
theorem cS_map (l : List (List UInt8)) : l.flatMap cS = l.map AV.str := by
  induction l with
  | nil => rfl
  | cons t l ih => simp [List.flatMap_cons, ih, cS]
theorem has_s (l : List AV) (h : TD.str.Has l) : ∃ y, l = cS y ∧ y.length ≤ maxLen := by
  obtain ⟨s, rfl, hs⟩ := h
  exact ⟨s, rfl, hs⟩
end Go.Proofs.YtemddijemikleaaDoor
namespace Go.Proofs.YtemddijemikleaaDoor
open Go.Abs
set_option linter.all false
set_option maxRecDepth 100000
theorem light_q {l : List RI} (h : LightR l) : LightQ (l.map bodyI) := by
  obtain ⟨h1, h2⟩ := h
  refine ⟨by simpa using h1, fun b hb => ?_⟩
  obtain ⟨r, hr, rfl⟩ := List.mem_map.1 hb
  obtain ⟨h3, h4⟩ := h2 r hr
  refine ⟨by simpa [bodyI] using h3, fun w hw => ?_⟩
  obtain ⟨x, hx, rfl⟩ := List.mem_map.1 hw
  exact h4 x hx
set_option maxHeartbeats 8000000 in
theorem law_RowBack (ts : List (List UInt8)) (ns : List Int) (hr : ∀ x ∈ ns, I64 x) : Pu Tryd.prog 6 [.sl false ts.length (ts.map AV.str), .sl false ns.length (ns.flatMap cI)] (.bool true) := by
  have q2 : True := trivial
  have q3 : True := trivial
  have hm := p32 ts ns hr
  have hl := mdK_light ts ns (k := min ts.length 10) (by omega)
  have ho := (mdK_ok ts ns (min ts.length 10)).2
  generalize mdK ts ns (min ts.length 10) = W at *
  have hT := p12 (W.map mkR) hl
  have hg := textG_mk W [] (fun r h => (ho r h).1)
  rw [List.length_map] at hT
  rcases hg with htx | ⟨w, htx⟩
  · rw [show textS (W.map mkR) = .error 4 from htx] at hT
    simp only [textV] at hT
    have q1 : (((4 : Nat) : Int) == 4) = true := rfl
    (refine Pu_intro c6 b6 (Nat.le_of_ble_eq_true rfl) fun σ => ?_; simp only [c6, ↓R1, RR, seval, q1, q2, q3, beq_self_eq_true, bne_self_eq_false])
    generalize (W.map mkR).flatMap cRI = A at *
    repeat' (first | (with_reducible rw [allocV_eq]) | (with_reducible refine And.intro ?_ ?_; focus (intros; (repeat' (with_reducible apply And.intro)) <;> first | omega | (simp only [RZ]; omega))) | (with_reducible apply And.intro) | ((first | (refine gdV_split (fun hc => ?_) (fun hc => ?_) <;> (try simp only [hc, ↓R1, RR, seval, q1, q2, q3, beq_self_eq_true, bne_self_eq_false])) | refine condV_split (fun hc => ?_) (fun hc => ?_) | (with_reducible intro β hβ; (try simp only [RB] at hβ); (repeat (obtain ⟨⟨_, _⟩, hβ⟩ := hβ)); (try (have hbis := apart_is (by assumption) hβ; obtain ⟨_, _⟩ := hbis))) | refine Pt (known_pu) ?_ | refine Ct (known_pu) ?_ | refine Pt (hm) ?_ | refine Ct (hm) ?_ | refine Pt (hT) ?_ | refine Ct (hT) ?_) <;> (try simp only [↓R1, RR, seval, q1, q2, q3, beq_self_eq_true, bne_self_eq_false])))
    (refine endP_pu (by simp) (by first | (simp [rvsS, rvS]; done) | (simp only [rvsS, rvS, ↓R1, RR, seval, q1, q2, q3, beq_self_eq_true, bne_self_eq_false]; try simp)) (wk_of_eq ?_) (by (repeat (first | exact St.le_refl _ | (refine St.le_new ?_ (by assumption)) | (refine St.le_newT ?_ (by assumption))))))
    (simp only [resAV, rvV, List.map_cons, List.map_nil, ↓R1, RR, seval, q1, q2, q3, beq_self_eq_true, bne_self_eq_false])
  · have htx2 : textS (W.map mkR) = .ok w := htx
    rw [htx2] at hT
    simp only [textV] at hT
    have q1 : (((0 : Nat) : Int) == 4) = false := rfl
    obtain ⟨hwl, hwb⟩ := text_back htx2
    obtain ⟨rk, ek, bk⟩ := rowsB_ok hwb
    have r5 := rowsV_ok w (by omega) ek
    have m0 := p33 (rk.map toRI) (W.map mkR) (light_body (by rw [bodyI_toRI, bk]; exact light_q hl)) hl (by rw [bodyI_toRI, bk])
    rw [List.length_map, List.length_map] at m0
    (refine Pu_intro c6 b6 (Nat.le_of_ble_eq_true rfl) fun σ => ?_; simp only [c6, ↓R1, RR, seval, q1, q2, q3, beq_self_eq_true, bne_self_eq_false])
    generalize (W.map mkR).flatMap cRI = A at *
    repeat' (first | (with_reducible rw [allocV_eq]) | (with_reducible refine And.intro ?_ ?_; focus (intros; (repeat' (with_reducible apply And.intro)) <;> first | omega | (simp only [RZ]; omega))) | (with_reducible apply And.intro) | ((first | (refine gdV_split (fun hc => ?_) (fun hc => ?_) <;> (try simp only [hc, ↓R1, RR, seval, q1, q2, q3, beq_self_eq_true, bne_self_eq_false])) | refine condV_split (fun hc => ?_) (fun hc => ?_) | (with_reducible intro β hβ; (try simp only [RB] at hβ); (repeat (obtain ⟨⟨_, _⟩, hβ⟩ := hβ)); (try (have hbis := apart_is (by assumption) hβ; obtain ⟨_, _⟩ := hbis))) | refine Pt (known_pu) ?_ | refine Ct (known_pu) ?_ | refine Pt (hm) ?_ | refine Ct (hm) ?_ | refine Pt (hT) ?_ | refine Ct (hT) ?_ | refine Pt (r5) ?_ | refine Ct (r5) ?_ | refine Pt (m0) ?_ | refine Ct (m0) ?_) <;> (try simp only [↓R1, RR, seval, q1, q2, q3, beq_self_eq_true, bne_self_eq_false])))
    (refine endP_pu (by simp) (by first | (simp [rvsS, rvS]; done) | (simp only [rvsS, rvS, ↓R1, RR, seval, q1, q2, q3, beq_self_eq_true, bne_self_eq_false]; try simp)) (wk_of_eq ?_) (by (repeat (first | exact St.le_refl _ | (refine St.le_new ?_ (by assumption)) | (refine St.le_newT ?_ (by assumption))))))
    (simp only [resAV, rvV, List.map_cons, List.map_nil, ↓R1, RR, seval, q1, q2, q3, beq_self_eq_true, bne_self_eq_false])
theorem arg_RowBack (l : List (List UInt8)) (ns : List Int) (hr : ∀ x ∈ ns, I64 x) : PuG Tryd.prog [] 6 [sl cS l, sl cI ns] (.bool true) := fun σ _ => by
  have := law_RowBack l ns hr σ
  rw [← cS_map] at this
  exact this
theorem has_i (l : List AV) (h : (TD.int .i64).Has l) : ∃ y, l = cI y ∧ I64 y := by
  obtain ⟨a, rfl, h1⟩ := h
  exact ⟨a, by simp [cI], by simpa [I64, Lit.wf, IntKind.min, IntKind.max, IntKind.bits, IntKind.signed] using h1⟩
end Go.Proofs.YtemddijemikleaaDoor
