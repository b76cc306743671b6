/- Part 24 of the proof of MatchOrder: an abstract semantics that is proved sound for the model, contracts of functions in it, and plain facts (N9 A17 A17o). No condition. -/
import Derived.Test.YtncadbcjikekhaaGreatDoorKMatchOrder23
set_option linter.all false
namespace Go.Proofs.YtncadbcjikekhaaGreatDoor
open Go.Abs Go.Lib
set_option linter.all false
set_option maxRecDepth 100000
theorem cmpN_rng (a b : Int) : -1 ≤ cmpN a b ∧ cmpN a b ≤ 1 := by
  simp only [cmpN, Bool.cond_eq_ite, decide_eq_true_eq]; grind
theorem cmpL_rng : ∀ l m, -1 ≤ cmpL l m ∧ cmpL l m ≤ 1
  | [], [] => by simp [cmpL]
  | [], _ :: _ => by simp [cmpL]
  | _ :: _, [] => by simp [cmpL]
  | a :: l, b :: m => by
    unfold cmpL
    cases (cmpN a b != 0) with
    | true => exact cmpN_rng a b
    | false => exact cmpL_rng l m
theorem cmpM_rng (a b : List Pl) : -1 ≤ cmpM a b ∧ cmpM a b ≤ 1 := by
  have e : cmpM a b = _ := orS_three _ _ _
  rw [e]
  cases (cmpN (lastP a) (lastP b) == 0) with
  | false => exact cmpN_rng _ _
  | true =>
    simp only [cond_true]
    cases (cmpL (posL a) (posL b) == 0) with
    | false => exact cmpL_rng _ _
    | true => exact cmpL_rng _ _
theorem madeL_mod (k : Nat) : madeL k = madeL (k % 72) := by
  unfold madeL
  have e1 : k % 72 / 3 % 4 = k / 3 % 4 := by omega
  have e2 : k % 72 % 3 = k % 3 := by omega
  have e3 : k % 72 / 36 % 2 = k / 36 % 2 := by omega
  rw [e1, e2, e3]
  refine List.map_congr_left fun i _ => ?_
  have e4 : (k % 72 / 12 + i) % 3 = (k / 12 + i) % 3 := by omega
  rw [e4]
theorem made_all : ((List.range 72).all fun k => checkS (madeL k) == 0) = true := by decide +kernel
theorem made_check (k : Nat) : checkS (madeL k) = 0 := by
  rw [madeL_mod]
  have h := List.all_eq_true.1 made_all (k % 72) (List.mem_range.2 (by omega))
  simpa using h
theorem made_len (k : Nat) : (madeL k).length ≤ 4 ∧ (madeL k).length ≠ 0 := by simp [madeL]; omega
theorem made_cmp (i j : Nat) : cmpE (madeL i) (madeL j) = 0 ∧ cmpX (madeL i) (madeL j) = cmpM (madeL i) (madeL j) := by
  have h : cmpE (madeL i) (madeL j) = 0 := by unfold cmpE; rw [made_check, made_check]; rfl
  exact ⟨h, by unfold cmpX; rw [h]; rfl⟩
set_option maxHeartbeats 4000000 in
theorem law_MatchOrder (ns : List Int) (hr : ∀ x ∈ ns, I64 x) : PuG Tryz.prog gl3 6 [.sl false ns.length (ns.flatMap cI)] (.bool true) := by
  have k := known_pu
  have hm0 := p38 ns 0 hr
  have hm1 := p38 ns 1 hr
  have hm2 := p38 ns 2 hr
  obtain ⟨A, hA⟩ : ∃ A, madeN ns 0 = A := ⟨_, rfl⟩
  obtain ⟨B, hB⟩ : ∃ B, madeN ns 1 = B := ⟨_, rfl⟩
  obtain ⟨C, hC⟩ : ∃ C, madeN ns 2 = C := ⟨_, rfl⟩
  rw [hA] at hm0
  rw [hB] at hm1
  rw [hC] at hm2
  have c1 := p24 (madeL A) (madeL B) (by have := made_len A; omega) (by have := made_len B; omega)
  have c2 := p24 (madeL B) (madeL C) (by have := made_len B; omega) (by have := made_len C; omega)
  have c3 := p24 (madeL A) (madeL C) (by have := made_len A; omega) (by have := made_len C; omega)
  have c4 := p24 (madeL B) (madeL A) (by have := made_len B; omega) (by have := made_len A; omega)
  have sm := p20 (madeL A) (madeL B) (by have := made_len A; omega) (by have := made_len B; omega)
  rw [(made_cmp A B).1, (made_cmp A B).2] at c1
  rw [(made_cmp B C).1, (made_cmp B C).2] at c2
  rw [(made_cmp A C).1, (made_cmp A C).2] at c3
  rw [(made_cmp B A).1, (made_cmp B A).2] at c4
  have r1 := cmpM_rng (madeL A) (madeL B)
  have n1 := cmpM3.neg (madeL A) (madeL B)
  have z1 : (cmpM (madeL A) (madeL B) == 0) = decide (madeL A = madeL B) := by rw [Bool.eq_iff_iff, beq_iff_eq, decide_eq_true_eq]; exact cmpM_zero
  have t1 := cmpM3.tr (madeL A) (madeL B) (madeL C)
  have t2 := @Cmp3.lt _ _ cmpM3 (madeL A) (madeL B) (madeL C)
  rw [← z1] at sm
  rw [n1] at c4
  obtain ⟨p, hp0⟩ : ∃ p, cmpM (madeL A) (madeL B) = p := ⟨_, rfl⟩
  obtain ⟨q, hq0⟩ : ∃ q, cmpM (madeL B) (madeL C) = q := ⟨_, rfl⟩
  obtain ⟨r, hr0⟩ : ∃ r, cmpM (madeL A) (madeL C) = r := ⟨_, rfl⟩
  rw [hp0] at c1 c4 r1 t1 t2 sm
  rw [hq0] at c2 t1 t2
  rw [hr0] at c3 t1 t2
  have e1 : IntKind.i64.wrap (0 - p) = -p := by rw [wrap64 (by omega) (by omega)]; omega
  have e2 : IntKind.i64.wrap (-p) = -p := wrap64 (by omega) (by omega)
  have hcase : 0 < p ∨ (p = 0 ∧ 0 < q) ∨ (p = 0 ∧ q ≤ 0) ∨ (p < 0 ∧ 0 < q) ∨ (p < 0 ∧ q ≤ 0) := by omega
  have d1 : True := trivial
  have d2 : True := trivial
  have d3 : True := trivial
  have d4 : True := trivial
  have d5 : True := trivial
  rcases hcase with hp | hp | hp | hp | hp
  · have d1 : decide (0 < p) = true := by rw [decide_eq_true_eq]; omega
    have d4 : decide (0 ≤ p) = true := by rw [decide_eq_true_eq]; omega
    (refine PuG_intro c6 b6 (Nat.le_of_ble_eq_true rfl) fun σ hσ => ?_; simp only [c6, ↓R1, RR, seval, beq_self_eq_true, d1, d2, d3, d4, d5, e1, e2])
    repeat' (first | (with_reducible rw [allocV_eq]) | (with_reducible refine And.intro ?_ ?_; focus (intros; (repeat' (with_reducible apply And.intro)) <;> first | omega | (simp only [RZ, cP_len, cI_len]; omega))) | (with_reducible apply And.intro) | ((first | (refine gdV_split (fun hc => ?_) (fun hc => ?_) <;> (try simp only [hc, ↓R1, RR, seval, beq_self_eq_true, d1, d2, d3, d4, d5, e1, e2])) | refine condV_split (fun hc => ?_) (fun hc => ?_) | (with_reducible intro β hβ; (try simp only [RB] at hβ); (repeat (obtain ⟨⟨_, _⟩, hβ⟩ := hβ)); (try (have hbis := apart_is (by assumption) hβ; obtain ⟨_, _⟩ := hbis))) | refine PuG.to (k) hσ (wkL_refl _) ?_ | refine Pt (hm0) ?_ | refine Ct (hm0) ?_ | refine Pt (hm1) ?_ | refine Ct (hm1) ?_ | refine Pt (hm2) ?_ | refine Ct (hm2) ?_ | refine Pt (c1) ?_ | refine Ct (c1) ?_ | refine Pt (c2) ?_ | refine Ct (c2) ?_ | refine Pt (c3) ?_ | refine Ct (c3) ?_ | refine Pt (c4) ?_ | refine Ct (c4) ?_ | refine Pt (sm) ?_ | refine Ct (sm) ?_) <;> (try simp only [↓R1, RR, seval, beq_self_eq_true, d1, d2, d3, d4, d5, e1, e2])))
    (refine endP_pu (by simp) (by first | (simp [rvsS, rvS]; done) | (simp only [rvsS, rvS, ↓R1, RR, seval, beq_self_eq_true, d1, d2, d3, d4, d5, e1, e2]; try simp)) (wk_of_eq ?_) (by (repeat (first | exact St.le_refl _ | (refine St.le_new ?_ (by assumption)) | (refine St.le_newT ?_ (by assumption))))))
    (simp only [resAV, rvV, List.map_cons, List.map_nil, ↓R1, RR, seval, beq_self_eq_true, d1, d2, d3, d4, d5, e1, e2])
  · have d1 : decide (0 < p) = false := by rw [decide_eq_false_iff_not]; omega
    have d2 : decide (0 < q) = true := by rw [decide_eq_true_eq]; omega
    have d4 : decide (0 ≤ p) = true := by rw [decide_eq_true_eq]; omega
    (refine PuG_intro c6 b6 (Nat.le_of_ble_eq_true rfl) fun σ hσ => ?_; simp only [c6, ↓R1, RR, seval, beq_self_eq_true, d1, d2, d3, d4, d5, e1, e2])
    repeat' (first | (with_reducible rw [allocV_eq]) | (with_reducible refine And.intro ?_ ?_; focus (intros; (repeat' (with_reducible apply And.intro)) <;> first | omega | (simp only [RZ, cP_len, cI_len]; omega))) | (with_reducible apply And.intro) | ((first | (refine gdV_split (fun hc => ?_) (fun hc => ?_) <;> (try simp only [hc, ↓R1, RR, seval, beq_self_eq_true, d1, d2, d3, d4, d5, e1, e2])) | refine condV_split (fun hc => ?_) (fun hc => ?_) | (with_reducible intro β hβ; (try simp only [RB] at hβ); (repeat (obtain ⟨⟨_, _⟩, hβ⟩ := hβ)); (try (have hbis := apart_is (by assumption) hβ; obtain ⟨_, _⟩ := hbis))) | refine PuG.to (k) hσ (wkL_refl _) ?_ | refine Pt (hm0) ?_ | refine Ct (hm0) ?_ | refine Pt (hm1) ?_ | refine Ct (hm1) ?_ | refine Pt (hm2) ?_ | refine Ct (hm2) ?_ | refine Pt (c1) ?_ | refine Ct (c1) ?_ | refine Pt (c2) ?_ | refine Ct (c2) ?_ | refine Pt (c3) ?_ | refine Ct (c3) ?_ | refine Pt (c4) ?_ | refine Ct (c4) ?_ | refine Pt (sm) ?_ | refine Ct (sm) ?_) <;> (try simp only [↓R1, RR, seval, beq_self_eq_true, d1, d2, d3, d4, d5, e1, e2])))
    (refine endP_pu (by simp) (by first | (simp [rvsS, rvS]; done) | (simp only [rvsS, rvS, ↓R1, RR, seval, beq_self_eq_true, d1, d2, d3, d4, d5, e1, e2]; try simp)) (wk_of_eq ?_) (by (repeat (first | exact St.le_refl _ | (refine St.le_new ?_ (by assumption)) | (refine St.le_newT ?_ (by assumption))))))
    (simp only [resAV, rvV, List.map_cons, List.map_nil, ↓R1, RR, seval, beq_self_eq_true, d1, d2, d3, d4, d5, e1, e2])
  · have d1 : decide (0 < p) = false := by rw [decide_eq_false_iff_not]; omega
    have d2 : decide (0 < q) = false := by rw [decide_eq_false_iff_not]; omega
    have d3 : decide (r ≤ 0) = true := by rw [decide_eq_true_eq]; exact t1 (by omega) (by omega)
    have d4 : decide (0 ≤ p) = true := by rw [decide_eq_true_eq]; omega
    (refine PuG_intro c6 b6 (Nat.le_of_ble_eq_true rfl) fun σ hσ => ?_; simp only [c6, ↓R1, RR, seval, beq_self_eq_true, d1, d2, d3, d4, d5, e1, e2])
    repeat' (first | (with_reducible rw [allocV_eq]) | (with_reducible refine And.intro ?_ ?_; focus (intros; (repeat' (with_reducible apply And.intro)) <;> first | omega | (simp only [RZ, cP_len, cI_len]; omega))) | (with_reducible apply And.intro) | ((first | (refine gdV_split (fun hc => ?_) (fun hc => ?_) <;> (try simp only [hc, ↓R1, RR, seval, beq_self_eq_true, d1, d2, d3, d4, d5, e1, e2])) | refine condV_split (fun hc => ?_) (fun hc => ?_) | (with_reducible intro β hβ; (try simp only [RB] at hβ); (repeat (obtain ⟨⟨_, _⟩, hβ⟩ := hβ)); (try (have hbis := apart_is (by assumption) hβ; obtain ⟨_, _⟩ := hbis))) | refine PuG.to (k) hσ (wkL_refl _) ?_ | refine Pt (hm0) ?_ | refine Ct (hm0) ?_ | refine Pt (hm1) ?_ | refine Ct (hm1) ?_ | refine Pt (hm2) ?_ | refine Ct (hm2) ?_ | refine Pt (c1) ?_ | refine Ct (c1) ?_ | refine Pt (c2) ?_ | refine Ct (c2) ?_ | refine Pt (c3) ?_ | refine Ct (c3) ?_ | refine Pt (c4) ?_ | refine Ct (c4) ?_ | refine Pt (sm) ?_ | refine Ct (sm) ?_) <;> (try simp only [↓R1, RR, seval, beq_self_eq_true, d1, d2, d3, d4, d5, e1, e2])))
    (refine endP_pu (by simp) (by first | (simp [rvsS, rvS]; done) | (simp only [rvsS, rvS, ↓R1, RR, seval, beq_self_eq_true, d1, d2, d3, d4, d5, e1, e2]; try simp)) (wk_of_eq ?_) (by (repeat (first | exact St.le_refl _ | (refine St.le_new ?_ (by assumption)) | (refine St.le_newT ?_ (by assumption))))))
    (simp only [resAV, rvV, List.map_cons, List.map_nil, ↓R1, RR, seval, beq_self_eq_true, d1, d2, d3, d4, d5, e1, e2])
  · have d1 : decide (0 < p) = false := by rw [decide_eq_false_iff_not]; omega
    have d2 : decide (0 < q) = true := by rw [decide_eq_true_eq]; omega
    have d4 : decide (0 ≤ p) = false := by rw [decide_eq_false_iff_not]; omega
    (refine PuG_intro c6 b6 (Nat.le_of_ble_eq_true rfl) fun σ hσ => ?_; simp only [c6, ↓R1, RR, seval, beq_self_eq_true, d1, d2, d3, d4, d5, e1, e2])
    repeat' (first | (with_reducible rw [allocV_eq]) | (with_reducible refine And.intro ?_ ?_; focus (intros; (repeat' (with_reducible apply And.intro)) <;> first | omega | (simp only [RZ, cP_len, cI_len]; omega))) | (with_reducible apply And.intro) | ((first | (refine gdV_split (fun hc => ?_) (fun hc => ?_) <;> (try simp only [hc, ↓R1, RR, seval, beq_self_eq_true, d1, d2, d3, d4, d5, e1, e2])) | refine condV_split (fun hc => ?_) (fun hc => ?_) | (with_reducible intro β hβ; (try simp only [RB] at hβ); (repeat (obtain ⟨⟨_, _⟩, hβ⟩ := hβ)); (try (have hbis := apart_is (by assumption) hβ; obtain ⟨_, _⟩ := hbis))) | refine PuG.to (k) hσ (wkL_refl _) ?_ | refine Pt (hm0) ?_ | refine Ct (hm0) ?_ | refine Pt (hm1) ?_ | refine Ct (hm1) ?_ | refine Pt (hm2) ?_ | refine Ct (hm2) ?_ | refine Pt (c1) ?_ | refine Ct (c1) ?_ | refine Pt (c2) ?_ | refine Ct (c2) ?_ | refine Pt (c3) ?_ | refine Ct (c3) ?_ | refine Pt (c4) ?_ | refine Ct (c4) ?_ | refine Pt (sm) ?_ | refine Ct (sm) ?_) <;> (try simp only [↓R1, RR, seval, beq_self_eq_true, d1, d2, d3, d4, d5, e1, e2])))
    (refine endP_pu (by simp) (by first | (simp [rvsS, rvS]; done) | (simp only [rvsS, rvS, ↓R1, RR, seval, beq_self_eq_true, d1, d2, d3, d4, d5, e1, e2]; try simp)) (wk_of_eq ?_) (by (repeat (first | exact St.le_refl _ | (refine St.le_new ?_ (by assumption)) | (refine St.le_newT ?_ (by assumption))))))
    (simp only [resAV, rvV, List.map_cons, List.map_nil, ↓R1, RR, seval, beq_self_eq_true, d1, d2, d3, d4, d5, e1, e2])
  · have d1 : decide (0 < p) = false := by rw [decide_eq_false_iff_not]; omega
    have d2 : decide (0 < q) = false := by rw [decide_eq_false_iff_not]; omega
    have d3 : decide (r ≤ 0) = true := by rw [decide_eq_true_eq]; exact t1 (by omega) (by omega)
    have d4 : decide (0 ≤ p) = false := by rw [decide_eq_false_iff_not]; omega
    have d5 : decide (r < 0) = true := by rw [decide_eq_true_eq]; exact t2 (by omega) (by omega)
    (refine PuG_intro c6 b6 (Nat.le_of_ble_eq_true rfl) fun σ hσ => ?_; simp only [c6, ↓R1, RR, seval, beq_self_eq_true, d1, d2, d3, d4, d5, e1, e2])
    repeat' (first | (with_reducible rw [allocV_eq]) | (with_reducible refine And.intro ?_ ?_; focus (intros; (repeat' (with_reducible apply And.intro)) <;> first | omega | (simp only [RZ, cP_len, cI_len]; omega))) | (with_reducible apply And.intro) | ((first | (refine gdV_split (fun hc => ?_) (fun hc => ?_) <;> (try simp only [hc, ↓R1, RR, seval, beq_self_eq_true, d1, d2, d3, d4, d5, e1, e2])) | refine condV_split (fun hc => ?_) (fun hc => ?_) | (with_reducible intro β hβ; (try simp only [RB] at hβ); (repeat (obtain ⟨⟨_, _⟩, hβ⟩ := hβ)); (try (have hbis := apart_is (by assumption) hβ; obtain ⟨_, _⟩ := hbis))) | refine PuG.to (k) hσ (wkL_refl _) ?_ | refine Pt (hm0) ?_ | refine Ct (hm0) ?_ | refine Pt (hm1) ?_ | refine Ct (hm1) ?_ | refine Pt (hm2) ?_ | refine Ct (hm2) ?_ | refine Pt (c1) ?_ | refine Ct (c1) ?_ | refine Pt (c2) ?_ | refine Ct (c2) ?_ | refine Pt (c3) ?_ | refine Ct (c3) ?_ | refine Pt (c4) ?_ | refine Ct (c4) ?_ | refine Pt (sm) ?_ | refine Ct (sm) ?_) <;> (try simp only [↓R1, RR, seval, beq_self_eq_true, d1, d2, d3, d4, d5, e1, e2])))
    (refine endP_pu (by simp) (by first | (simp [rvsS, rvS]; done) | (simp only [rvsS, rvS, ↓R1, RR, seval, beq_self_eq_true, d1, d2, d3, d4, d5, e1, e2]; try simp)) (wk_of_eq ?_) (by (repeat (first | exact St.le_refl _ | (refine St.le_new ?_ (by assumption)) | (refine St.le_newT ?_ (by assumption))))))
    (simp only [resAV, rvV, List.map_cons, List.map_nil, ↓R1, RR, seval, beq_self_eq_true, d1, d2, d3, d4, d5, e1, e2])
end Go.Proofs.YtncadbcjikekhaaGreatDoor
namespace Go.Proofs.YtncadbcjikekhaaGreatDoor
open Go.Abs
set_option linter.all false
theorem has_i64 (l : List AV) (h : (TD.int .i64).Has l) : ∃ y, l = cI y ∧ I64 y := by
  obtain ⟨a, rfl, h1⟩ := h
  exact ⟨a, by simp [cI], by simpa [I64, Lit.wf, IntKind.min, IntKind.max, IntKind.bits, IntKind.signed] using h1⟩
end Go.Proofs.YtncadbcjikekhaaGreatDoor
namespace Go.Proofs.YtncadbcjikekhaaGreatDoor
open Go.Abs
set_option linter.all false
theorem arg_MatchOrder (ns : List Int) (hr : ∀ x ∈ ns, I64 x) : PuG Tryz.prog gl3 6 [.sl false ns.length (ns.flatMap cI)] (.bool true) := law_MatchOrder ns hr
end Go.Proofs.YtncadbcjikekhaaGreatDoor
