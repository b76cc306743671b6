/- Part 24 of the proof of MatchSorted: an abstract semantics that is proved sound for the model, contracts of functions in it, and plain facts (S6 A17 A17s). No condition. -/
import Derived.Test.YtncadbcjikekhaaGreatDoorKMatchSorted23
set_option linter.all false
namespace Go.Proofs.YtncadbcjikekhaaGreatDoor
open Go.Abs
set_option linter.all false
set_option maxRecDepth 100000
set_option maxHeartbeats 8000000 in
theorem law_MatchSorted (ns : List Int) (hr : ∀ x ∈ ns, I64 x) : PuG Tryz.prog gl3 8 [.sl false ns.length (ns.flatMap cI)] (.bool true) := by
  have kn := known_pu
  have q0 : True := trivial
  have q1 : True := trivial
  have q2 : True := trivial
  have q3 : True := trivial
  have q4 : True := trivial
  have q5 : True := trivial
  have q6 : True := trivial
  have q7 : True := trivial
  have hw4 : True := trivial
  have hw : True := trivial
  have hw2 : True := trivial
  have hw3 : True := trivial
  have hd : True := trivial
  have hd2 : True := trivial
  have hd3 : True := trivial
  have hd4 : True := trivial
  have hcv := cI_len ns
  obtain ⟨n, hn⟩ : ∃ n, min 8 ns.length = n := ⟨_, rfl⟩
  have hn8 : n ≤ 8 := by omega
  have hok := lsK_ok ns n
  have hll := lsK_len ns n
  have hS1 := p22 (lsK ns n) (by omega) (fun l h => (hok l h).1) (fun l h => (hok l h).2)
  have hA : ∀ l ∈ isort cmpM (lsK ns n), checkS l = 0 ∧ OkM l := fun l h => hok l ((isort_perm cmpM _).mem_iff.1 h)
  have hal := isort_len cmpM (lsK ns n)
  have hS2 := p22 (isort cmpM (lsK ns n)) (by omega) (fun l h => (hA l h).1) (fun l h => (hA l h).2)
  rw [isort_idem cmpM3, hal, hll] at hS2
  rw [hll] at hS1
  have hperm := isort_perm cmpM (lsK ns n)
  have hord := isort_ord cmpM3 (lsK ns n)
  (refine PuG_intro c8 b8 (Nat.le_of_ble_eq_true rfl) fun σ hσ => ?_; simp only [c8, ↓R1, RR, seval, RQ, q0, q1, q2, q3, q4, q5, q6, q7, hw, hw2, hw3, hw4, hd, hd2, hd3, hd4, bne_self_eq_false, beq_self_eq_true])
  repeat' (first | (with_reducible rw [allocV_eq]) | (with_reducible refine And.intro ?_ ?_; focus (intros; (repeat' (with_reducible apply And.intro)) <;> first | omega | (simp only [RZ, cells_len, cP_len, cI_len]; omega))) | (with_reducible apply And.intro) | ((first | (refine gdV_split (fun hc => ?_) (fun hc => ?_) <;> (try simp only [hc, ↓R1, RR, seval, RQ, q0, q1, q2, q3, q4, q5, q6, q7, hw, hw2, hw3, hw4, hd, hd2, hd3, hd4, bne_self_eq_false, beq_self_eq_true])) | refine condV_split (fun hc => ?_) (fun hc => ?_) | (with_reducible intro β hβ; (try simp only [RB] at hβ); (repeat (obtain ⟨⟨_, _⟩, hβ⟩ := hβ)); (try (have hbis := apart_is (by assumption) hβ; obtain ⟨_, _⟩ := hbis))) | ((first | refine appD_tslK (.inr rfl) rfl ?_ ?_ ?_ ?_ ?_ ?_ | refine appV_tslK rfl ?_ ?_ ?_ ?_ ?_ ?_); (first | rfl | exact St.tip_same _ _ _ | simp only [↓R1, RR, seval, RQ, q0, q1, q2, q3, q4, q5, q6, q7, hw, hw2, hw3, hw4, hd, hd2, hd3, hd4, bne_self_eq_false, beq_self_eq_true]); (iterate 2 (first | omega | (simp only [RZ, cells_len, cP_len, cI_len]; first | done | omega) | rfl)); (unfold maxLen; omega); omega) | refine PuG.to (kn) hσ (wkL_refl _) ?_) <;> (try simp only [↓R1, RR, seval, RQ, q0, q1, q2, q3, q4, q5, q6, q7, hw, hw2, hw3, hw4, hd, hd2, hd3, hd4, bne_self_eq_false, beq_self_eq_true])))
  refine loopV_forT n 4 30 1 0 [] (fun τ j => [(0, .sl false ns.length (ns.flatMap cI)), (3, .bool true), (4, .tsl τ j ((lsK ns j).map cM)), (5, .int .i64 (j : Nat))]) (fun τ j => St.setTip _ τ (30, 1, j)) (fun _ => True) (by simp only [fresh, slot, ↓R1, RR, seval, RQ, q0, q1, q2, q3, q4, q5, q6, q7, hw, hw2, hw3, hw4, hd, hd2, hd3, hd4, bne_self_eq_false, beq_self_eq_true]) (by simp only [slv, slot, ↓R1, RR, seval, RQ, q0, q1, q2, q3, q4, q5, q6, q7, hw, hw2, hw3, hw4, hd, hd2, hd3, hd4, bne_self_eq_false, beq_self_eq_true]) trivial
    (fun τ => by simp [subF, slot, wk_refl, lsK]) (fun τ hτ => St.le_refl _) (fun τ hτ j hj _ => ?_)
  by_cases hlt : j < n
  · have q0 : decide ((j : Int) < (ns.length : Int)) = true := by rw [decide_eq_true_eq]; omega
    have q1 : decide ((j : Int) < 8) = true := by rw [decide_eq_true_eq]; omega
    have hm := p38 ns j hr
    have hd := lsK_succ ns j
    have hw : IntKind.i64.wrap ((j : Int) + 1) = ((j + 1 : Nat) : Int) := by rw [wrap64 (by omega) (by omega)]; omega
    have hcl : ((lsK ns j).map cM).length = j * 1 := by simp [lsK]
    simp only [cM, mdL] at hd
    simp only [q0, ↓R1, RR, seval, RQ, q0, q1, q2, q3, q4, q5, q6, q7, hw, hw2, hw3, hw4, hd, hd2, hd3, hd4, bne_self_eq_false, beq_self_eq_true]
    repeat' (first | (with_reducible rw [allocV_eq]) | (with_reducible refine And.intro ?_ ?_; focus (intros; (repeat' (with_reducible apply And.intro)) <;> first | omega | (simp only [RZ, cells_len, cP_len, cI_len]; omega))) | (with_reducible apply And.intro) | ((first | (refine gdV_split (fun hc => ?_) (fun hc => ?_) <;> (try simp only [hc, ↓R1, RR, seval, RQ, q0, q1, q2, q3, q4, q5, q6, q7, hw, hw2, hw3, hw4, hd, hd2, hd3, hd4, bne_self_eq_false, beq_self_eq_true])) | refine condV_split (fun hc => ?_) (fun hc => ?_) | (with_reducible intro β hβ; (try simp only [RB] at hβ); (repeat (obtain ⟨⟨_, _⟩, hβ⟩ := hβ)); (try (have hbis := apart_is (by assumption) hβ; obtain ⟨_, _⟩ := hbis))) | ((first | refine appD_tslK (.inr rfl) rfl ?_ ?_ ?_ ?_ ?_ ?_ | refine appV_tslK rfl ?_ ?_ ?_ ?_ ?_ ?_); (first | rfl | exact St.tip_same _ _ _ | simp only [↓R1, RR, seval, RQ, q0, q1, q2, q3, q4, q5, q6, q7, hw, hw2, hw3, hw4, hd, hd2, hd3, hd4, bne_self_eq_false, beq_self_eq_true]); (iterate 2 (first | omega | (simp only [RZ, cells_len, cP_len, cI_len]; first | done | omega) | rfl)); (unfold maxLen; omega); omega) | refine Pt (hm) ?_ | refine Ct (hm) ?_) <;> (try simp only [↓R1, RR, seval, RQ, q0, q1, q2, q3, q4, q5, q6, q7, hw, hw2, hw3, hw4, hd, hd2, hd3, hd4, bne_self_eq_false, beq_self_eq_true])))
    · simp [subF, slot, wk_refl]
    · exact St.le_refl _
  · have hje : j = n := by omega
    subst hje
    have hx : decide ((j : Int) < (ns.length : Int)) = false ∨ decide ((j : Int) < (ns.length : Int)) = true ∧ decide ((j : Int) < 8) = false := by
      by_cases h : j < ns.length
      · exact .inr ⟨by rw [decide_eq_true_eq]; omega, by rw [decide_eq_false_iff_not]; omega⟩
      · exact .inl (by rw [decide_eq_false_iff_not]; omega)
    obtain ⟨ls, hls⟩ : ∃ ls, lsK ns j = ls := ⟨_, rfl⟩
    obtain ⟨a, ha⟩ : ∃ a, isort cmpM ls = a := ⟨_, rfl⟩
    rw [hls] at hok hll hS1 hA hal hS2 hperm hord ⊢
    rw [ha] at hS1 hA hal hS2 hperm hord
    rcases hx with q0 | ⟨q0, q1⟩
    all_goals (simp only [q0, ↓R1, RR, seval, RQ, q0, q1, q2, q3, q4, q5, q6, q7, hw, hw2, hw3, hw4, hd, hd2, hd3, hd4, bne_self_eq_false, beq_self_eq_true])
    all_goals (repeat' (first | (with_reducible rw [allocV_eq]) | (with_reducible refine And.intro ?_ ?_; focus (intros; (repeat' (with_reducible apply And.intro)) <;> first | omega | (simp only [RZ, cells_len, cP_len, cI_len]; omega))) | (with_reducible apply And.intro) | ((first | (refine gdV_split (fun hc => ?_) (fun hc => ?_) <;> (try simp only [hc, ↓R1, RR, seval, RQ, q0, q1, q2, q3, q4, q5, q6, q7, hw, hw2, hw3, hw4, hd, hd2, hd3, hd4, bne_self_eq_false, beq_self_eq_true])) | refine condV_split (fun hc => ?_) (fun hc => ?_) | (with_reducible intro β hβ; (try simp only [RB] at hβ); (repeat (obtain ⟨⟨_, _⟩, hβ⟩ := hβ)); (try (have hbis := apart_is (by assumption) hβ; obtain ⟨_, _⟩ := hbis))) | ((first | refine appD_tslK (.inr rfl) rfl ?_ ?_ ?_ ?_ ?_ ?_ | refine appV_tslK rfl ?_ ?_ ?_ ?_ ?_ ?_); (first | rfl | exact St.tip_same _ _ _ | simp only [↓R1, RR, seval, RQ, q0, q1, q2, q3, q4, q5, q6, q7, hw, hw2, hw3, hw4, hd, hd2, hd3, hd4, bne_self_eq_false, beq_self_eq_true]); (iterate 2 (first | omega | (simp only [RZ, cells_len, cP_len, cI_len]; first | done | omega) | rfl)); (unfold maxLen; omega); omega) | refine Pt (hS2) ?_ | refine Ct (hS2) ?_ | (refine Pu.to (hS1) ?_ ?_; (focus ((repeat' (first | exact wk_refl _ | exact wk_nils | exact wk_tsl _ _ _ | exact wk_full _ _ | exact wkL.nil | exact wkL_refl _ | refine wk_tup ?_ | refine wk_agg ?_ | refine wkL.cons ?_ ?_)); done)))) <;> (try simp only [↓R1, RR, seval, RQ, q0, q1, q2, q3, q4, q5, q6, q7, hw, hw2, hw3, hw4, hd, hd2, hd3, hd4, bne_self_eq_false, beq_self_eq_true]))))
    all_goals
      refine loopV_for j (fun i => [(3, .bool true), (4, .sl false j (ls.map cM)), (6, .sl false j (a.map cM)), (8, .sl false j (a.map cM)), (10, .int .i64 (i : Nat))]) (fun _ => _) (fun _ => True) (by simp [subF, slot, wk_refl, wk_tsl]) (St.le_refl _) trivial (fun i hi _ => ?_)
      by_cases hil : i < j
      · have q2 : decide ((i : Int) < (j : Int)) = true := by rw [decide_eq_true_eq]; omega
        have hia : i < a.length := by omega
        obtain ⟨x, hx⟩ : ∃ x, a[i] = x := ⟨_, rfl⟩
        have hxa : x ∈ a := by rw [← hx]; exact List.getElem_mem hia
        have hd3 := cM_get a hia
        rw [hx] at hd3
        have hxok := hA x hxa
        simp only [q2, ↓R1, RR, seval, RQ, q0, q1, q2, q3, q4, q5, q6, q7, hw, hw2, hw3, hw4, hd, hd2, hd3, hd4, bne_self_eq_false, beq_self_eq_true]
        repeat' (first | (with_reducible rw [allocV_eq]) | (with_reducible refine And.intro ?_ ?_; focus (intros; (repeat' (with_reducible apply And.intro)) <;> first | omega | (simp only [RZ, cells_len, cP_len, cI_len]; omega))) | (with_reducible apply And.intro) | ((first | (refine gdV_split (fun hc => ?_) (fun hc => ?_) <;> (try simp only [hc, ↓R1, RR, seval, RQ, q0, q1, q2, q3, q4, q5, q6, q7, hw, hw2, hw3, hw4, hd, hd2, hd3, hd4, bne_self_eq_false, beq_self_eq_true])) | refine condV_split (fun hc => ?_) (fun hc => ?_) | (with_reducible intro β hβ; (try simp only [RB] at hβ); (repeat (obtain ⟨⟨_, _⟩, hβ⟩ := hβ)); (try (have hbis := apart_is (by assumption) hβ; obtain ⟨_, _⟩ := hbis))) | ((first | refine appD_tslK (.inr rfl) rfl ?_ ?_ ?_ ?_ ?_ ?_ | refine appV_tslK rfl ?_ ?_ ?_ ?_ ?_ ?_); (first | rfl | exact St.tip_same _ _ _ | simp only [↓R1, RR, seval, RQ, q0, q1, q2, q3, q4, q5, q6, q7, hw, hw2, hw3, hw4, hd, hd2, hd3, hd4, bne_self_eq_false, beq_self_eq_true]); (iterate 2 (first | omega | (simp only [RZ, cells_len, cP_len, cI_len]; first | done | omega) | rfl)); (unfold maxLen; omega); omega)) <;> (try simp only [↓R1, RR, seval, RQ, q0, q1, q2, q3, q4, q5, q6, q7, hw, hw2, hw3, hw4, hd, hd2, hd3, hd4, bne_self_eq_false, beq_self_eq_true])))
        refine loopV_for j (fun k => [(3, .bool true), (4, .sl false j (ls.map cM)), (6, .sl false j (a.map cM)), (8, .sl false j (a.map cM)), (10, .int .i64 (i : Nat)), (11, .int .i64 (cntS (ls.take k) x : Nat)), (12, .int .i64 (cntS (a.take k) x : Nat)), (13, .int .i64 (k : Nat))]) (fun _ => _) (fun _ => True) (by simp [subF, slot, wk_refl, cntS]) (St.le_refl _) trivial (fun k hk _ => ?_)
        by_cases hkl : k < j
        · have q3 : decide ((k : Int) < (j : Int)) = true := by rw [decide_eq_true_eq]; omega
          have hkl1 : k < ls.length := by omega
          have hka : k < a.length := by omega
          have hd := cM_get ls hkl1
          have hd2 := cM_get a hka
          have hs1 := p20 ls[k] x (hok _ (List.getElem_mem hkl1)).2.2 hxok.2.2
          have hs2 := p20 a[k] x (hA _ (List.getElem_mem hka)).2.2 hxok.2.2
          have c1 := cnt_succ ls x hkl1
          have c2 := cnt_succ a x hka
          have l1 := cnt_le (ls.take k) x
          have l2 := cnt_le (a.take k) x
          rw [List.length_take] at l1 l2
          obtain ⟨u, hu⟩ : ∃ u, cntS (ls.take k) x = u := ⟨_, rfl⟩
          obtain ⟨v, hv⟩ : ∃ v, cntS (a.take k) x = v := ⟨_, rfl⟩
          have hw : IntKind.i64.wrap ((k : Int) + 1) = ((k + 1 : Nat) : Int) := by rw [wrap64 (by omega) (by omega)]; omega
          have hw2 : IntKind.i64.wrap ((u : Int) + 1) = ((u + 1 : Nat) : Int) := by rw [wrap64 (by omega) (by omega)]; omega
          have hw3 : IntKind.i64.wrap ((v : Int) + 1) = ((v + 1 : Nat) : Int) := by rw [wrap64 (by omega) (by omega)]; omega
          rw [hu] at c1 ⊢
          rw [hv] at c2 ⊢
          rw [c1, c2]
          simp only [cM] at hd hd2 hd3
          cases hb1 : decide (ls[k] = x) <;> cases hb2 : decide (a[k] = x)
          all_goals
            rw [hb1] at hs1
            rw [hb2] at hs2
            simp only [q3, ↓R1, RR, seval, RQ, q0, q1, q2, q3, q4, q5, q6, q7, hw, hw2, hw3, hw4, hd, hd2, hd3, hd4, bne_self_eq_false, beq_self_eq_true]
            repeat' (first | (with_reducible rw [allocV_eq]) | (with_reducible refine And.intro ?_ ?_; focus (intros; (repeat' (with_reducible apply And.intro)) <;> first | omega | (simp only [RZ, cells_len, cP_len, cI_len]; omega))) | (with_reducible apply And.intro) | ((first | (refine gdV_split (fun hc => ?_) (fun hc => ?_) <;> (try simp only [hc, ↓R1, RR, seval, RQ, q0, q1, q2, q3, q4, q5, q6, q7, hw, hw2, hw3, hw4, hd, hd2, hd3, hd4, bne_self_eq_false, beq_self_eq_true])) | refine condV_split (fun hc => ?_) (fun hc => ?_) | (with_reducible intro β hβ; (try simp only [RB] at hβ); (repeat (obtain ⟨⟨_, _⟩, hβ⟩ := hβ)); (try (have hbis := apart_is (by assumption) hβ; obtain ⟨_, _⟩ := hbis))) | ((first | refine appD_tslK (.inr rfl) rfl ?_ ?_ ?_ ?_ ?_ ?_ | refine appV_tslK rfl ?_ ?_ ?_ ?_ ?_ ?_); (first | rfl | exact St.tip_same _ _ _ | simp only [↓R1, RR, seval, RQ, q0, q1, q2, q3, q4, q5, q6, q7, hw, hw2, hw3, hw4, hd, hd2, hd3, hd4, bne_self_eq_false, beq_self_eq_true]); (iterate 2 (first | omega | (simp only [RZ, cells_len, cP_len, cI_len]; first | done | omega) | rfl)); (unfold maxLen; omega); omega) | refine callDV_pu (hs1) (wkL_refl _) ?_ | refine callDV_pu (hs2) (wkL_refl _) ?_) <;> (try simp only [↓R1, RR, seval, RQ, q0, q1, q2, q3, q4, q5, q6, q7, hw, hw2, hw3, hw4, hd, hd2, hd3, hd4, bne_self_eq_false, beq_self_eq_true])))
            · simp [subF, slot, wk_refl]
            · exact St.le_refl _
        · have hke : k = j := by omega
          subst hke
          have q3 : decide ((k : Int) < (k : Int)) = false := by simp
          have e1 : ls.take k = ls := List.take_of_length_le (by omega)
          have e2 : a.take k = a := List.take_of_length_le (by omega)
          have e3 := cnt_perm hperm x
          have e4 := cnt_pos hxa
          have e5 := cnt_le a x
          rw [e1, e2, ← e3]
          obtain ⟨u, hu⟩ : ∃ u, cntS a x = u := ⟨_, rfl⟩
          rw [hu] at e4 e5 ⊢
          have q4 : ((u : Int) == 0) = false := by rw [beq_eq_false_iff_ne]; omega
          have hs1 := p20 x x hxok.2.2 hxok.2.2
          rw [decide_eq_true rfl] at hs1
          simp only [cM] at hd3
          by_cases hi0 : i = 0
          · have q5 : ((i : Int) == 0) = true := by rw [beq_iff_eq]; omega
            have hw : IntKind.i64.wrap ((i : Int) + 1) = ((i + 1 : Nat) : Int) := by rw [wrap64 (by omega) (by omega)]; omega
            simp only [q3, ↓R1, RR, seval, RQ, q0, q1, q2, q3, q4, q5, q6, q7, hw, hw2, hw3, hw4, hd, hd2, hd3, hd4, bne_self_eq_false, beq_self_eq_true]
            repeat' (first | (with_reducible rw [allocV_eq]) | (with_reducible refine And.intro ?_ ?_; focus (intros; (repeat' (with_reducible apply And.intro)) <;> first | omega | (simp only [RZ, cells_len, cP_len, cI_len]; omega))) | (with_reducible apply And.intro) | ((first | (refine gdV_split (fun hc => ?_) (fun hc => ?_) <;> (try simp only [hc, ↓R1, RR, seval, RQ, q0, q1, q2, q3, q4, q5, q6, q7, hw, hw2, hw3, hw4, hd, hd2, hd3, hd4, bne_self_eq_false, beq_self_eq_true])) | refine condV_split (fun hc => ?_) (fun hc => ?_) | (with_reducible intro β hβ; (try simp only [RB] at hβ); (repeat (obtain ⟨⟨_, _⟩, hβ⟩ := hβ)); (try (have hbis := apart_is (by assumption) hβ; obtain ⟨_, _⟩ := hbis))) | ((first | refine appD_tslK (.inr rfl) rfl ?_ ?_ ?_ ?_ ?_ ?_ | refine appV_tslK rfl ?_ ?_ ?_ ?_ ?_ ?_); (first | rfl | exact St.tip_same _ _ _ | simp only [↓R1, RR, seval, RQ, q0, q1, q2, q3, q4, q5, q6, q7, hw, hw2, hw3, hw4, hd, hd2, hd3, hd4, bne_self_eq_false, beq_self_eq_true]); (iterate 2 (first | omega | (simp only [RZ, cells_len, cP_len, cI_len]; first | done | omega) | rfl)); (unfold maxLen; omega); omega) | (refine callGV_pu (fun hgv => ⟨?_, (hs1), wkL_refl _⟩) ?_; (first | trivial | (focus (simp only [↓R1, RR, seval, RQ, q0, q1, q2, q3, q4, q5, q6, q7, hw, hw2, hw3, hw4, hd, hd2, hd3, hd4, bne_self_eq_false, beq_self_eq_true]; done)))) | refine callDV_pu (hs1) (wkL_refl _) ?_ | refine Pt (hs1) ?_ | refine Ct (hs1) ?_) <;> (try simp only [↓R1, RR, seval, RQ, q0, q1, q2, q3, q4, q5, q6, q7, hw, hw2, hw3, hw4, hd, hd2, hd3, hd4, bne_self_eq_false, beq_self_eq_true])))
            · simp [subF, slot, wk_refl]
            · exact St.le_refl _
          · have q5 : ((i : Int) == 0) = false := by rw [beq_eq_false_iff_ne]; omega
            have hi1 : i - 1 < a.length := by omega
            obtain ⟨y, hy⟩ : ∃ y, a[i - 1] = y := ⟨_, rfl⟩
            have hya : y ∈ a := by rw [← hy]; exact List.getElem_mem hi1
            have hyok := hA y hya
            have hd := cM_get a hi1
            rw [hy] at hd
            have hle : cmpM y x ≤ 0 := by
              have := List.pairwise_iff_getElem.1 hord (i - 1) i (by omega) (by omega) (by omega)
              rw [hx, hy] at this
              exact this
            have hlast := cmpM_last hle
            have hcmp := p24 y x hyok.2.2 hxok.2.2
            have hcE : cmpE y x = 0 := by unfold cmpE; rw [hyok.1, hxok.1]; rfl
            have hcX : cmpX y x = cmpM y x := by unfold cmpX; rw [hcE]; rfl
            rw [hcE, hcX] at hcmp
            have q6 : decide (0 < cmpM y x) = false := by rw [decide_eq_false_iff_not]; omega
            have hly := hyok.2.1
            have hlx := hxok.2.1
            have hly2 := hyok.2.2
            have hlx2 := hxok.2.2
            have hyl : y.length - 1 < y.length := by omega
            have hxl : x.length - 1 < x.length := by omega
            have q7 : decide ((x[x.length - 1]).p < (y[y.length - 1]).p) = false := by rw [← lastP_at hxl, ← lastP_at hyl, decide_eq_false_iff_not]; omega
            have hd2 := cP_get y hyl
            have hd4 := cP_get x hxl
            have hcy := cP_len y
            have hcx := cP_len x
            have hw : IntKind.i64.wrap ((i : Int) + 1) = ((i + 1 : Nat) : Int) := by rw [wrap64 (by omega) (by omega)]; omega
            have hw2 : IntKind.i64.wrap ((i : Int) - 1) = ((i - 1 : Nat) : Int) := by rw [wrap64 (by omega) (by omega)]; omega
            have hw3 : IntKind.i64.wrap ((y.length : Int) - 1) = ((y.length - 1 : Nat) : Int) := by rw [wrap64 (by omega) (by omega)]; omega
            have hw4 : IntKind.i64.wrap ((x.length : Int) - 1) = ((x.length - 1 : Nat) : Int) := by rw [wrap64 (by omega) (by omega)]; omega
            simp only [cM] at hd
            simp only [cP] at hd2 hd4
            simp only [q3, ↓R1, RR, seval, RQ, q0, q1, q2, q3, q4, q5, q6, q7, hw, hw2, hw3, hw4, hd, hd2, hd3, hd4, bne_self_eq_false, beq_self_eq_true]
            repeat' (first | (with_reducible rw [allocV_eq]) | (with_reducible refine And.intro ?_ ?_; focus (intros; (repeat' (with_reducible apply And.intro)) <;> first | omega | (simp only [RZ, cells_len, cP_len, cI_len]; omega))) | (with_reducible apply And.intro) | ((first | (refine gdV_split (fun hc => ?_) (fun hc => ?_) <;> (try simp only [hc, ↓R1, RR, seval, RQ, q0, q1, q2, q3, q4, q5, q6, q7, hw, hw2, hw3, hw4, hd, hd2, hd3, hd4, bne_self_eq_false, beq_self_eq_true])) | refine condV_split (fun hc => ?_) (fun hc => ?_) | (with_reducible intro β hβ; (try simp only [RB] at hβ); (repeat (obtain ⟨⟨_, _⟩, hβ⟩ := hβ)); (try (have hbis := apart_is (by assumption) hβ; obtain ⟨_, _⟩ := hbis))) | ((first | refine appD_tslK (.inr rfl) rfl ?_ ?_ ?_ ?_ ?_ ?_ | refine appV_tslK rfl ?_ ?_ ?_ ?_ ?_ ?_); (first | rfl | exact St.tip_same _ _ _ | simp only [↓R1, RR, seval, RQ, q0, q1, q2, q3, q4, q5, q6, q7, hw, hw2, hw3, hw4, hd, hd2, hd3, hd4, bne_self_eq_false, beq_self_eq_true]); (iterate 2 (first | omega | (simp only [RZ, cells_len, cP_len, cI_len]; first | done | omega) | rfl)); (unfold maxLen; omega); omega) | (refine callGV_pu (fun hgv => ⟨?_, (hs1), wkL_refl _⟩) ?_; (first | trivial | (focus (simp only [↓R1, RR, seval, RQ, q0, q1, q2, q3, q4, q5, q6, q7, hw, hw2, hw3, hw4, hd, hd2, hd3, hd4, bne_self_eq_false, beq_self_eq_true]; done)))) | refine callDV_pu (hs1) (wkL_refl _) ?_ | refine Pt (hs1) ?_ | refine Ct (hs1) ?_ | refine callDV_pu (hcmp) (wkL_refl _) ?_) <;> (try simp only [↓R1, RR, seval, RQ, q0, q1, q2, q3, q4, q5, q6, q7, hw, hw2, hw3, hw4, hd, hd2, hd3, hd4, bne_self_eq_false, beq_self_eq_true])))
            · simp [subF, slot, wk_refl]
            · exact St.le_refl _
      · have hie : i = j := by omega
        subst hie
        have q2 : decide ((i : Int) < (i : Int)) = false := by simp
        simp only [q2, ↓R1, RR, seval, RQ, q0, q1, q2, q3, q4, q5, q6, q7, hw, hw2, hw3, hw4, hd, hd2, hd3, hd4, bne_self_eq_false, beq_self_eq_true]
        repeat' (first | (with_reducible rw [allocV_eq]) | (with_reducible refine And.intro ?_ ?_; focus (intros; (repeat' (with_reducible apply And.intro)) <;> first | omega | (simp only [RZ, cells_len, cP_len, cI_len]; omega))) | (with_reducible apply And.intro) | ((first | (refine gdV_split (fun hc => ?_) (fun hc => ?_) <;> (try simp only [hc, ↓R1, RR, seval, RQ, q0, q1, q2, q3, q4, q5, q6, q7, hw, hw2, hw3, hw4, hd, hd2, hd3, hd4, bne_self_eq_false, beq_self_eq_true])) | refine condV_split (fun hc => ?_) (fun hc => ?_) | (with_reducible intro β hβ; (try simp only [RB] at hβ); (repeat (obtain ⟨⟨_, _⟩, hβ⟩ := hβ)); (try (have hbis := apart_is (by assumption) hβ; obtain ⟨_, _⟩ := hbis))) | ((first | refine appD_tslK (.inr rfl) rfl ?_ ?_ ?_ ?_ ?_ ?_ | refine appV_tslK rfl ?_ ?_ ?_ ?_ ?_ ?_); (first | rfl | exact St.tip_same _ _ _ | simp only [↓R1, RR, seval, RQ, q0, q1, q2, q3, q4, q5, q6, q7, hw, hw2, hw3, hw4, hd, hd2, hd3, hd4, bne_self_eq_false, beq_self_eq_true]); (iterate 2 (first | omega | (simp only [RZ, cells_len, cP_len, cI_len]; first | done | omega) | rfl)); (unfold maxLen; omega); omega)) <;> (try simp only [↓R1, RR, seval, RQ, q0, q1, q2, q3, q4, q5, q6, q7, hw, hw2, hw3, hw4, hd, hd2, hd3, hd4, bne_self_eq_false, beq_self_eq_true])))
        (refine endP_pu (by simp) (by first | (simp [rvsS, rvS]; done) | (simp only [rvsS, rvS, ↓R1, RR, seval, RQ, q0, q1, q2, q3, q4, q5, q6, q7, hw, hw2, hw3, hw4, hd, hd2, hd3, hd4, bne_self_eq_false, beq_self_eq_true]; try simp)) (wk_of_eq ?_) (by (repeat (first | exact St.le_refl _ | (refine St.le_new ?_ (by assumption)) | (refine St.le_newT ?_ (by assumption))))))
        (simp only [resAV, rvV, List.map_cons, List.map_nil, ↓R1, RR, seval, RQ, q0, q1, q2, q3, q4, q5, q6, q7, hw, hw2, hw3, hw4, hd, hd2, hd3, hd4, bne_self_eq_false, beq_self_eq_true])
end Go.Proofs.YtncadbcjikekhaaGreatDoor
namespace Go.Proofs.YtncadbcjikekhaaGreatDoor
open Go.Abs
set_option linter.all false
theorem has_i64 (l : List AV) (h : (TD.int .i64).Has l) : ∃ y, l = cI y ∧ I64 y := by
  obtain ⟨a, rfl, h1⟩ := h
  exact ⟨a, by simp [cI], by simpa [I64, Lit.wf, IntKind.min, IntKind.max, IntKind.bits, IntKind.signed] using h1⟩
end Go.Proofs.YtncadbcjikekhaaGreatDoor
namespace Go.Proofs.YtncadbcjikekhaaGreatDoor
open Go.Abs
set_option linter.all false
theorem arg_MatchSorted (ns : List Int) (hr : ∀ x ∈ ns, I64 x) : PuG Tryz.prog gl3 8 [.sl false ns.length (ns.flatMap cI)] (.bool true) := law_MatchSorted ns hr
end Go.Proofs.YtncadbcjikekhaaGreatDoor
