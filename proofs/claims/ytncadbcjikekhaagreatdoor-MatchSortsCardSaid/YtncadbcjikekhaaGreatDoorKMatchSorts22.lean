/- Part 22 of the proof of MatchSorts: an abstract semantics that is proved sound for the model, contracts of functions in it, and plain facts (S16 S14). No condition. -/
import Derived.Test.YtncadbcjikekhaaGreatDoorKMatchSorts21
set_option linter.all false
namespace Go.Proofs.YtncadbcjikekhaaGreatDoor
open Go.Abs
set_option linter.all false
set_option maxRecDepth 100000
set_option maxHeartbeats 4000000 in
theorem rsort30 (ls : List (List Pl)) (hl : ls.length < 40) (hk : ∀ l ∈ ls, l.length ≤ 1000000) : Pu Tryz.prog 23 [.sl false ls.length (ls.map cM)] (sortV ls) := by
  obtain ⟨j0, hj0, hgood, hend⟩ := badS_at ls
  have q0 : True := trivial
  have q1 : True := trivial
  have q2 : True := trivial
  have hw : True := trivial
  have hd : True := trivial
  have hd2 : True := trivial
  have hw2 : True := trivial
  have hw3 : True := trivial
  (refine Pu_intro c23 b23 (Nat.le_of_ble_eq_true rfl) fun σ => ?_; simp only [c23, ↓R1, RR, seval, RQ, q0, q1, q2, hw, hw2, hw3, hd, hd2])
  repeat' (first | (with_reducible rw [allocV_eq]) | (with_reducible refine And.intro ?_ ?_; focus (intros; (repeat' (with_reducible apply And.intro)) <;> first | omega | (simp only [RZ, cells_len, cP_len, List.length_replicate]; omega))) | (with_reducible apply And.intro) | ((first | (refine gdV_split (fun hc => ?_) (fun hc => ?_) <;> (try simp only [hc, ↓R1, RR, seval, RQ, q0, q1, q2, hw, hw2, hw3, hd, hd2])) | refine condV_split (fun hc => ?_) (fun hc => ?_) | (with_reducible intro β hβ; (try simp only [RB] at hβ); (repeat (obtain ⟨⟨_, _⟩, hβ⟩ := hβ)); (try (have hbis := apart_is (by assumption) hβ; obtain ⟨_, _⟩ := hbis)))) <;> (try simp only [↓R1, RR, seval, RQ, q0, q1, q2, hw, hw2, hw3, hd, hd2])))
  refine loopV_st (α := Nat × Nat × Nat) (fun a => [(0, .sl false ls.length (ls.map cM)), (4, outV a.1 a.2.1), (5, .int .i64 (a.1 : Nat))]) (fun a => outS σ ls a.1 a.2.1 a.2.2)
    (fun a => a.1 ≤ j0 ∧ (a.1 ≠ 0 → σ.box a.2.1 = none)) (fun a => ls.length - a.1) (0, 0, 0) (by simp [subF, slot, wk_refl, outV]) (St.le_refl _) ⟨by simp, by simp⟩ (fun a ha => ?_)
  obtain ⟨k, b4, j⟩ := a
  obtain ⟨h1, h2⟩ := ha
  simp only at h1 h2 ⊢
  by_cases hltj : k < j0
  · have hlt : k < ls.length := by omega
    have q0 : decide ((k : Int) < (ls.length : Int)) = true := by rw [decide_eq_true_eq]; omega
    have hd := cM_get ls hlt
    have hw : IntKind.i64.wrap ((k : Int) + 1) = ((k + 1 : Nat) : Int) := by rw [wrap64 (by omega) (by omega)]; omega
    obtain ⟨m, hmk⟩ : ∃ m, ls[k] = m := ⟨_, rfl⟩
    have hmm : m ∈ ls := by rw [← hmk]; exact List.getElem_mem hlt
    rw [hmk] at hd
    have hC := p32 m (hk m hmm)
    have hm0 := hgood k hlt hltj
    rw [hmk] at hm0
    rw [hm0] at hC
    have hcl := p64 m (hk m hmm)
    simp only [cM] at hd
    rcases Nat.eq_zero_or_pos k with h0 | h0
    · rw [outV_0 h0, outS_0 h0]
      simp only [q0, ↓R1, RR, seval, RQ, q0, q1, q2, hw, hw2, hw3, hd, hd2]
      repeat' (first | (with_reducible rw [allocV_eq]) | (with_reducible refine And.intro ?_ ?_; focus (intros; (repeat' (with_reducible apply And.intro)) <;> first | omega | (simp only [RZ, cells_len, cP_len, List.length_replicate]; omega))) | (with_reducible apply And.intro) | ((first | (refine gdV_split (fun hc => ?_) (fun hc => ?_) <;> (try simp only [hc, ↓R1, RR, seval, RQ, q0, q1, q2, hw, hw2, hw3, hd, hd2])) | refine condV_split (fun hc => ?_) (fun hc => ?_) | (with_reducible intro β hβ; (try simp only [RB] at hβ); (repeat (obtain ⟨⟨_, _⟩, hβ⟩ := hβ)); (try (have hbis := apart_is (by assumption) hβ; obtain ⟨_, _⟩ := hbis))) | refine Pt (hC) ?_ | refine Ct (hC) ?_ | refine Pt (hcl) ?_ | refine Ct (hcl) ?_ | (refine appRV_nils rfl (by decide) rfl (by unfold maxLen; omega) (by omega) (fun γ j2 hγ => ?_))) <;> (try simp only [↓R1, RR, seval, RQ, q0, q1, q2, hw, hw2, hw3, hd, hd2])))
      refine ⟨(k + 1, γ, j2), ⟨by simp only; omega, fun _ => hγ⟩, by subst h0; simp [subF, slot, wk_refl, outV], ?_, by simp only; omega⟩
      have e1 : cells cM (ls.take (k + 1)) (List.replicate j2 .junk) = AV.sl false m.length (List.flatMap cP m) :: List.replicate j2 AV.junk := by
        subst h0
        rw [List.take_succ_eq_append_getElem hlt, hmk]; rfl
      rw [outS_1 (by omega), e1]
      exact St.le_refl _
    · have hb := h2 (by omega)
      rw [outV_1 h0, outS_1 h0]
      simp only [q0, ↓R1, RR, seval, RQ, q0, q1, q2, hw, hw2, hw3, hd, hd2]
      repeat' (first | (with_reducible rw [allocV_eq]) | (with_reducible refine And.intro ?_ ?_; focus (intros; (repeat' (with_reducible apply And.intro)) <;> first | omega | (simp only [RZ, cells_len, cP_len, List.length_replicate]; omega))) | (with_reducible apply And.intro) | ((first | (refine gdV_split (fun hc => ?_) (fun hc => ?_) <;> (try simp only [hc, ↓R1, RR, seval, RQ, q0, q1, q2, hw, hw2, hw3, hd, hd2])) | refine condV_split (fun hc => ?_) (fun hc => ?_) | (with_reducible intro β hβ; (try simp only [RB] at hβ); (repeat (obtain ⟨⟨_, _⟩, hβ⟩ := hβ)); (try (have hbis := apart_is (by assumption) hβ; obtain ⟨_, _⟩ := hbis))) | refine Pt (hC) ?_ | refine Ct (hC) ?_ | refine Pt (hcl) ?_ | refine Ct (hcl) ?_ | (refine appRV_row rfl (by simp only [↓R1, RR, seval, RQ, q0, q1, q2, hw, hw2, hw3, hd, hd2]; rfl) (by decide) (by rw [cells_len, List.length_take]; omega) rfl (by unfold maxLen; omega) (by omega) (fun γ j2 hγ => ?_))) <;> (try simp only [↓R1, RR, seval, RQ, q0, q1, q2, hw, hw2, hw3, hd, hd2])))
      have hle := le_drop1 (c := cells cM (ls.take k) (List.replicate j .junk)) hb
      refine ⟨(k + 1, γ, j2), ⟨by simp only; omega, fun _ => none_of_le hle hγ⟩, by simp [subF, slot, wk_refl, outV], ?_, by simp only; omega⟩
      have e1 : cells cM (ls.take (k + 1)) (List.replicate j2 .junk) = List.take (k * 1) (cells cM (ls.take k) (List.replicate j .junk)) ++ [AV.sl false m.length (List.flatMap cP m)] ++ List.replicate j2 AV.junk := by
        rw [cells_take (by rw [List.length_take]; omega), List.take_succ_eq_append_getElem hlt, hmk]
        simp [cells, cM]
      rw [outS_1 (by omega), e1]
      exact St.le_cong _ _ hle
  rcases hend with ⟨hje, hbad⟩ | ⟨hlt, hne, hbad⟩
  · have hke : k = ls.length := by omega
    subst hke
    have hOk : ∀ l ∈ ls, OkM l := fun l hl => by
      obtain ⟨i, hi, rfl⟩ := List.getElem_of_mem hl
      exact ⟨checkS_ok (hgood i hi (by omega)), hk _ hl⟩
    rw [show sortV ls = .tup [.sl false ls.length ((isort cmpM ls).map cM), .int .i64 0] from if_pos hbad]
    have q0 : decide ((ls.length : Int) < (ls.length : Int)) = false := by simp
    rcases Nat.eq_zero_or_pos ls.length with h0 | h0
    · have hnil : ls = [] := List.eq_nil_of_length_eq_zero h0
      rw [outV_0 h0, outS_0 h0]
      simp only [q0, ↓R1, RR, seval, RQ, q0, q1, q2, hw, hw2, hw3, hd, hd2]
      repeat' (first | (with_reducible rw [allocV_eq]) | (with_reducible refine And.intro ?_ ?_; focus (intros; (repeat' (with_reducible apply And.intro)) <;> first | omega | (simp only [RZ, cells_len, cP_len, List.length_replicate]; omega))) | (with_reducible apply And.intro) | ((first | (refine gdV_split (fun hc => ?_) (fun hc => ?_) <;> (try simp only [hc, ↓R1, RR, seval, RQ, q0, q1, q2, hw, hw2, hw3, hd, hd2])) | refine condV_split (fun hc => ?_) (fun hc => ?_) | (with_reducible intro β hβ; (try simp only [RB] at hβ); (repeat (obtain ⟨⟨_, _⟩, hβ⟩ := hβ)); (try (have hbis := apart_is (by assumption) hβ; obtain ⟨_, _⟩ := hbis)))) <;> (try simp only [↓R1, RR, seval, RQ, q0, q1, q2, hw, hw2, hw3, hd, hd2])))
      refine loopV_st (α := Unit) (fun _ => [(4, .nils), (7, .int .i64 1)]) (fun _ => σ) (fun _ => True) (fun _ => 0) () (by simp [subF, slot, wk_refl]) (St.le_refl _) trivial (fun _ _ => ?_)
      simp only [↓R1, RR, seval, RQ, q0, q1, q2, hw, hw2, hw3, hd, hd2]
      repeat' (first | (with_reducible rw [allocV_eq]) | (with_reducible refine And.intro ?_ ?_; focus (intros; (repeat' (with_reducible apply And.intro)) <;> first | omega | (simp only [RZ, cells_len, cP_len, List.length_replicate]; omega))) | (with_reducible apply And.intro) | ((first | (refine gdV_split (fun hc => ?_) (fun hc => ?_) <;> (try simp only [hc, ↓R1, RR, seval, RQ, q0, q1, q2, hw, hw2, hw3, hd, hd2])) | refine condV_split (fun hc => ?_) (fun hc => ?_) | (with_reducible intro β hβ; (try simp only [RB] at hβ); (repeat (obtain ⟨⟨_, _⟩, hβ⟩ := hβ)); (try (have hbis := apart_is (by assumption) hβ; obtain ⟨_, _⟩ := hbis)))) <;> (try simp only [↓R1, RR, seval, RQ, q0, q1, q2, hw, hw2, hw3, hd, hd2])))
      rw [aC_frz, show frzS 4 1 _ _ = none from rfl, frzV_none]
      simp only [↓R1, RR, seval, RQ, q0, q1, q2, hw, hw2, hw3, hd, hd2]
      repeat' (first | (with_reducible rw [allocV_eq]) | (with_reducible refine And.intro ?_ ?_; focus (intros; (repeat' (with_reducible apply And.intro)) <;> first | omega | (simp only [RZ, cells_len, cP_len, List.length_replicate]; omega))) | (with_reducible apply And.intro) | ((first | (refine gdV_split (fun hc => ?_) (fun hc => ?_) <;> (try simp only [hc, ↓R1, RR, seval, RQ, q0, q1, q2, hw, hw2, hw3, hd, hd2])) | refine condV_split (fun hc => ?_) (fun hc => ?_) | (with_reducible intro β hβ; (try simp only [RB] at hβ); (repeat (obtain ⟨⟨_, _⟩, hβ⟩ := hβ)); (try (have hbis := apart_is (by assumption) hβ; obtain ⟨_, _⟩ := hbis)))) <;> (try simp only [↓R1, RR, seval, RQ, q0, q1, q2, hw, hw2, hw3, hd, hd2])))
      (refine endP_pu (by simp) (by first | (simp [rvsS, rvS]; done) | (simp only [rvsS, rvS, ↓R1, RR, seval, RQ, q0, q1, q2, hw, hw2, hw3, hd, hd2]; try simp)) ?_ (by (repeat (first | exact St.le_refl _ | (refine St.le_new ?_ (by assumption)) | (refine St.le_newT ?_ (by assumption))))))
      simp only [resAV, rvV, List.map_cons, List.map_nil, ↓R1, RR, seval, RQ, q0, q1, q2, hw, hw2, hw3, hd, hd2]
      rw [hnil]
      (repeat' (first | exact wk_refl _ | exact wk_nils | exact wk_tsl _ _ _ | exact wk_full _ _ | exact wkL.nil | exact wkL_refl _ | refine wk_tup ?_ | refine wk_agg ?_ | refine wkL.cons ?_ ?_))
    · have hb := h2 (by omega)
      rw [outV_1 h0, outS_1 h0, List.take_length]
      obtain ⟨J, hJ⟩ : ∃ J, List.replicate j AV.junk = J := ⟨_, rfl⟩
      rw [hJ]
      obtain ⟨n, hn⟩ : ∃ n, ls.length = n := ⟨_, rfl⟩
      obtain ⟨R, hR⟩ : ∃ R, isort cmpM ls = R := ⟨_, rfl⟩
      have hRl : R.length = n := by rw [← hR, isort_len, hn]
      obtain ⟨m0, mid, hls⟩ : ∃ m0 mid, ls = m0 :: mid := by
        cases ls with
        | nil => simp at h0
        | cons a b => exact ⟨a, b, rfl⟩
      have hR' : mid.foldl (insR cmpM) [m0] = R := by rw [← hR, hls]; rfl
      have hlen : mid.length + 1 = n := by rw [← hn, hls]; rfl
      rw [hn] at q0 hl ⊢
      rw [hR]
      simp only [q0, ↓R1, RR, seval, RQ, q0, q1, q2, hw, hw2, hw3, hd, hd2]
      repeat' (first | (with_reducible rw [allocV_eq]) | (with_reducible refine And.intro ?_ ?_; focus (intros; (repeat' (with_reducible apply And.intro)) <;> first | omega | (simp only [RZ, cells_len, cP_len, List.length_replicate]; omega))) | (with_reducible apply And.intro) | ((first | (refine gdV_split (fun hc => ?_) (fun hc => ?_) <;> (try simp only [hc, ↓R1, RR, seval, RQ, q0, q1, q2, hw, hw2, hw3, hd, hd2])) | refine condV_split (fun hc => ?_) (fun hc => ?_) | (with_reducible intro β hβ; (try simp only [RB] at hβ); (repeat (obtain ⟨⟨_, _⟩, hβ⟩ := hβ)); (try (have hbis := apart_is (by assumption) hβ; obtain ⟨_, _⟩ := hbis)))) <;> (try simp only [↓R1, RR, seval, RQ, q0, q1, q2, hw, hw2, hw3, hd, hd2])))
      refine loopV_st (α := List (List Pl) × List (List Pl)) (fun a => [(4, .row b4 30 1 n), (7, .int .i64 (a.1.length : Nat))]) (fun a => σ.setBox b4 (cells cM (a.1 ++ a.2) J))
        (fun a => a.2.foldl (insR cmpM) a.1 = R ∧ a.1.length + a.2.length = n ∧ (∀ l ∈ a.1, OkM l) ∧ ∀ l ∈ a.2, OkM l) (fun a => a.2.length) ([m0], mid) (by simp [subF, slot, wk_refl]) (by rw [hls]; exact St.le_refl _) ⟨hR', by simp; omega, by intro l hl; exact hOk l (by simp at hl; simp [hls, hl]), by intro l hl; exact hOk l (by simp [hls, hl])⟩ (fun a ha => ?_)
      obtain ⟨D, T⟩ := a
      obtain ⟨h1, h2, h3, h4⟩ := ha
      simp only at h1 h2 h3 h4 ⊢
      cases T with
      | nil =>
        have hDR : D ++ [] = R := by rw [List.append_nil]; exact h1
        have hDl : D.length = n := by simpa using h2
        rw [hDR, hDl]
        simp only [q0, ↓R1, RR, seval, RQ, q0, q1, q2, hw, hw2, hw3, hd, hd2]
        repeat' (first | (with_reducible rw [allocV_eq]) | (with_reducible refine And.intro ?_ ?_; focus (intros; (repeat' (with_reducible apply And.intro)) <;> first | omega | (simp only [RZ, cells_len, cP_len, List.length_replicate]; omega))) | (with_reducible apply And.intro) | ((first | (refine gdV_split (fun hc => ?_) (fun hc => ?_) <;> (try simp only [hc, ↓R1, RR, seval, RQ, q0, q1, q2, hw, hw2, hw3, hd, hd2])) | refine condV_split (fun hc => ?_) (fun hc => ?_) | (with_reducible intro β hβ; (try simp only [RB] at hβ); (repeat (obtain ⟨⟨_, _⟩, hβ⟩ := hβ)); (try (have hbis := apart_is (by assumption) hβ; obtain ⟨_, _⟩ := hbis)))) <;> (try simp only [↓R1, RR, seval, RQ, q0, q1, q2, hw, hw2, hw3, hd, hd2])))
        rw [aC_frz, frzS_row (n := n) (cs := cells cM R J) rfl (by simp [St.setBox, upd]) (by rw [cells_len]; omega), frzV_some]
        simp only [↓R1, RR, seval, RQ, q0, q1, q2, hw, hw2, hw3, hd, hd2]
        repeat' (first | (with_reducible rw [allocV_eq]) | (with_reducible refine And.intro ?_ ?_; focus (intros; (repeat' (with_reducible apply And.intro)) <;> first | omega | (simp only [RZ, cells_len, cP_len, List.length_replicate]; omega))) | (with_reducible apply And.intro) | ((first | (refine gdV_split (fun hc => ?_) (fun hc => ?_) <;> (try simp only [hc, ↓R1, RR, seval, RQ, q0, q1, q2, hw, hw2, hw3, hd, hd2])) | refine condV_split (fun hc => ?_) (fun hc => ?_) | (with_reducible intro β hβ; (try simp only [RB] at hβ); (repeat (obtain ⟨⟨_, _⟩, hβ⟩ := hβ)); (try (have hbis := apart_is (by assumption) hβ; obtain ⟨_, _⟩ := hbis)))) <;> (try simp only [↓R1, RR, seval, RQ, q0, q1, q2, hw, hw2, hw3, hd, hd2])))
        refine endP_pu (by simp) (by first | (simp [rvsS, rvS]; done) | (simp only [rvsS, rvS, ↓R1, RR, seval, RQ, q0, q1, q2, hw, hw2, hw3, hd, hd2]; try simp)) (wk_of_eq ?_) (le_drop1 hb)
        (simp only [resAV, rvV, List.map_cons, List.map_nil, ↓R1, RR, seval, RQ, q0, q1, q2, hw, hw2, hw3, hd, hd2])
        rw [cells_take hRl]
      | cons x T =>
        simp only [List.length_cons] at h2
        have q0 : decide ((D.length : Int) < (n : Int)) = true := by rw [decide_eq_true_eq]; omega
        simp only [q0, ↓R1, RR, seval, RQ, q0, q1, q2, hw, hw2, hw3, hd, hd2]
        repeat' (first | (with_reducible rw [allocV_eq]) | (with_reducible refine And.intro ?_ ?_; focus (intros; (repeat' (with_reducible apply And.intro)) <;> first | omega | (simp only [RZ, cells_len, cP_len, List.length_replicate]; omega))) | (with_reducible apply And.intro) | ((first | (refine gdV_split (fun hc => ?_) (fun hc => ?_) <;> (try simp only [hc, ↓R1, RR, seval, RQ, q0, q1, q2, hw, hw2, hw3, hd, hd2])) | refine condV_split (fun hc => ?_) (fun hc => ?_) | (with_reducible intro β hβ; (try simp only [RB] at hβ); (repeat (obtain ⟨⟨_, _⟩, hβ⟩ := hβ)); (try (have hbis := apart_is (by assumption) hβ; obtain ⟨_, _⟩ := hbis)))) <;> (try simp only [↓R1, RR, seval, RQ, q0, q1, q2, hw, hw2, hw3, hd, hd2])))
        refine loopV_st (α := List (List Pl) × List (List Pl)) (fun a => [(4, .row b4 30 1 n), (7, .int .i64 (D.length : Nat)), (8, .int .i64 (a.1.length : Nat))]) (fun a => σ.setBox b4 (cells cM (a.1 ++ x :: (a.2 ++ T)) J))
          (fun a => insR cmpM D x = insR cmpM a.1 x ++ a.2 ∧ a.1.length + a.2.length = D.length ∧ (∀ l ∈ a.1, OkM l)) (fun a => a.1.length) (D, []) (by simp [subF, slot, wk_refl]) (by simp only [List.nil_append]; exact St.le_refl _) ⟨by simp, by simp, h3⟩ (fun a ha => ?_)
        obtain ⟨A, B⟩ := a
        obtain ⟨i1, i2, i3⟩ := ha
        simp only at i1 i2 i3 ⊢
        rcases List.eq_nil_or_concat A with rfl | ⟨A', y, rfl⟩
        · have q1 : decide ((0 : Int) < ((([] : List (List Pl)).length : Nat) : Int)) = false := by simp
          have hw3 : IntKind.i64.wrap ((D.length : Int) + 1) = (((x :: B).length : Nat) : Int) := by rw [wrap64 (by omega) (by omega)]; simp at i2 ⊢; omega
          simp only [q1, ↓R1, RR, seval, RQ, q0, q1, q2, hw, hw2, hw3, hd, hd2]
          repeat' (first | (with_reducible rw [allocV_eq]) | (with_reducible refine And.intro ?_ ?_; focus (intros; (repeat' (with_reducible apply And.intro)) <;> first | omega | (simp only [RZ, cells_len, cP_len, List.length_replicate]; omega))) | (with_reducible apply And.intro) | ((first | (refine gdV_split (fun hc => ?_) (fun hc => ?_) <;> (try simp only [hc, ↓R1, RR, seval, RQ, q0, q1, q2, hw, hw2, hw3, hd, hd2])) | refine condV_split (fun hc => ?_) (fun hc => ?_) | (with_reducible intro β hβ; (try simp only [RB] at hβ); (repeat (obtain ⟨⟨_, _⟩, hβ⟩ := hβ)); (try (have hbis := apart_is (by assumption) hβ; obtain ⟨_, _⟩ := hbis))) | (refine callGV_not ?_)) <;> (try simp only [↓R1, RR, seval, RQ, q0, q1, q2, hw, hw2, hw3, hd, hd2])))
          have e1 : insR cmpM D x = x :: B := by rw [i1]; rfl
          refine ⟨(x :: B, T), ⟨?_, ?_, ?_, fun l hl => h4 l (List.mem_cons_of_mem _ hl)⟩, by simp [subF, slot, wk_refl], le_set_eq (by simp), by simp⟩
          · have := h1; rw [List.foldl_cons, e1] at this; exact this
          · simp at i2 ⊢; omega
          · intro l hl
            have : l ∈ insR cmpM D x := by rw [e1]; exact hl
            have := (insR_perm cmpM D x).mem_iff.1 this
            rcases List.mem_append.1 this with h | h
            · exact h3 l h
            · exact h4 l (by simp at h; simp [h])
        · rw [List.concat_eq_append] at i1 i2 i3 ⊢
          simp only [List.length_append, List.length_cons, List.length_nil, Nat.zero_add] at i2
          have hAl : (A' ++ [y]).length = A'.length + 1 := by simp
          rw [hAl]
          have q1 : decide ((0 : Int) < ((A'.length + 1 : Nat) : Int)) = true := by rw [decide_eq_true_eq]; omega
          have hw2 : IntKind.i64.wrap (((A'.length + 1 : Nat) : Int) - 1) = ((A'.length : Nat) : Int) := by rw [wrap64 (by omega) (by omega)]; omega
          obtain ⟨Q, hQ⟩ : ∃ Q, B ++ T = Q := ⟨_, rfl⟩
          have hQl : Q.length = B.length + T.length := by rw [← hQ]; simp
          rw [hQ]
          have hd : List.take 1 (List.drop ((A'.length + 1) * 1) (cells cM ((A' ++ [y]) ++ x :: Q) J)) = [cM x] := cells_get cM (A' ++ [y]) x Q J _ (by simp)
          have hd2 : List.take 1 (List.drop (A'.length * 1) (cells cM ((A' ++ [y]) ++ x :: Q) J)) = [cM y] := by
            rw [show (A' ++ [y]) ++ x :: Q = A' ++ y :: (x :: Q) by simp]
            exact cells_get cM A' y (x :: Q) J _ (by simp)
          have hcl : (cells cM ((A' ++ [y]) ++ x :: Q) J).length = n + J.length := by rw [cells_len]; simp; omega
          have hcmp := p65 x y (h4 x (by simp)).1 (i3 y (by simp)).1 (h4 x (by simp)).2 (i3 y (by simp)).2
          by_cases hlt : cmpM x y < 0
          · have q2 : decide (cmpM x y < 0) = true := decide_eq_true hlt
            simp only [q1, ↓R1, RR, seval, RQ, q0, q1, q2, hw, hw2, hw3, hd, hd2]
            repeat' (first | (with_reducible rw [allocV_eq]) | (with_reducible refine And.intro ?_ ?_; focus (intros; (repeat' (with_reducible apply And.intro)) <;> first | omega | (simp only [RZ, cells_len, cP_len, List.length_replicate]; omega))) | (with_reducible apply And.intro) | ((first | (refine gdV_split (fun hc => ?_) (fun hc => ?_) <;> (try simp only [hc, ↓R1, RR, seval, RQ, q0, q1, q2, hw, hw2, hw3, hd, hd2])) | refine condV_split (fun hc => ?_) (fun hc => ?_) | (with_reducible intro β hβ; (try simp only [RB] at hβ); (repeat (obtain ⟨⟨_, _⟩, hβ⟩ := hβ)); (try (have hbis := apart_is (by assumption) hβ; obtain ⟨_, _⟩ := hbis))) | refine Pt (hcmp) ?_ | refine Ct (hcmp) ?_ | (refine callGV_pu (fun hgv => ⟨?_, (hcmp), wkL_refl _⟩) ?_; (first | trivial | (focus (simp only [↓R1, RR, seval, RQ, q0, q1, q2, hw, hw2, hw3, hd, hd2]; done))))) <;> (try simp only [↓R1, RR, seval, RQ, q0, q1, q2, hw, hw2, hw3, hd, hd2])))
            refine ⟨(A', y :: B), ⟨?_, ?_, fun l hl => i3 l (by simp [hl])⟩, by simp [subF, slot, wk_refl], le_set_eq ?_, by simp⟩
            · rw [i1, insR_lt cmpM A' x y hlt]; simp
            · simp; omega
            · have s1 := cells_set cM (A' ++ [y]) x y Q J ((A'.length + 1) * 1) (by simp)
              rw [s1, show (A' ++ [y]) ++ y :: Q = A' ++ y :: (y :: Q) by simp]
              have s2 := cells_set cM A' y x (y :: Q) J (A'.length * 1) (by simp)
              rw [s2, ← hQ]; simp
          · have q2 : decide (cmpM x y < 0) = false := decide_eq_false hlt
            have hw3 : IntKind.i64.wrap ((D.length : Int) + 1) = (((A' ++ y :: x :: B).length : Nat) : Int) := by rw [wrap64 (by omega) (by omega)]; simp; omega
            simp only [q1, ↓R1, RR, seval, RQ, q0, q1, q2, hw, hw2, hw3, hd, hd2]
            repeat' (first | (with_reducible rw [allocV_eq]) | (with_reducible refine And.intro ?_ ?_; focus (intros; (repeat' (with_reducible apply And.intro)) <;> first | omega | (simp only [RZ, cells_len, cP_len, List.length_replicate]; omega))) | (with_reducible apply And.intro) | ((first | (refine gdV_split (fun hc => ?_) (fun hc => ?_) <;> (try simp only [hc, ↓R1, RR, seval, RQ, q0, q1, q2, hw, hw2, hw3, hd, hd2])) | refine condV_split (fun hc => ?_) (fun hc => ?_) | (with_reducible intro β hβ; (try simp only [RB] at hβ); (repeat (obtain ⟨⟨_, _⟩, hβ⟩ := hβ)); (try (have hbis := apart_is (by assumption) hβ; obtain ⟨_, _⟩ := hbis))) | refine Pt (hcmp) ?_ | refine Ct (hcmp) ?_ | (refine callGV_pu (fun hgv => ⟨?_, (hcmp), wkL_refl _⟩) ?_; (first | trivial | (focus (simp only [↓R1, RR, seval, RQ, q0, q1, q2, hw, hw2, hw3, hd, hd2]; done))))) <;> (try simp only [↓R1, RR, seval, RQ, q0, q1, q2, hw, hw2, hw3, hd, hd2])))
            have e1 : insR cmpM D x = A' ++ y :: x :: B := by rw [i1, insR_ge cmpM A' x y hlt]; simp
            refine ⟨(A' ++ y :: x :: B, T), ⟨?_, ?_, ?_, fun l hl => h4 l (List.mem_cons_of_mem _ hl)⟩, by simp [subF, slot, wk_refl], le_set_eq (by rw [← hQ]; simp), by simp⟩
            · have := h1; rw [List.foldl_cons, e1] at this; exact this
            · simp; omega
            · intro l hl
              have : l ∈ insR cmpM D x := by rw [e1]; exact hl
              have := (insR_perm cmpM D x).mem_iff.1 this
              rcases List.mem_append.1 this with h | h
              · exact h3 l h
              · exact h4 l (by simp at h; simp [h])
  · have hke : k = j0 := by omega
    subst hke
    rw [show sortV ls = .tup [.nils, .int .i64 (badS ls)] from if_neg (by rw [hbad]; exact hne), hbad]
    have q0 : decide ((k : Int) < (ls.length : Int)) = true := by rw [decide_eq_true_eq]; omega
    have hd := cM_get ls hlt
    obtain ⟨m, hmk⟩ : ∃ m, ls[k] = m := ⟨_, rfl⟩
    have hmm : m ∈ ls := by rw [← hmk]; exact List.getElem_mem hlt
    rw [hmk] at hd hne ⊢
    have hC := p32 m (hk m hmm)
    obtain ⟨e, he⟩ : ∃ e, checkS m = e := ⟨_, rfl⟩
    rw [he] at hne hC ⊢
    have q1 : (e != 0) = true := by rw [bne_iff_ne]; exact hne
    simp only [cM] at hd
    rcases Nat.eq_zero_or_pos k with h0 | h0
    · rw [outV_0 h0, outS_0 h0]
      simp only [q0, ↓R1, RR, seval, RQ, q0, q1, q2, hw, hw2, hw3, hd, hd2]
      repeat' (first | (with_reducible rw [allocV_eq]) | (with_reducible refine And.intro ?_ ?_; focus (intros; (repeat' (with_reducible apply And.intro)) <;> first | omega | (simp only [RZ, cells_len, cP_len, List.length_replicate]; omega))) | (with_reducible apply And.intro) | ((first | (refine gdV_split (fun hc => ?_) (fun hc => ?_) <;> (try simp only [hc, ↓R1, RR, seval, RQ, q0, q1, q2, hw, hw2, hw3, hd, hd2])) | refine condV_split (fun hc => ?_) (fun hc => ?_) | (with_reducible intro β hβ; (try simp only [RB] at hβ); (repeat (obtain ⟨⟨_, _⟩, hβ⟩ := hβ)); (try (have hbis := apart_is (by assumption) hβ; obtain ⟨_, _⟩ := hbis))) | refine Pt (hC) ?_ | refine Ct (hC) ?_) <;> (try simp only [↓R1, RR, seval, RQ, q0, q1, q2, hw, hw2, hw3, hd, hd2])))
      refine endP_pu (by simp) (by first | (simp [rvsS, rvS]; done) | (simp only [rvsS, rvS, ↓R1, RR, seval, RQ, q0, q1, q2, hw, hw2, hw3, hd, hd2]; try simp)) (wk_of_eq ?_) (St.le_refl _)
      (simp only [resAV, rvV, List.map_cons, List.map_nil, ↓R1, RR, seval, RQ, q0, q1, q2, hw, hw2, hw3, hd, hd2])
    · have hb := h2 (by omega)
      rw [outV_1 h0, outS_1 h0]
      simp only [q0, ↓R1, RR, seval, RQ, q0, q1, q2, hw, hw2, hw3, hd, hd2]
      repeat' (first | (with_reducible rw [allocV_eq]) | (with_reducible refine And.intro ?_ ?_; focus (intros; (repeat' (with_reducible apply And.intro)) <;> first | omega | (simp only [RZ, cells_len, cP_len, List.length_replicate]; omega))) | (with_reducible apply And.intro) | ((first | (refine gdV_split (fun hc => ?_) (fun hc => ?_) <;> (try simp only [hc, ↓R1, RR, seval, RQ, q0, q1, q2, hw, hw2, hw3, hd, hd2])) | refine condV_split (fun hc => ?_) (fun hc => ?_) | (with_reducible intro β hβ; (try simp only [RB] at hβ); (repeat (obtain ⟨⟨_, _⟩, hβ⟩ := hβ)); (try (have hbis := apart_is (by assumption) hβ; obtain ⟨_, _⟩ := hbis))) | refine Pt (hC) ?_ | refine Ct (hC) ?_) <;> (try simp only [↓R1, RR, seval, RQ, q0, q1, q2, hw, hw2, hw3, hd, hd2])))
      refine endP_pu (by simp) (by first | (simp [rvsS, rvS]; done) | (simp only [rvsS, rvS, ↓R1, RR, seval, RQ, q0, q1, q2, hw, hw2, hw3, hd, hd2]; try simp)) (wk_of_eq ?_) (St.le_new (St.le_refl _) hb)
      (simp only [resAV, rvV, List.map_cons, List.map_nil, ↓R1, RR, seval, RQ, q0, q1, q2, hw, hw2, hw3, hd, hd2])
end Go.Proofs.YtncadbcjikekhaaGreatDoor
namespace Go.Proofs.YtncadbcjikekhaaGreatDoor
open Go.Abs
set_option linter.all false
set_option maxRecDepth 100000
set_option maxHeartbeats 4000000 in
theorem p21 (ls : List (List Pl)) (hl : ls.length ≤ maxLen) : ∃ b, Pu Tryz.prog 21 [.sl false ls.length (ls.map cM)] (.bool b) ∧ (b = true → ls.length ≤ 30 ∧ ∀ l ∈ ls, l.length ≤ 14) := by
  unfold maxLen at hl
  by_cases hall : ∀ k (h : k < ls.length), k < 31 → ls[k].length ≤ 14
  · refine ⟨decide ((ls.length : Int) ≤ 30), ?_, fun hb => ?_⟩
    · have q0 : True := trivial
      have q1 : True := trivial
      have q2 : True := trivial
      have q3 : True := trivial
      have hw : True := trivial
      have hd : True := trivial
      (refine Pu_intro c21 b21 (Nat.le_of_ble_eq_true rfl) fun σ => ?_; simp only [c21, ↓R1, RR, seval, q0, q1, q2, q3, hw, hd])
      repeat' (first | (with_reducible rw [allocV_eq]) | (with_reducible refine And.intro ?_ ?_; focus (intros; (repeat' (with_reducible apply And.intro)) <;> first | omega | (simp only [RZ, cells_len, cP_len, List.length_replicate]; omega))) | (with_reducible apply And.intro) | ((first | (refine gdV_split (fun hc => ?_) (fun hc => ?_) <;> (try simp only [hc, ↓R1, RR, seval, q0, q1, q2, q3, hw, hd])) | refine condV_split (fun hc => ?_) (fun hc => ?_) | (with_reducible intro β hβ; (try simp only [RB] at hβ); (repeat (obtain ⟨⟨_, _⟩, hβ⟩ := hβ)); (try (have hbis := apart_is (by assumption) hβ; obtain ⟨_, _⟩ := hbis)))) <;> (try simp only [↓R1, RR, seval, q0, q1, q2, q3, hw, hd])))
      refine loopV_st (α := Nat) (fun k => [(0, .sl false ls.length (ls.map cM)), (3, .int .i64 (k : Nat))]) (fun _ => _) (fun k => k ≤ ls.length ∧ k ≤ 31) (fun k => ls.length - k) 0 (by simp [subF, slot, wk_refl]) (St.le_refl _) ⟨by simp, by simp⟩ (fun k hk => ?_)
      obtain ⟨h1, h2⟩ := hk
      by_cases hlt : k < ls.length
      · have q0 : decide ((k : Int) < (ls.length : Int)) = true := by rw [decide_eq_true_eq]; omega
        by_cases h31 : k < 31
        · have q1 : decide ((k : Int) < 31) = true := by rw [decide_eq_true_eq]; omega
          have hd := cM_get ls hlt
          have h14 := hall k hlt h31
          obtain ⟨m, hm⟩ : ∃ m, ls[k] = m := ⟨_, rfl⟩
          rw [hm] at hd h14
          have q2 : decide ((14 : Int) < (m.length : Int)) = false := by rw [decide_eq_false_iff_not]; omega
          have hw : IntKind.i64.wrap ((k : Int) + 1) = ((k + 1 : Nat) : Int) := by rw [wrap64 (by omega) (by omega)]; omega
          simp only [cM] at hd
          simp only [q0, ↓R1, RR, seval, q0, q1, q2, q3, hw, hd]
          repeat' (first | (with_reducible rw [allocV_eq]) | (with_reducible refine And.intro ?_ ?_; focus (intros; (repeat' (with_reducible apply And.intro)) <;> first | omega | (simp only [RZ, cells_len, cP_len, List.length_replicate]; omega))) | (with_reducible apply And.intro) | ((first | (refine gdV_split (fun hc => ?_) (fun hc => ?_) <;> (try simp only [hc, ↓R1, RR, seval, q0, q1, q2, q3, hw, hd])) | refine condV_split (fun hc => ?_) (fun hc => ?_) | (with_reducible intro β hβ; (try simp only [RB] at hβ); (repeat (obtain ⟨⟨_, _⟩, hβ⟩ := hβ)); (try (have hbis := apart_is (by assumption) hβ; obtain ⟨_, _⟩ := hbis)))) <;> (try simp only [↓R1, RR, seval, q0, q1, q2, q3, hw, hd])))
          refine ⟨k + 1, ⟨by omega, by omega⟩, by simp [subF, slot, wk_refl], St.le_refl _, by omega⟩
        · have q1 : decide ((k : Int) < 31) = false := by rw [decide_eq_false_iff_not]; omega
          simp only [q0, ↓R1, RR, seval, q0, q1, q2, q3, hw, hd]
          repeat' (first | (with_reducible rw [allocV_eq]) | (with_reducible refine And.intro ?_ ?_; focus (intros; (repeat' (with_reducible apply And.intro)) <;> first | omega | (simp only [RZ, cells_len, cP_len, List.length_replicate]; omega))) | (with_reducible apply And.intro) | ((first | (refine gdV_split (fun hc => ?_) (fun hc => ?_) <;> (try simp only [hc, ↓R1, RR, seval, q0, q1, q2, q3, hw, hd])) | refine condV_split (fun hc => ?_) (fun hc => ?_) | (with_reducible intro β hβ; (try simp only [RB] at hβ); (repeat (obtain ⟨⟨_, _⟩, hβ⟩ := hβ)); (try (have hbis := apart_is (by assumption) hβ; obtain ⟨_, _⟩ := hbis)))) <;> (try simp only [↓R1, RR, seval, q0, q1, q2, q3, hw, hd])))
          (refine endP_pu (by simp) (by first | (simp [rvsS, rvS]; done) | (simp only [rvsS, rvS, ↓R1, RR, seval, q0, q1, q2, q3, hw, hd]; try simp)) (wk_of_eq ?_) (by (repeat (first | exact St.le_refl _ | (refine St.le_new ?_ (by assumption)) | (refine St.le_newT ?_ (by assumption))))))
          (simp only [resAV, rvV, List.map_cons, List.map_nil, ↓R1, RR, seval, q0, q1, q2, q3, hw, hd])
      · have q0 : decide ((k : Int) < (ls.length : Int)) = false := by rw [decide_eq_false_iff_not]; omega
        simp only [q0, ↓R1, RR, seval, q0, q1, q2, q3, hw, hd]
        repeat' (first | (with_reducible rw [allocV_eq]) | (with_reducible refine And.intro ?_ ?_; focus (intros; (repeat' (with_reducible apply And.intro)) <;> first | omega | (simp only [RZ, cells_len, cP_len, List.length_replicate]; omega))) | (with_reducible apply And.intro) | ((first | (refine gdV_split (fun hc => ?_) (fun hc => ?_) <;> (try simp only [hc, ↓R1, RR, seval, q0, q1, q2, q3, hw, hd])) | refine condV_split (fun hc => ?_) (fun hc => ?_) | (with_reducible intro β hβ; (try simp only [RB] at hβ); (repeat (obtain ⟨⟨_, _⟩, hβ⟩ := hβ)); (try (have hbis := apart_is (by assumption) hβ; obtain ⟨_, _⟩ := hbis)))) <;> (try simp only [↓R1, RR, seval, q0, q1, q2, q3, hw, hd])))
        (refine endP_pu (by simp) (by first | (simp [rvsS, rvS]; done) | (simp only [rvsS, rvS, ↓R1, RR, seval, q0, q1, q2, q3, hw, hd]; try simp)) (wk_of_eq ?_) (by (repeat (first | exact St.le_refl _ | (refine St.le_new ?_ (by assumption)) | (refine St.le_newT ?_ (by assumption))))))
        (simp only [resAV, rvV, List.map_cons, List.map_nil, ↓R1, RR, seval, q0, q1, q2, q3, hw, hd])
    · rw [decide_eq_true_eq] at hb
      refine ⟨by omega, fun l hl => ?_⟩
      obtain ⟨i, hi, rfl⟩ := List.getElem_of_mem hl
      exact hall i hi (by omega)
  · refine ⟨false, ?_, fun hb => by cases hb⟩
    have q0 : True := trivial
    have q1 : True := trivial
    have q2 : True := trivial
    have q3 : True := trivial
    have hw : True := trivial
    have hd : True := trivial
    (refine Pu_intro c21 b21 (Nat.le_of_ble_eq_true rfl) fun σ => ?_; simp only [c21, ↓R1, RR, seval, q0, q1, q2, q3, hw, hd])
    repeat' (first | (with_reducible rw [allocV_eq]) | (with_reducible refine And.intro ?_ ?_; focus (intros; (repeat' (with_reducible apply And.intro)) <;> first | omega | (simp only [RZ, cells_len, cP_len, List.length_replicate]; omega))) | (with_reducible apply And.intro) | ((first | (refine gdV_split (fun hc => ?_) (fun hc => ?_) <;> (try simp only [hc, ↓R1, RR, seval, q0, q1, q2, q3, hw, hd])) | refine condV_split (fun hc => ?_) (fun hc => ?_) | (with_reducible intro β hβ; (try simp only [RB] at hβ); (repeat (obtain ⟨⟨_, _⟩, hβ⟩ := hβ)); (try (have hbis := apart_is (by assumption) hβ; obtain ⟨_, _⟩ := hbis)))) <;> (try simp only [↓R1, RR, seval, q0, q1, q2, q3, hw, hd])))
    refine loopV_st (α := Nat) (fun k => [(0, .sl false ls.length (ls.map cM)), (3, .int .i64 (k : Nat))]) (fun _ => _) (fun k => k ≤ ls.length ∧ k ≤ 31 ∧ ∀ i (h : i < ls.length), i < k → ls[i].length ≤ 14) (fun k => ls.length - k) 0 (by simp [subF, slot, wk_refl]) (St.le_refl _) ⟨by simp, by simp, fun i h h2 => by omega⟩ (fun k hk => ?_)
    obtain ⟨h1, h2, h3⟩ := hk
    by_cases hlt : k < ls.length ∧ k < 31
    · obtain ⟨hlt, h31⟩ := hlt
      have q0 : decide ((k : Int) < (ls.length : Int)) = true := by rw [decide_eq_true_eq]; omega
      have q1 : decide ((k : Int) < 31) = true := by rw [decide_eq_true_eq]; omega
      have hd := cM_get ls hlt
      obtain ⟨m, hm⟩ : ∃ m, ls[k] = m := ⟨_, rfl⟩
      rw [hm] at hd
      have hw : IntKind.i64.wrap ((k : Int) + 1) = ((k + 1 : Nat) : Int) := by rw [wrap64 (by omega) (by omega)]; omega
      simp only [cM] at hd
      by_cases h14 : m.length ≤ 14
      · have q2 : decide ((14 : Int) < (m.length : Int)) = false := by rw [decide_eq_false_iff_not]; omega
        simp only [q0, ↓R1, RR, seval, q0, q1, q2, q3, hw, hd]
        repeat' (first | (with_reducible rw [allocV_eq]) | (with_reducible refine And.intro ?_ ?_; focus (intros; (repeat' (with_reducible apply And.intro)) <;> first | omega | (simp only [RZ, cells_len, cP_len, List.length_replicate]; omega))) | (with_reducible apply And.intro) | ((first | (refine gdV_split (fun hc => ?_) (fun hc => ?_) <;> (try simp only [hc, ↓R1, RR, seval, q0, q1, q2, q3, hw, hd])) | refine condV_split (fun hc => ?_) (fun hc => ?_) | (with_reducible intro β hβ; (try simp only [RB] at hβ); (repeat (obtain ⟨⟨_, _⟩, hβ⟩ := hβ)); (try (have hbis := apart_is (by assumption) hβ; obtain ⟨_, _⟩ := hbis)))) <;> (try simp only [↓R1, RR, seval, q0, q1, q2, q3, hw, hd])))
        refine ⟨k + 1, ⟨by omega, by omega, fun i hi hk => ?_⟩, by simp [subF, slot, wk_refl], St.le_refl _, by omega⟩
        by_cases e : i = k
        · subst e; rw [hm]; exact h14
        · exact h3 i hi (by omega)
      · have q2 : decide ((14 : Int) < (m.length : Int)) = true := by rw [decide_eq_true_eq]; omega
        simp only [q0, ↓R1, RR, seval, q0, q1, q2, q3, hw, hd]
        repeat' (first | (with_reducible rw [allocV_eq]) | (with_reducible refine And.intro ?_ ?_; focus (intros; (repeat' (with_reducible apply And.intro)) <;> first | omega | (simp only [RZ, cells_len, cP_len, List.length_replicate]; omega))) | (with_reducible apply And.intro) | ((first | (refine gdV_split (fun hc => ?_) (fun hc => ?_) <;> (try simp only [hc, ↓R1, RR, seval, q0, q1, q2, q3, hw, hd])) | refine condV_split (fun hc => ?_) (fun hc => ?_) | (with_reducible intro β hβ; (try simp only [RB] at hβ); (repeat (obtain ⟨⟨_, _⟩, hβ⟩ := hβ)); (try (have hbis := apart_is (by assumption) hβ; obtain ⟨_, _⟩ := hbis)))) <;> (try simp only [↓R1, RR, seval, q0, q1, q2, q3, hw, hd])))
        (refine endP_pu (by simp) (by first | (simp [rvsS, rvS]; done) | (simp only [rvsS, rvS, ↓R1, RR, seval, q0, q1, q2, q3, hw, hd]; try simp)) (wk_of_eq ?_) (by (repeat (first | exact St.le_refl _ | (refine St.le_new ?_ (by assumption)) | (refine St.le_newT ?_ (by assumption))))))
        (simp only [resAV, rvV, List.map_cons, List.map_nil, ↓R1, RR, seval, q0, q1, q2, q3, hw, hd])
    · exact absurd (fun i hi h => h3 i hi (by omega)) hall
end Go.Proofs.YtncadbcjikekhaaGreatDoor
