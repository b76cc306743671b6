/- Part 21 of the proof of MatchSorts: an abstract semantics that is proved sound for the model, contracts of functions in it, and plain facts (M17 O1 S1 S2 S7 S8 S9 S10 S11 S3 S12 S4 S13 S15). No condition. -/
import Derived.Test.YtncadbcjikekhaaGreatDoorKMatchSorts20
set_option linter.all false
namespace Go.Proofs.YtncadbcjikekhaaGreatDoor
open Go.Abs Go.Lib
set_option linter.all false
set_option maxRecDepth 100000
def cmpE (a b : List Pl) : Int := bif checkS a != 0 then checkS a else checkS b
def cmpX (a b : List Pl) : Int := bif cmpE a b != 0 then 0 else cmpM a b
def placeT (x : Pl) : List UInt8 := itoa x.p ++ [58] ++ itoa x.a
def matchT (l : List Pl) : List UInt8 := Lib.join (l.map placeT) [32]
def matchV (l : List Pl) : List AV := [.str (bif checkS l == 0 then matchT l else []), .int .i64 (checkS l)]
def posR (l : List Pl) : List Int := bif checkS l == 0 then posL l else []
def posV (l : List Pl) : List AV := [.sl false (posR l).length ((posR l).flatMap cI), .int .i64 (checkS l)]
theorem placeT_len {x : Pl} (h : I64 x.p) (ha : I64 x.a) : (placeT x).length ≤ 300 := by
  have h2 := itoa_len x.p h
  have h3 := itoa_len x.a ha
  simp only [placeT, List.length_append, List.length_cons, List.length_nil]; omega
theorem p24 (a b : List Pl) (ha : a.length ≤ 1000000) (hb : b.length ≤ 1000000) : Pu Tryz.prog 24 [.agg [.sl false a.length (a.flatMap cP)], .agg [.sl false b.length (b.flatMap cP)]] (.tup [.int .i64 (cmpX a b), .int .i64 (cmpE a b)]) := by
  have q1 : True := trivial
  have q2 : True := trivial
  have q3 : True := trivial
  have q4 : True := trivial
  have hw : True := trivial
  have hd : True := trivial
  have hd2 : True := trivial
  have h1 := p31 a ha
  have h2 := p31 b hb
  by_cases ea : checkS a = 0
  · by_cases eb : checkS b = 0
    · obtain ⟨na, _⟩ := check_ok ea
      obtain ⟨nb, _⟩ := check_ok eb
      have h3 := p63 a b na nb ha hb
      have hE : cmpE a b = 0 := by unfold cmpE; rw [ea, eb]; rfl
      have hX : cmpX a b = cmpM a b := by unfold cmpX; rw [hE]; rfl
      rw [hE, hX]
      rw [ea] at h1
      rw [eb] at h2
      (refine Pu_intro c24 b24 (Nat.le_of_ble_eq_true rfl) fun σ => ?_; simp only [c24, ↓R1, RR, seval, q1, q2, q3, q4, hw, hd, hd2, beq_self_eq_true, bne_self_eq_false])
      repeat' (first | (with_reducible rw [allocV_eq]) | (with_reducible refine And.intro ?_ ?_; focus (intros; (repeat' (with_reducible apply And.intro)) <;> first | omega | (simp only [RZ, cP_len, cI_len]; omega))) | (with_reducible apply And.intro) | ((first | (refine gdV_split (fun hc => ?_) (fun hc => ?_) <;> (try simp only [hc, ↓R1, RR, seval, q1, q2, q3, q4, hw, hd, hd2, beq_self_eq_true, bne_self_eq_false])) | refine condV_split (fun hc => ?_) (fun hc => ?_) | (with_reducible intro β hβ; (try simp only [RB] at hβ); (repeat (obtain ⟨⟨_, _⟩, hβ⟩ := hβ)); (try (have hbis := apart_is (by assumption) hβ; obtain ⟨_, _⟩ := hbis))) | refine Pt (h1) ?_ | refine Ct (h1) ?_ | refine Pt (h2) ?_ | refine Ct (h2) ?_ | refine Pt (h3) ?_ | refine Ct (h3) ?_) <;> (try simp only [↓R1, RR, seval, q1, q2, q3, q4, hw, hd, hd2, beq_self_eq_true, bne_self_eq_false])))
      (refine endP_pu (by simp) (by first | (simp [rvsS, rvS]; done) | (simp only [rvsS, rvS, ↓R1, RR, seval, q1, q2, q3, q4, hw, hd, hd2, beq_self_eq_true, bne_self_eq_false]; try simp)) (wk_of_eq ?_) (by (repeat (first | exact St.le_refl _ | (refine St.le_new ?_ (by assumption)) | (refine St.le_newT ?_ (by assumption))))))
      (simp only [resAV, rvV, List.map_cons, List.map_nil, ↓R1, RR, seval, q1, q2, q3, q4, hw, hd, hd2, beq_self_eq_true, bne_self_eq_false])
    · have hE : cmpE a b = checkS b := by unfold cmpE; rw [ea]; rfl
      have q2 : (checkS b != 0) = true := by rw [bne_iff_ne]; exact eb
      have q3 : (checkS b == 0) = false := by rw [beq_eq_false_iff_ne]; exact eb
      have hX : cmpX a b = 0 := by unfold cmpX; rw [hE, q2]; rfl
      rw [hE, hX]
      rw [ea] at h1
      (refine Pu_intro c24 b24 (Nat.le_of_ble_eq_true rfl) fun σ => ?_; simp only [c24, ↓R1, RR, seval, q1, q2, q3, q4, hw, hd, hd2, beq_self_eq_true, bne_self_eq_false])
      repeat' (first | (with_reducible rw [allocV_eq]) | (with_reducible refine And.intro ?_ ?_; focus (intros; (repeat' (with_reducible apply And.intro)) <;> first | omega | (simp only [RZ, cP_len, cI_len]; omega))) | (with_reducible apply And.intro) | ((first | (refine gdV_split (fun hc => ?_) (fun hc => ?_) <;> (try simp only [hc, ↓R1, RR, seval, q1, q2, q3, q4, hw, hd, hd2, beq_self_eq_true, bne_self_eq_false])) | refine condV_split (fun hc => ?_) (fun hc => ?_) | (with_reducible intro β hβ; (try simp only [RB] at hβ); (repeat (obtain ⟨⟨_, _⟩, hβ⟩ := hβ)); (try (have hbis := apart_is (by assumption) hβ; obtain ⟨_, _⟩ := hbis))) | refine Pt (h1) ?_ | refine Ct (h1) ?_ | refine Pt (h2) ?_ | refine Ct (h2) ?_) <;> (try simp only [↓R1, RR, seval, q1, q2, q3, q4, hw, hd, hd2, beq_self_eq_true, bne_self_eq_false])))
      (refine endP_pu (by simp) (by first | (simp [rvsS, rvS]; done) | (simp only [rvsS, rvS, ↓R1, RR, seval, q1, q2, q3, q4, hw, hd, hd2, beq_self_eq_true, bne_self_eq_false]; try simp)) (wk_of_eq ?_) (by (repeat (first | exact St.le_refl _ | (refine St.le_new ?_ (by assumption)) | (refine St.le_newT ?_ (by assumption))))))
      (simp only [resAV, rvV, List.map_cons, List.map_nil, ↓R1, RR, seval, q1, q2, q3, q4, hw, hd, hd2, beq_self_eq_true, bne_self_eq_false])
  · have q1 : (checkS a != 0) = true := by rw [bne_iff_ne]; exact ea
    have q3 : (checkS a == 0) = false := by rw [beq_eq_false_iff_ne]; exact ea
    have hE : cmpE a b = checkS a := by unfold cmpE; rw [q1]; rfl
    have hX : cmpX a b = 0 := by unfold cmpX; rw [hE, q1]; rfl
    rw [hE, hX]
    (refine Pu_intro c24 b24 (Nat.le_of_ble_eq_true rfl) fun σ => ?_; simp only [c24, ↓R1, RR, seval, q1, q2, q3, q4, hw, hd, hd2, beq_self_eq_true, bne_self_eq_false])
    repeat' (first | (with_reducible rw [allocV_eq]) | (with_reducible refine And.intro ?_ ?_; focus (intros; (repeat' (with_reducible apply And.intro)) <;> first | omega | (simp only [RZ, cP_len, cI_len]; omega))) | (with_reducible apply And.intro) | ((first | (refine gdV_split (fun hc => ?_) (fun hc => ?_) <;> (try simp only [hc, ↓R1, RR, seval, q1, q2, q3, q4, hw, hd, hd2, beq_self_eq_true, bne_self_eq_false])) | refine condV_split (fun hc => ?_) (fun hc => ?_) | (with_reducible intro β hβ; (try simp only [RB] at hβ); (repeat (obtain ⟨⟨_, _⟩, hβ⟩ := hβ)); (try (have hbis := apart_is (by assumption) hβ; obtain ⟨_, _⟩ := hbis))) | refine Pt (h1) ?_ | refine Ct (h1) ?_ | refine Pt (h2) ?_ | refine Ct (h2) ?_) <;> (try simp only [↓R1, RR, seval, q1, q2, q3, q4, hw, hd, hd2, beq_self_eq_true, bne_self_eq_false])))
    (refine endP_pu (by simp) (by first | (simp [rvsS, rvS]; done) | (simp only [rvsS, rvS, ↓R1, RR, seval, q1, q2, q3, q4, hw, hd, hd2, beq_self_eq_true, bne_self_eq_false]; try simp)) (wk_of_eq ?_) (by (repeat (first | exact St.le_refl _ | (refine St.le_new ?_ (by assumption)) | (refine St.le_newT ?_ (by assumption))))))
    (simp only [resAV, rvV, List.map_cons, List.map_nil, ↓R1, RR, seval, q1, q2, q3, q4, hw, hd, hd2, beq_self_eq_true, bne_self_eq_false])
theorem p28 (l : List Pl) (hl : l.length ≤ 1000000) : Pu Tryz.prog 28 [.agg [.sl false l.length (l.flatMap cP)]] (.tup (posV l)) := by
  have q1 : True := trivial
  have q2 : True := trivial
  have q3 : True := trivial
  have q4 : True := trivial
  have hw : True := trivial
  have hd : True := trivial
  have hd2 : True := trivial
  have h1 := p31 l hl
  unfold posV posR
  by_cases ea : checkS l = 0
  · rw [ea] at h1 ⊢
    have hpl : (posL l).length = l.length := by simp [posL]
    simp only [beq_self_eq_true, cond_true, hpl]
    have h2 := p56 l hl 67 (·.p) p67
    change Tp _ _ _ _ _ _ ((posL l).flatMap cI) at h2
    (refine Pu_intro c28 b28 (Nat.le_of_ble_eq_true rfl) fun σ => ?_; simp only [c28, ↓R1, RR, seval, q1, q2, q3, q4, hw, hd, hd2, beq_self_eq_true, bne_self_eq_false])
    repeat' (first | (with_reducible rw [allocV_eq]) | (with_reducible refine And.intro ?_ ?_; focus (intros; (repeat' (with_reducible apply And.intro)) <;> first | omega | (simp only [RZ, cP_len, cI_len]; omega))) | (with_reducible apply And.intro) | ((first | (refine gdV_split (fun hc => ?_) (fun hc => ?_) <;> (try simp only [hc, ↓R1, RR, seval, q1, q2, q3, q4, hw, hd, hd2, beq_self_eq_true, bne_self_eq_false])) | refine condV_split (fun hc => ?_) (fun hc => ?_) | (with_reducible intro β hβ; (try simp only [RB] at hβ); (repeat (obtain ⟨⟨_, _⟩, hβ⟩ := hβ)); (try (have hbis := apart_is (by assumption) hβ; obtain ⟨_, _⟩ := hbis))) | refine Pt (h1) ?_ | refine Ct (h1) ?_ | (refine Tp.to (h2) ?_ ?_; (focus ((repeat' (first | exact wk_refl _ | exact wk_nils | exact wk_tsl _ _ _ | exact wk_full _ _ | exact wkL.nil | exact wkL_refl _ | refine wk_tup ?_ | refine wk_agg ?_ | refine wkL.cons ?_ ?_)); done)); intro τ hβ; (try simp only [RB] at hβ); (repeat (obtain ⟨⟨_, _⟩, hβ⟩ := hβ)); (try (have hbis := apart_is (by assumption) hβ; obtain ⟨_, _⟩ := hbis)))) <;> (try simp only [↓R1, RR, seval, q1, q2, q3, q4, hw, hd, hd2, beq_self_eq_true, bne_self_eq_false])))
    (refine endP_pu (by simp) (by first | (simp [rvsS, rvS]; done) | (simp only [rvsS, rvS, ↓R1, RR, seval, q1, q2, q3, q4, hw, hd, hd2, beq_self_eq_true, bne_self_eq_false]; try simp)) ?_ (by (repeat (first | exact St.le_refl _ | (refine St.le_new ?_ (by assumption)) | (refine St.le_newT ?_ (by assumption))))))
    simp only [resAV, rvV, List.map_cons, List.map_nil, ↓R1, RR, seval, q1, q2, q3, q4, hw, hd, hd2, beq_self_eq_true, bne_self_eq_false]
    (repeat' (first | exact wk_refl _ | exact wk_nils | exact wk_tsl _ _ _ | exact wk_full _ _ | exact wkL.nil | exact wkL_refl _ | refine wk_tup ?_ | refine wk_agg ?_ | refine wkL.cons ?_ ?_))
  · have q1 : (checkS l != 0) = true := by rw [bne_iff_ne]; exact ea
    have q3 : (checkS l == 0) = false := by rw [beq_eq_false_iff_ne]; exact ea
    simp only [q3, cond_false, List.length_nil, List.flatMap_nil]
    (refine Pu_intro c28 b28 (Nat.le_of_ble_eq_true rfl) fun σ => ?_; simp only [c28, ↓R1, RR, seval, q1, q2, q3, q4, hw, hd, hd2, beq_self_eq_true, bne_self_eq_false])
    repeat' (first | (with_reducible rw [allocV_eq]) | (with_reducible refine And.intro ?_ ?_; focus (intros; (repeat' (with_reducible apply And.intro)) <;> first | omega | (simp only [RZ, cP_len, cI_len]; omega))) | (with_reducible apply And.intro) | ((first | (refine gdV_split (fun hc => ?_) (fun hc => ?_) <;> (try simp only [hc, ↓R1, RR, seval, q1, q2, q3, q4, hw, hd, hd2, beq_self_eq_true, bne_self_eq_false])) | refine condV_split (fun hc => ?_) (fun hc => ?_) | (with_reducible intro β hβ; (try simp only [RB] at hβ); (repeat (obtain ⟨⟨_, _⟩, hβ⟩ := hβ)); (try (have hbis := apart_is (by assumption) hβ; obtain ⟨_, _⟩ := hbis))) | refine Pt (h1) ?_ | refine Ct (h1) ?_) <;> (try simp only [↓R1, RR, seval, q1, q2, q3, q4, hw, hd, hd2, beq_self_eq_true, bne_self_eq_false])))
    (refine endP_pu (by simp) (by first | (simp [rvsS, rvS]; done) | (simp only [rvsS, rvS, ↓R1, RR, seval, q1, q2, q3, q4, hw, hd, hd2, beq_self_eq_true, bne_self_eq_false]; try simp)) ?_ (by (repeat (first | exact St.le_refl _ | (refine St.le_new ?_ (by assumption)) | (refine St.le_newT ?_ (by assumption))))))
    simp only [resAV, rvV, List.map_cons, List.map_nil, ↓R1, RR, seval, q1, q2, q3, q4, hw, hd, hd2, beq_self_eq_true, bne_self_eq_false]
    (repeat' (first | exact wk_refl _ | exact wk_nils | exact wk_tsl _ _ _ | exact wk_full _ _ | exact wkL.nil | exact wkL_refl _ | refine wk_tup ?_ | refine wk_agg ?_ | refine wkL.cons ?_ ?_))
theorem p25 (a b : List Pl) (ha : a.length ≤ 1000000) (hb : b.length ≤ 1000000) : Pu Tryz.prog 25 [.agg [.sl false a.length (a.flatMap cP)], .agg [.sl false b.length (b.flatMap cP)]] (.tup [.int .i64 (cmpX a b), .int .i64 (cmpE a b)]) := by
  have q1 : True := trivial
  have q2 : True := trivial
  have q3 : True := trivial
  have q4 : True := trivial
  have hw : True := trivial
  have hd : True := trivial
  have hd2 : True := trivial
  have h1 := p32 a ha
  have h2 := p32 b hb
  by_cases ea : checkS a = 0
  · by_cases eb : checkS b = 0
    · obtain ⟨na, _⟩ := check_ok ea
      obtain ⟨nb, _⟩ := check_ok eb
      have h3 := p65 a b na nb ha hb
      have hE : cmpE a b = 0 := by unfold cmpE; rw [ea, eb]; rfl
      have hX : cmpX a b = cmpM a b := by unfold cmpX; rw [hE]; rfl
      rw [hE, hX]
      rw [ea] at h1
      rw [eb] at h2
      (refine Pu_intro c25 b25 (Nat.le_of_ble_eq_true rfl) fun σ => ?_; simp only [c25, ↓R1, RR, seval, q1, q2, q3, q4, hw, hd, hd2, beq_self_eq_true, bne_self_eq_false])
      repeat' (first | (with_reducible rw [allocV_eq]) | (with_reducible refine And.intro ?_ ?_; focus (intros; (repeat' (with_reducible apply And.intro)) <;> first | omega | (simp only [RZ, cP_len, cI_len]; omega))) | (with_reducible apply And.intro) | ((first | (refine gdV_split (fun hc => ?_) (fun hc => ?_) <;> (try simp only [hc, ↓R1, RR, seval, q1, q2, q3, q4, hw, hd, hd2, beq_self_eq_true, bne_self_eq_false])) | refine condV_split (fun hc => ?_) (fun hc => ?_) | (with_reducible intro β hβ; (try simp only [RB] at hβ); (repeat (obtain ⟨⟨_, _⟩, hβ⟩ := hβ)); (try (have hbis := apart_is (by assumption) hβ; obtain ⟨_, _⟩ := hbis))) | refine Pt (h1) ?_ | refine Ct (h1) ?_ | refine Pt (h2) ?_ | refine Ct (h2) ?_ | refine Pt (h3) ?_ | refine Ct (h3) ?_) <;> (try simp only [↓R1, RR, seval, q1, q2, q3, q4, hw, hd, hd2, beq_self_eq_true, bne_self_eq_false])))
      (refine endP_pu (by simp) (by first | (simp [rvsS, rvS]; done) | (simp only [rvsS, rvS, ↓R1, RR, seval, q1, q2, q3, q4, hw, hd, hd2, beq_self_eq_true, bne_self_eq_false]; try simp)) (wk_of_eq ?_) (by (repeat (first | exact St.le_refl _ | (refine St.le_new ?_ (by assumption)) | (refine St.le_newT ?_ (by assumption))))))
      (simp only [resAV, rvV, List.map_cons, List.map_nil, ↓R1, RR, seval, q1, q2, q3, q4, hw, hd, hd2, beq_self_eq_true, bne_self_eq_false])
    · have hE : cmpE a b = checkS b := by unfold cmpE; rw [ea]; rfl
      have q2 : (checkS b != 0) = true := by rw [bne_iff_ne]; exact eb
      have q3 : (checkS b == 0) = false := by rw [beq_eq_false_iff_ne]; exact eb
      have hX : cmpX a b = 0 := by unfold cmpX; rw [hE, q2]; rfl
      rw [hE, hX]
      rw [ea] at h1
      (refine Pu_intro c25 b25 (Nat.le_of_ble_eq_true rfl) fun σ => ?_; simp only [c25, ↓R1, RR, seval, q1, q2, q3, q4, hw, hd, hd2, beq_self_eq_true, bne_self_eq_false])
      repeat' (first | (with_reducible rw [allocV_eq]) | (with_reducible refine And.intro ?_ ?_; focus (intros; (repeat' (with_reducible apply And.intro)) <;> first | omega | (simp only [RZ, cP_len, cI_len]; omega))) | (with_reducible apply And.intro) | ((first | (refine gdV_split (fun hc => ?_) (fun hc => ?_) <;> (try simp only [hc, ↓R1, RR, seval, q1, q2, q3, q4, hw, hd, hd2, beq_self_eq_true, bne_self_eq_false])) | refine condV_split (fun hc => ?_) (fun hc => ?_) | (with_reducible intro β hβ; (try simp only [RB] at hβ); (repeat (obtain ⟨⟨_, _⟩, hβ⟩ := hβ)); (try (have hbis := apart_is (by assumption) hβ; obtain ⟨_, _⟩ := hbis))) | refine Pt (h1) ?_ | refine Ct (h1) ?_ | refine Pt (h2) ?_ | refine Ct (h2) ?_) <;> (try simp only [↓R1, RR, seval, q1, q2, q3, q4, hw, hd, hd2, beq_self_eq_true, bne_self_eq_false])))
      (refine endP_pu (by simp) (by first | (simp [rvsS, rvS]; done) | (simp only [rvsS, rvS, ↓R1, RR, seval, q1, q2, q3, q4, hw, hd, hd2, beq_self_eq_true, bne_self_eq_false]; try simp)) (wk_of_eq ?_) (by (repeat (first | exact St.le_refl _ | (refine St.le_new ?_ (by assumption)) | (refine St.le_newT ?_ (by assumption))))))
      (simp only [resAV, rvV, List.map_cons, List.map_nil, ↓R1, RR, seval, q1, q2, q3, q4, hw, hd, hd2, beq_self_eq_true, bne_self_eq_false])
  · have q1 : (checkS a != 0) = true := by rw [bne_iff_ne]; exact ea
    have q3 : (checkS a == 0) = false := by rw [beq_eq_false_iff_ne]; exact ea
    have hE : cmpE a b = checkS a := by unfold cmpE; rw [q1]; rfl
    have hX : cmpX a b = 0 := by unfold cmpX; rw [hE, q1]; rfl
    rw [hE, hX]
    (refine Pu_intro c25 b25 (Nat.le_of_ble_eq_true rfl) fun σ => ?_; simp only [c25, ↓R1, RR, seval, q1, q2, q3, q4, hw, hd, hd2, beq_self_eq_true, bne_self_eq_false])
    repeat' (first | (with_reducible rw [allocV_eq]) | (with_reducible refine And.intro ?_ ?_; focus (intros; (repeat' (with_reducible apply And.intro)) <;> first | omega | (simp only [RZ, cP_len, cI_len]; omega))) | (with_reducible apply And.intro) | ((first | (refine gdV_split (fun hc => ?_) (fun hc => ?_) <;> (try simp only [hc, ↓R1, RR, seval, q1, q2, q3, q4, hw, hd, hd2, beq_self_eq_true, bne_self_eq_false])) | refine condV_split (fun hc => ?_) (fun hc => ?_) | (with_reducible intro β hβ; (try simp only [RB] at hβ); (repeat (obtain ⟨⟨_, _⟩, hβ⟩ := hβ)); (try (have hbis := apart_is (by assumption) hβ; obtain ⟨_, _⟩ := hbis))) | refine Pt (h1) ?_ | refine Ct (h1) ?_ | refine Pt (h2) ?_ | refine Ct (h2) ?_) <;> (try simp only [↓R1, RR, seval, q1, q2, q3, q4, hw, hd, hd2, beq_self_eq_true, bne_self_eq_false])))
    (refine endP_pu (by simp) (by first | (simp [rvsS, rvS]; done) | (simp only [rvsS, rvS, ↓R1, RR, seval, q1, q2, q3, q4, hw, hd, hd2, beq_self_eq_true, bne_self_eq_false]; try simp)) (wk_of_eq ?_) (by (repeat (first | exact St.le_refl _ | (refine St.le_new ?_ (by assumption)) | (refine St.le_newT ?_ (by assumption))))))
    (simp only [resAV, rvV, List.map_cons, List.map_nil, ↓R1, RR, seval, q1, q2, q3, q4, hw, hd, hd2, beq_self_eq_true, bne_self_eq_false])
theorem p29 (l : List Pl) (hl : l.length ≤ 1000000) : Pu Tryz.prog 29 [.agg [.sl false l.length (l.flatMap cP)]] (.tup (posV l)) := by
  have q1 : True := trivial
  have q2 : True := trivial
  have q3 : True := trivial
  have q4 : True := trivial
  have hw : True := trivial
  have hd : True := trivial
  have hd2 : True := trivial
  have h1 := p32 l hl
  unfold posV posR
  by_cases ea : checkS l = 0
  · rw [ea] at h1 ⊢
    have hpl : (posL l).length = l.length := by simp [posL]
    simp only [beq_self_eq_true, cond_true, hpl]
    have h2 := p68 l hl
    (refine Pu_intro c29 b29 (Nat.le_of_ble_eq_true rfl) fun σ => ?_; simp only [c29, ↓R1, RR, seval, q1, q2, q3, q4, hw, hd, hd2, beq_self_eq_true, bne_self_eq_false])
    repeat' (first | (with_reducible rw [allocV_eq]) | (with_reducible refine And.intro ?_ ?_; focus (intros; (repeat' (with_reducible apply And.intro)) <;> first | omega | (simp only [RZ, cP_len, cI_len]; omega))) | (with_reducible apply And.intro) | ((first | (refine gdV_split (fun hc => ?_) (fun hc => ?_) <;> (try simp only [hc, ↓R1, RR, seval, q1, q2, q3, q4, hw, hd, hd2, beq_self_eq_true, bne_self_eq_false])) | refine condV_split (fun hc => ?_) (fun hc => ?_) | (with_reducible intro β hβ; (try simp only [RB] at hβ); (repeat (obtain ⟨⟨_, _⟩, hβ⟩ := hβ)); (try (have hbis := apart_is (by assumption) hβ; obtain ⟨_, _⟩ := hbis))) | refine Pt (h1) ?_ | refine Ct (h1) ?_ | (refine Tp.to (h2) ?_ ?_; (focus ((repeat' (first | exact wk_refl _ | exact wk_nils | exact wk_tsl _ _ _ | exact wk_full _ _ | exact wkL.nil | exact wkL_refl _ | refine wk_tup ?_ | refine wk_agg ?_ | refine wkL.cons ?_ ?_)); done)); intro τ hβ; (try simp only [RB] at hβ); (repeat (obtain ⟨⟨_, _⟩, hβ⟩ := hβ)); (try (have hbis := apart_is (by assumption) hβ; obtain ⟨_, _⟩ := hbis)))) <;> (try simp only [↓R1, RR, seval, q1, q2, q3, q4, hw, hd, hd2, beq_self_eq_true, bne_self_eq_false])))
    (refine endP_pu (by simp) (by first | (simp [rvsS, rvS]; done) | (simp only [rvsS, rvS, ↓R1, RR, seval, q1, q2, q3, q4, hw, hd, hd2, beq_self_eq_true, bne_self_eq_false]; try simp)) ?_ (by (repeat (first | exact St.le_refl _ | (refine St.le_new ?_ (by assumption)) | (refine St.le_newT ?_ (by assumption))))))
    simp only [resAV, rvV, List.map_cons, List.map_nil, ↓R1, RR, seval, q1, q2, q3, q4, hw, hd, hd2, beq_self_eq_true, bne_self_eq_false]
    (repeat' (first | exact wk_refl _ | exact wk_nils | exact wk_tsl _ _ _ | exact wk_full _ _ | exact wkL.nil | exact wkL_refl _ | refine wk_tup ?_ | refine wk_agg ?_ | refine wkL.cons ?_ ?_))
  · have q1 : (checkS l != 0) = true := by rw [bne_iff_ne]; exact ea
    have q3 : (checkS l == 0) = false := by rw [beq_eq_false_iff_ne]; exact ea
    simp only [q3, cond_false, List.length_nil, List.flatMap_nil]
    (refine Pu_intro c29 b29 (Nat.le_of_ble_eq_true rfl) fun σ => ?_; simp only [c29, ↓R1, RR, seval, q1, q2, q3, q4, hw, hd, hd2, beq_self_eq_true, bne_self_eq_false])
    repeat' (first | (with_reducible rw [allocV_eq]) | (with_reducible refine And.intro ?_ ?_; focus (intros; (repeat' (with_reducible apply And.intro)) <;> first | omega | (simp only [RZ, cP_len, cI_len]; omega))) | (with_reducible apply And.intro) | ((first | (refine gdV_split (fun hc => ?_) (fun hc => ?_) <;> (try simp only [hc, ↓R1, RR, seval, q1, q2, q3, q4, hw, hd, hd2, beq_self_eq_true, bne_self_eq_false])) | refine condV_split (fun hc => ?_) (fun hc => ?_) | (with_reducible intro β hβ; (try simp only [RB] at hβ); (repeat (obtain ⟨⟨_, _⟩, hβ⟩ := hβ)); (try (have hbis := apart_is (by assumption) hβ; obtain ⟨_, _⟩ := hbis))) | refine Pt (h1) ?_ | refine Ct (h1) ?_) <;> (try simp only [↓R1, RR, seval, q1, q2, q3, q4, hw, hd, hd2, beq_self_eq_true, bne_self_eq_false])))
    (refine endP_pu (by simp) (by first | (simp [rvsS, rvS]; done) | (simp only [rvsS, rvS, ↓R1, RR, seval, q1, q2, q3, q4, hw, hd, hd2, beq_self_eq_true, bne_self_eq_false]; try simp)) ?_ (by (repeat (first | exact St.le_refl _ | (refine St.le_new ?_ (by assumption)) | (refine St.le_newT ?_ (by assumption))))))
    simp only [resAV, rvV, List.map_cons, List.map_nil, ↓R1, RR, seval, q1, q2, q3, q4, hw, hd, hd2, beq_self_eq_true, bne_self_eq_false]
    (repeat' (first | exact wk_refl _ | exact wk_nils | exact wk_tsl _ _ _ | exact wk_full _ _ | exact wkL.nil | exact wkL_refl _ | refine wk_tup ?_ | refine wk_agg ?_ | refine wkL.cons ?_ ?_))
theorem strs_step (l : List Pl) {k : Nat} (h : k < l.length) : (l.take k).map (fun x => AV.str (placeT x)) ++ [.str (placeT l[k])] = (l.take (k + 1)).map (fun x => AV.str (placeT x)) := by
  rw [← List.take_append_getElem h, List.map_append]; rfl
set_option maxHeartbeats 4000000 in
theorem p26 (l : List Pl) (hl : l.length ≤ 1000000) : PuG Tryz.prog gl3 26 [.agg [.sl false l.length (l.flatMap cP)]] (.tup (matchV l)) := by
  have q1 : True := trivial
  have q2 : True := trivial
  have q3 : True := trivial
  have q4 : True := trivial
  have hw : True := trivial
  have hd : True := trivial
  have hd2 : True := trivial
  have h1 := p31 l hl
  unfold matchV
  by_cases ea : checkS l = 0
  · obtain ⟨hl0, hl12, hok⟩ := check_ok ea
    rw [ea] at h1 ⊢
    simp only [beq_self_eq_true, cond_true]
    (refine PuG_intro c26 b26 (Nat.le_of_ble_eq_true rfl) fun σ hσ => ?_; simp only [c26, ↓R1, RR, seval, q1, q2, q3, q4, hw, hd, hd2, beq_self_eq_true, bne_self_eq_false])
    repeat' (first | (with_reducible rw [allocV_eq]) | (with_reducible refine And.intro ?_ ?_; focus (intros; (repeat' (with_reducible apply And.intro)) <;> first | omega | (simp only [RZ, cP_len, cI_len]; omega))) | (with_reducible apply And.intro) | ((first | (refine gdV_split (fun hc => ?_) (fun hc => ?_) <;> (try simp only [hc, ↓R1, RR, seval, q1, q2, q3, q4, hw, hd, hd2, beq_self_eq_true, bne_self_eq_false])) | refine condV_split (fun hc => ?_) (fun hc => ?_) | (with_reducible intro β hβ; (try simp only [RB] at hβ); (repeat (obtain ⟨⟨_, _⟩, hβ⟩ := hβ)); (try (have hbis := apart_is (by assumption) hβ; obtain ⟨_, _⟩ := hbis))) | ((first | refine appD_tslK (.inr rfl) rfl ?_ ?_ ?_ ?_ ?_ ?_ | refine appV_tslK rfl ?_ ?_ ?_ ?_ ?_ ?_); (first | rfl | exact St.tip_same _ _ _ | simp only [↓R1, RR, seval, q1, q2, q3, q4, hw, hd, hd2, beq_self_eq_true, bne_self_eq_false]); (iterate 2 (first | omega | (simp only [RZ, cP_len, cI_len]; first | done | omega) | rfl)); (unfold maxLen; omega); omega) | refine Pt (h1) ?_ | refine Ct (h1) ?_) <;> (try simp only [↓R1, RR, seval, q1, q2, q3, q4, hw, hd, hd2, beq_self_eq_true, bne_self_eq_false])))
    refine loopV_forT l.length 5 9 1 0 [] (fun τ k => [(14, .sl false l.length (l.flatMap cP)), (15, .int .i64 (l.length : Nat)), (16, .int .i64 (k : Nat)), (5, .tsl τ k ((l.take k).map (fun x => AV.str (placeT x))))]) (fun τ k => σ.setTip τ (9, 1, k)) (fun _ => True) trivial rfl trivial (fun τ => by simp [subF, slot, wk_refl]) (fun τ _ => St.le_setTc (St.le_setBox (St.le_refl _) (by assumption))) (fun τ hτ k hk _ => ?_)
    have hτ : σ.tip τ = none := hτ
    by_cases hlt : k < l.length
    · have q1 : decide ((k : Int) < (l.length : Int)) = true := by rw [decide_eq_true_eq]; omega
      have hd := cP_get l hlt
      have hcl0 := cP_len l
      have hw : IntKind.i64.wrap ((k : Int) + 1) = ((k + 1 : Nat) : Int) := by rw [wrap64 (by omega) (by omega)]; omega
      have hcl : ((l.take k).map (fun x => AV.str (placeT x))).length = k * 1 := by simp; omega
      obtain ⟨i0, i1, i2, i3⟩ := hok _ (List.getElem_mem hlt)
      have hp1 : I64 (l[k]).p := ⟨by omega, by omega⟩
      have hp2 : I64 (l[k]).a := ⟨by omega, by omega⟩
      have hs : (l.take k).map (fun x => AV.str (placeT x)) ++ [.str (itoa (l[k]).p ++ [58] ++ itoa (l[k]).a)] = (l.take (k + 1)).map (fun x => AV.str (placeT x)) := strs_step l hlt
      have l1 := itoa_len _ hp1
      have l2 := itoa_len _ hp2
      simp only [cP] at hd
      simp only [q1, ↓R1, RR, seval, q1, q2, q3, q4, hw, hd, hd2, beq_self_eq_true, bne_self_eq_false]
      repeat' (first | (with_reducible rw [allocV_eq]) | (with_reducible refine And.intro ?_ ?_; focus (intros; (repeat' (with_reducible apply And.intro)) <;> first | omega | (simp only [RZ, cP_len, cI_len]; omega))) | (with_reducible apply And.intro) | ((first | (refine gdV_split (fun hc => ?_) (fun hc => ?_) <;> (try simp only [hc, ↓R1, RR, seval, q1, q2, q3, q4, hw, hd, hd2, beq_self_eq_true, bne_self_eq_false])) | refine condV_split (fun hc => ?_) (fun hc => ?_) | (with_reducible intro β hβ; (try simp only [RB] at hβ); (repeat (obtain ⟨⟨_, _⟩, hβ⟩ := hβ)); (try (have hbis := apart_is (by assumption) hβ; obtain ⟨_, _⟩ := hbis))) | ((first | refine appD_tslK (.inr rfl) rfl ?_ ?_ ?_ ?_ ?_ ?_ | refine appV_tslK rfl ?_ ?_ ?_ ?_ ?_ ?_); (first | rfl | exact St.tip_same _ _ _ | simp only [↓R1, RR, seval, q1, q2, q3, q4, hw, hd, hd2, beq_self_eq_true, bne_self_eq_false]); (iterate 2 (first | omega | (simp only [RZ, cP_len, cI_len]; first | done | omega) | rfl)); (unfold maxLen; omega); omega) | refine callDV_puG (p47 _ hp1) hσ (wkL_refl _) ?_ | refine callDV_puG (p47 _ hp2) hσ (wkL_refl _) ?_) <;> (try simp only [↓R1, RR, seval, q1, q2, q3, q4, hw, hd, hd2, beq_self_eq_true, bne_self_eq_false])))
      · rw [hs]; simp [subF, slot, wk_refl]
      · exact St.le_setTc (St.le_setBox (St.le_refl _) (by first | assumption | (simp only [↓R1, RR, seval, q1, q2, q3, q4, hw, hd, hd2, beq_self_eq_true, bne_self_eq_false]; assumption)))
    · have hke : k = l.length := by omega
      subst hke
      have q1 : decide ((l.length : Int) < (l.length : Int)) = false := by simp
      rw [List.take_length]
      have hjl := join_len (l.map placeT) [32] 100000 (fun t ht => by
        obtain ⟨x, hx, rfl⟩ := List.mem_map.1 ht
        obtain ⟨i0, i1, i2, i3⟩ := hok x hx
        have := placeT_len (x := x) ⟨by omega, by omega⟩ ⟨by omega, by omega⟩
        omega)
      simp only [q1, ↓R1, RR, seval, q1, q2, q3, q4, hw, hd, hd2, beq_self_eq_true, bne_self_eq_false]
      repeat' (first | (with_reducible rw [allocV_eq]) | (with_reducible refine And.intro ?_ ?_; focus (intros; (repeat' (with_reducible apply And.intro)) <;> first | omega | (simp only [RZ, cP_len, cI_len]; omega))) | (with_reducible apply And.intro) | ((first | (refine gdV_split (fun hc => ?_) (fun hc => ?_) <;> (try simp only [hc, ↓R1, RR, seval, q1, q2, q3, q4, hw, hd, hd2, beq_self_eq_true, bne_self_eq_false])) | refine condV_split (fun hc => ?_) (fun hc => ?_) | (with_reducible intro β hβ; (try simp only [RB] at hβ); (repeat (obtain ⟨⟨_, _⟩, hβ⟩ := hβ)); (try (have hbis := apart_is (by assumption) hβ; obtain ⟨_, _⟩ := hbis))) | ((first | refine appD_tslK (.inr rfl) rfl ?_ ?_ ?_ ?_ ?_ ?_ | refine appV_tslK rfl ?_ ?_ ?_ ?_ ?_ ?_); (first | rfl | exact St.tip_same _ _ _ | simp only [↓R1, RR, seval, q1, q2, q3, q4, hw, hd, hd2, beq_self_eq_true, bne_self_eq_false]); (iterate 2 (first | omega | (simp only [RZ, cP_len, cI_len]; first | done | omega) | rfl)); (unfold maxLen; omega); omega)) <;> (try simp only [↓R1, RR, seval, q1, q2, q3, q4, hw, hd, hd2, beq_self_eq_true, bne_self_eq_false])))
      refine AC.mono (joins _ (l.map placeT) [32] _ (by simp [slv, Function.comp_def]) (by simp; omega) (by simp at hjl ⊢; omega)) ?_
      rintro _ _ ⟨rfl, rfl⟩
      simp only [↓R1, RR, seval, q1, q2, q3, q4, hw, hd, hd2, beq_self_eq_true, bne_self_eq_false]
      (refine endP_pu (by simp) (by first | (simp [rvsS, rvS]; done) | (simp only [rvsS, rvS, ↓R1, RR, seval, q1, q2, q3, q4, hw, hd, hd2, beq_self_eq_true, bne_self_eq_false]; try simp)) (wk_of_eq ?_) (by (repeat (first | exact St.le_refl _ | (refine St.le_new ?_ (by assumption)) | (refine St.le_newT ?_ (by assumption))))))
      (simp only [resAV, rvV, List.map_cons, List.map_nil, ↓R1, RR, seval, q1, q2, q3, q4, hw, hd, hd2, beq_self_eq_true, bne_self_eq_false])
      rfl
  · have q1 : (checkS l != 0) = true := by rw [bne_iff_ne]; exact ea
    have q3 : (checkS l == 0) = false := by rw [beq_eq_false_iff_ne]; exact ea
    simp only [q3, cond_false]
    (refine PuG_intro c26 b26 (Nat.le_of_ble_eq_true rfl) fun σ hσ => ?_; simp only [c26, ↓R1, RR, seval, q1, q2, q3, q4, hw, hd, hd2, beq_self_eq_true, bne_self_eq_false])
    repeat' (first | (with_reducible rw [allocV_eq]) | (with_reducible refine And.intro ?_ ?_; focus (intros; (repeat' (with_reducible apply And.intro)) <;> first | omega | (simp only [RZ, cP_len, cI_len]; omega))) | (with_reducible apply And.intro) | ((first | (refine gdV_split (fun hc => ?_) (fun hc => ?_) <;> (try simp only [hc, ↓R1, RR, seval, q1, q2, q3, q4, hw, hd, hd2, beq_self_eq_true, bne_self_eq_false])) | refine condV_split (fun hc => ?_) (fun hc => ?_) | (with_reducible intro β hβ; (try simp only [RB] at hβ); (repeat (obtain ⟨⟨_, _⟩, hβ⟩ := hβ)); (try (have hbis := apart_is (by assumption) hβ; obtain ⟨_, _⟩ := hbis))) | ((first | refine appD_tslK (.inr rfl) rfl ?_ ?_ ?_ ?_ ?_ ?_ | refine appV_tslK rfl ?_ ?_ ?_ ?_ ?_ ?_); (first | rfl | exact St.tip_same _ _ _ | simp only [↓R1, RR, seval, q1, q2, q3, q4, hw, hd, hd2, beq_self_eq_true, bne_self_eq_false]); (iterate 2 (first | omega | (simp only [RZ, cP_len, cI_len]; first | done | omega) | rfl)); (unfold maxLen; omega); omega) | refine Pt (h1) ?_ | refine Ct (h1) ?_) <;> (try simp only [↓R1, RR, seval, q1, q2, q3, q4, hw, hd, hd2, beq_self_eq_true, bne_self_eq_false])))
    (refine endP_pu (by simp) (by first | (simp [rvsS, rvS]; done) | (simp only [rvsS, rvS, ↓R1, RR, seval, q1, q2, q3, q4, hw, hd, hd2, beq_self_eq_true, bne_self_eq_false]; try simp)) (wk_of_eq ?_) (by (repeat (first | exact St.le_refl _ | (refine St.le_new ?_ (by assumption)) | (refine St.le_newT ?_ (by assumption))))))
    (simp only [resAV, rvV, List.map_cons, List.map_nil, ↓R1, RR, seval, q1, q2, q3, q4, hw, hd, hd2, beq_self_eq_true, bne_self_eq_false])
def accT (l : List Pl) (k : Nat) : List UInt8 := Lib.join ((l.take k).map placeT) [32]
theorem accT_step (l : List Pl) {k : Nat} (h : k < l.length) (hk : 0 < k) : accT l k ++ [32] ++ itoa (l[k]).p ++ [58] ++ itoa (l[k]).a = accT l (k + 1) := by
  unfold accT
  rw [← List.take_append_getElem h, List.map_append]
  cases h2 : (l.take k).map placeT with
  | nil =>
    have h3 := congrArg List.length h2
    simp only [List.length_map, List.length_take, List.length_nil] at h3
    omega
  | cons x r => simp [Lib.join_cons, joinTail, placeT, List.append_assoc]
theorem accT_one (l : List Pl) (h : 0 < l.length) : itoa (l[0]).p ++ ([58] : List UInt8) ++ itoa (l[0]).a = accT l 1 := by
  unfold accT
  cases l with
  | nil => simp at h
  | cons x r => simp [Lib.join_one, placeT]
theorem accT_len (l : List Pl) (hl : l.length ≤ 12) (hok : ∀ x ∈ l, I64 x.p ∧ I64 x.a) (k : Nat) : (accT l k).length ≤ 10000 := by
  have hjl := join_len ((l.take k).map placeT) [32] 300 (fun t ht => by
    obtain ⟨x, hx, rfl⟩ := List.mem_map.1 ht
    have h := hok x (List.mem_of_mem_take hx)
    exact placeT_len h.1 h.2)
  have h3 : ((l.take k).map placeT).length ≤ 12 := by simp; omega
  have h4 : ((l.take k).map placeT).length * (300 + 1) ≤ 12 * 301 := Nat.mul_le_mul_right _ h3
  unfold accT
  simp only [List.length_cons, List.length_nil] at hjl
  omega
set_option maxHeartbeats 4000000 in
theorem p27 (l : List Pl) (hl : l.length ≤ 1000000) : Pu Tryz.prog 27 [.agg [.sl false l.length (l.flatMap cP)]] (.tup (matchV l)) := by
  have q1 : True := trivial
  have q2 : True := trivial
  have q3 : True := trivial
  have q4 : True := trivial
  have hw : True := trivial
  have hd : True := trivial
  have hd2 : True := trivial
  have h1 := p32 l hl
  unfold matchV
  by_cases ea : checkS l = 0
  · obtain ⟨hl0, hl12, hok⟩ := check_ok ea
    have hok2 : ∀ x ∈ l, I64 x.p ∧ I64 x.a := fun x hx => by obtain ⟨i0, i1, i2, i3⟩ := hok x hx; exact ⟨⟨by omega, by omega⟩, ⟨by omega, by omega⟩⟩
    rw [ea] at h1 ⊢
    simp only [beq_self_eq_true, cond_true]
    (refine Pu_intro c27 b27 (Nat.le_of_ble_eq_true rfl) fun σ => ?_; simp only [c27, ↓R1, RR, seval, q1, q2, q3, q4, hw, hd, hd2, beq_self_eq_true, bne_self_eq_false])
    repeat' (first | (with_reducible rw [allocV_eq]) | (with_reducible refine And.intro ?_ ?_; focus (intros; (repeat' (with_reducible apply And.intro)) <;> first | omega | (simp only [RZ, cP_len, cI_len]; omega))) | (with_reducible apply And.intro) | ((first | (refine gdV_split (fun hc => ?_) (fun hc => ?_) <;> (try simp only [hc, ↓R1, RR, seval, q1, q2, q3, q4, hw, hd, hd2, beq_self_eq_true, bne_self_eq_false])) | refine condV_split (fun hc => ?_) (fun hc => ?_) | (with_reducible intro β hβ; (try simp only [RB] at hβ); (repeat (obtain ⟨⟨_, _⟩, hβ⟩ := hβ)); (try (have hbis := apart_is (by assumption) hβ; obtain ⟨_, _⟩ := hbis))) | refine Pt (h1) ?_ | refine Ct (h1) ?_) <;> (try simp only [↓R1, RR, seval, q1, q2, q3, q4, hw, hd, hd2, beq_self_eq_true, bne_self_eq_false])))
    refine loopV_for l.length (fun k => [(1, .ptr β 0), (5, .str (accT l k)), (6, .int .i64 (k : Nat))]) (fun k => σ.setBox β [.sl false l.length (l.flatMap cP)]) (fun _ => True) (by simp [subF, slot, wk_refl, accT, Lib.join_nil]) (St.le_refl _) trivial (fun k hk _ => ?_)
    have hal := accT_len l hl12 hok2 k
    by_cases hlt : k < l.length
    · have q1 : decide ((k : Int) < (l.length : Int)) = true := by rw [decide_eq_true_eq]; omega
      have hd := cP_get l hlt
      have hcl0 := cP_len l
      have hw : IntKind.i64.wrap ((k : Int) + 1) = ((k + 1 : Nat) : Int) := by rw [wrap64 (by omega) (by omega)]; omega
      obtain ⟨hp1, hp2⟩ := hok2 _ (List.getElem_mem hlt)
      have l1 := itoa_len _ hp1
      have l2 := itoa_len _ hp2
      simp only [cP] at hd
      by_cases hk0 : k = 0
      · have q2 : decide ((0 : Int) < (k : Int)) = false := by rw [decide_eq_false_iff_not]; omega
        have hs : accT l k ++ itoa (l[k]).p ++ [58] ++ itoa (l[k]).a = accT l (k + 1) := by
          subst hk0
          rw [show accT l 0 = [] by simp [accT, Lib.join_nil], List.nil_append]
          exact accT_one l hlt
        simp only [q1, ↓R1, RR, seval, q1, q2, q3, q4, hw, hd, hd2, beq_self_eq_true, bne_self_eq_false]
        repeat' (first | (with_reducible rw [allocV_eq]) | (with_reducible refine And.intro ?_ ?_; focus (intros; (repeat' (with_reducible apply And.intro)) <;> first | omega | (simp only [RZ, cP_len, cI_len]; omega))) | (with_reducible apply And.intro) | ((first | (refine gdV_split (fun hc => ?_) (fun hc => ?_) <;> (try simp only [hc, ↓R1, RR, seval, q1, q2, q3, q4, hw, hd, hd2, beq_self_eq_true, bne_self_eq_false])) | refine condV_split (fun hc => ?_) (fun hc => ?_) | (with_reducible intro β hβ; (try simp only [RB] at hβ); (repeat (obtain ⟨⟨_, _⟩, hβ⟩ := hβ)); (try (have hbis := apart_is (by assumption) hβ; obtain ⟨_, _⟩ := hbis))) | refine callDV_pu (p48 _ hp1) (wkL_refl _) ?_ | refine callDV_pu (p48 _ hp2) (wkL_refl _) ?_) <;> (try simp only [↓R1, RR, seval, q1, q2, q3, q4, hw, hd, hd2, beq_self_eq_true, bne_self_eq_false])))
        · rw [hs]; simp [subF, slot, wk_refl]
        · exact St.le_refl _
      · have q2 : decide ((0 : Int) < (k : Int)) = true := by rw [decide_eq_true_eq]; omega
        have hs := accT_step l hlt (by omega)
        simp only [q1, ↓R1, RR, seval, q1, q2, q3, q4, hw, hd, hd2, beq_self_eq_true, bne_self_eq_false]
        repeat' (first | (with_reducible rw [allocV_eq]) | (with_reducible refine And.intro ?_ ?_; focus (intros; (repeat' (with_reducible apply And.intro)) <;> first | omega | (simp only [RZ, cP_len, cI_len]; omega))) | (with_reducible apply And.intro) | ((first | (refine gdV_split (fun hc => ?_) (fun hc => ?_) <;> (try simp only [hc, ↓R1, RR, seval, q1, q2, q3, q4, hw, hd, hd2, beq_self_eq_true, bne_self_eq_false])) | refine condV_split (fun hc => ?_) (fun hc => ?_) | (with_reducible intro β hβ; (try simp only [RB] at hβ); (repeat (obtain ⟨⟨_, _⟩, hβ⟩ := hβ)); (try (have hbis := apart_is (by assumption) hβ; obtain ⟨_, _⟩ := hbis))) | refine callDV_pu (p48 _ hp1) (wkL_refl _) ?_ | refine callDV_pu (p48 _ hp2) (wkL_refl _) ?_) <;> (try simp only [↓R1, RR, seval, q1, q2, q3, q4, hw, hd, hd2, beq_self_eq_true, bne_self_eq_false])))
        · rw [hs]; simp [subF, slot, wk_refl]
        · exact St.le_refl _
    · have hke : k = l.length := by omega
      subst hke
      have q1 : decide ((l.length : Int) < (l.length : Int)) = false := by simp
      have he : accT l l.length = matchT l := by unfold accT matchT; rw [List.take_length]
      rw [← he]
      simp only [q1, ↓R1, RR, seval, q1, q2, q3, q4, hw, hd, hd2, beq_self_eq_true, bne_self_eq_false]
      repeat' (first | (with_reducible rw [allocV_eq]) | (with_reducible refine And.intro ?_ ?_; focus (intros; (repeat' (with_reducible apply And.intro)) <;> first | omega | (simp only [RZ, cP_len, cI_len]; omega))) | (with_reducible apply And.intro) | ((first | (refine gdV_split (fun hc => ?_) (fun hc => ?_) <;> (try simp only [hc, ↓R1, RR, seval, q1, q2, q3, q4, hw, hd, hd2, beq_self_eq_true, bne_self_eq_false])) | refine condV_split (fun hc => ?_) (fun hc => ?_) | (with_reducible intro β hβ; (try simp only [RB] at hβ); (repeat (obtain ⟨⟨_, _⟩, hβ⟩ := hβ)); (try (have hbis := apart_is (by assumption) hβ; obtain ⟨_, _⟩ := hbis)))) <;> (try simp only [↓R1, RR, seval, q1, q2, q3, q4, hw, hd, hd2, beq_self_eq_true, bne_self_eq_false])))
      (refine endP_pu (by simp) (by first | (simp [rvsS, rvS]; done) | (simp only [rvsS, rvS, ↓R1, RR, seval, q1, q2, q3, q4, hw, hd, hd2, beq_self_eq_true, bne_self_eq_false]; try simp)) (wk_of_eq ?_) (by (repeat (first | exact St.le_refl _ | (refine St.le_new ?_ (by assumption)) | (refine St.le_newT ?_ (by assumption))))))
      (simp only [resAV, rvV, List.map_cons, List.map_nil, ↓R1, RR, seval, q1, q2, q3, q4, hw, hd, hd2, beq_self_eq_true, bne_self_eq_false])
  · have q1 : (checkS l != 0) = true := by rw [bne_iff_ne]; exact ea
    have q3 : (checkS l == 0) = false := by rw [beq_eq_false_iff_ne]; exact ea
    simp only [q3, cond_false]
    (refine Pu_intro c27 b27 (Nat.le_of_ble_eq_true rfl) fun σ => ?_; simp only [c27, ↓R1, RR, seval, q1, q2, q3, q4, hw, hd, hd2, beq_self_eq_true, bne_self_eq_false])
    repeat' (first | (with_reducible rw [allocV_eq]) | (with_reducible refine And.intro ?_ ?_; focus (intros; (repeat' (with_reducible apply And.intro)) <;> first | omega | (simp only [RZ, cP_len, cI_len]; omega))) | (with_reducible apply And.intro) | ((first | (refine gdV_split (fun hc => ?_) (fun hc => ?_) <;> (try simp only [hc, ↓R1, RR, seval, q1, q2, q3, q4, hw, hd, hd2, beq_self_eq_true, bne_self_eq_false])) | refine condV_split (fun hc => ?_) (fun hc => ?_) | (with_reducible intro β hβ; (try simp only [RB] at hβ); (repeat (obtain ⟨⟨_, _⟩, hβ⟩ := hβ)); (try (have hbis := apart_is (by assumption) hβ; obtain ⟨_, _⟩ := hbis))) | refine Pt (h1) ?_ | refine Ct (h1) ?_) <;> (try simp only [↓R1, RR, seval, q1, q2, q3, q4, hw, hd, hd2, beq_self_eq_true, bne_self_eq_false])))
    (refine endP_pu (by simp) (by first | (simp [rvsS, rvS]; done) | (simp only [rvsS, rvS, ↓R1, RR, seval, q1, q2, q3, q4, hw, hd, hd2, beq_self_eq_true, bne_self_eq_false]; try simp)) (wk_of_eq ?_) (by (repeat (first | exact St.le_refl _ | (refine St.le_new ?_ (by assumption)) | (refine St.le_newT ?_ (by assumption))))))
    (simp only [resAV, rvV, List.map_cons, List.map_nil, ↓R1, RR, seval, q1, q2, q3, q4, hw, hd, hd2, beq_self_eq_true, bne_self_eq_false])
end Go.Proofs.YtncadbcjikekhaaGreatDoor
namespace Go.Proofs.YtncadbcjikekhaaGreatDoor
open Go.Abs Go.Lib
structure Cmp3 {α : Type} (f : α → α → Int) : Prop where
  neg : ∀ a b, f b a = - f a b
  cong : ∀ a b c, f a b = 0 → f a c = f b c
  tr : ∀ a b c, f a b ≤ 0 → f b c ≤ 0 → f a c ≤ 0
namespace Cmp3
variable {α β : Type} {f g : α → α → Int}
theorem self (h : Cmp3 f) (a : α) : f a a = 0 := by have := h.neg a a; omega
theorem cong2 (h : Cmp3 f) {a b : α} (c : α) (e : f a b = 0) : f c a = f c b := by
  have := h.cong a b c e; have h1 := h.neg a c; have h2 := h.neg b c; omega
theorem lt (h : Cmp3 f) {a b c : α} (h1 : f a b < 0) (h2 : f b c ≤ 0) : f a c < 0 := by
  have h3 := h.tr a b c (by omega) h2
  rcases Int.lt_or_eq_of_le h3 with h4 | h4
  · exact h4
  · have h5 := h.cong2 b h4
    have h6 := h.neg a b
    omega
theorem pull (h : Cmp3 f) (k : β → α) : Cmp3 (fun a b => f (k a) (k b)) := ⟨fun a b => h.neg _ _, fun a b c => h.cong _ _ _, fun a b c => h.tr _ _ _⟩
theorem or2 (h : Cmp3 f) (k : Cmp3 g) : Cmp3 (fun a b => bif f a b == 0 then g a b else f a b) := by
  refine ⟨fun a b => ?_, fun a b c e => ?_, fun a b c h1 h2 => ?_⟩
  · have h1 := h.neg a b
    cases e : (f a b == 0) with
    | true =>
      have e2 : f a b = 0 := by simpa using e
      have : (f b a == 0) = true := by rw [beq_iff_eq]; omega
      rw [this]; exact k.neg a b
    | false =>
      have e2 : f a b ≠ 0 := by simpa using e
      have : (f b a == 0) = false := by rw [beq_eq_false_iff_ne]; omega
      rw [this]; exact h1
  · have e1 : f a b = 0 := by
      cases e2 : (f a b == 0) with
      | true => simpa using e2
      | false => rw [e2] at e; simpa using e
    have e2 : g a b = 0 := by rw [e1] at e; simpa using e
    show (bif f a c == 0 then g a c else f a c) = _
    rw [h.cong a b c e1, k.cong a b c e2]
  · show (bif f a c == 0 then g a c else f a c) ≤ 0
    have s1 : f a b < 0 ∨ f a b = 0 ∧ g a b ≤ 0 := by
      cases e : (f a b == 0) with
      | true => rw [e] at h1; exact .inr ⟨by simpa using e, h1⟩
      | false => rw [e] at h1; simp only [cond_false] at h1; have : f a b ≠ 0 := by simpa using e
                 exact .inl (by omega)
    have s2 : f b c < 0 ∨ f b c = 0 ∧ g b c ≤ 0 := by
      cases e : (f b c == 0) with
      | true => rw [e] at h2; exact .inr ⟨by simpa using e, h2⟩
      | false => rw [e] at h2; simp only [cond_false] at h2; have : f b c ≠ 0 := by simpa using e
                 exact .inl (by omega)
    rcases s1 with s1 | ⟨s1, t1⟩
    · have h3 : f a c < 0 := h.lt s1 (by rcases s2 with s2 | s2 <;> omega)
      have : (f a c == 0) = false := by rw [beq_eq_false_iff_ne]; omega
      rw [this]; simp only [cond_false]; omega
    · rw [h.cong a b c s1]
      rcases s2 with s2 | ⟨s2, t2⟩
      · have : (f b c == 0) = false := by rw [beq_eq_false_iff_ne]; omega
        rw [this]; simp only [cond_false]; omega
      · rw [s2]; exact k.tr a b c t1 t2
end Cmp3
theorem cmpN3 : Cmp3 cmpN := by
  refine ⟨fun a b => ?_, fun a b c h => ?_, fun a b c h1 h2 => ?_⟩ <;> simp only [cmpN, Bool.cond_eq_ite, decide_eq_true_eq] at * <;> grind
theorem cmpN_zero {a b : Int} (h : cmpN a b = 0) : a = b := by
  simp only [cmpN, Bool.cond_eq_ite, decide_eq_true_eq] at h; grind
theorem cmpL_zero : ∀ {l m : List Int}, cmpL l m = 0 → l = m
  | [], [], _ => rfl
  | [], _ :: _, h => by simp [cmpL] at h
  | _ :: _, [], h => by simp [cmpL] at h
  | a :: l, b :: m, h => by
    unfold cmpL at h
    cases e : (cmpN a b != 0) with
    | true => rw [e] at h; simp only [cond_true] at h; simp [h] at e
    | false =>
      rw [e] at h
      have e2 : cmpN a b = 0 := by simpa using e
      rw [cmpN_zero e2, cmpL_zero h]
theorem cmpL_neg : ∀ l m : List Int, cmpL m l = - cmpL l m
  | [], [] => rfl
  | [], _ :: _ => rfl
  | _ :: _, [] => rfl
  | a :: l, b :: m => by
    unfold cmpL
    have h := cmpN3.neg a b
    cases e : (cmpN a b != 0) with
    | true =>
      have e1 : cmpN a b ≠ 0 := by simpa using e
      have : (cmpN b a != 0) = true := by rw [bne_iff_ne]; omega
      rw [this]; exact h
    | false =>
      have e1 : cmpN a b = 0 := by simpa using e
      have : (cmpN b a != 0) = false := by rw [bne_eq_false_iff_eq]; omega
      rw [this]; exact cmpL_neg l m
theorem cmpL_tr : ∀ l m n : List Int, cmpL l m ≤ 0 → cmpL m n ≤ 0 → cmpL l n ≤ 0
  | [], _, [], _, _ => by simp [cmpL]
  | [], _, _ :: _, _, _ => by simp [cmpL]
  | _ :: _, [], _, h, _ => by simp [cmpL] at h
  | _ :: _, _ :: _, [], _, h => by simp [cmpL] at h
  | a :: l, b :: m, c :: n, h1, h2 => by
    unfold cmpL at h1 h2 ⊢
    cases e1 : (cmpN a b != 0) with
    | true =>
      rw [e1] at h1
      have e3 : cmpN a b ≠ 0 := by simpa using e1
      simp only [cond_true] at h1
      have h3 : cmpN b c ≤ 0 := by
        cases e2 : (cmpN b c != 0) with
        | true => rw [e2] at h2; exact h2
        | false => have : cmpN b c = 0 := by simpa using e2
                   omega
      have h4 := cmpN3.lt (show cmpN a b < 0 by omega) h3
      have : (cmpN a c != 0) = true := by rw [bne_iff_ne]; omega
      rw [this]; simp only [cond_true]; omega
    | false =>
      rw [e1] at h1
      have e3 : cmpN a b = 0 := by simpa using e1
      simp only [cond_false] at h1
      rw [cmpN3.cong a b c e3]
      cases e2 : (cmpN b c != 0) with
      | true => rw [e2] at h2; simp only [cond_true] at h2 ⊢; exact h2
      | false => rw [e2] at h2; simp only [cond_false] at h2 ⊢; exact cmpL_tr l m n h1 h2
theorem cmpL3 : Cmp3 cmpL := ⟨cmpL_neg, fun a b c h => by rw [cmpL_zero h], cmpL_tr⟩
theorem orS_three (a b c : Int) : orS [a, b, c] = bif a == 0 then (bif b == 0 then c else b) else a := by
  simp only [orS, List.find?_cons, List.find?_nil]
  by_cases h : a = 0
  · subst h
    by_cases h2 : b = 0
    · subst h2
      by_cases h3 : c = 0
      · subst h3; rfl
      · have : (c != 0) = true := by rw [bne_iff_ne]; exact h3
        simp [this]
    · have h3 : (b != 0) = true := by rw [bne_iff_ne]; exact h2
      have h4 : (b == 0) = false := by rw [beq_eq_false_iff_ne]; exact h2
      simp [h3, h4]
  · have h3 : (a != 0) = true := by rw [bne_iff_ne]; exact h
    have h4 : (a == 0) = false := by rw [beq_eq_false_iff_ne]; exact h
    simp [h3, h4]
theorem cmpM3 : Cmp3 cmpM := by
  have h := ((cmpN3.pull lastP).or2 ((cmpL3.pull posL).or2 (cmpL3.pull atomL)))
  have e : cmpM = fun a b => bif cmpN (lastP a) (lastP b) == 0 then (bif cmpL (posL a) (posL b) == 0 then cmpL (atomL a) (atomL b) else cmpL (posL a) (posL b)) else cmpN (lastP a) (lastP b) := by
    funext a b; exact orS_three _ _ _
  rw [e]; exact h
theorem pl_ext : ∀ {a b : List Pl}, posL a = posL b → atomL a = atomL b → a = b
  | [], [], _, _ => rfl
  | [], _ :: _, h, _ => by simp [posL] at h
  | _ :: _, [], h, _ => by simp [posL] at h
  | ⟨p, x⟩ :: a, ⟨q, y⟩ :: b, h, k => by
    simp only [posL, atomL, List.map_cons, List.cons.injEq] at h k
    rw [h.1, k.1, pl_ext (a := a) (b := b) h.2 k.2]
theorem cmpM_zero {a b : List Pl} : cmpM a b = 0 ↔ a = b := by
  constructor
  · intro h
    have h := (orS_three _ _ _).symm.trans h
    cases e1 : (cmpN (lastP a) (lastP b) == 0) with
    | false => rw [e1] at h; simp only [cond_false] at h; simp [h] at e1
    | true =>
      rw [e1] at h; simp only [cond_true] at h
      cases e2 : (cmpL (posL a) (posL b) == 0) with
      | false => rw [e2] at h; simp only [cond_false] at h; simp [h] at e2
      | true =>
        rw [e2] at h
        exact pl_ext (cmpL_zero (by simpa using e2)) (cmpL_zero h)
  · rintro rfl; exact cmpM3.self a
end Go.Proofs.YtncadbcjikekhaaGreatDoor
namespace Go.Proofs.YtncadbcjikekhaaGreatDoor
open Go.Abs
set_option linter.all false
section
variable {α : Type} (f : α → α → Int)
def insV (x : α) : List α → List α
  | [] => [x]
  | y :: p => bif decide (f x y < 0) then y :: insV x p else x :: y :: p
def insR (p : List α) (x : α) : List α := (insV f x p.reverse).reverse
def isort (l : List α) : List α := l.foldl (insR f) []
theorem insV_cons (x y : α) (p : List α) : insV f x (y :: p) = bif decide (f x y < 0) then y :: insV f x p else x :: y :: p := rfl
theorem insR_lt (p : List α) (x y : α) (h : f x y < 0) : insR f (p ++ [y]) x = insR f p x ++ [y] := by
  unfold insR
  rw [List.reverse_append]
  show (insV f x (y :: p.reverse)).reverse = _
  rw [insV_cons]
  rw [decide_eq_true h, cond_true, List.reverse_cons]
theorem insR_ge (p : List α) (x y : α) (h : ¬ f x y < 0) : insR f (p ++ [y]) x = p ++ [y, x] := by
  unfold insR
  rw [List.reverse_append]
  show (insV f x (y :: p.reverse)).reverse = _
  rw [insV_cons]
  rw [decide_eq_false h, cond_false, List.reverse_cons, List.reverse_cons, List.reverse_reverse]
  simp
theorem insV_perm (x : α) : ∀ l, (insV f x l).Perm (x :: l)
  | [] => List.Perm.refl _
  | y :: p => by
    rw [insV_cons]
    cases decide (f x y < 0) with
    | true => exact (List.Perm.cons y (insV_perm x p)).trans (List.Perm.swap x y p)
    | false => exact List.Perm.refl _
theorem insR_perm (p : List α) (x : α) : (insR f p x).Perm (p ++ [x]) := by
  unfold insR
  refine (List.reverse_perm _).trans ((insV_perm f x p.reverse).trans ?_)
  refine (List.Perm.cons x (List.reverse_perm p)).trans ?_
  exact (List.perm_append_singleton x p).symm
theorem foldl_perm : ∀ (l p : List α), (l.foldl (insR f) p).Perm (p ++ l)
  | [], p => by simp
  | x :: l, p => by
    rw [List.foldl_cons]
    refine (foldl_perm l (insR f p x)).trans ?_
    refine (List.Perm.append_right l (insR_perm f p x)).trans ?_
    simp
theorem isort_perm (l : List α) : (isort f l).Perm l := by
  have := foldl_perm f l []
  simpa [isort] using this
theorem isort_len (l : List α) : (isort f l).length = l.length := (isort_perm f l).length_eq
def Ord (l : List α) : Prop := l.Pairwise fun a b => f a b ≤ 0
variable {f}
theorem insV_ord (hf : Cmp3 f) {x : α} : ∀ {l : List α}, l.Pairwise (fun a b => f b a ≤ 0) → (insV f x l).Pairwise (fun a b => f b a ≤ 0)
  | [], _ => List.pairwise_singleton _ _
  | y :: p, h => by
    obtain ⟨h1, h2⟩ := List.pairwise_cons.1 h
    rw [insV_cons]
    by_cases hx : f x y < 0
    · rw [decide_eq_true hx, cond_true]
      refine List.pairwise_cons.2 ⟨fun z hz => ?_, insV_ord hf h2⟩
      have := (insV_perm f x p).mem_iff.1 hz
      rcases List.mem_cons.1 this with rfl | hz
      · omega
      · exact h1 z hz
    · rw [decide_eq_false hx, cond_false]
      have hyx : f y x ≤ 0 := by have := hf.neg x y; omega
      refine List.pairwise_cons.2 ⟨fun z hz => ?_, h⟩
      rcases List.mem_cons.1 hz with rfl | hz
      · exact hyx
      · exact hf.tr z y x (h1 z hz) hyx
theorem insR_ord (hf : Cmp3 f) {p : List α} (h : Ord f p) (x : α) : Ord f (insR f p x) := by
  unfold Ord insR at *
  rw [List.pairwise_reverse]
  exact insV_ord hf (List.pairwise_reverse.2 h)
theorem foldl_ord (hf : Cmp3 f) : ∀ (l p : List α), Ord f p → Ord f (l.foldl (insR f) p)
  | [], _, h => h
  | x :: l, p, h => foldl_ord hf l _ (insR_ord hf h x)
theorem isort_ord (hf : Cmp3 f) (l : List α) : Ord f (isort f l) := foldl_ord hf l [] List.Pairwise.nil
theorem insR_last (hf : Cmp3 f) {p : List α} {x : α} (h : Ord f (p ++ [x])) : insR f p x = p ++ [x] := by
  rcases List.eq_nil_or_concat p with rfl | ⟨q, y, rfl⟩
  · rfl
  · rw [List.concat_eq_append] at h ⊢
    have h1 : f y x ≤ 0 := by
      have := (List.pairwise_append.1 h).2.2 y (by simp) x (by simp)
      exact this
    have h2 : ¬ f x y < 0 := by have := hf.neg x y; omega
    rw [insR_ge f q x y h2]; simp
theorem foldl_same (hf : Cmp3 f) : ∀ (l p : List α), Ord f (p ++ l) → l.foldl (insR f) p = p ++ l
  | [], p, _ => by simp
  | x :: l, p, h => by
    have e : p ++ x :: l = (p ++ [x]) ++ l := by simp
    rw [e] at h
    have h1 : Ord f (p ++ [x]) := (List.pairwise_append.1 h).1
    rw [List.foldl_cons, insR_last hf h1, foldl_same hf l _ h, e]
theorem isort_same (hf : Cmp3 f) {l : List α} (h : Ord f l) : isort f l = l := by
  have := foldl_same hf l [] (by simpa using h)
  simpa [isort] using this
theorem foldl_first (x : α) (l : List α) : isort f (x :: l) = l.foldl (insR f) [x] := rfl
end
section
variable {α : Type} (c : α → AV)
def cells (l : List α) (J : List AV) : List AV := l.map c ++ J
theorem cells_len (l : List α) (J : List AV) : (cells c l J).length = l.length + J.length := by simp [cells]
theorem cells_get (A : List α) (x : α) (B : List α) (J : List AV) (k : Nat) (hk : k = A.length) : ((cells c (A ++ x :: B) J).drop k).take 1 = [c x] := by
  subst hk
  unfold cells
  simp
theorem cells_set (A : List α) (x y : α) (B : List α) (J : List AV) (k : Nat) (hk : k = A.length) : (cells c (A ++ x :: B) J).take k ++ [c y] ++ (cells c (A ++ x :: B) J).drop (k + 1) = cells c (A ++ y :: B) J := by
  subst hk
  unfold cells
  have e1 : ((A ++ x :: B).map c ++ J).take A.length = A.map c := by
    rw [List.take_append_of_le_length (by simp), List.map_append]
    have : A.length = (A.map c).length := by simp
    rw [this, List.take_left]
  have e2 : ((A ++ x :: B).map c ++ J).drop (A.length + 1) = B.map c ++ J := by
    have : (A ++ x :: B).map c ++ J = (A.map c ++ [c x]) ++ (B.map c ++ J) := by simp
    rw [this]
    have h2 : A.length + 1 = (A.map c ++ [c x]).length := by simp
    rw [h2, List.drop_left]
  rw [e1, e2]
  simp
end
end Go.Proofs.YtncadbcjikekhaaGreatDoor
namespace Go.Proofs.YtncadbcjikekhaaGreatDoor
open Go.Abs
set_option linter.all false
set_option maxRecDepth 100000
def cM (l : List Pl) : AV := .sl false l.length (l.flatMap cP)
def OkM (l : List Pl) : Prop := l.length ≠ 0 ∧ l.length ≤ 1000000
theorem set_id' {σ : St} {β : Nat} {c : List AV} (h : σ.box β = some c) : σ.setBox β c = σ := by
  cases σ
  simp only [St.setBox] at h ⊢
  congr
  funext γ
  simp only [upd]
  split
  · rename_i e; subst e; rw [h]
  · rfl
theorem le_set_id {σ : St} {β : Nat} {c : List AV} (h : σ.box β = some c) : St.le (σ.setBox β c) σ := by rw [set_id' h]; exact St.le_refl _
theorem le_set_eq {σ : St} {β : Nat} {c c' : List AV} (h : c = c') : St.le (σ.setBox β c) (σ.setBox β c') := h ▸ St.le_refl _
section
variable {σ : St} {β n : Nat} {J : List AV}
set_option maxHeartbeats 4000000 in
theorem a_ins (fro mid C : List (List Pl)) (hn : fro.length + mid.length + C.length ≤ 1000000) (hnn : n = fro.length + mid.length + C.length) (hm : ∀ l ∈ mid, OkM l) (hb : σ.box β = some (cells cM (fro ++ mid ++ C) J)) :
    AC Tryz.prog 115 [.row β 30 1 n, .int .i64 (fro.length : Nat), .int .i64 ((fro.length + mid.length : Nat) : Int), .fn 63 []] σ (fun r s => r = .tup [] ∧ s = σ.setBox β (cells cM (fro ++ isort cmpM mid ++ C) J)) := by
  have q0 : True := trivial
  have q1 : True := trivial
  have q2 : True := trivial
  have hw2 : True := trivial
  have hw3 : True := trivial
  have hd : True := trivial
  have hd2 : True := trivial
  have hd3 : True := trivial
  have hd4 : True := trivial
  have hw : IntKind.i64.wrap ((fro.length : Int) + 1) = ((fro.length + 1 : Nat) : Int) := by rw [wrap64 (by omega) (by omega)]; omega
  cases mid with
  | nil =>
    simp only [List.append_nil, List.length_nil, Nat.add_zero] at hb ⊢
    have q0 : decide (((fro.length + 1 : Nat) : Int) < (fro.length : Int)) = false := by rw [decide_eq_false_iff_not]; omega
    have hiso : isort cmpM ([] : List (List Pl)) = [] := rfl
    rw [hiso, List.append_nil]
    (refine AC_intro c115 b115 (Nat.le_of_ble_eq_true rfl) ?_; simp only [c115, ↓R1, RR, seval, RQ, hb, q0, q1, q2, hw, hw2, hw3, hd, hd2, hd3, hd4])
    repeat' (first | (with_reducible rw [allocV_eq]) | (with_reducible refine And.intro ?_ ?_; focus (intros; (repeat' (with_reducible apply And.intro)) <;> first | omega | (simp only [RZ, cells_len]; omega))) | (with_reducible apply And.intro) | ((first | (refine gdV_split (fun hc => ?_) (fun hc => ?_) <;> (try simp only [hc, ↓R1, RR, seval, RQ, hb, q0, q1, q2, hw, hw2, hw3, hd, hd2, hd3, hd4])) | refine condV_split (fun hc => ?_) (fun hc => ?_) | (with_reducible intro β hβ; (try simp only [RB] at hβ); (repeat (obtain ⟨⟨_, _⟩, hβ⟩ := hβ)); (try (have hbis := apart_is (by assumption) hβ; obtain ⟨_, _⟩ := hbis)))) <;> (try simp only [↓R1, RR, seval, RQ, hb, q0, q1, q2, hw, hw2, hw3, hd, hd2, hd3, hd4])))
    refine loopV_st (α := Unit) (fun _ => [(0, .row β 30 1 n), (1, .int .i64 (fro.length : Nat)), (2, .int .i64 (fro.length : Nat)), (3, .fn 63 []), (8, .int .i64 ((fro.length + 1 : Nat) : Int))]) (fun _ => σ) (fun _ => True) (fun _ => 0) () (by simp [subF, slot, wk_refl]) (St.le_refl _) trivial (fun _ _ => ?_)
    simp only [q0, ↓R1, RR, seval, RQ, hb, q0, q1, q2, hw, hw2, hw3, hd, hd2, hd3, hd4]
    repeat' (first | (with_reducible rw [allocV_eq]) | (with_reducible refine And.intro ?_ ?_; focus (intros; (repeat' (with_reducible apply And.intro)) <;> first | omega | (simp only [RZ, cells_len]; omega))) | (with_reducible apply And.intro) | ((first | (refine gdV_split (fun hc => ?_) (fun hc => ?_) <;> (try simp only [hc, ↓R1, RR, seval, RQ, hb, q0, q1, q2, hw, hw2, hw3, hd, hd2, hd3, hd4])) | refine condV_split (fun hc => ?_) (fun hc => ?_) | (with_reducible intro β hβ; (try simp only [RB] at hβ); (repeat (obtain ⟨⟨_, _⟩, hβ⟩ := hβ)); (try (have hbis := apart_is (by assumption) hβ; obtain ⟨_, _⟩ := hbis)))) <;> (try simp only [↓R1, RR, seval, RQ, hb, q0, q1, q2, hw, hw2, hw3, hd, hd2, hd3, hd4])))
    (refine endP_id (by simp) (by first | (simp [rvsS, rvS]; done) | (simp only [rvsS, rvS, ↓R1, RR, seval, RQ, hb, q0, q1, q2, hw, hw2, hw3, hd, hd2, hd3, hd4]; try simp)) ?_)
    exact ⟨rfl, (set_id' hb).symm⟩
  | cons m0 mid =>
    simp only [List.length_cons] at hn hnn ⊢
    obtain ⟨b, hbb⟩ : ∃ b, fro.length + (mid.length + 1) = b := ⟨_, rfl⟩
    rw [hbb]
    obtain ⟨R, hR⟩ : ∃ R, isort cmpM (m0 :: mid) = R := ⟨_, rfl⟩
    rw [hR]
    (refine AC_intro c115 b115 (Nat.le_of_ble_eq_true rfl) ?_; simp only [c115, ↓R1, RR, seval, RQ, hb, q0, q1, q2, hw, hw2, hw3, hd, hd2, hd3, hd4])
    repeat' (first | (with_reducible rw [allocV_eq]) | (with_reducible refine And.intro ?_ ?_; focus (intros; (repeat' (with_reducible apply And.intro)) <;> first | omega | (simp only [RZ, cells_len]; omega))) | (with_reducible apply And.intro) | ((first | (refine gdV_split (fun hc => ?_) (fun hc => ?_) <;> (try simp only [hc, ↓R1, RR, seval, RQ, hb, q0, q1, q2, hw, hw2, hw3, hd, hd2, hd3, hd4])) | refine condV_split (fun hc => ?_) (fun hc => ?_) | (with_reducible intro β hβ; (try simp only [RB] at hβ); (repeat (obtain ⟨⟨_, _⟩, hβ⟩ := hβ)); (try (have hbis := apart_is (by assumption) hβ; obtain ⟨_, _⟩ := hbis)))) <;> (try simp only [↓R1, RR, seval, RQ, hb, q0, q1, q2, hw, hw2, hw3, hd, hd2, hd3, hd4])))
    refine loopV_st (α := List (List Pl) × List (List Pl)) (fun a => [(0, .row β 30 1 n), (1, .int .i64 (fro.length : Nat)), (2, .int .i64 (b : Nat)), (3, .fn 63 []), (8, .int .i64 ((fro.length + a.1.length : Nat) : Int))]) (fun a => σ.setBox β (cells cM (fro ++ a.1 ++ a.2 ++ C) J))
      (fun a => a.2.foldl (insR cmpM) a.1 = R ∧ a.1.length + a.2.length = mid.length + 1 ∧ (∀ l ∈ a.1, OkM l) ∧ ∀ l ∈ a.2, OkM l) (fun a => a.2.length) ([m0], mid) (by simp [subF, slot, wk_refl]) (le_set_id (by rw [hb]; simp)) ⟨by rw [← hR, foldl_first], by simp; omega, by intro l hl; exact hm l (by simp at hl; simp [hl]), by intro l hl; exact hm l (by simp [hl])⟩ (fun a ha => ?_)
    obtain ⟨D, T⟩ := a
    obtain ⟨h1, h2, h3, h4⟩ := ha
    simp only at h1 h2 h3 h4 ⊢
    cases T with
    | nil =>
      have q0 : decide (((fro.length + D.length : Nat) : Int) < (b : Int)) = false := by rw [decide_eq_false_iff_not]; simp at h2; omega
      simp only [q0, ↓R1, RR, seval, RQ, hb, q0, q1, q2, hw, hw2, hw3, hd, hd2, hd3, hd4]
      repeat' (first | (with_reducible rw [allocV_eq]) | (with_reducible refine And.intro ?_ ?_; focus (intros; (repeat' (with_reducible apply And.intro)) <;> first | omega | (simp only [RZ, cells_len]; omega))) | (with_reducible apply And.intro) | ((first | (refine gdV_split (fun hc => ?_) (fun hc => ?_) <;> (try simp only [hc, ↓R1, RR, seval, RQ, hb, q0, q1, q2, hw, hw2, hw3, hd, hd2, hd3, hd4])) | refine condV_split (fun hc => ?_) (fun hc => ?_) | (with_reducible intro β hβ; (try simp only [RB] at hβ); (repeat (obtain ⟨⟨_, _⟩, hβ⟩ := hβ)); (try (have hbis := apart_is (by assumption) hβ; obtain ⟨_, _⟩ := hbis)))) <;> (try simp only [↓R1, RR, seval, RQ, hb, q0, q1, q2, hw, hw2, hw3, hd, hd2, hd3, hd4])))
      (refine endP_id (by simp) (by first | (simp [rvsS, rvS]; done) | (simp only [rvsS, rvS, ↓R1, RR, seval, RQ, hb, q0, q1, q2, hw, hw2, hw3, hd, hd2, hd3, hd4]; try simp)) ?_)
      refine ⟨rfl, ?_⟩
      have : D = R := h1
      rw [this]
    | cons x T =>
      simp only [List.length_cons] at h2
      have q0 : decide (((fro.length + D.length : Nat) : Int) < (b : Int)) = true := by rw [decide_eq_true_eq]; omega
      have e0 : fro ++ D ++ x :: T ++ C = (fro ++ D) ++ x :: (T ++ C) := by simp
      rw [e0]
      simp only [q0, ↓R1, RR, seval, RQ, hb, q0, q1, q2, hw, hw2, hw3, hd, hd2, hd3, hd4]
      repeat' (first | (with_reducible rw [allocV_eq]) | (with_reducible refine And.intro ?_ ?_; focus (intros; (repeat' (with_reducible apply And.intro)) <;> first | omega | (simp only [RZ, cells_len]; omega))) | (with_reducible apply And.intro) | ((first | (refine gdV_split (fun hc => ?_) (fun hc => ?_) <;> (try simp only [hc, ↓R1, RR, seval, RQ, hb, q0, q1, q2, hw, hw2, hw3, hd, hd2, hd3, hd4])) | refine condV_split (fun hc => ?_) (fun hc => ?_) | (with_reducible intro β hβ; (try simp only [RB] at hβ); (repeat (obtain ⟨⟨_, _⟩, hβ⟩ := hβ)); (try (have hbis := apart_is (by assumption) hβ; obtain ⟨_, _⟩ := hbis)))) <;> (try simp only [↓R1, RR, seval, RQ, hb, q0, q1, q2, hw, hw2, hw3, hd, hd2, hd3, hd4])))
      refine loopV_st (α := List (List Pl) × List (List Pl)) (fun a => [(0, .row β 30 1 n), (1, .int .i64 (fro.length : Nat)), (2, .int .i64 (b : Nat)), (3, .fn 63 []), (8, .int .i64 ((fro.length + D.length : Nat) : Int)), (9, .int .i64 ((fro.length + a.1.length : Nat) : Int))]) (fun a => σ.setBox β (cells cM ((fro ++ a.1) ++ x :: (a.2 ++ T ++ C)) J))
        (fun a => insR cmpM D x = insR cmpM a.1 x ++ a.2 ∧ a.1.length + a.2.length = D.length ∧ (∀ l ∈ a.1, OkM l)) (fun a => a.1.length) (D, []) (by simp [subF, slot, wk_refl]) (by simp only [List.nil_append]; exact St.le_refl _) ⟨by simp, by simp, h3⟩ (fun a ha => ?_)
      obtain ⟨A, B⟩ := a
      obtain ⟨i1, i2, i3⟩ := ha
      simp only at i1 i2 i3 ⊢
      rcases List.eq_nil_or_concat A with rfl | ⟨A', y, rfl⟩
      · have q1 : decide ((fro.length : Int) < (fro.length : Int)) = false := by rw [decide_eq_false_iff_not]; omega
        have hw3 : IntKind.i64.wrap (((fro.length + D.length : Nat) : Int) + 1) = ((fro.length + (x :: B).length : Nat) : Int) := by rw [wrap64 (by omega) (by omega)]; simp at i2 ⊢; omega
        simp only [q1, ↓R1, RR, seval, RQ, hb, q0, q1, q2, hw, hw2, hw3, hd, hd2, hd3, hd4]
        repeat' (first | (with_reducible rw [allocV_eq]) | (with_reducible refine And.intro ?_ ?_; focus (intros; (repeat' (with_reducible apply And.intro)) <;> first | omega | (simp only [RZ, cells_len]; omega))) | (with_reducible apply And.intro) | ((first | (refine gdV_split (fun hc => ?_) (fun hc => ?_) <;> (try simp only [hc, ↓R1, RR, seval, RQ, hb, q0, q1, q2, hw, hw2, hw3, hd, hd2, hd3, hd4])) | refine condV_split (fun hc => ?_) (fun hc => ?_) | (with_reducible intro β hβ; (try simp only [RB] at hβ); (repeat (obtain ⟨⟨_, _⟩, hβ⟩ := hβ)); (try (have hbis := apart_is (by assumption) hβ; obtain ⟨_, _⟩ := hbis))) | (refine callvGV_no ?_)) <;> (try simp only [↓R1, RR, seval, RQ, hb, q0, q1, q2, hw, hw2, hw3, hd, hd2, hd3, hd4])))
        have e1 : insR cmpM D x = x :: B := by rw [i1]; rfl
        refine ⟨(x :: B, T), ⟨?_, ?_, ?_, fun l hl => h4 l (List.mem_cons_of_mem _ hl)⟩, by simp [subF, slot, wk_refl], le_set_eq (by simp), by simp⟩
        · have := h1; rw [List.foldl_cons, e1] at this; exact this
        · simp at i2 ⊢; omega
        · intro l hl
          have : l ∈ insR cmpM D x := by rw [e1]; exact hl
          have := (insR_perm cmpM D x).mem_iff.1 this
          rcases List.mem_append.1 this with h | h
          · exact h3 l h
          · exact h4 l (by simp at h; simp [h])
      · rw [List.concat_eq_append] at i1 i2 i3 ⊢
        simp only [List.length_append, List.length_cons, List.length_nil] at i2
        have q1 : decide ((fro.length : Int) < ((fro.length + (A' ++ [y]).length : Nat) : Int)) = true := by rw [decide_eq_true_eq]; simp; omega
        have hw2 : IntKind.i64.wrap (((fro.length + (A' ++ [y]).length : Nat) : Int) - 1) = ((fro.length + A'.length : Nat) : Int) := by rw [wrap64 (by simp; omega) (by simp; omega)]; simp; omega
        obtain ⟨Q, hQ⟩ : ∃ Q, B ++ T ++ C = Q := ⟨_, rfl⟩
        have hQl : Q.length = B.length + T.length + C.length := by rw [← hQ]; simp; omega
        rw [hQ]
        have hd : List.take 1 (List.drop ((fro.length + (A' ++ [y]).length) * 1) (cells cM (fro ++ (A' ++ [y]) ++ x :: Q) J)) = [cM x] := cells_get cM (fro ++ (A' ++ [y])) x Q J _ (by simp)
        have hd2 : List.take 1 (List.drop ((fro.length + A'.length) * 1) (cells cM (fro ++ (A' ++ [y]) ++ x :: Q) J)) = [cM y] := by
          rw [show fro ++ (A' ++ [y]) ++ x :: Q = (fro ++ A') ++ y :: (x :: Q) by simp]
          exact cells_get cM (fro ++ A') y (x :: Q) J _ (by simp)
        have hcl : (cells cM (fro ++ (A' ++ [y]) ++ x :: Q) J).length = n + J.length := by rw [cells_len]; simp; omega
        have hcmp := p63 x y (h4 x (by simp)).1 (i3 y (by simp)).1 (h4 x (by simp)).2 (i3 y (by simp)).2
        by_cases hlt : cmpM x y < 0
        · have q2 : decide (cmpM x y < 0) = true := decide_eq_true hlt
          simp only [q1, ↓R1, RR, seval, RQ, hb, q0, q1, q2, hw, hw2, hw3, hd, hd2, hd3, hd4]
          repeat' (first | (with_reducible rw [allocV_eq]) | (with_reducible refine And.intro ?_ ?_; focus (intros; (repeat' (with_reducible apply And.intro)) <;> first | omega | (simp only [RZ, cells_len]; omega))) | (with_reducible apply And.intro) | ((first | (refine gdV_split (fun hc => ?_) (fun hc => ?_) <;> (try simp only [hc, ↓R1, RR, seval, RQ, hb, q0, q1, q2, hw, hw2, hw3, hd, hd2, hd3, hd4])) | refine condV_split (fun hc => ?_) (fun hc => ?_) | (with_reducible intro β hβ; (try simp only [RB] at hβ); (repeat (obtain ⟨⟨_, _⟩, hβ⟩ := hβ)); (try (have hbis := apart_is (by assumption) hβ; obtain ⟨_, _⟩ := hbis))) | refine Pt (hcmp) ?_ | refine Ct (hcmp) ?_ | (refine callGV_pu (fun hgv => ⟨?_, (hcmp), wkL_refl _⟩) ?_; (first | trivial | (focus (simp only [↓R1, RR, seval, RQ, hb, q0, q1, q2, hw, hw2, hw3, hd, hd2, hd3, hd4]; done))))) <;> (try simp only [↓R1, RR, seval, RQ, hb, q0, q1, q2, hw, hw2, hw3, hd, hd2, hd3, hd4])))
          refine ⟨(A', y :: B), ⟨?_, ?_, fun l hl => i3 l (by simp [hl])⟩, by simp [subF, slot, wk_refl], le_set_eq ?_, by simp⟩
          · rw [i1, insR_lt cmpM A' x y hlt]; simp
          · simp; omega
          · have s1 := cells_set cM (fro ++ (A' ++ [y])) x y Q J ((fro.length + (A' ++ [y]).length) * 1) (by simp)
            rw [s1, show fro ++ (A' ++ [y]) ++ y :: Q = (fro ++ A') ++ y :: (y :: Q) by simp]
            have s2 := cells_set cM (fro ++ A') y x (y :: Q) J ((fro.length + A'.length) * 1) (by simp)
            rw [s2, ← hQ]; simp
        · have q2 : decide (cmpM x y < 0) = false := decide_eq_false hlt
          have hw3 : IntKind.i64.wrap (((fro.length + D.length : Nat) : Int) + 1) = ((fro.length + (A' ++ y :: x :: B).length : Nat) : Int) := by rw [wrap64 (by omega) (by omega)]; simp; omega
          simp only [q1, ↓R1, RR, seval, RQ, hb, q0, q1, q2, hw, hw2, hw3, hd, hd2, hd3, hd4]
          repeat' (first | (with_reducible rw [allocV_eq]) | (with_reducible refine And.intro ?_ ?_; focus (intros; (repeat' (with_reducible apply And.intro)) <;> first | omega | (simp only [RZ, cells_len]; omega))) | (with_reducible apply And.intro) | ((first | (refine gdV_split (fun hc => ?_) (fun hc => ?_) <;> (try simp only [hc, ↓R1, RR, seval, RQ, hb, q0, q1, q2, hw, hw2, hw3, hd, hd2, hd3, hd4])) | refine condV_split (fun hc => ?_) (fun hc => ?_) | (with_reducible intro β hβ; (try simp only [RB] at hβ); (repeat (obtain ⟨⟨_, _⟩, hβ⟩ := hβ)); (try (have hbis := apart_is (by assumption) hβ; obtain ⟨_, _⟩ := hbis))) | refine Pt (hcmp) ?_ | refine Ct (hcmp) ?_ | (refine callGV_pu (fun hgv => ⟨?_, (hcmp), wkL_refl _⟩) ?_; (first | trivial | (focus (simp only [↓R1, RR, seval, RQ, hb, q0, q1, q2, hw, hw2, hw3, hd, hd2, hd3, hd4]; done))))) <;> (try simp only [↓R1, RR, seval, RQ, hb, q0, q1, q2, hw, hw2, hw3, hd, hd2, hd3, hd4])))
          have e1 : insR cmpM D x = A' ++ y :: x :: B := by rw [i1, insR_ge cmpM A' x y hlt]; simp
          refine ⟨(A' ++ y :: x :: B, T), ⟨?_, ?_, ?_, fun l hl => h4 l (List.mem_cons_of_mem _ hl)⟩, by simp [subF, slot, wk_refl], le_set_eq (by rw [← hQ]; simp), by simp⟩
          · have := h1; rw [List.foldl_cons, e1] at this; exact this
          · simp; omega
          · intro l hl
            have : l ∈ insR cmpM D x := by rw [e1]; exact hl
            have := (insR_perm cmpM D x).mem_iff.1 this
            rcases List.mem_append.1 this with h | h
            · exact h3 l h
            · exact h4 l (by simp at h; simp [h])
end
end Go.Proofs.YtncadbcjikekhaaGreatDoor
namespace Go.Proofs.YtncadbcjikekhaaGreatDoor
open Go.Abs
set_option linter.all false
set_option maxRecDepth 100000
section
variable {σ : St} {β n : Nat} {J : List AV}
set_option maxHeartbeats 4000000 in
theorem a_swap (A X B Y C : List (List Pl)) (hn : A.length + X.length + B.length + Y.length + C.length ≤ 1000000) (hnn : n = A.length + X.length + B.length + Y.length + C.length) (hxy : Y.length = X.length)
    (f : AV) (hb : σ.box β = some (cells cM (A ++ X ++ B ++ Y ++ C) J)) :
    AC Tryz.prog 145 [.row β 30 1 n, .int .i64 (A.length : Nat), .int .i64 ((A.length + X.length + B.length : Nat) : Int), .int .i64 (X.length : Nat), f] σ (fun r s => r = .tup [] ∧ s = σ.setBox β (cells cM (A ++ Y ++ B ++ X ++ C) J)) := by
  have q0 : True := trivial
  have hw : True := trivial
  have hw2 : True := trivial
  have hw3 : True := trivial
  have hd : True := trivial
  have hd2 : True := trivial
  obtain ⟨a, ha⟩ : ∃ a, A.length = a := ⟨_, rfl⟩
  obtain ⟨b, hbb⟩ : ∃ b, A.length + X.length + B.length = b := ⟨_, rfl⟩
  obtain ⟨m, hm⟩ : ∃ m, X.length = m := ⟨_, rfl⟩
  rw [hbb, ha, hm]
  (refine AC_intro c145 b145 (Nat.le_of_ble_eq_true rfl) ?_; simp only [c145, ↓R1, RR, seval, RQ, hb, q0, hw, hw2, hw3, hd, hd2])
  repeat' (first | (with_reducible rw [allocV_eq]) | (with_reducible refine And.intro ?_ ?_; focus (intros; (repeat' (with_reducible apply And.intro)) <;> first | omega | (simp only [RZ, cells_len]; omega))) | (with_reducible apply And.intro) | ((first | (refine gdV_split (fun hc => ?_) (fun hc => ?_) <;> (try simp only [hc, ↓R1, RR, seval, RQ, hb, q0, hw, hw2, hw3, hd, hd2])) | refine condV_split (fun hc => ?_) (fun hc => ?_) | (with_reducible intro β hβ; (try simp only [RB] at hβ); (repeat (obtain ⟨⟨_, _⟩, hβ⟩ := hβ)); (try (have hbis := apart_is (by assumption) hβ; obtain ⟨_, _⟩ := hbis)))) <;> (try simp only [↓R1, RR, seval, RQ, hb, q0, hw, hw2, hw3, hd, hd2])))
  refine loopV_for m (fun i => [(0, .row β 30 1 n), (1, .int .i64 (a : Nat)), (2, .int .i64 (b : Nat)), (3, .int .i64 (m : Nat)), (10, .int .i64 (i : Nat))]) (fun i => σ.setBox β (cells cM (A ++ (Y.take i ++ X.drop i) ++ B ++ (X.take i ++ Y.drop i) ++ C) J)) (fun _ => True) (by simp [subF, slot, wk_refl]) (le_set_id (by rw [hb]; simp)) trivial (fun i hi _ => ?_)
  by_cases hlt : i < m
  · have q0 : decide ((i : Int) < (m : Int)) = true := by rw [decide_eq_true_eq]; omega
    have hx : i < X.length := by omega
    have hy : i < Y.length := by omega
    have hw : IntKind.i64.wrap ((i : Int) + 1) = ((i + 1 : Nat) : Int) := by rw [wrap64 (by omega) (by omega)]; omega
    have hw2 : IntKind.i64.wrap ((a : Int) + (i : Int)) = ((a + i : Nat) : Int) := by rw [wrap64 (by omega) (by omega)]; omega
    have hw3 : IntKind.i64.wrap ((b : Int) + (i : Int)) = ((b + i : Nat) : Int) := by rw [wrap64 (by omega) (by omega)]; omega
    have dX : X.drop i = X[i] :: X.drop (i + 1) := List.drop_eq_getElem_cons hx
    have dY : Y.drop i = Y[i] :: Y.drop (i + 1) := List.drop_eq_getElem_cons hy
    have tX : X.take (i + 1) = X.take i ++ [X[i]] := List.take_succ_eq_append_getElem hx
    have tY : Y.take (i + 1) = Y.take i ++ [Y[i]] := List.take_succ_eq_append_getElem hy
    have eL : A ++ (Y.take i ++ X.drop i) ++ B ++ (X.take i ++ Y.drop i) ++ C = (A ++ Y.take i) ++ X[i] :: (X.drop (i + 1) ++ B ++ X.take i ++ Y[i] :: (Y.drop (i + 1) ++ C)) := by
      rw [dX, dY]; simp only [List.append_assoc, List.cons_append]
    have eR : A ++ (Y.take i ++ X.drop i) ++ B ++ (X.take i ++ Y.drop i) ++ C = (A ++ Y.take i ++ X[i] :: X.drop (i + 1) ++ B ++ X.take i) ++ Y[i] :: (Y.drop (i + 1) ++ C) := by
      rw [dX, dY]; simp only [List.append_assoc, List.cons_append]
    have l1 : (A ++ Y.take i).length = (a + i) * 1 := by simp; omega
    have l2 : (A ++ Y.take i ++ X[i] :: X.drop (i + 1) ++ B ++ X.take i).length = (b + i) * 1 := by simp; omega
    obtain ⟨L, hL⟩ : ∃ L, A ++ (Y.take i ++ X.drop i) ++ B ++ (X.take i ++ Y.drop i) ++ C = L := ⟨_, rfl⟩
    have hLl : L.length = n := by rw [← hL]; simp; omega
    have hd : List.take 1 (List.drop ((a + i) * 1) (cells cM L J)) = [cM X[i]] := by rw [← hL, eL]; exact cells_get cM _ _ _ J _ l1.symm
    have hd2 : List.take 1 (List.drop ((b + i) * 1) (cells cM L J)) = [cM Y[i]] := by rw [← hL, eR]; exact cells_get cM _ _ _ J _ l2.symm
    have hcl : (cells cM L J).length = n + J.length := by rw [cells_len, hLl]
    rw [hL]
    simp only [q0, ↓R1, RR, seval, RQ, hb, q0, hw, hw2, hw3, hd, hd2]
    repeat' (first | (with_reducible rw [allocV_eq]) | (with_reducible refine And.intro ?_ ?_; focus (intros; (repeat' (with_reducible apply And.intro)) <;> first | omega | (simp only [RZ, cells_len]; omega))) | (with_reducible apply And.intro) | ((first | (refine gdV_split (fun hc => ?_) (fun hc => ?_) <;> (try simp only [hc, ↓R1, RR, seval, RQ, hb, q0, hw, hw2, hw3, hd, hd2])) | refine condV_split (fun hc => ?_) (fun hc => ?_) | (with_reducible intro β hβ; (try simp only [RB] at hβ); (repeat (obtain ⟨⟨_, _⟩, hβ⟩ := hβ)); (try (have hbis := apart_is (by assumption) hβ; obtain ⟨_, _⟩ := hbis)))) <;> (try simp only [↓R1, RR, seval, RQ, hb, q0, hw, hw2, hw3, hd, hd2])))
    · simp [subF, slot, wk_refl]
    · refine le_set_eq ?_
      rw [← hL, eL, cells_set cM (A ++ Y.take i) X[i] Y[i] _ J _ l1.symm]
      have e2 : A ++ Y.take i ++ Y[i] :: (X.drop (i + 1) ++ B ++ X.take i ++ Y[i] :: (Y.drop (i + 1) ++ C)) = (A ++ Y.take i ++ Y[i] :: X.drop (i + 1) ++ B ++ X.take i) ++ Y[i] :: (Y.drop (i + 1) ++ C) := by simp only [List.append_assoc, List.cons_append]
      rw [e2, cells_set cM (A ++ Y.take i ++ Y[i] :: X.drop (i + 1) ++ B ++ X.take i) Y[i] X[i] _ J _ (by simp; omega), tX, tY]
      simp only [List.append_assoc, List.cons_append, List.nil_append]
  · have hie : i = m := by omega
    subst hie
    have q0 : decide ((i : Int) < (i : Int)) = false := by simp
    have e1 : A ++ (Y.take i ++ X.drop i) ++ B ++ (X.take i ++ Y.drop i) ++ C = A ++ Y ++ B ++ X ++ C := by
      rw [List.take_of_length_le (show Y.length ≤ i by omega), List.take_of_length_le (show X.length ≤ i by omega), List.drop_of_length_le (show Y.length ≤ i by omega), List.drop_of_length_le (show X.length ≤ i by omega)]; simp
    rw [e1]
    simp only [q0, ↓R1, RR, seval, RQ, hb, q0, hw, hw2, hw3, hd, hd2]
    repeat' (first | (with_reducible rw [allocV_eq]) | (with_reducible refine And.intro ?_ ?_; focus (intros; (repeat' (with_reducible apply And.intro)) <;> first | omega | (simp only [RZ, cells_len]; omega))) | (with_reducible apply And.intro) | ((first | (refine gdV_split (fun hc => ?_) (fun hc => ?_) <;> (try simp only [hc, ↓R1, RR, seval, RQ, hb, q0, hw, hw2, hw3, hd, hd2])) | refine condV_split (fun hc => ?_) (fun hc => ?_) | (with_reducible intro β hβ; (try simp only [RB] at hβ); (repeat (obtain ⟨⟨_, _⟩, hβ⟩ := hβ)); (try (have hbis := apart_is (by assumption) hβ; obtain ⟨_, _⟩ := hbis)))) <;> (try simp only [↓R1, RR, seval, RQ, hb, q0, hw, hw2, hw3, hd, hd2])))
    (refine endP_id (by simp) (by first | (simp [rvsS, rvS]; done) | (simp only [rvsS, rvS, ↓R1, RR, seval, RQ, hb, q0, hw, hw2, hw3, hd, hd2]; try simp)) ?_)
    exact ⟨rfl, rfl⟩
end
end Go.Proofs.YtncadbcjikekhaaGreatDoor
namespace Go.Proofs.YtncadbcjikekhaaGreatDoor
open Go.Abs
set_option linter.all false
set_option maxRecDepth 100000
structure Rot (A U V C : List (List Pl)) (m : Nat) (q : List (List Pl) × List (List Pl) × List (List Pl) × List (List Pl)) : Prop where
  eq : q.1 ++ q.2.2.1 ++ q.2.1 ++ q.2.2.2 = A ++ V ++ U ++ C
  at' : q.1.length + q.2.1.length = m
  u : q.2.1.length ≠ 0
  v : q.2.2.1.length ≠ 0
  len : q.1.length + q.2.1.length + q.2.2.1.length + q.2.2.2.length = A.length + U.length + V.length + C.length
section
variable {σ : St} {β n : Nat} {J : List AV}
set_option maxHeartbeats 4000000 in
theorem a_rot (A U V C : List (List Pl)) (hU : U.length ≠ 0) (hV : V.length ≠ 0) (hn : A.length + U.length + V.length + C.length ≤ 1000000) (hnn : n = A.length + U.length + V.length + C.length)
    (hb : σ.box β = some (cells cM (A ++ U ++ V ++ C) J)) :
    AC Tryz.prog 129 [.row β 30 1 n, .int .i64 (A.length : Nat), .int .i64 ((A.length + U.length : Nat) : Int), .int .i64 ((A.length + U.length + V.length : Nat) : Int), .fn 63 []] σ (fun r s => r = .tup [] ∧ s = σ.setBox β (cells cM (A ++ V ++ U ++ C) J)) := by
  have q0 : True := trivial
  have q1 : True := trivial
  have hw3 : True := trivial
  have hw4 : True := trivial
  obtain ⟨a, ha⟩ : ∃ a, A.length = a := ⟨_, rfl⟩
  obtain ⟨m, hm⟩ : ∃ m, A.length + U.length = m := ⟨_, rfl⟩
  obtain ⟨b, hbb⟩ : ∃ b, A.length + U.length + V.length = b := ⟨_, rfl⟩
  rw [hbb, hm, ha]
  have hw : IntKind.i64.wrap ((m : Int) - (a : Int)) = ((U.length : Nat) : Int) := by rw [wrap64 (by omega) (by omega)]; omega
  have hw2 : IntKind.i64.wrap ((b : Int) - (m : Int)) = ((V.length : Nat) : Int) := by rw [wrap64 (by omega) (by omega)]; omega
  (refine AC_intro c129 b129 (Nat.le_of_ble_eq_true rfl) ?_; simp only [c129, ↓R1, RR, seval, RQ, hb, q0, q1, hw, hw2, hw3, hw4])
  repeat' (first | (with_reducible rw [allocV_eq]) | (with_reducible refine And.intro ?_ ?_; focus (intros; (repeat' (with_reducible apply And.intro)) <;> first | omega | (simp only [RZ, cells_len]; omega))) | (with_reducible apply And.intro) | ((first | (refine gdV_split (fun hc => ?_) (fun hc => ?_) <;> (try simp only [hc, ↓R1, RR, seval, RQ, hb, q0, q1, hw, hw2, hw3, hw4])) | refine condV_split (fun hc => ?_) (fun hc => ?_) | (with_reducible intro β hβ; (try simp only [RB] at hβ); (repeat (obtain ⟨⟨_, _⟩, hβ⟩ := hβ)); (try (have hbis := apart_is (by assumption) hβ; obtain ⟨_, _⟩ := hbis)))) <;> (try simp only [↓R1, RR, seval, RQ, hb, q0, q1, hw, hw2, hw3, hw4])))
  refine loopV_st (α := List (List Pl) × List (List Pl) × List (List Pl) × List (List Pl)) (fun q => [(0, .row β 30 1 n), (2, .int .i64 (m : Nat)), (4, .fn 63 []), (10, .int .i64 (q.2.1.length : Nat)), (11, .int .i64 (q.2.2.1.length : Nat))]) (fun q => σ.setBox β (cells cM (q.1 ++ q.2.1 ++ q.2.2.1 ++ q.2.2.2) J))
    (Rot A U V C m) (fun q => q.2.1.length + q.2.2.1.length) (A, U, V, C) (by simp [subF, slot, wk_refl]) (le_set_id hb) ⟨rfl, hm, hU, hV, rfl⟩ (fun q hq => ?_)
  obtain ⟨Pp, X, Y, S⟩ := q
  obtain ⟨r1, r2, r3, r4, r5⟩ := hq
  simp only at r1 r2 r3 r4 r5 ⊢
  have hw3 : IntKind.i64.wrap ((m : Int) - (X.length : Int)) = ((Pp.length : Nat) : Int) := by rw [wrap64 (by omega) (by omega)]; omega
  by_cases hxy : X.length = Y.length
  · have q0 : ((X.length : Int) != (Y.length : Int)) = false := by rw [hxy]; simp
    have hs := a_swap (σ := σ.setBox β (cells cM (Pp ++ X ++ Y ++ S) J)) (β := β) (n := n) (J := J) Pp X [] Y S (by simp only [List.length_nil]; omega) (by simp only [List.length_nil]; omega) hxy.symm (.fn 63 []) (by simp [St.setBox, upd])
    simp only [List.append_nil, List.length_nil, Nat.add_zero] at hs
    rw [r2] at hs
    simp only [q0, ↓R1, RR, seval, RQ, hb, q0, q1, hw, hw2, hw3, hw4]
    repeat' (first | (with_reducible rw [allocV_eq]) | (with_reducible refine And.intro ?_ ?_; focus (intros; (repeat' (with_reducible apply And.intro)) <;> first | omega | (simp only [RZ, cells_len]; omega))) | (with_reducible apply And.intro) | ((first | (refine gdV_split (fun hc => ?_) (fun hc => ?_) <;> (try simp only [hc, ↓R1, RR, seval, RQ, hb, q0, q1, hw, hw2, hw3, hw4])) | refine condV_split (fun hc => ?_) (fun hc => ?_) | (with_reducible intro β hβ; (try simp only [RB] at hβ); (repeat (obtain ⟨⟨_, _⟩, hβ⟩ := hβ)); (try (have hbis := apart_is (by assumption) hβ; obtain ⟨_, _⟩ := hbis))) | (refine AC.mono (AC.wk (hs) (wkL_refl _)) ?_; (rintro _ _ ⟨rfl, rfl⟩))) <;> (try simp only [↓R1, RR, seval, RQ, hb, q0, q1, hw, hw2, hw3, hw4])))
    (refine endP_id (by simp) (by first | (simp [rvsS, rvS]; done) | (simp only [rvsS, rvS, ↓R1, RR, seval, RQ, hb, q0, q1, hw, hw2, hw3, hw4]; try simp)) ?_)
    exact ⟨rfl, by rw [r1]⟩
  · have q0 : ((X.length : Int) != (Y.length : Int)) = true := by rw [bne_iff_ne]; omega
    by_cases hgt : Y.length < X.length
    · have q1 : decide ((Y.length : Int) < (X.length : Int)) = true := by rw [decide_eq_true_eq]; omega
      have hw4 : IntKind.i64.wrap ((X.length : Int) - (Y.length : Int)) = ((X.length - Y.length : Nat) : Int) := by rw [wrap64 (by omega) (by omega)]; omega
      have l1 : (X.take Y.length).length = Y.length := by rw [List.length_take]; omega
      have l2 : (X.drop Y.length).length = X.length - Y.length := by rw [List.length_drop]
      have hs := a_swap (σ := σ.setBox β (cells cM (Pp ++ X ++ Y ++ S) J)) (β := β) (n := n) (J := J) Pp (X.take Y.length) (X.drop Y.length) Y S (by omega) (by omega) (by omega) (.fn 63 []) (by
        have : Pp ++ X.take Y.length ++ X.drop Y.length ++ Y ++ S = Pp ++ X ++ Y ++ S := by rw [List.append_assoc Pp, List.take_append_drop]
        rw [this]; simp [St.setBox, upd])
      rw [l1, l2, show Pp.length + Y.length + (X.length - Y.length) = m by omega] at hs
      simp only [q0, ↓R1, RR, seval, RQ, hb, q0, q1, hw, hw2, hw3, hw4]
      repeat' (first | (with_reducible rw [allocV_eq]) | (with_reducible refine And.intro ?_ ?_; focus (intros; (repeat' (with_reducible apply And.intro)) <;> first | omega | (simp only [RZ, cells_len]; omega))) | (with_reducible apply And.intro) | ((first | (refine gdV_split (fun hc => ?_) (fun hc => ?_) <;> (try simp only [hc, ↓R1, RR, seval, RQ, hb, q0, q1, hw, hw2, hw3, hw4])) | refine condV_split (fun hc => ?_) (fun hc => ?_) | (with_reducible intro β hβ; (try simp only [RB] at hβ); (repeat (obtain ⟨⟨_, _⟩, hβ⟩ := hβ)); (try (have hbis := apart_is (by assumption) hβ; obtain ⟨_, _⟩ := hbis))) | (refine AC.mono (AC.wk (hs) (wkL_refl _)) ?_; (rintro _ _ ⟨rfl, rfl⟩))) <;> (try simp only [↓R1, RR, seval, RQ, hb, q0, q1, hw, hw2, hw3, hw4])))
      refine ⟨(Pp ++ Y, X.drop Y.length, X.take Y.length, S), ⟨?_, by show (Pp ++ Y).length + (X.drop Y.length).length = m; rw [List.length_append]; omega, by show (X.drop Y.length).length ≠ 0; omega, by show (X.take Y.length).length ≠ 0; omega, by show (Pp ++ Y).length + (X.drop Y.length).length + (X.take Y.length).length + S.length = _; rw [List.length_append]; omega⟩, ?_, ?_, by show (X.drop Y.length).length + (X.take Y.length).length < _; omega⟩
      · rw [← r1]; simp only [List.append_assoc]; rw [← List.append_assoc (X.take _), List.take_append_drop]
      · simp only [List.length_drop, l1]; simp [subF, slot, wk_refl]
      · exact le_set_eq (by simp)
    · have q1 : decide ((Y.length : Int) < (X.length : Int)) = false := by rw [decide_eq_false_iff_not]; omega
      have hw4 : IntKind.i64.wrap (IntKind.i64.wrap ((m : Int) + (Y.length : Int)) - (X.length : Int)) = ((Pp.length + X.length + (Y.length - X.length) : Nat) : Int) := by rw [wrap64 (n := (m : Int) + (Y.length : Int)) (by omega) (by omega), wrap64 (by omega) (by omega)]; omega
      have hw5 : IntKind.i64.wrap ((Y.length : Int) - (X.length : Int)) = ((Y.length - X.length : Nat) : Int) := by rw [wrap64 (by omega) (by omega)]; omega
      have l1 : (Y.take (Y.length - X.length)).length = Y.length - X.length := by rw [List.length_take]; omega
      have l2 : (Y.drop (Y.length - X.length)).length = X.length := by rw [List.length_drop]; omega
      have hs := a_swap (σ := σ.setBox β (cells cM (Pp ++ X ++ Y ++ S) J)) (β := β) (n := n) (J := J) Pp X (Y.take (Y.length - X.length)) (Y.drop (Y.length - X.length)) S (by omega) (by omega) (by omega) (.fn 63 []) (by
        have : Pp ++ X ++ Y.take (Y.length - X.length) ++ Y.drop (Y.length - X.length) ++ S = Pp ++ X ++ Y ++ S := by rw [List.append_assoc (Pp ++ X), List.take_append_drop]
        rw [this]; simp [St.setBox, upd])
      rw [l1] at hs
      simp only [q0, ↓R1, RR, seval, RQ, hb, q0, q1, hw, hw2, hw3, hw4]
      repeat' (first | (with_reducible rw [allocV_eq]) | (with_reducible refine And.intro ?_ ?_; focus (intros; (repeat' (with_reducible apply And.intro)) <;> first | omega | (simp only [RZ, cells_len]; omega))) | (with_reducible apply And.intro) | ((first | (refine gdV_split (fun hc => ?_) (fun hc => ?_) <;> (try simp only [hc, ↓R1, RR, seval, RQ, hb, q0, q1, hw, hw2, hw3, hw4])) | refine condV_split (fun hc => ?_) (fun hc => ?_) | (with_reducible intro β hβ; (try simp only [RB] at hβ); (repeat (obtain ⟨⟨_, _⟩, hβ⟩ := hβ)); (try (have hbis := apart_is (by assumption) hβ; obtain ⟨_, _⟩ := hbis))) | (refine AC.mono (AC.wk (hs) (wkL_refl _)) ?_; (rintro _ _ ⟨rfl, rfl⟩))) <;> (try simp only [↓R1, RR, seval, RQ, hb, q0, q1, hw, hw2, hw3, hw4])))
      refine ⟨(Pp, Y.drop (Y.length - X.length), Y.take (Y.length - X.length), X ++ S), ⟨?_, by show Pp.length + (Y.drop (Y.length - X.length)).length = m; omega, by show (Y.drop (Y.length - X.length)).length ≠ 0; omega, by show (Y.take (Y.length - X.length)).length ≠ 0; omega, by show Pp.length + (Y.drop (Y.length - X.length)).length + (Y.take (Y.length - X.length)).length + (X ++ S).length = _; rw [List.length_append]; omega⟩, ?_, ?_, by show (Y.drop (Y.length - X.length)).length + (Y.take (Y.length - X.length)).length < _; omega⟩
      · rw [← r1]; simp only [List.append_assoc]; rw [← List.append_assoc (Y.take _), List.take_append_drop]
      · simp only [l1, l2, hw5]; simp [subF, slot, wk_refl]
      · exact le_set_eq (by simp)
end
end Go.Proofs.YtncadbcjikekhaaGreatDoor
namespace Go.Proofs.YtncadbcjikekhaaGreatDoor
open Go.Abs
set_option linter.all false
section
variable {α : Type} {f : α → α → Int}
theorem ord_uniq (hf : Cmp3 f) (hz : ∀ a b, f a b = 0 → a = b) : ∀ {l m : List α}, Ord f l → Ord f m → l.Perm m → l = m
  | [], m, _, _, hp => (List.nil_perm.1 hp).symm
  | a :: l, [], _, _, hp => absurd hp.length_eq (by simp)
  | a :: l, b :: m, h1, h2, hp => by
    obtain ⟨p1, p2⟩ := List.pairwise_cons.1 h1
    obtain ⟨q1, q2⟩ := List.pairwise_cons.1 h2
    have e : a = b := by
      have ha : a ∈ b :: m := hp.mem_iff.1 List.mem_cons_self
      have hb : b ∈ a :: l := hp.mem_iff.2 List.mem_cons_self
      have l1 : f b a ≤ 0 := by
        rcases List.mem_cons.1 ha with rfl | ha
        · rw [hf.self]; exact Int.le_refl _
        · exact q1 a ha
      have l2 : f a b ≤ 0 := by
        rcases List.mem_cons.1 hb with rfl | hb
        · rw [hf.self]; exact Int.le_refl _
        · exact p1 b hb
      have := hf.neg a b
      exact hz a b (by omega)
    subst e
    rw [ord_uniq hf hz p2 q2 hp.cons_inv]
theorem isort_uniq (hf : Cmp3 f) (hz : ∀ a b, f a b = 0 → a = b) {l m : List α} (h1 : Ord f l) (h2 : l.Perm m) : l = isort f m :=
  ord_uniq hf hz h1 (isort_ord hf m) (h2.trans (isort_perm f m).symm)
theorem isort_congr (hf : Cmp3 f) (hz : ∀ a b, f a b = 0 → a = b) {l m : List α} (h : l.Perm m) : isort f l = isort f m :=
  isort_uniq hf hz (isort_ord hf l) ((isort_perm f l).trans h)
theorem ord_app {l m : List α} (h1 : Ord f l) (h2 : Ord f m) (h3 : ∀ x ∈ l, ∀ y ∈ m, f x y ≤ 0) : Ord f (l ++ m) :=
  List.pairwise_append.2 ⟨h1, h2, h3⟩
theorem ord_left {l m : List α} (h : Ord f (l ++ m)) : Ord f l := (List.pairwise_append.1 h).1
theorem ord_right {l m : List α} (h : Ord f (l ++ m)) : Ord f m := (List.pairwise_append.1 h).2.1
theorem halves (hf : Cmp3 f) (hz : ∀ a b, f a b = 0 → a = b) {U1 U2 V1 V2 : List α} (hU : Ord f (U1 ++ U2)) (hV : Ord f (V1 ++ V2))
    (h1 : ∀ x ∈ U1, ∀ y ∈ V2, f x y ≤ 0) (h2 : ∀ x ∈ V1, ∀ y ∈ U2, f x y ≤ 0) : isort f (U1 ++ V1) ++ isort f (U2 ++ V2) = isort f ((U1 ++ U2) ++ (V1 ++ V2)) := by
  refine isort_uniq hf hz (ord_app (isort_ord hf _) (isort_ord hf _) ?_) ?_
  · intro x hx y hy
    have hx := (isort_perm f _).mem_iff.1 hx
    have hy := (isort_perm f _).mem_iff.1 hy
    rcases List.mem_append.1 hx with hx | hx <;> rcases List.mem_append.1 hy with hy | hy
    · exact (List.pairwise_append.1 hU).2.2 x hx y hy
    · exact h1 x hx y hy
    · exact h2 x hx y hy
    · exact (List.pairwise_append.1 hV).2.2 x hx y hy
  · refine ((isort_perm f _).append (isort_perm f _)).trans ?_
    rw [List.append_assoc, List.append_assoc]
    refine List.Perm.append_left U1 ?_
    rw [← List.append_assoc, ← List.append_assoc]
    exact List.Perm.append_right V2 List.perm_append_comm
theorem ord_get {l : List α} (hf : Cmp3 f) (h : Ord f l) {i j : Nat} (hi : i < l.length) (hj : j < l.length) (hij : i ≤ j) : f l[i] l[j] ≤ 0 := by
  rcases Nat.lt_or_eq_of_le hij with hlt | rfl
  · exact List.pairwise_iff_getElem.1 h i j hi hj hlt
  · rw [hf.self]; exact Int.le_refl _
theorem cross (hf : Cmp3 f) {U V : List α} (hU : Ord f U) (hV : Ord f V) {i j : Nat} (hi : i < U.length) (hj : j < V.length) (h : f U[i] V[j] ≤ 0) : ∀ x ∈ U.take (i + 1), ∀ y ∈ V.drop j, f x y ≤ 0 := by
  intro x hx y hy
  obtain ⟨k, hk, rfl⟩ := List.mem_iff_getElem.1 hx
  obtain ⟨l, hl, rfl⟩ := List.mem_iff_getElem.1 hy
  rw [List.length_take] at hk
  rw [List.length_drop] at hl
  rw [List.getElem_take, List.getElem_drop]
  exact hf.tr _ _ _ (ord_get hf hU (by omega) hi (by omega)) (hf.tr _ _ _ h (ord_get hf hV hj (by omega) (by omega)))
theorem among (hf : Cmp3 f) (hz : ∀ a b, f a b = 0 → a = b) {V : List α} (hV : Ord f V) {x : α} {k : Nat} (hk : k ≤ V.length) (h1 : ∀ y ∈ V.take k, f y x ≤ 0) (h2 : ∀ y ∈ V.drop k, f x y ≤ 0) : V.take k ++ x :: V.drop k = isort f (x :: V) := by
  refine isort_uniq hf hz ?_ ?_
  · have hV2 : Ord f (V.take k ++ V.drop k) := by rw [List.take_append_drop]; exact hV
    refine ord_app (ord_left hV2) (List.pairwise_cons.2 ⟨h2, ord_right hV2⟩) (fun y hy z hz2 => ?_)
    rcases List.mem_cons.1 hz2 with rfl | hz2
    · exact h1 y hy
    · exact (List.pairwise_append.1 hV2).2.2 y hy z hz2
  · refine List.perm_middle.trans ?_
    rw [List.take_append_drop]
theorem up_to (hf : Cmp3 f) {V : List α} (hV : Ord f V) {x : α} {k : Nat} (hk : k < V.length) (h : f V[k] x ≤ 0) : ∀ y ∈ V.take (k + 1), f y x ≤ 0 := by
  intro y hy
  obtain ⟨i, hi, rfl⟩ := List.mem_iff_getElem.1 hy
  rw [List.length_take] at hi
  rw [List.getElem_take]
  exact hf.tr _ _ _ (ord_get hf hV (by omega) hk (by omega)) h
theorem from_on (hf : Cmp3 f) {V : List α} (hV : Ord f V) {x : α} {k : Nat} (hk : k < V.length) (h : f x V[k] ≤ 0) : ∀ y ∈ V.drop k, f x y ≤ 0 := by
  intro y hy
  obtain ⟨i, hi, rfl⟩ := List.mem_iff_getElem.1 hy
  rw [List.length_drop] at hi
  rw [List.getElem_drop]
  exact hf.tr _ _ _ h (ord_get hf hV hk (by omega) (by omega))
end
theorem cmpM_eq {a b : List Pl} (h : cmpM a b = 0) : a = b := cmpM_zero.1 h
theorem cells_at {α : Type} (c : α → AV) (L : List α) (J : List AV) {k : Nat} (h : k < L.length) : List.take 1 (List.drop (k * 1) (cells c L J)) = [c L[k]] := by
  have e : L = L.take k ++ L[k] :: L.drop (k + 1) := by rw [List.getElem_cons_drop, List.take_append_drop]
  have := cells_get c (L.take k) L[k] (L.drop (k + 1)) J (k * 1) (by rw [List.length_take]; omega)
  rw [← e] at this
  exact this
end Go.Proofs.YtncadbcjikekhaaGreatDoor
namespace Go.Proofs.YtncadbcjikekhaaGreatDoor
open Go.Abs
set_option linter.all false
set_option maxRecDepth 100000
theorem half64 (i j : Nat) (h : i + j ≤ 2000000) : IntKind.u64.wrap (IntKind.i64.wrap ((i : Int) + (j : Int))) = ((i + j : Nat) : Int) := by
  rw [wrap64 (by omega) (by omega)]
  show _ % 18446744073709551616 = _
  omega
theorem half_mid {i j h : Nat} (hh : (i + j) / 2 = h) (hl : i + j ≤ 2000000) : IntKind.i64.wrap (((i + j : Nat) : Int).fdiv (2 ^ min 1 IntKind.u64.bits)) = (h : Int) := by
  have e : (2 : Int) ^ min 1 IntKind.u64.bits = 2 := by decide
  have : ((i + j : Nat) : Int).fdiv 2 = (h : Int) := by rw [Int.fdiv_eq_ediv_of_nonneg _ (by omega)]; omega
  rw [e, this, wrap64 (by omega) (by omega)]
theorem at_x {α : Type} {L A V C : List α} {x : α} (hL : A ++ x :: V ++ C = L) {a : Nat} (ha : A.length = a) (h : a < L.length) : L[a] = x := by
  subst hL; subst ha
  simp
theorem at_v {α : Type} {L A V C : List α} {x : α} (hL : A ++ x :: V ++ C = L) {k m : Nat} (hm : A.length + 1 = m) (h1 : m ≤ k) (h2 : k - m < V.length) (h : k < L.length) : L[k] = V[k - m] := by
  subst hL; subst hm
  have e : k = A.length + 1 + (k - (A.length + 1)) := by omega
  generalize k - (A.length + 1) = d at *
  subst e
  have h3 : (A ++ x :: V ++ C)[A.length + 1 + d]? = V[d]? := by
    rw [List.append_assoc, List.getElem?_append_right (by omega)]
    rw [show A.length + 1 + d - A.length = d + 1 by omega, List.cons_append, List.getElem?_cons_succ, List.getElem?_append_left h2]
  rw [List.getElem?_eq_getElem h, List.getElem?_eq_getElem h2] at h3
  exact Option.some.inj h3
section
variable {σ : St} {β n : Nat} {J : List AV}
set_option maxHeartbeats 8000000 in
theorem a_sym1 (A V C : List (List Pl)) (x : List Pl) (hV : V.length ≠ 0) (hn : A.length + 1 + V.length + C.length ≤ 1000000) (hnn : n = A.length + 1 + V.length + C.length) (ho : Ord cmpM V) (hx : OkM x) (hv : ∀ l ∈ V, OkM l)
    (hb : σ.box β = some (cells cM (A ++ x :: V ++ C) J)) :
    AC Tryz.prog 116 [.row β 30 1 n, .int .i64 (A.length : Nat), .int .i64 ((A.length + 1 : Nat) : Int), .int .i64 ((A.length + 1 + V.length : Nat) : Int), .fn 63 []] σ (fun r s => r = .tup [] ∧ s = σ.setBox β (cells cM (A ++ isort cmpM (x :: V) ++ C) J)) := by
  have q0 : True := trivial
  have q1 : True := trivial
  have q2 : True := trivial
  have q3 : True := trivial
  have hw2 : True := trivial
  have hw3 : True := trivial
  have hh : True := trivial
  have hd : True := trivial
  have hd2 : True := trivial
  obtain ⟨a, ha⟩ : ∃ a, A.length = a := ⟨_, rfl⟩
  obtain ⟨m, hm⟩ : ∃ m, A.length + 1 = m := ⟨_, rfl⟩
  obtain ⟨b, hbb⟩ : ∃ b, A.length + 1 + V.length = b := ⟨_, rfl⟩
  rw [hbb, hm, ha]
  have hw : IntKind.i64.wrap ((m : Int) - (a : Int)) = 1 := by rw [wrap64 (by omega) (by omega)]; omega
  obtain ⟨L, hL⟩ : ∃ L, A ++ x :: V ++ C = L := ⟨_, rfl⟩
  have hLl : L.length = n := by rw [← hL]; simp; omega
  have hcl : (cells cM L J).length = n + J.length := by rw [cells_len, hLl]
  rw [hL] at hb
  (refine AC_intro c116 b116 (Nat.le_of_ble_eq_true rfl) ?_; simp only [c116, ↓R1, RR, seval, RQ, hb, q0, q1, q2, q3, hw, hw2, hw3, hh, hd, hd2])
  repeat' (first | (with_reducible rw [allocV_eq]) | (with_reducible refine And.intro ?_ ?_; focus (intros; (repeat' (with_reducible apply And.intro)) <;> first | omega | (simp only [RZ, cells_len]; omega))) | (with_reducible apply And.intro) | ((first | (refine gdV_split (fun hc => ?_) (fun hc => ?_) <;> (try simp only [hc, ↓R1, RR, seval, RQ, hb, q0, q1, q2, q3, hw, hw2, hw3, hh, hd, hd2])) | refine condV_split (fun hc => ?_) (fun hc => ?_) | (with_reducible intro β hβ; (try simp only [RB] at hβ); (repeat (obtain ⟨⟨_, _⟩, hβ⟩ := hβ)); (try (have hbis := apart_is (by assumption) hβ; obtain ⟨_, _⟩ := hbis)))) <;> (try simp only [↓R1, RR, seval, RQ, hb, q0, q1, q2, q3, hw, hw2, hw3, hh, hd, hd2])))
  refine loopV_st (α := Nat × Nat) (fun q => [(0, .row β 30 1 n), (1, .int .i64 (a : Nat)), (4, .fn 63 []), (10, .int .i64 (q.1 : Nat)), (11, .int .i64 (q.2 : Nat))]) (fun q => σ)
    (fun q => m ≤ q.1 ∧ q.1 ≤ q.2 ∧ q.2 ≤ b ∧ (∀ y ∈ V.take (q.1 - m), cmpM y x ≤ 0) ∧ ∀ y ∈ V.drop (q.2 - m), cmpM x y ≤ 0) (fun q => q.2 - q.1) (m, b) (by simp [subF, slot, wk_refl]) (St.le_refl _)
    ⟨by omega, by simp only; omega, by omega, by simp, by simp only; rw [List.drop_of_length_le (by omega)]; simp⟩ (fun q hq => ?_)
  obtain ⟨i, j⟩ := q
  obtain ⟨i1, i2, i3, i4, i5⟩ := hq
  simp only at i1 i2 i3 i4 i5 ⊢
  have hLa : L[a]'(by omega) = x := at_x hL ha _
  by_cases hlt : i < j
  · have q1 : decide ((i : Int) < (j : Int)) = true := by rw [decide_eq_true_eq]; omega
    obtain ⟨h, hh0⟩ : ∃ h, (i + j) / 2 = h := ⟨_, rfl⟩
    have hw2 := half64 i j (by omega)
    have hh : IntKind.i64.wrap (((i + j : Nat) : Int).fdiv (2 ^ min 1 IntKind.u64.bits)) = (h : Int) := half_mid hh0 (by omega)
    have hd2 := cells_at cM L J (k := a) (by omega)
    rw [hLa] at hd2
    have hhV : h - m < V.length := by omega
    have hLh : L[h]'(by omega) = V[h - m] := at_v hL hm (by omega) hhV _
    have hd := cells_at cM L J (k := h) (by omega)
    rw [hLh] at hd
    obtain ⟨y, hy⟩ : ∃ y, V[h - m] = y := ⟨_, rfl⟩
    have hyV : y ∈ V := by rw [← hy]; exact List.getElem_mem hhV
    rw [hy] at hd
    have hcmp := p63 y x (hv y hyV).1 hx.1 (hv y hyV).2 hx.2
    have hw3 : IntKind.i64.wrap ((h : Int) + 1) = ((h + 1 : Nat) : Int) := by rw [wrap64 (by omega) (by omega)]; omega
    by_cases hc2 : cmpM y x < 0
    · have q2 : decide (cmpM y x < 0) = true := decide_eq_true hc2
      simp only [q1, ↓R1, RR, seval, RQ, hb, q0, q1, q2, q3, hw, hw2, hw3, hh, hd, hd2]
      repeat' (first | (with_reducible rw [allocV_eq]) | (with_reducible refine And.intro ?_ ?_; focus (intros; (repeat' (with_reducible apply And.intro)) <;> first | omega | (simp only [RZ, cells_len]; omega))) | (with_reducible apply And.intro) | ((first | (refine gdV_split (fun hc => ?_) (fun hc => ?_) <;> (try simp only [hc, ↓R1, RR, seval, RQ, hb, q0, q1, q2, q3, hw, hw2, hw3, hh, hd, hd2])) | refine condV_split (fun hc => ?_) (fun hc => ?_) | (with_reducible intro β hβ; (try simp only [RB] at hβ); (repeat (obtain ⟨⟨_, _⟩, hβ⟩ := hβ)); (try (have hbis := apart_is (by assumption) hβ; obtain ⟨_, _⟩ := hbis))) | refine callDV_pu (hcmp) (wkL_refl _) ?_) <;> (try simp only [↓R1, RR, seval, RQ, hb, q0, q1, q2, q3, hw, hw2, hw3, hh, hd, hd2])))
      refine ⟨(h + 1, j), ⟨by simp only; omega, by simp only; omega, i3, ?_, i5⟩, by simp [subF, slot, wk_refl], St.le_refl _, by simp only; omega⟩
      simp only
      rw [show h + 1 - m = (h - m) + 1 by omega]
      exact up_to cmpM3 ho hhV (by rw [hy]; omega)
    · have q2 : decide (cmpM y x < 0) = false := decide_eq_false hc2
      simp only [q1, ↓R1, RR, seval, RQ, hb, q0, q1, q2, q3, hw, hw2, hw3, hh, hd, hd2]
      repeat' (first | (with_reducible rw [allocV_eq]) | (with_reducible refine And.intro ?_ ?_; focus (intros; (repeat' (with_reducible apply And.intro)) <;> first | omega | (simp only [RZ, cells_len]; omega))) | (with_reducible apply And.intro) | ((first | (refine gdV_split (fun hc => ?_) (fun hc => ?_) <;> (try simp only [hc, ↓R1, RR, seval, RQ, hb, q0, q1, q2, q3, hw, hw2, hw3, hh, hd, hd2])) | refine condV_split (fun hc => ?_) (fun hc => ?_) | (with_reducible intro β hβ; (try simp only [RB] at hβ); (repeat (obtain ⟨⟨_, _⟩, hβ⟩ := hβ)); (try (have hbis := apart_is (by assumption) hβ; obtain ⟨_, _⟩ := hbis))) | refine callDV_pu (hcmp) (wkL_refl _) ?_) <;> (try simp only [↓R1, RR, seval, RQ, hb, q0, q1, q2, q3, hw, hw2, hw3, hh, hd, hd2])))
      refine ⟨(i, h), ⟨i1, by simp only; omega, by simp only; omega, i4, ?_⟩, by simp [subF, slot, wk_refl], St.le_refl _, by simp only; omega⟩
      simp only
      exact from_on cmpM3 ho hhV (by rw [hy]; have := cmpM3.neg y x; omega)
  · have hij : i = j := by omega
    subst hij
    have q1 : decide ((i : Int) < (i : Int)) = false := by simp
    simp only [q1, ↓R1, RR, seval, RQ, hb, q0, q1, q2, q3, hw, hw2, hw3, hh, hd, hd2]
    repeat' (first | (with_reducible rw [allocV_eq]) | (with_reducible refine And.intro ?_ ?_; focus (intros; (repeat' (with_reducible apply And.intro)) <;> first | omega | (simp only [RZ, cells_len]; omega))) | (with_reducible apply And.intro) | ((first | (refine gdV_split (fun hc => ?_) (fun hc => ?_) <;> (try simp only [hc, ↓R1, RR, seval, RQ, hb, q0, q1, q2, q3, hw, hw2, hw3, hh, hd, hd2])) | refine condV_split (fun hc => ?_) (fun hc => ?_) | (with_reducible intro β hβ; (try simp only [RB] at hβ); (repeat (obtain ⟨⟨_, _⟩, hβ⟩ := hβ)); (try (have hbis := apart_is (by assumption) hβ; obtain ⟨_, _⟩ := hbis)))) <;> (try simp only [↓R1, RR, seval, RQ, hb, q0, q1, q2, q3, hw, hw2, hw3, hh, hd, hd2])))
    obtain ⟨V1, hV1⟩ : ∃ V1, V.take (i - m) = V1 := ⟨_, rfl⟩
    obtain ⟨V2, hV2⟩ : ∃ V2, V.drop (i - m) = V2 := ⟨_, rfl⟩
    have hV12 : V1 ++ V2 = V := by rw [← hV1, ← hV2, List.take_append_drop]
    have hl1 : V1.length = i - m := by rw [← hV1, List.length_take]; omega
    have ham := among cmpM3 (fun _ _ => cmpM_eq) ho (x := x) (k := i - m) (by omega) i4 i5
    rw [hV1, hV2] at ham
    have hw2 : IntKind.i64.wrap ((i : Int) - 1) = ((i - 1 : Nat) : Int) := by rw [wrap64 (by omega) (by omega)]; omega
    refine loopV_for V1.length (fun d => [(0, .row β 30 1 n), (10, .int .i64 (i : Nat)), (13, .int .i64 ((a + d : Nat) : Int))]) (fun d => σ.setBox β (cells cM (A ++ V1.take d ++ x :: (V1.drop d ++ V2 ++ C)) J)) (fun _ => True) (by simp [subF, slot, wk_refl]) (le_set_id (by rw [hb, ← hL, ← hV12]; simp)) trivial (fun d hd0 _ => ?_)
    by_cases hdl : d < V1.length
    · have q3 : decide (((a + d : Nat) : Int) < ((i - 1 : Nat) : Int)) = true := by rw [decide_eq_true_eq]; omega
      have hw3 : IntKind.i64.wrap (((a + d : Nat) : Int) + 1) = ((a + d + 1 : Nat) : Int) := by rw [wrap64 (by omega) (by omega)]; omega
      have dV : V1.drop d = V1[d] :: V1.drop (d + 1) := List.drop_eq_getElem_cons hdl
      have tV : V1.take (d + 1) = V1.take d ++ [V1[d]] := List.take_succ_eq_append_getElem hdl
      obtain ⟨y, hy⟩ : ∃ y, V1[d] = y := ⟨_, rfl⟩
      rw [hy] at dV tV
      obtain ⟨Z, hZ⟩ : ∃ Z, V1.drop (d + 1) ++ V2 ++ C = Z := ⟨_, rfl⟩
      have e1 : A ++ V1.take d ++ x :: (V1.drop d ++ V2 ++ C) = (A ++ V1.take d) ++ x :: (y :: Z) := by rw [dV, ← hZ]; simp
      have l1 : (A ++ V1.take d).length = a + d := by simp; omega
      have hd := cells_get cM (A ++ V1.take d) x (y :: Z) J ((a + d) * 1) (by omega)
      have hd2 : List.take 1 (List.drop ((a + d + 1) * 1) (cells cM ((A ++ V1.take d) ++ x :: (y :: Z)) J)) = [cM y] := by
        rw [show (A ++ V1.take d) ++ x :: (y :: Z) = (A ++ V1.take d ++ [x]) ++ y :: Z by simp]
        exact cells_get cM _ y Z J _ (by rw [List.length_append, l1]; simp)
      have hcl2 : (cells cM ((A ++ V1.take d) ++ x :: (y :: Z)) J).length = n + J.length := by
        have h5 := congrArg List.length hZ
        have h6 := congrArg List.length hV12
        simp only [List.length_append, List.length_drop] at h5 h6
        rw [cells_len, List.length_append, l1]; simp; omega
      have hdn : a + d + 1 < n := by
        have h6 := congrArg List.length hV12
        simp only [List.length_append] at h6
        omega
      rw [e1]
      simp only [q3, ↓R1, RR, seval, RQ, hb, q0, q1, q2, q3, hw, hw2, hw3, hh, hd, hd2]
      repeat' (first | (with_reducible rw [allocV_eq]) | (with_reducible refine And.intro ?_ ?_; focus (intros; (repeat' (with_reducible apply And.intro)) <;> first | omega | (simp only [RZ, cells_len]; omega))) | (with_reducible apply And.intro) | ((first | (refine gdV_split (fun hc => ?_) (fun hc => ?_) <;> (try simp only [hc, ↓R1, RR, seval, RQ, hb, q0, q1, q2, q3, hw, hw2, hw3, hh, hd, hd2])) | refine condV_split (fun hc => ?_) (fun hc => ?_) | (with_reducible intro β hβ; (try simp only [RB] at hβ); (repeat (obtain ⟨⟨_, _⟩, hβ⟩ := hβ)); (try (have hbis := apart_is (by assumption) hβ; obtain ⟨_, _⟩ := hbis)))) <;> (try simp only [↓R1, RR, seval, RQ, hb, q0, q1, q2, q3, hw, hw2, hw3, hh, hd, hd2])))
      · rw [show a + d + 1 = a + (d + 1) by omega]; simp [subF, slot, wk_refl]
      · refine le_set_eq ?_
        rw [cells_set cM (A ++ V1.take d) x y (y :: Z) J _ (by omega)]
        rw [show (A ++ V1.take d) ++ y :: (y :: Z) = (A ++ V1.take d ++ [y]) ++ y :: Z by simp]
        rw [cells_set cM (A ++ V1.take d ++ [y]) y x Z J _ (by rw [List.length_append, l1]; simp), tV, ← hZ]
        simp
    · have hde : d = V1.length := by omega
      have q3 : decide (((a + d : Nat) : Int) < ((i - 1 : Nat) : Int)) = false := by rw [decide_eq_false_iff_not]; omega
      have e1 : A ++ V1.take d ++ x :: (V1.drop d ++ V2 ++ C) = A ++ isort cmpM (x :: V) ++ C := by
        rw [hde, List.take_length, List.drop_length, ← ham]; simp
      rw [e1]
      simp only [q3, ↓R1, RR, seval, RQ, hb, q0, q1, q2, q3, hw, hw2, hw3, hh, hd, hd2]
      repeat' (first | (with_reducible rw [allocV_eq]) | (with_reducible refine And.intro ?_ ?_; focus (intros; (repeat' (with_reducible apply And.intro)) <;> first | omega | (simp only [RZ, cells_len]; omega))) | (with_reducible apply And.intro) | ((first | (refine gdV_split (fun hc => ?_) (fun hc => ?_) <;> (try simp only [hc, ↓R1, RR, seval, RQ, hb, q0, q1, q2, q3, hw, hw2, hw3, hh, hd, hd2])) | refine condV_split (fun hc => ?_) (fun hc => ?_) | (with_reducible intro β hβ; (try simp only [RB] at hβ); (repeat (obtain ⟨⟨_, _⟩, hβ⟩ := hβ)); (try (have hbis := apart_is (by assumption) hβ; obtain ⟨_, _⟩ := hbis)))) <;> (try simp only [↓R1, RR, seval, RQ, hb, q0, q1, q2, q3, hw, hw2, hw3, hh, hd, hd2])))
      (refine endP_id (by simp) (by first | (simp [rvsS, rvS]; done) | (simp only [rvsS, rvS, ↓R1, RR, seval, RQ, hb, q0, q1, q2, q3, hw, hw2, hw3, hh, hd, hd2]; try simp)) ?_)
      exact ⟨rfl, rfl⟩
theorem at_u {α : Type} {L A U C : List α} {y : α} (hL : A ++ U ++ y :: C = L) {k a : Nat} (ha : A.length = a) (h1 : a ≤ k) (h2 : k - a < U.length) (h : k < L.length) : L[k] = U[k - a] := by
  subst hL; subst ha
  have e : k = A.length + (k - A.length) := by omega
  generalize k - A.length = d at *
  subst e
  have h3 : (A ++ U ++ y :: C)[A.length + d]? = U[d]? := by
    rw [List.append_assoc, List.getElem?_append_right (by omega)]
    rw [show A.length + d - A.length = d by omega, List.getElem?_append_left h2]
  rw [List.getElem?_eq_getElem h, List.getElem?_eq_getElem h2] at h3
  exact Option.some.inj h3
theorem at_y {α : Type} {L A U C : List α} {y : α} (hL : A ++ U ++ y :: C = L) {m : Nat} (hm : A.length + U.length = m) (h : m < L.length) : L[m] = y := by
  subst hL; subst hm
  rw [List.getElem_append_right (by simp)]
  simp
set_option maxHeartbeats 8000000 in
theorem a_sym2 (A U C : List (List Pl)) (y : List Pl) (hU : U.length ≠ 0) (hU1 : U.length ≠ 1) (hn : A.length + U.length + 1 + C.length ≤ 1000000) (hnn : n = A.length + U.length + 1 + C.length) (ho : Ord cmpM U) (hy : OkM y) (hu : ∀ l ∈ U, OkM l)
    (hb : σ.box β = some (cells cM (A ++ U ++ y :: C) J)) :
    AC Tryz.prog 116 [.row β 30 1 n, .int .i64 (A.length : Nat), .int .i64 ((A.length + U.length : Nat) : Int), .int .i64 ((A.length + U.length + 1 : Nat) : Int), .fn 63 []] σ (fun r s => r = .tup [] ∧ s = σ.setBox β (cells cM (A ++ isort cmpM (y :: U) ++ C) J)) := by
  have q1 : True := trivial
  have q2 : True := trivial
  have q3 : True := trivial
  have hw2 : True := trivial
  have hw3 : True := trivial
  have hh : True := trivial
  have hd : True := trivial
  have hd2 : True := trivial
  obtain ⟨a, ha⟩ : ∃ a, A.length = a := ⟨_, rfl⟩
  obtain ⟨m, hm⟩ : ∃ m, A.length + U.length = m := ⟨_, rfl⟩
  obtain ⟨b, hbb⟩ : ∃ b, A.length + U.length + 1 = b := ⟨_, rfl⟩
  rw [hbb, hm, ha]
  have hw : IntKind.i64.wrap ((b : Int) - (m : Int)) = 1 := by rw [wrap64 (by omega) (by omega)]; omega
  have q0 : (IntKind.i64.wrap ((m : Int) - (a : Int)) == 1) = false := by rw [wrap64 (by omega) (by omega), beq_eq_false_iff_ne]; omega
  obtain ⟨L, hL⟩ : ∃ L, A ++ U ++ y :: C = L := ⟨_, rfl⟩
  have hLl : L.length = n := by rw [← hL]; simp; omega
  have hcl : (cells cM L J).length = n + J.length := by rw [cells_len, hLl]
  rw [hL] at hb
  (refine AC_intro c116 b116 (Nat.le_of_ble_eq_true rfl) ?_; simp only [c116, ↓R1, RR, seval, RQ, hb, q0, q1, q2, q3, hw, hw2, hw3, hh, hd, hd2])
  repeat' (first | (with_reducible rw [allocV_eq]) | (with_reducible refine And.intro ?_ ?_; focus (intros; (repeat' (with_reducible apply And.intro)) <;> first | omega | (simp only [RZ, cells_len]; omega))) | (with_reducible apply And.intro) | ((first | (refine gdV_split (fun hc => ?_) (fun hc => ?_) <;> (try simp only [hc, ↓R1, RR, seval, RQ, hb, q0, q1, q2, q3, hw, hw2, hw3, hh, hd, hd2])) | refine condV_split (fun hc => ?_) (fun hc => ?_) | (with_reducible intro β hβ; (try simp only [RB] at hβ); (repeat (obtain ⟨⟨_, _⟩, hβ⟩ := hβ)); (try (have hbis := apart_is (by assumption) hβ; obtain ⟨_, _⟩ := hbis)))) <;> (try simp only [↓R1, RR, seval, RQ, hb, q0, q1, q2, q3, hw, hw2, hw3, hh, hd, hd2])))
  refine loopV_st (α := Nat × Nat) (fun q => [(0, .row β 30 1 n), (2, .int .i64 (m : Nat)), (4, .fn 63 []), (14, .int .i64 (q.1 : Nat)), (15, .int .i64 (q.2 : Nat))]) (fun q => σ)
    (fun q => a ≤ q.1 ∧ q.1 ≤ q.2 ∧ q.2 ≤ m ∧ (∀ u ∈ U.take (q.1 - a), cmpM u y ≤ 0) ∧ ∀ u ∈ U.drop (q.2 - a), cmpM y u ≤ 0) (fun q => q.2 - q.1) (a, m) (by simp [subF, slot, wk_refl]) (St.le_refl _)
    ⟨by omega, by simp only; omega, by omega, by simp, by simp only; rw [List.drop_of_length_le (by omega)]; simp⟩ (fun q hq => ?_)
  obtain ⟨i, j⟩ := q
  obtain ⟨i1, i2, i3, i4, i5⟩ := hq
  simp only at i1 i2 i3 i4 i5 ⊢
  have hLm : L[m]'(by omega) = y := at_y hL hm _
  by_cases hlt : i < j
  · have q1 : decide ((i : Int) < (j : Int)) = true := by rw [decide_eq_true_eq]; omega
    obtain ⟨h, hh0⟩ : ∃ h, (i + j) / 2 = h := ⟨_, rfl⟩
    have hw2 := half64 i j (by omega)
    have hh := half_mid hh0 (by omega)
    have hd2 := cells_at cM L J (k := m) (by omega)
    rw [hLm] at hd2
    have hhU : h - a < U.length := by omega
    have hLh : L[h]'(by omega) = U[h - a] := at_u hL ha (by omega) hhU _
    have hd := cells_at cM L J (k := h) (by omega)
    rw [hLh] at hd
    obtain ⟨u, hue⟩ : ∃ u, U[h - a] = u := ⟨_, rfl⟩
    have huU : u ∈ U := by rw [← hue]; exact List.getElem_mem hhU
    rw [hue] at hd
    have hcmp := p63 y u hy.1 (hu u huU).1 hy.2 (hu u huU).2
    have hw3 : IntKind.i64.wrap ((h : Int) + 1) = ((h + 1 : Nat) : Int) := by rw [wrap64 (by omega) (by omega)]; omega
    by_cases hc2 : cmpM y u < 0
    · have q2 : decide (cmpM y u < 0) = true := decide_eq_true hc2
      simp only [q1, ↓R1, RR, seval, RQ, hb, q0, q1, q2, q3, hw, hw2, hw3, hh, hd, hd2]
      repeat' (first | (with_reducible rw [allocV_eq]) | (with_reducible refine And.intro ?_ ?_; focus (intros; (repeat' (with_reducible apply And.intro)) <;> first | omega | (simp only [RZ, cells_len]; omega))) | (with_reducible apply And.intro) | ((first | (refine gdV_split (fun hc => ?_) (fun hc => ?_) <;> (try simp only [hc, ↓R1, RR, seval, RQ, hb, q0, q1, q2, q3, hw, hw2, hw3, hh, hd, hd2])) | refine condV_split (fun hc => ?_) (fun hc => ?_) | (with_reducible intro β hβ; (try simp only [RB] at hβ); (repeat (obtain ⟨⟨_, _⟩, hβ⟩ := hβ)); (try (have hbis := apart_is (by assumption) hβ; obtain ⟨_, _⟩ := hbis))) | refine callDV_pu (hcmp) (wkL_refl _) ?_) <;> (try simp only [↓R1, RR, seval, RQ, hb, q0, q1, q2, q3, hw, hw2, hw3, hh, hd, hd2])))
      refine ⟨(i, h), ⟨i1, by simp only; omega, by simp only; omega, i4, ?_⟩, by simp [subF, slot, wk_refl], St.le_refl _, by simp only; omega⟩
      simp only
      exact from_on cmpM3 ho hhU (by rw [hue]; omega)
    · have q2 : decide (cmpM y u < 0) = false := decide_eq_false hc2
      simp only [q1, ↓R1, RR, seval, RQ, hb, q0, q1, q2, q3, hw, hw2, hw3, hh, hd, hd2]
      repeat' (first | (with_reducible rw [allocV_eq]) | (with_reducible refine And.intro ?_ ?_; focus (intros; (repeat' (with_reducible apply And.intro)) <;> first | omega | (simp only [RZ, cells_len]; omega))) | (with_reducible apply And.intro) | ((first | (refine gdV_split (fun hc => ?_) (fun hc => ?_) <;> (try simp only [hc, ↓R1, RR, seval, RQ, hb, q0, q1, q2, q3, hw, hw2, hw3, hh, hd, hd2])) | refine condV_split (fun hc => ?_) (fun hc => ?_) | (with_reducible intro β hβ; (try simp only [RB] at hβ); (repeat (obtain ⟨⟨_, _⟩, hβ⟩ := hβ)); (try (have hbis := apart_is (by assumption) hβ; obtain ⟨_, _⟩ := hbis))) | refine callDV_pu (hcmp) (wkL_refl _) ?_) <;> (try simp only [↓R1, RR, seval, RQ, hb, q0, q1, q2, q3, hw, hw2, hw3, hh, hd, hd2])))
      refine ⟨(h + 1, j), ⟨by simp only; omega, by simp only; omega, i3, ?_, i5⟩, by simp [subF, slot, wk_refl], St.le_refl _, by simp only; omega⟩
      simp only
      rw [show h + 1 - a = (h - a) + 1 by omega]
      exact up_to cmpM3 ho hhU (by rw [hue]; have := cmpM3.neg y u; omega)
  · have hij : i = j := by omega
    subst hij
    have q1 : decide ((i : Int) < (i : Int)) = false := by simp
    simp only [q1, ↓R1, RR, seval, RQ, hb, q0, q1, q2, q3, hw, hw2, hw3, hh, hd, hd2]
    repeat' (first | (with_reducible rw [allocV_eq]) | (with_reducible refine And.intro ?_ ?_; focus (intros; (repeat' (with_reducible apply And.intro)) <;> first | omega | (simp only [RZ, cells_len]; omega))) | (with_reducible apply And.intro) | ((first | (refine gdV_split (fun hc => ?_) (fun hc => ?_) <;> (try simp only [hc, ↓R1, RR, seval, RQ, hb, q0, q1, q2, q3, hw, hw2, hw3, hh, hd, hd2])) | refine condV_split (fun hc => ?_) (fun hc => ?_) | (with_reducible intro β hβ; (try simp only [RB] at hβ); (repeat (obtain ⟨⟨_, _⟩, hβ⟩ := hβ)); (try (have hbis := apart_is (by assumption) hβ; obtain ⟨_, _⟩ := hbis)))) <;> (try simp only [↓R1, RR, seval, RQ, hb, q0, q1, q2, q3, hw, hw2, hw3, hh, hd, hd2])))
    obtain ⟨U1, hU1'⟩ : ∃ U1, U.take (i - a) = U1 := ⟨_, rfl⟩
    obtain ⟨U2, hU2'⟩ : ∃ U2, U.drop (i - a) = U2 := ⟨_, rfl⟩
    have hU12 : U1 ++ U2 = U := by rw [← hU1', ← hU2', List.take_append_drop]
    have hl1 : U1.length = i - a := by rw [← hU1', List.length_take]; omega
    have hl12 := congrArg List.length hU12
    rw [List.length_append] at hl12
    have ham := among cmpM3 (fun _ _ => cmpM_eq) ho (x := y) (k := i - a) (by omega) i4 i5
    rw [hU1', hU2'] at ham
    refine loopV_for U2.length (fun d => [(0, .row β 30 1 n), (14, .int .i64 (i : Nat)), (17, .int .i64 ((m - d : Nat) : Int))]) (fun d => σ.setBox β (cells cM (A ++ U1 ++ U2.take (U2.length - d) ++ y :: (U2.drop (U2.length - d) ++ C)) J)) (fun _ => True) (by simp [subF, slot, wk_refl]) (le_set_id (by rw [hb, ← hL, ← hU12]; simp)) trivial (fun d hd0 _ => ?_)
    by_cases hdl : d < U2.length
    · have q3 : decide ((i : Int) < ((m - d : Nat) : Int)) = true := by rw [decide_eq_true_eq]; omega
      obtain ⟨e, he⟩ : ∃ e, U2.length - d = e + 1 := ⟨U2.length - d - 1, by omega⟩
      have heU : e < U2.length := by omega
      have hke : m - d = a + U1.length + e + 1 := by omega
      have hw3 : IntKind.i64.wrap (((a + U1.length + e + 1 : Nat) : Int) - 1) = ((a + U1.length + e : Nat) : Int) := by rw [wrap64 (by omega) (by omega)]; omega
      have dU : U2.drop e = U2[e] :: U2.drop (e + 1) := List.drop_eq_getElem_cons heU
      have tU : U2.take (e + 1) = U2.take e ++ [U2[e]] := List.take_succ_eq_append_getElem heU
      obtain ⟨u, hue⟩ : ∃ u, U2[e] = u := ⟨_, rfl⟩
      rw [hue] at dU tU
      obtain ⟨Z, hZ⟩ : ∃ Z, U2.drop (e + 1) ++ C = Z := ⟨_, rfl⟩
      have l1 : (A ++ U1 ++ U2.take e).length = a + U1.length + e := by simp; omega
      obtain ⟨Q, hQ⟩ : ∃ Q, A ++ U1 ++ U2.take e = Q := ⟨_, rfl⟩
      rw [hQ] at l1
      have e1 : A ++ U1 ++ U2.take (U2.length - d) ++ y :: (U2.drop (U2.length - d) ++ C) = Q ++ u :: (y :: Z) := by rw [he, tU, ← hQ, hZ]; simp
      have hd := cells_get cM Q u (y :: Z) J ((a + U1.length + e) * 1) (by omega)
      have hd2 : List.take 1 (List.drop ((a + U1.length + e + 1) * 1) (cells cM (Q ++ u :: (y :: Z)) J)) = [cM y] := by
        rw [show Q ++ u :: (y :: Z) = (Q ++ [u]) ++ y :: Z by simp]
        exact cells_get cM _ y Z J _ (by rw [List.length_append, l1]; simp)
      have hcl2 : (cells cM (Q ++ u :: (y :: Z)) J).length = n + J.length := by
        have h5 := congrArg List.length hZ
        simp only [List.length_append, List.length_drop] at h5
        rw [cells_len, List.length_append, l1]; simp; omega
      have q3 : decide ((i : Int) < ((a + U1.length + e + 1 : Nat) : Int)) = true := by rw [decide_eq_true_eq]; omega
      rw [e1, hke]
      simp only [q3, ↓R1, RR, seval, RQ, hb, q0, q1, q2, q3, hw, hw2, hw3, hh, hd, hd2]
      repeat' (first | (with_reducible rw [allocV_eq]) | (with_reducible refine And.intro ?_ ?_; focus (intros; (repeat' (with_reducible apply And.intro)) <;> first | omega | (simp only [RZ, cells_len]; omega))) | (with_reducible apply And.intro) | ((first | (refine gdV_split (fun hc => ?_) (fun hc => ?_) <;> (try simp only [hc, ↓R1, RR, seval, RQ, hb, q0, q1, q2, q3, hw, hw2, hw3, hh, hd, hd2])) | refine condV_split (fun hc => ?_) (fun hc => ?_) | (with_reducible intro β hβ; (try simp only [RB] at hβ); (repeat (obtain ⟨⟨_, _⟩, hβ⟩ := hβ)); (try (have hbis := apart_is (by assumption) hβ; obtain ⟨_, _⟩ := hbis)))) <;> (try simp only [↓R1, RR, seval, RQ, hb, q0, q1, q2, q3, hw, hw2, hw3, hh, hd, hd2])))
      · rw [show m - (d + 1) = a + U1.length + e by omega]; simp [subF, slot, wk_refl]
      · refine le_set_eq ?_
        rw [show U2.length - (d + 1) = e by omega, show Q ++ u :: (y :: Z) = (Q ++ [u]) ++ y :: Z by simp]
        rw [cells_set cM (Q ++ [u]) y u Z J _ (by rw [List.length_append, l1]; simp)]
        rw [show (Q ++ [u]) ++ u :: Z = Q ++ u :: (u :: Z) by simp]
        rw [cells_set cM Q u y (u :: Z) J _ (by omega), dU, ← hZ, ← hQ]
        simp
    · have hde : d = U2.length := by omega
      have q3 : decide ((i : Int) < ((m - d : Nat) : Int)) = false := by rw [decide_eq_false_iff_not]; omega
      have e1 : A ++ U1 ++ U2.take (U2.length - d) ++ y :: (U2.drop (U2.length - d) ++ C) = A ++ isort cmpM (y :: U) ++ C := by
        rw [hde, Nat.sub_self, ← ham]; simp
      rw [e1]
      simp only [q3, ↓R1, RR, seval, RQ, hb, q0, q1, q2, q3, hw, hw2, hw3, hh, hd, hd2]
      repeat' (first | (with_reducible rw [allocV_eq]) | (with_reducible refine And.intro ?_ ?_; focus (intros; (repeat' (with_reducible apply And.intro)) <;> first | omega | (simp only [RZ, cells_len]; omega))) | (with_reducible apply And.intro) | ((first | (refine gdV_split (fun hc => ?_) (fun hc => ?_) <;> (try simp only [hc, ↓R1, RR, seval, RQ, hb, q0, q1, q2, q3, hw, hw2, hw3, hh, hd, hd2])) | refine condV_split (fun hc => ?_) (fun hc => ?_) | (with_reducible intro β hβ; (try simp only [RB] at hβ); (repeat (obtain ⟨⟨_, _⟩, hβ⟩ := hβ)); (try (have hbis := apart_is (by assumption) hβ; obtain ⟨_, _⟩ := hbis)))) <;> (try simp only [↓R1, RR, seval, RQ, hb, q0, q1, q2, q3, hw, hw2, hw3, hh, hd, hd2])))
      (refine endP_id (by simp) (by first | (simp [rvsS, rvS]; done) | (simp only [rvsS, rvS, ↓R1, RR, seval, RQ, hb, q0, q1, q2, q3, hw, hw2, hw3, hh, hd, hd2]; try simp)) ?_)
      exact ⟨rfl, rfl⟩
end
end Go.Proofs.YtncadbcjikekhaaGreatDoor
namespace Go.Proofs.YtncadbcjikekhaaGreatDoor
open Go.Abs
set_option linter.all false
set_option maxRecDepth 100000
theorem at_uL {α : Type} {L A U V C : List α} (hL : A ++ U ++ V ++ C = L) {k a : Nat} (ha : A.length = a) (h1 : a ≤ k) (h2 : k - a < U.length) (h : k < L.length) : L[k] = U[k - a] := by
  subst hL; subst ha
  have e : k = A.length + (k - A.length) := by omega
  generalize k - A.length = d at *
  subst e
  have h3 : (A ++ U ++ V ++ C)[A.length + d]? = U[d]? := by
    rw [List.append_assoc, List.append_assoc, List.getElem?_append_right (by omega)]
    rw [show A.length + d - A.length = d by omega, List.getElem?_append_left h2]
  rw [List.getElem?_eq_getElem h, List.getElem?_eq_getElem h2] at h3
  exact Option.some.inj h3
theorem at_vL {α : Type} {L A U V C : List α} (hL : A ++ U ++ V ++ C = L) {k m : Nat} (hm : A.length + U.length = m) (h1 : m ≤ k) (h2 : k - m < V.length) (h : k < L.length) : L[k] = V[k - m] :=
  at_uL (A := A ++ U) (U := V) (V := C) (C := []) (by rw [List.append_nil]; exact hL) (by rw [List.length_append]; exact hm) h1 h2 h
def SrchL (U V : List (List Pl)) (a m N s0 s : Nat) : Prop := s = s0 ∨ ∃ u v, U[s - 1 - a]? = some u ∧ V[N - s - m]? = some v ∧ cmpM u v ≤ 0
def SrchR (U V : List (List Pl)) (a m N r0 r : Nat) : Prop := r = r0 ∨ ∃ u v, U[r - a]? = some u ∧ V[N - 1 - r - m]? = some v ∧ cmpM v u ≤ 0
section
variable {U V : List (List Pl)} {a m N s0 r0 s : Nat}
theorem srch_left (hU : Ord cmpM U) (hV : Ord cmpM V) (h : SrchL U V a m N s0 s) (hs : s0 ≤ s) (ha : a ≤ s0) (h0 : s0 = a ∨ N - s0 = m + V.length) : ∀ x ∈ U.take (s - a), ∀ y ∈ V.drop (N - s - m), cmpM x y ≤ 0 := by
  intro x hx y hy
  by_cases he : s = s0
  · rcases h0 with h0 | h0
    · rw [show s - a = 0 by omega] at hx; simp at hx
    · rw [List.drop_of_length_le (by omega)] at hy; simp at hy
  · rcases h with h | ⟨u, v, h1, h2, h3⟩
    · exact absurd h he
    · obtain ⟨i1, rfl⟩ := List.getElem?_eq_some_iff.1 h1
      obtain ⟨i2, rfl⟩ := List.getElem?_eq_some_iff.1 h2
      rw [show s - a = (s - 1 - a) + 1 by omega] at hx
      exact cross cmpM3 hU hV i1 i2 h3 x hx y hy
theorem srch_right (hU : Ord cmpM U) (hV : Ord cmpM V) (h : SrchR U V a m N r0 s) (hr : s ≤ r0) (ha : a ≤ s) (hN : m ≤ N - r0) (hrN : r0 ≤ N) (h0 : r0 = a + U.length ∨ N - r0 = m) : ∀ x ∈ V.take (N - s - m), ∀ y ∈ U.drop (s - a), cmpM x y ≤ 0 := by
  intro x hx y hy
  by_cases he : s = r0
  · rcases h0 with h0 | h0
    · rw [List.drop_of_length_le (by omega)] at hy; simp at hy
    · rw [show N - s - m = 0 by omega] at hx; simp at hx
  · rcases h with h | ⟨u, v, h1, h2, h3⟩
    · exact absurd h he
    · obtain ⟨i1, rfl⟩ := List.getElem?_eq_some_iff.1 h1
      obtain ⟨i2, rfl⟩ := List.getElem?_eq_some_iff.1 h2
      rw [show N - s - m = (N - 1 - s - m) + 1 by omega] at hx
      exact cross cmpM3 hV hU i2 i1 h3 x hx y hy
end
theorem sym_init {a b m mid N s0 r0 lu lv : Nat} (ha : a + lu = m) (hb : m + lv = b) (hmid : (a + b) / 2 = mid) (hN : mid + m = N) (h : (mid < m ∧ s0 = N - b ∧ r0 = mid) ∨ (¬ mid < m ∧ s0 = a ∧ r0 = m)) :
    a ≤ s0 ∧ s0 ≤ r0 ∧ r0 ≤ m ∧ m ≤ N - r0 ∧ N - s0 ≤ b ∧ (s0 = a ∨ N - s0 = m + lv) ∧ (r0 = a + lu ∨ N - r0 = m) ∧ r0 ≤ N := by
  rcases h with ⟨h, rfl, rfl⟩ | ⟨h, rfl, rfl⟩ <;> omega
theorem sym_step {a b m N s0 r0 s r c lu lv n : Nat} (ha : a + lu = m) (hb : m + lv = b) (hbn : b ≤ n) (f1 : a ≤ s0) (f3 : r0 ≤ m) (f4 : m ≤ N - r0) (f5 : N - s0 ≤ b) (f8 : r0 ≤ N) (i1 : s0 ≤ s) (i3 : r ≤ r0) (hc : (s + r) / 2 = c) (hlt : s < r) :
    s0 ≤ c ∧ s ≤ c ∧ c < r ∧ c - a < lu ∧ a ≤ c ∧ N - 1 - c - m < lv ∧ m ≤ N - 1 - c ∧ c < n ∧ N - 1 - c < n ∧ c ≤ N - 1 ∧ N - (c + 1) - m = N - 1 - c - m := by omega
theorem sym_tail {a b m mid N e s s0 r0 lu lv u1 u2 v1 v2 : Nat} (ha : a + lu = m) (hb : m + lv = b) (hN : mid + m = N) (f1 : a ≤ s0) (f3 : r0 ≤ m) (f4 : m ≤ N - r0) (f5 : N - s0 ≤ b) (f8 : r0 ≤ N) (i1 : s0 ≤ s) (i3 : s ≤ r0) (he : N - s = e)
    (l1 : u1 = min (s - a) lu) (l2 : u2 = lu - (s - a)) (l3 : v1 = min (e - m) lv) (l4 : v2 = lv - (e - m)) : a + u1 = s ∧ s + u2 = m ∧ m + v1 = e ∧ s + v1 = mid ∧ mid + u2 = e ∧ e + v2 = b ∧ u1 + u2 = lu ∧ v1 + v2 = lv := by omega
theorem dec_nat {x y : Nat} {d : Bool} (h : decide ((x : Int) < (y : Int)) = d) : (d = true ∧ x < y) ∨ (d = false ∧ ¬ x < y) := by
  subst h
  by_cases h : x < y
  · exact .inl ⟨by rw [decide_eq_true_eq]; omega, h⟩
  · exact .inr ⟨by rw [decide_eq_false_iff_not]; omega, h⟩
theorem isort_one (l m : List (List Pl)) (hl : Ord cmpM l) (hm : Ord cmpM m) (h : l.length = 0 ∨ m.length = 0) : isort cmpM (l ++ m) = l ++ m := by
  rcases h with h | h
  · rw [List.eq_nil_of_length_eq_zero h, List.nil_append]; exact isort_same cmpM3 hm
  · rw [List.eq_nil_of_length_eq_zero h, List.append_nil]; exact isort_same cmpM3 hl
def SymOk (K : Nat) : Prop := ∀ (A U V C : List (List Pl)) (σ : St) (β n : Nat) (J : List AV), U.length + V.length ≤ K → U.length ≠ 0 → V.length ≠ 0 → A.length + U.length + V.length + C.length ≤ 1000000 → n = A.length + U.length + V.length + C.length → Ord cmpM U → Ord cmpM V → (∀ l ∈ U, OkM l) → (∀ l ∈ V, OkM l) →
  σ.box β = some (cells cM (A ++ U ++ V ++ C) J) →
  AC Tryz.prog 116 [.row β 30 1 n, .int .i64 (A.length : Nat), .int .i64 ((A.length + U.length : Nat) : Int), .int .i64 ((A.length + U.length + V.length : Nat) : Int), .fn 63 []] σ (fun r s => r = .tup [] ∧ s = σ.setBox β (cells cM (A ++ isort cmpM (U ++ V) ++ C) J))
set_option maxHeartbeats 40000000 in
theorem a_symS (K : Nat) (ih : SymOk K) : SymOk (K + 1) := by
    intro A U V C σ β n J hK hU hV hn hnn oU oV kU kV hb
    by_cases hU1 : U.length = 1
    · obtain ⟨x, rfl⟩ := List.length_eq_one_iff.1 hU1
      have h := a_sym1 (σ := σ) (β := β) (n := n) (J := J) A V C x hV (by simpa using hn) (by simpa using hnn) oV (kU x (by simp)) kV (by simpa using hb)
      exact h
    by_cases hV1 : V.length = 1
    · obtain ⟨y, rfl⟩ := List.length_eq_one_iff.1 hV1
      have h := a_sym2 (σ := σ) (β := β) (n := n) (J := J) A U C y hU hU1 (by simpa using hn) (by simpa using hnn) oU (kV y (by simp)) kU (by simpa using hb)
      have e : isort cmpM (U ++ [y]) = isort cmpM (y :: U) := isort_congr cmpM3 (fun _ _ => cmpM_eq) (List.perm_append_singleton y U)
      rw [e]
      exact h
    have q2 : True := trivial
    have q3 : True := trivial
    have q4 : True := trivial
    have q5 : True := trivial
    have q6 : True := trivial
    have q7 : True := trivial
    have hw5 : True := trivial
    have hw6 : True := trivial
    have hw7 : True := trivial
    have hh2 : True := trivial
    have hd : True := trivial
    have hd2 : True := trivial
    obtain ⟨a, ha⟩ : ∃ a, A.length = a := ⟨_, rfl⟩
    obtain ⟨m, hm⟩ : ∃ m, A.length + U.length = m := ⟨_, rfl⟩
    obtain ⟨b, hbb⟩ : ∃ b, A.length + U.length + V.length = b := ⟨_, rfl⟩
    rw [hbb, hm, ha]
    have q0 : (IntKind.i64.wrap ((m : Int) - (a : Int)) == 1) = false := by rw [wrap64 (by omega) (by omega), beq_eq_false_iff_ne]; omega
    have q1 : (IntKind.i64.wrap ((b : Int) - (m : Int)) == 1) = false := by rw [wrap64 (by omega) (by omega), beq_eq_false_iff_ne]; omega
    obtain ⟨L, hL⟩ : ∃ L, A ++ U ++ V ++ C = L := ⟨_, rfl⟩
    have hLl : L.length = n := by rw [← hL]; simp; omega
    have hcl : (cells cM L J).length = n + J.length := by rw [cells_len, hLl]
    rw [hL] at hb
    obtain ⟨mid, hmid⟩ : ∃ mid, (a + b) / 2 = mid := ⟨_, rfl⟩
    obtain ⟨N, hN⟩ : ∃ N, mid + m = N := ⟨_, rfl⟩
    have hw := half64 a b (by omega)
    have hh := half_mid hmid (by omega)
    have hw2 : IntKind.i64.wrap ((mid : Int) + (m : Int)) = (N : Int) := by rw [wrap64 (by omega) (by omega)]; omega
    have hw3 : IntKind.i64.wrap ((N : Int) - 1) = ((N - 1 : Nat) : Int) := by rw [wrap64 (by omega) (by omega)]; omega
    have hw4 : True := trivial
    have hw4e : decide ((mid : Int) < (m : Int)) = true → IntKind.i64.wrap ((N : Int) - (b : Int)) = ((N - b : Nat) : Int) := fun h => by rw [decide_eq_true_eq] at h; rw [wrap64 (by omega) (by omega)]; omega
    have hsr : ∃ s0 r0 : Nat, ((decide ((mid : Int) < (m : Int)) = true ∧ s0 = N - b ∧ r0 = mid) ∨ (decide ((mid : Int) < (m : Int)) = false ∧ s0 = a ∧ r0 = m)) := by
      by_cases h : mid < m
      · exact ⟨N - b, mid, .inl ⟨by rw [decide_eq_true_eq]; omega, rfl, rfl⟩⟩
      · exact ⟨a, m, .inr ⟨by rw [decide_eq_false_iff_not]; omega, rfl, rfl⟩⟩
    obtain ⟨s0, r0, hsr⟩ := hsr
    have g0 : a + U.length = m := by omega
    have g00 : m + V.length = b := by omega
    have hd0 : (mid < m ∧ s0 = N - b ∧ r0 = mid) ∨ (¬ mid < m ∧ s0 = a ∧ r0 = m) := by
      rcases hsr with ⟨h, h5, h6⟩ | ⟨h, h5, h6⟩
      · rw [decide_eq_true_eq] at h; exact .inl ⟨Int.ofNat_lt.1 h, h5, h6⟩
      · rw [decide_eq_false_iff_not] at h; exact .inr ⟨fun h7 => h (Int.ofNat_lt.2 h7), h5, h6⟩
    obtain ⟨f1, f2, f3, f4, f5, f6, f7, f8⟩ := sym_init g0 g00 hmid hN hd0
    have hbn : b ≤ n := by omega
    have hN2 : N ≤ 2000000 := by omega
    have gK : mid - a ≤ K ∧ b - mid ≤ K ∧ a ≤ mid ∧ mid ≤ b := by omega
    obtain ⟨gK1, gK2, gK3, gK4⟩ := gK
    clear hd0 hmid
    rcases hsr with ⟨q8, e1, e2⟩ | ⟨q8, e1, e2⟩
    all_goals
      (try have hw4 := hw4e q8)
      (refine AC_intro c116 b116 (Nat.le_of_ble_eq_true rfl) ?_; simp only [c116, ↓R1, RR, seval, RQ, hb, q0, q1, q2, q3, q4, q5, q6, q7, q8, hw, hw2, hw3, hw4, hw5, hw6, hw7, hh, hh2, hd, hd2])
      repeat' (first | (with_reducible rw [allocV_eq]) | (with_reducible refine And.intro ?_ ?_; focus (intros; (repeat' (with_reducible apply And.intro)) <;> first | omega | (simp only [RZ, cells_len]; omega))) | (with_reducible apply And.intro) | ((first | (refine gdV_split (fun hc => ?_) (fun hc => ?_) <;> (try simp only [hc, ↓R1, RR, seval, RQ, hb, q0, q1, q2, q3, q4, q5, q6, q7, q8, hw, hw2, hw3, hw4, hw5, hw6, hw7, hh, hh2, hd, hd2])) | refine condV_split (fun hc => ?_) (fun hc => ?_) | (with_reducible intro β hβ; (try simp only [RB] at hβ); (repeat (obtain ⟨⟨_, _⟩, hβ⟩ := hβ)); (try (have hbis := apart_is (by assumption) hβ; obtain ⟨_, _⟩ := hbis)))) <;> (try simp only [↓R1, RR, seval, RQ, hb, q0, q1, q2, q3, q4, q5, q6, q7, q8, hw, hw2, hw3, hw4, hw5, hw6, hw7, hh, hh2, hd, hd2])))
      refine loopV_st (α := Nat × Nat) (fun q => [(0, .row β 30 1 n), (1, .int .i64 (a : Nat)), (2, .int .i64 (m : Nat)), (3, .int .i64 (b : Nat)), (4, .fn 63 []), (18, .int .i64 (mid : Nat)), (19, .int .i64 (N : Nat)), (20, .int .i64 (q.1 : Nat)), (21, .int .i64 (q.2 : Nat)), (22, .int .i64 ((N - 1 : Nat) : Int))]) (fun _ => σ)
        (fun q => s0 ≤ q.1 ∧ q.1 ≤ q.2 ∧ q.2 ≤ r0 ∧ SrchL U V a m N s0 q.1 ∧ SrchR U V a m N r0 q.2) (fun q => q.2 - q.1) (s0, r0) (by simp [subF, slot, wk_refl, e1, e2]) (St.le_refl _) ⟨Nat.le_refl _, f2, Nat.le_refl _, .inl rfl, .inl rfl⟩ (fun q hq => ?_)
      obtain ⟨s, r⟩ := q
      obtain ⟨i1, i2, i3, i4, i5⟩ := hq
      simp only at i1 i2 i3 i4 i5 ⊢
      by_cases hlt : s < r
      · have q2 : decide ((s : Int) < (r : Int)) = true := by rw [decide_eq_true_eq]; omega
        obtain ⟨c, hc0⟩ : ∃ c, (s + r) / 2 = c := ⟨_, rfl⟩
        have hw5 := half64 s r (by omega)
        have hh2 := half_mid hc0 (by omega)
        obtain ⟨c1, c2, c3, c4, c5, c6, c7, c8, c9, c10, c11⟩ := sym_step g0 g00 hbn f1 f3 f4 f5 f8 i1 i3 hc0 hlt
        clear hc0
        have hw6 : IntKind.i64.wrap (((N - 1 : Nat) : Int) - (c : Int)) = ((N - 1 - c : Nat) : Int) := by rw [wrap64 (by omega) (by omega)]; omega
        have hw7 : IntKind.i64.wrap ((c : Int) + 1) = ((c + 1 : Nat) : Int) := by rw [wrap64 (by omega) (by omega)]; omega
        have hcU : c - a < U.length := c4
        have hcV : N - 1 - c - m < V.length := c6
        have hLc : L[c]'(by omega) = U[c - a] := at_uL hL ha c5 hcU _
        have hLd : L[N - 1 - c]'(by omega) = V[N - 1 - c - m] := at_vL hL hm c7 hcV _
        have hd := cells_at cM L J (k := c) (by omega)
        have hd2 := cells_at cM L J (k := N - 1 - c) (by omega)
        rw [hLc] at hd
        rw [hLd] at hd2
        obtain ⟨u, hu⟩ : ∃ u, U[c - a] = u := ⟨_, rfl⟩
        obtain ⟨v, hv⟩ : ∃ v, V[N - 1 - c - m] = v := ⟨_, rfl⟩
        have huU : u ∈ U := by rw [← hu]; exact List.getElem_mem hcU
        have hvV : v ∈ V := by rw [← hv]; exact List.getElem_mem hcV
        have gu : U[c - a]? = some u := by rw [List.getElem?_eq_getElem hcU, hu]
        have gv : V[N - 1 - c - m]? = some v := by rw [List.getElem?_eq_getElem hcV, hv]
        rw [hu] at hd
        rw [hv] at hd2
        have hcmp := p63 v u (kV v hvV).1 (kU u huU).1 (kV v hvV).2 (kU u huU).2
        by_cases hc2 : cmpM v u < 0
        · have q3 : decide (cmpM v u < 0) = true := decide_eq_true hc2
          simp only [q2, ↓R1, RR, seval, RQ, hb, q0, q1, q2, q3, q4, q5, q6, q7, q8, hw, hw2, hw3, hw4, hw5, hw6, hw7, hh, hh2, hd, hd2]
          repeat' (first | (with_reducible rw [allocV_eq]) | (with_reducible refine And.intro ?_ ?_; focus (intros; (repeat' (with_reducible apply And.intro)) <;> first | omega | (simp only [RZ, cells_len]; omega))) | (with_reducible apply And.intro) | ((first | (refine gdV_split (fun hc => ?_) (fun hc => ?_) <;> (try simp only [hc, ↓R1, RR, seval, RQ, hb, q0, q1, q2, q3, q4, q5, q6, q7, q8, hw, hw2, hw3, hw4, hw5, hw6, hw7, hh, hh2, hd, hd2])) | refine condV_split (fun hc => ?_) (fun hc => ?_) | (with_reducible intro β hβ; (try simp only [RB] at hβ); (repeat (obtain ⟨⟨_, _⟩, hβ⟩ := hβ)); (try (have hbis := apart_is (by assumption) hβ; obtain ⟨_, _⟩ := hbis))) | refine callDV_pu (hcmp) (wkL_refl _) ?_) <;> (try simp only [↓R1, RR, seval, RQ, hb, q0, q1, q2, q3, q4, q5, q6, q7, q8, hw, hw2, hw3, hw4, hw5, hw6, hw7, hh, hh2, hd, hd2])))
          refine ⟨(s, c), ⟨i1, by simp only; omega, by simp only; omega, i4, .inr ⟨u, v, gu, gv, by omega⟩⟩, by simp [subF, slot, wk_refl], St.le_refl _, by simp only; omega⟩
        · have q3 : decide (cmpM v u < 0) = false := decide_eq_false hc2
          simp only [q2, ↓R1, RR, seval, RQ, hb, q0, q1, q2, q3, q4, q5, q6, q7, q8, hw, hw2, hw3, hw4, hw5, hw6, hw7, hh, hh2, hd, hd2]
          repeat' (first | (with_reducible rw [allocV_eq]) | (with_reducible refine And.intro ?_ ?_; focus (intros; (repeat' (with_reducible apply And.intro)) <;> first | omega | (simp only [RZ, cells_len]; omega))) | (with_reducible apply And.intro) | ((first | (refine gdV_split (fun hc => ?_) (fun hc => ?_) <;> (try simp only [hc, ↓R1, RR, seval, RQ, hb, q0, q1, q2, q3, q4, q5, q6, q7, q8, hw, hw2, hw3, hw4, hw5, hw6, hw7, hh, hh2, hd, hd2])) | refine condV_split (fun hc => ?_) (fun hc => ?_) | (with_reducible intro β hβ; (try simp only [RB] at hβ); (repeat (obtain ⟨⟨_, _⟩, hβ⟩ := hβ)); (try (have hbis := apart_is (by assumption) hβ; obtain ⟨_, _⟩ := hbis))) | refine callDV_pu (hcmp) (wkL_refl _) ?_) <;> (try simp only [↓R1, RR, seval, RQ, hb, q0, q1, q2, q3, q4, q5, q6, q7, q8, hw, hw2, hw3, hw4, hw5, hw6, hw7, hh, hh2, hd, hd2])))
          refine ⟨(c + 1, r), ⟨by simp only; omega, by simp only; omega, i3, .inr ⟨u, v, by rw [show c + 1 - 1 - a = c - a by omega]; exact gu, by rw [c11]; exact gv, by have := cmpM3.neg v u; omega⟩, i5⟩, by simp [subF, slot, wk_refl], St.le_refl _, by simp only; omega⟩
      · have hsr2 : s = r := by omega
        subst hsr2
        have q2 : decide ((s : Int) < (s : Int)) = false := by simp
        obtain ⟨e, he⟩ : ∃ e, N - s = e := ⟨_, rfl⟩
        have hw5 : IntKind.i64.wrap ((N : Int) - (s : Int)) = (e : Int) := by rw [wrap64 (by omega) (by omega)]; omega
        have x1 := srch_left oU oV i4 i1 f1 f6
        have x2 := srch_right oU oV i5 i3 (Nat.le_trans f1 i1) f4 f8 f7
        rw [he] at x1 x2
        obtain ⟨U1, hU1'⟩ : ∃ U1, U.take (s - a) = U1 := ⟨_, rfl⟩
        obtain ⟨U2, hU2'⟩ : ∃ U2, U.drop (s - a) = U2 := ⟨_, rfl⟩
        obtain ⟨V1, hV1'⟩ : ∃ V1, V.take (e - m) = V1 := ⟨_, rfl⟩
        obtain ⟨V2, hV2'⟩ : ∃ V2, V.drop (e - m) = V2 := ⟨_, rfl⟩
        have hU12 : U1 ++ U2 = U := by rw [← hU1', ← hU2', List.take_append_drop]
        have hV12 : V1 ++ V2 = V := by rw [← hV1', ← hV2', List.take_append_drop]
        have l1 : U1.length = min (s - a) U.length := by rw [← hU1', List.length_take]
        have l2 : U2.length = U.length - (s - a) := by rw [← hU2', List.length_drop]
        have l3 : V1.length = min (e - m) V.length := by rw [← hV1', List.length_take]
        have l4 : V2.length = V.length - (e - m) := by rw [← hV2', List.length_drop]
        obtain ⟨g1, g2, g3, g4, g6, g7, g12, g13⟩ := sym_tail g0 g00 hN f1 f3 f4 f5 f8 i1 i3 he l1 l2 l3 l4
        rw [hU1', hV2'] at x1
        rw [hU2', hV1'] at x2
        have oU' : Ord cmpM (U1 ++ U2) := by rw [hU12]; exact oU
        have oV' : Ord cmpM (V1 ++ V2) := by rw [hV12]; exact oV
        have hhv := halves cmpM3 (fun _ _ => cmpM_eq) oU' oV' x1 x2
        rw [hU12, hV12] at hhv
        have li := isort_len cmpM (U1 ++ V1)
        rw [List.length_append] at li
        have is1 : (U1.length = 0 ∨ V1.length = 0) → isort cmpM (U1 ++ V1) = U1 ++ V1 := isort_one U1 V1 (ord_left oU') (ord_left oV')
        have is2 : (U2.length = 0 ∨ V2.length = 0) → isort cmpM (U2 ++ V2) = U2 ++ V2 := isort_one U2 V2 (ord_right oU') (ord_right oV')
        have ih1 := ih A U1 V1 (U2 ++ V2 ++ C)
        obtain ⟨I1, hI1⟩ : ∃ I1, isort cmpM (U1 ++ V1) = I1 := ⟨_, rfl⟩
        rw [hI1] at hhv li is1 ih1
        have ih2 := ih (A ++ I1) U2 V2 C
        obtain ⟨I2, hI2⟩ : ∃ I2, isort cmpM (U2 ++ V2) = I2 := ⟨_, rfl⟩
        rw [hI2] at hhv is2 ih2
        clear hI1 hI2
        obtain ⟨I, hI⟩ : ∃ I, isort cmpM (U ++ V) = I := ⟨_, rfl⟩
        rw [hI] at hhv ⊢
        clear hI
        obtain ⟨L1, hL1⟩ : ∃ L1, A ++ U1 ++ V1 ++ U2 ++ V2 ++ C = L1 := ⟨_, rfl⟩
        obtain ⟨L2, hL2⟩ : ∃ L2, A ++ I1 ++ U2 ++ V2 ++ C = L2 := ⟨_, rfl⟩
        have hL3 : A ++ I1 ++ I2 ++ C = A ++ I ++ C := by rw [← hhv]; simp
        have hLL1 : (U2.length = 0 ∨ V1.length = 0) → L = L1 := by
          intro h
          rw [← hL, ← hL1, ← hU12, ← hV12]
          rcases h with h | h <;> rw [List.eq_nil_of_length_eq_zero h] <;> simp
        have hL12 : (U1.length = 0 ∨ V1.length = 0) → L1 = L2 := by
          intro h
          rw [← hL1, ← hL2, is1 h]; simp
        have hL23 : (U2.length = 0 ∨ V2.length = 0) → L2 = A ++ I ++ C := by
          intro h
          rw [← hL3, ← hL2, is2 h]; simp
        clear f1 f2 f3 f4 f5 f6 f7 f8 l1 l2 l3 l4 hw hh hw2 hw3 hw4 e1 e2 hN hN2 q8 i1 i2 i3 i4 i5 hlt he q0
        have g5 : A.length + I1.length = mid := by omega
        have g8 : U1.length + V1.length ≤ K := by omega
        have g9 : U2.length + V2.length ≤ K := by omega
        have g10 : A.length + U1.length + V1.length + U2.length + V2.length + C.length = n := by omega
        have g11 : n ≤ 1000000 := by omega
        clear hK hn hnn
        have hrot : U2.length ≠ 0 → V1.length ≠ 0 → AC Tryz.prog 129 [.row β 30 1 n, .int .i64 (s : Nat), .int .i64 (m : Nat), .int .i64 (e : Nat), .fn 63 []] σ (fun r s => r = .tup [] ∧ s = σ.setBox β (cells cM L1 J)) := by
          intro h1 h2
          have h := a_rot (σ := σ) (β := β) (n := n) (J := J) (A ++ U1) U2 V1 (V2 ++ C) h1 h2 (by rw [List.length_append, List.length_append]; omega) (by rw [List.length_append, List.length_append]; omega) (by
            rw [hb, ← hL, ← hU12, ← hV12]; simp)
          rw [List.length_append, show A.length + U1.length = s by omega, g2, g3, show A ++ U1 ++ V1 ++ U2 ++ (V2 ++ C) = L1 by rw [← hL1]; simp] at h
          exact h
        have hm1 : ∀ σ' : St, σ'.box β = some (cells cM L1 J) → U1.length ≠ 0 → V1.length ≠ 0 → AC Tryz.prog 116 [.row β 30 1 n, .int .i64 (a : Nat), .int .i64 (s : Nat), .int .i64 (mid : Nat), .fn 63 []] σ' (fun r s => r = .tup [] ∧ s = σ'.setBox β (cells cM L2 J)) := by
          intro σ' hb' h1 h2
          have h := ih1 σ' β n J (by omega) h1 h2 (by rw [List.length_append, List.length_append]; omega) (by rw [List.length_append, List.length_append]; omega) (ord_left oU') (ord_left oV') (fun l hl => kU l (by rw [← hU12]; exact List.mem_append_left _ hl)) (fun l hl => kV l (by rw [← hV12]; exact List.mem_append_left _ hl)) (by rw [hb', ← hL1]; simp)
          rw [ha, g1, g4, show A ++ I1 ++ (U2 ++ V2 ++ C) = L2 by rw [← hL2]; simp] at h
          exact h
        have hm2 : ∀ σ' : St, σ'.box β = some (cells cM L2 J) → U2.length ≠ 0 → V2.length ≠ 0 → AC Tryz.prog 116 [.row β 30 1 n, .int .i64 (mid : Nat), .int .i64 (e : Nat), .int .i64 (b : Nat), .fn 63 []] σ' (fun r s => r = .tup [] ∧ s = σ'.setBox β (cells cM (A ++ I ++ C) J)) := by
          intro σ' hb' h1 h2
          have h := ih2 σ' β n J (by omega) h1 h2 (by rw [List.length_append]; omega) (by rw [List.length_append]; omega) (ord_right oU') (ord_right oV') (fun l hl => kU l (by rw [← hU12]; exact List.mem_append_right _ hl)) (fun l hl => kV l (by rw [← hV12]; exact List.mem_append_right _ hl)) (by rw [hb', ← hL2])
          rw [List.length_append, g5, g6, g7, hL3] at h
          exact h
        clear ih1 ih2 ih oU' oV' kU kV is1 is2
        have q0 : True := trivial
        have q8 : True := trivial
        have hw : True := trivial
        have hw2 : True := trivial
        have hw3 : True := trivial
        have hw4 : True := trivial
        have hh : True := trivial
        have q1 : decide ((s : Int) < (s : Int)) = false := by simp
        obtain ⟨d2, q2⟩ : ∃ d, decide ((s : Int) < (m : Int)) = d := ⟨_, rfl⟩
        obtain ⟨d3, q3⟩ : ∃ d, decide ((m : Int) < (e : Int)) = d := ⟨_, rfl⟩
        obtain ⟨d4, q4⟩ : ∃ d, decide ((a : Int) < (s : Int)) = d := ⟨_, rfl⟩
        obtain ⟨d5, q5⟩ : ∃ d, decide ((s : Int) < (mid : Int)) = d := ⟨_, rfl⟩
        obtain ⟨d6, q6⟩ : ∃ d, decide ((mid : Int) < (e : Int)) = d := ⟨_, rfl⟩
        obtain ⟨d7, q7⟩ : ∃ d, decide ((e : Int) < (b : Int)) = d := ⟨_, rfl⟩
        rcases dec_nat q2 with ⟨rfl, p2⟩ | ⟨rfl, p2⟩ <;> rcases dec_nat q3 with ⟨rfl, p3⟩ | ⟨rfl, p3⟩ <;> rcases dec_nat q4 with ⟨rfl, p4⟩ | ⟨rfl, p4⟩ <;> (try (exfalso; omega)) <;> rcases dec_nat q5 with ⟨rfl, p5⟩ | ⟨rfl, p5⟩ <;> (try (exfalso; omega)) <;> rcases dec_nat q6 with ⟨rfl, p6⟩ | ⟨rfl, p6⟩ <;> (try (exfalso; omega)) <;> rcases dec_nat q7 with ⟨rfl, p7⟩ | ⟨rfl, p7⟩ <;> (try (exfalso; omega))
        all_goals
          (try have hr := hrot (by omega) (by omega))
          (try have hb1 : σ.box β = some (cells cM L1 J) := by rw [hb, hLL1 (by omega)])
          (try have hA1 := hm1 σ hb1 (by omega) (by omega))
          (try have hA2 := hm1 (σ.setBox β (cells cM L1 J)) (St.box_same ..) (by omega) (by omega))
          (try simp only [St.set_set] at hA2)
          (try have e12 : L1 = L2 := hL12 (by omega))
          (try have e23 : L2 = A ++ I ++ C := hL23 (by omega))
          (try have hb2 : σ.box β = some (cells cM L2 J) := by rw [hb1, e12])
          (try have hB1 := hm2 σ hb2 (by omega) (by omega))
          (try have hB2 := hm2 (σ.setBox β (cells cM L1 J)) (by rw [St.box_same, e12]) (by omega) (by omega))
          (try have hB3 := hm2 (σ.setBox β (cells cM L2 J)) (St.box_same ..) (by omega) (by omega))
          clear hrot hm1 hm2 hL12 hL23 hLL1
          simp only [q1, ↓R1, RR, seval, RQ, hb, q0, q1, q2, q3, q4, q5, q6, q7, q8, hw, hw2, hw3, hw4, hw5, hw6, hw7, hh, hh2, hd, hd2]
          repeat' (first | (with_reducible rw [allocV_eq]) | (with_reducible refine And.intro ?_ ?_; focus (intros; (repeat' (with_reducible apply And.intro)) <;> first | omega | (simp only [RZ, cells_len]; omega))) | (with_reducible apply And.intro) | ((first | (refine gdV_split (fun hc => ?_) (fun hc => ?_) <;> (try simp only [hc, ↓R1, RR, seval, RQ, hb, q0, q1, q2, q3, q4, q5, q6, q7, q8, hw, hw2, hw3, hw4, hw5, hw6, hw7, hh, hh2, hd, hd2])) | refine condV_split (fun hc => ?_) (fun hc => ?_) | (with_reducible intro β hβ; (try simp only [RB] at hβ); (repeat (obtain ⟨⟨_, _⟩, hβ⟩ := hβ)); (try (have hbis := apart_is (by assumption) hβ; obtain ⟨_, _⟩ := hbis))) | (refine AC.mono (AC.wk (hr) (wkL_refl _)) ?_; (rintro _ _ ⟨rfl, rfl⟩)) | (refine AC.mono (AC.wk (hA1) (wkL_refl _)) ?_; (rintro _ _ ⟨rfl, rfl⟩)) | (refine AC.mono (AC.wk (hA2) (wkL_refl _)) ?_; (rintro _ _ ⟨rfl, rfl⟩)) | (refine AC.mono (AC.wk (hB1) (wkL_refl _)) ?_; (rintro _ _ ⟨rfl, rfl⟩)) | (refine AC.mono (AC.wk (hB2) (wkL_refl _)) ?_; (rintro _ _ ⟨rfl, rfl⟩)) | (refine AC.mono (AC.wk (hB3) (wkL_refl _)) ?_; (rintro _ _ ⟨rfl, rfl⟩))) <;> (try simp only [↓R1, RR, seval, RQ, hb, q0, q1, q2, q3, q4, q5, q6, q7, q8, hw, hw2, hw3, hw4, hw5, hw6, hw7, hh, hh2, hd, hd2])))
          (refine endP_id (by simp) (by first | (simp [rvsS, rvS]; done) | (simp only [rvsS, rvS, ↓R1, RR, seval, RQ, hb, q0, q1, q2, q3, q4, q5, q6, q7, q8, hw, hw2, hw3, hw4, hw5, hw6, hw7, hh, hh2, hd, hd2]; try simp)) ?_)
          refine ⟨rfl, ?_⟩
          first
          | rfl
          | (rw [e23]; done)
          | (rw [e12, e23]; done)
          | (rw [← e23]; exact (set_id' hb2).symm)
          | (rw [← e23, set_id' hb2]; done)
theorem a_sym : ∀ K, SymOk K
  | 0 => fun A U V C σ β n J h h1 => by omega
  | K + 1 => a_symS K (a_sym K)
end Go.Proofs.YtncadbcjikekhaaGreatDoor
namespace Go.Proofs.YtncadbcjikekhaaGreatDoor
open Go.Abs
set_option linter.all false
set_option maxRecDepth 100000
section
variable {σ : St} {β n : Nat} {J : List AV}
set_option maxHeartbeats 4000000 in
theorem a_ins0 : AC Tryz.prog 115 [.nils, .int .i64 0, .int .i64 0, .fn 63 []] σ (fun r s => r = .tup [] ∧ s = σ) := by
  have q0 : decide ((1 : Int) < 0) = false := by decide
  have q1 : True := trivial
  have q2 : True := trivial
  have hw : IntKind.i64.wrap 1 = 1 := by decide
  (refine AC_intro c115 b115 (Nat.le_of_ble_eq_true rfl) ?_; simp only [c115, ↓R1, RR, seval, RQ, q0, q1, q2, hw])
  repeat' (first | (with_reducible rw [allocV_eq]) | (with_reducible refine And.intro ?_ ?_; focus (intros; (repeat' (with_reducible apply And.intro)) <;> first | omega | (simp only [RZ, cells_len]; omega))) | (with_reducible apply And.intro) | ((first | (refine gdV_split (fun hc => ?_) (fun hc => ?_) <;> (try simp only [hc, ↓R1, RR, seval, RQ, q0, q1, q2, hw])) | refine condV_split (fun hc => ?_) (fun hc => ?_) | (with_reducible intro β hβ; (try simp only [RB] at hβ); (repeat (obtain ⟨⟨_, _⟩, hβ⟩ := hβ)); (try (have hbis := apart_is (by assumption) hβ; obtain ⟨_, _⟩ := hbis)))) <;> (try simp only [↓R1, RR, seval, RQ, q0, q1, q2, hw])))
  refine loopV_st (α := Unit) (fun _ => [(0, .nils), (1, .int .i64 0), (2, .int .i64 0), (3, .fn 63 []), (8, .int .i64 1)]) (fun _ => σ) (fun _ => True) (fun _ => 0) () (by simp [subF, slot, wk_refl]) (St.le_refl _) trivial (fun _ _ => ?_)
  simp only [q0, ↓R1, RR, seval, RQ, q0, q1, q2, hw]
  repeat' (first | (with_reducible rw [allocV_eq]) | (with_reducible refine And.intro ?_ ?_; focus (intros; (repeat' (with_reducible apply And.intro)) <;> first | omega | (simp only [RZ, cells_len]; omega))) | (with_reducible apply And.intro) | ((first | (refine gdV_split (fun hc => ?_) (fun hc => ?_) <;> (try simp only [hc, ↓R1, RR, seval, RQ, q0, q1, q2, hw])) | refine condV_split (fun hc => ?_) (fun hc => ?_) | (with_reducible intro β hβ; (try simp only [RB] at hβ); (repeat (obtain ⟨⟨_, _⟩, hβ⟩ := hβ)); (try (have hbis := apart_is (by assumption) hβ; obtain ⟨_, _⟩ := hbis)))) <;> (try simp only [↓R1, RR, seval, RQ, q0, q1, q2, hw])))
  (refine endP_id (by simp) (by first | (simp [rvsS, rvS]; done) | (simp only [rvsS, rvS, ↓R1, RR, seval, RQ, q0, q1, q2, hw]; try simp)) ?_)
  exact ⟨rfl, rfl⟩
set_option maxHeartbeats 4000000 in
theorem a_stab0 : AC Tryz.prog 93 [.nils, .int .i64 0, .fn 63 []] σ (fun r s => r = .tup [] ∧ s = σ) := by
  have q0 : decide ((20 : Int) ≤ 0) = false := by decide
  have q1 : decide ((20 : Int) < 0) = false := by decide
  have q2 : True := trivial
  have hw : True := trivial
  have hi := a_ins0 (σ := σ)
  (refine AC_intro c93 b93 (Nat.le_of_ble_eq_true rfl) ?_; simp only [c93, ↓R1, RR, seval, RQ, q0, q1, q2, hw])
  repeat' (first | (with_reducible rw [allocV_eq]) | (with_reducible refine And.intro ?_ ?_; focus (intros; (repeat' (with_reducible apply And.intro)) <;> first | omega | (simp only [RZ, cells_len]; omega))) | (with_reducible apply And.intro) | ((first | (refine gdV_split (fun hc => ?_) (fun hc => ?_) <;> (try simp only [hc, ↓R1, RR, seval, RQ, q0, q1, q2, hw])) | refine condV_split (fun hc => ?_) (fun hc => ?_) | (with_reducible intro β hβ; (try simp only [RB] at hβ); (repeat (obtain ⟨⟨_, _⟩, hβ⟩ := hβ)); (try (have hbis := apart_is (by assumption) hβ; obtain ⟨_, _⟩ := hbis)))) <;> (try simp only [↓R1, RR, seval, RQ, q0, q1, q2, hw])))
  refine loopV_st (α := Unit) (fun _ => [(0, .nils), (1, .int .i64 0), (2, .fn 63 []), (6, .int .i64 20), (7, .int .i64 0), (8, .int .i64 20)]) (fun _ => σ) (fun _ => True) (fun _ => 0) () (by simp [subF, slot, wk_refl]) (St.le_refl _) trivial (fun _ _ => ?_)
  simp only [q0, ↓R1, RR, seval, RQ, q0, q1, q2, hw]
  repeat' (first | (with_reducible rw [allocV_eq]) | (with_reducible refine And.intro ?_ ?_; focus (intros; (repeat' (with_reducible apply And.intro)) <;> first | omega | (simp only [RZ, cells_len]; omega))) | (with_reducible apply And.intro) | ((first | (refine gdV_split (fun hc => ?_) (fun hc => ?_) <;> (try simp only [hc, ↓R1, RR, seval, RQ, q0, q1, q2, hw])) | refine condV_split (fun hc => ?_) (fun hc => ?_) | (with_reducible intro β hβ; (try simp only [RB] at hβ); (repeat (obtain ⟨⟨_, _⟩, hβ⟩ := hβ)); (try (have hbis := apart_is (by assumption) hβ; obtain ⟨_, _⟩ := hbis))) | (refine AC.mono (AC.wk (hi) (wkL_refl _)) ?_; (rintro _ _ ⟨rfl, rfl⟩))) <;> (try simp only [↓R1, RR, seval, RQ, q0, q1, q2, hw])))
  refine loopV_st (α := Unit) (fun _ => [(0, .nils), (1, .int .i64 0), (2, .fn 63 []), (6, .int .i64 20)]) (fun _ => _) (fun _ => True) (fun _ => 0) () (by simp [subF, slot, wk_refl]) (St.le_refl _) trivial (fun _ _ => ?_)
  simp only [q1, ↓R1, RR, seval, RQ, q0, q1, q2, hw]
  repeat' (first | (with_reducible rw [allocV_eq]) | (with_reducible refine And.intro ?_ ?_; focus (intros; (repeat' (with_reducible apply And.intro)) <;> first | omega | (simp only [RZ, cells_len]; omega))) | (with_reducible apply And.intro) | ((first | (refine gdV_split (fun hc => ?_) (fun hc => ?_) <;> (try simp only [hc, ↓R1, RR, seval, RQ, q0, q1, q2, hw])) | refine condV_split (fun hc => ?_) (fun hc => ?_) | (with_reducible intro β hβ; (try simp only [RB] at hβ); (repeat (obtain ⟨⟨_, _⟩, hβ⟩ := hβ)); (try (have hbis := apart_is (by assumption) hβ; obtain ⟨_, _⟩ := hbis)))) <;> (try simp only [↓R1, RR, seval, RQ, q0, q1, q2, hw])))
  (refine endP_id (by simp) (by first | (simp [rvsS, rvS]; done) | (simp only [rvsS, rvS, ↓R1, RR, seval, RQ, q0, q1, q2, hw]; try simp)) ?_)
  exact ⟨rfl, rfl⟩
theorem a_sort0 : AC Tryz.prog 62 [.nils, .fn 63 []] σ (fun r s => r = .tup [] ∧ s = σ) := by
  have q0 : True := trivial
  have q1 : True := trivial
  have q2 : True := trivial
  have hw : True := trivial
  have hi := a_stab0 (σ := σ)
  (refine AC_intro c62 b62 (Nat.le_of_ble_eq_true rfl) ?_; simp only [c62, ↓R1, RR, seval, RQ, q0, q1, q2, hw])
  repeat' (first | (with_reducible rw [allocV_eq]) | (with_reducible refine And.intro ?_ ?_; focus (intros; (repeat' (with_reducible apply And.intro)) <;> first | omega | (simp only [RZ, cells_len]; omega))) | (with_reducible apply And.intro) | ((first | (refine gdV_split (fun hc => ?_) (fun hc => ?_) <;> (try simp only [hc, ↓R1, RR, seval, RQ, q0, q1, q2, hw])) | refine condV_split (fun hc => ?_) (fun hc => ?_) | (with_reducible intro β hβ; (try simp only [RB] at hβ); (repeat (obtain ⟨⟨_, _⟩, hβ⟩ := hβ)); (try (have hbis := apart_is (by assumption) hβ; obtain ⟨_, _⟩ := hbis))) | (refine AC.mono (AC.wk (hi) (wkL_refl _)) ?_; (rintro _ _ ⟨rfl, rfl⟩))) <;> (try simp only [↓R1, RR, seval, RQ, q0, q1, q2, hw])))
  (refine endP_id (by simp) (by first | (simp [rvsS, rvS]; done) | (simp only [rvsS, rvS, ↓R1, RR, seval, RQ, q0, q1, q2, hw]; try simp)) ?_)
  exact ⟨rfl, rfl⟩
set_option maxHeartbeats 4000000 in
theorem a_stab (ls : List (List Pl)) (hl : ls.length < 20) (hm : ∀ l ∈ ls, OkM l) (hb : σ.box β = some (cells cM ls J)) :
    AC Tryz.prog 93 [.row β 30 1 ls.length, .int .i64 (ls.length : Nat), .fn 63 []] σ (fun r s => r = .tup [] ∧ s = σ.setBox β (cells cM (isort cmpM ls) J)) := by
  have q0 : decide ((20 : Int) ≤ (ls.length : Int)) = false := by rw [decide_eq_false_iff_not]; omega
  have q1 : decide ((20 : Int) < (ls.length : Int)) = false := by rw [decide_eq_false_iff_not]; omega
  have q2 : True := trivial
  have hw : True := trivial
  have hi := a_ins (σ := σ) (β := β) (n := ls.length) (J := J) [] ls [] (by simp; omega) (by simp) hm (by simpa using hb)
  simp only [List.length_nil, Nat.zero_add, List.nil_append, List.append_nil, Int.natCast_zero] at hi
  (refine AC_intro c93 b93 (Nat.le_of_ble_eq_true rfl) ?_; simp only [c93, ↓R1, RR, seval, RQ, q0, q1, q2, hw])
  repeat' (first | (with_reducible rw [allocV_eq]) | (with_reducible refine And.intro ?_ ?_; focus (intros; (repeat' (with_reducible apply And.intro)) <;> first | omega | (simp only [RZ, cells_len]; omega))) | (with_reducible apply And.intro) | ((first | (refine gdV_split (fun hc => ?_) (fun hc => ?_) <;> (try simp only [hc, ↓R1, RR, seval, RQ, q0, q1, q2, hw])) | refine condV_split (fun hc => ?_) (fun hc => ?_) | (with_reducible intro β hβ; (try simp only [RB] at hβ); (repeat (obtain ⟨⟨_, _⟩, hβ⟩ := hβ)); (try (have hbis := apart_is (by assumption) hβ; obtain ⟨_, _⟩ := hbis)))) <;> (try simp only [↓R1, RR, seval, RQ, q0, q1, q2, hw])))
  refine loopV_st (α := Unit) (fun _ => [(0, .row β 30 1 ls.length), (1, .int .i64 (ls.length : Nat)), (2, .fn 63 []), (6, .int .i64 20), (7, .int .i64 0), (8, .int .i64 20)]) (fun _ => σ) (fun _ => True) (fun _ => 0) () (by simp [subF, slot, wk_refl]) (St.le_refl _) trivial (fun _ _ => ?_)
  simp only [q0, ↓R1, RR, seval, RQ, q0, q1, q2, hw]
  repeat' (first | (with_reducible rw [allocV_eq]) | (with_reducible refine And.intro ?_ ?_; focus (intros; (repeat' (with_reducible apply And.intro)) <;> first | omega | (simp only [RZ, cells_len]; omega))) | (with_reducible apply And.intro) | ((first | (refine gdV_split (fun hc => ?_) (fun hc => ?_) <;> (try simp only [hc, ↓R1, RR, seval, RQ, q0, q1, q2, hw])) | refine condV_split (fun hc => ?_) (fun hc => ?_) | (with_reducible intro β hβ; (try simp only [RB] at hβ); (repeat (obtain ⟨⟨_, _⟩, hβ⟩ := hβ)); (try (have hbis := apart_is (by assumption) hβ; obtain ⟨_, _⟩ := hbis))) | (refine AC.mono (AC.wk (hi) (wkL_refl _)) ?_; (rintro _ _ ⟨rfl, rfl⟩))) <;> (try simp only [↓R1, RR, seval, RQ, q0, q1, q2, hw])))
  refine loopV_st (α := Unit) (fun _ => [(0, .row β 30 1 ls.length), (1, .int .i64 (ls.length : Nat)), (2, .fn 63 []), (6, .int .i64 20)]) (fun _ => σ.setBox β (cells cM (isort cmpM ls) J)) (fun _ => True) (fun _ => 0) () (by simp [subF, slot, wk_refl]) (St.le_refl _) trivial (fun _ _ => ?_)
  simp only [q1, ↓R1, RR, seval, RQ, q0, q1, q2, hw]
  repeat' (first | (with_reducible rw [allocV_eq]) | (with_reducible refine And.intro ?_ ?_; focus (intros; (repeat' (with_reducible apply And.intro)) <;> first | omega | (simp only [RZ, cells_len]; omega))) | (with_reducible apply And.intro) | ((first | (refine gdV_split (fun hc => ?_) (fun hc => ?_) <;> (try simp only [hc, ↓R1, RR, seval, RQ, q0, q1, q2, hw])) | refine condV_split (fun hc => ?_) (fun hc => ?_) | (with_reducible intro β hβ; (try simp only [RB] at hβ); (repeat (obtain ⟨⟨_, _⟩, hβ⟩ := hβ)); (try (have hbis := apart_is (by assumption) hβ; obtain ⟨_, _⟩ := hbis)))) <;> (try simp only [↓R1, RR, seval, RQ, q0, q1, q2, hw])))
  (refine endP_id (by simp) (by first | (simp [rvsS, rvS]; done) | (simp only [rvsS, rvS, ↓R1, RR, seval, RQ, q0, q1, q2, hw]; try simp)) ?_)
  exact ⟨rfl, rfl⟩
end
end Go.Proofs.YtncadbcjikekhaaGreatDoor
namespace Go.Proofs.YtncadbcjikekhaaGreatDoor
open Go.Abs
set_option linter.all false
set_option maxRecDepth 100000
theorem isort_parts (U V : List (List Pl)) : isort cmpM (isort cmpM U ++ isort cmpM V) = isort cmpM (U ++ V) :=
  isort_congr cmpM3 (fun _ _ => cmpM_eq) ((isort_perm cmpM U).append (isort_perm cmpM V))
section
variable {σ : St} {β n : Nat} {J : List AV}
set_option maxHeartbeats 8000000 in
theorem a_stab2 (U V : List (List Pl)) (hU : U.length = 20) (hV : V.length < 20) (hn : 20 + V.length = n) (hmU : ∀ l ∈ U, OkM l) (hmV : ∀ l ∈ V, OkM l) (hb : σ.box β = some (cells cM (U ++ V) J)) :
    AC Tryz.prog 93 [.row β 30 1 n, .int .i64 (n : Nat), .fn 63 []] σ (fun r s => r = .tup [] ∧ s = σ.setBox β (cells cM (isort cmpM (U ++ V)) J)) := by
  have q0 : True := trivial
  have q1 : True := trivial
  have q2 : True := trivial
  have hw : IntKind.i64.wrap 40 = 40 := rfl
  have hw2 : IntKind.i64.wrap 20 = 20 := rfl
  have hw3 : IntKind.i64.wrap (20 + 20) = 40 := rfl
  have hw4 : IntKind.i64.wrap (2 * 20) = 40 := rfl
  have hw5 : IntKind.i64.wrap (20 * 2) = 40 := rfl
  have hw6 : IntKind.i64.wrap (0 + 20) = 20 := rfl
  have hi1 := a_ins (σ := σ) (β := β) (n := n) (J := J) [] U V (by simp; omega) (by simp; omega) hmU (by simpa using hb)
  have lU := isort_len cmpM U
  have lV := isort_len cmpM V
  have hi2 := a_ins (σ := σ.setBox β (cells cM (isort cmpM U ++ V) J)) (β := β) (n := n) (J := J) (isort cmpM U) V [] (by simp; omega) (by simp; omega) hmV (by rw [St.box_same, List.append_nil])
  have hs1 : V.length ≠ 0 → AC Tryz.prog 116 [.row β 30 1 n, .int .i64 0, .int .i64 20, .int .i64 (n : Nat), .fn 63 []] (σ.setBox β (cells cM (isort cmpM U ++ isort cmpM V) J)) (fun r s => r = .tup [] ∧ s = σ.setBox β (cells cM (isort cmpM (U ++ V)) J)) := by
    intro h
    have h2 := a_sym n [] (isort cmpM U) (isort cmpM V) [] (σ.setBox β (cells cM (isort cmpM U ++ isort cmpM V) J)) β n J (by omega) (by omega) (by omega) (by simp; omega) (by simp; omega) (isort_ord cmpM3 U) (isort_ord cmpM3 V) (fun l hl => hmU l ((isort_perm cmpM U).mem_iff.1 hl)) (fun l hl => hmV l ((isort_perm cmpM V).mem_iff.1 hl)) (by rw [St.box_same]; simp)
    rw [isort_parts] at h2
    simp only [List.length_nil, Nat.zero_add, List.nil_append, List.append_nil, lU, lV, hU, hn, St.set_set, Int.natCast_zero] at h2
    exact h2
  simp only [List.length_nil, Nat.zero_add, List.nil_append, List.append_nil, Int.natCast_zero, hU, lU, hn, St.set_set] at hi1 hi2
  have e20 : ((20 : Nat) : Int) = 20 := rfl
  rw [e20] at hi1 hi2
  have hV0 : V.length = 0 → isort cmpM U ++ isort cmpM V = isort cmpM (U ++ V) := by
    intro h
    rw [List.eq_nil_of_length_eq_zero h, List.append_nil, show isort cmpM ([] : List (List Pl)) = [] from rfl, List.append_nil]
  generalize isort cmpM (U ++ V) = L3 at *
  generalize isort cmpM U ++ isort cmpM V = L2 at *
  generalize isort cmpM U ++ V = L1 at *
  (refine AC_intro c93 b93 (Nat.le_of_ble_eq_true rfl) ?_; simp only [c93, ↓R1, RR, seval, RQ, q0, q1, q2, hw, hw2, hw3, hw4, hw5, hw6])
  repeat' (first | (with_reducible rw [allocV_eq]) | (with_reducible refine And.intro ?_ ?_; focus (intros; (repeat' (with_reducible apply And.intro)) <;> first | omega | (simp only [RZ, cells_len]; omega))) | (with_reducible apply And.intro) | ((first | (refine gdV_split (fun hc => ?_) (fun hc => ?_) <;> (try simp only [hc, ↓R1, RR, seval, RQ, q0, q1, q2, hw, hw2, hw3, hw4, hw5, hw6])) | refine condV_split (fun hc => ?_) (fun hc => ?_) | (with_reducible intro β hβ; (try simp only [RB] at hβ); (repeat (obtain ⟨⟨_, _⟩, hβ⟩ := hβ)); (try (have hbis := apart_is (by assumption) hβ; obtain ⟨_, _⟩ := hbis)))) <;> (try simp only [↓R1, RR, seval, RQ, q0, q1, q2, hw, hw2, hw3, hw4, hw5, hw6])))
  refine loopV_st (α := Bool) (fun d => [(0, .row β 30 1 n), (1, .int .i64 (n : Nat)), (2, .fn 63 []), (6, .int .i64 20), (7, .int .i64 (bif d then 20 else 0)), (8, .int .i64 (bif d then 40 else 20))]) (fun d => bif d then σ.setBox β (cells cM L1 J) else σ) (fun _ => True) (fun d => bif d then 0 else 1) false (by simp [subF, slot, wk_refl]) (St.le_refl _) trivial (fun d _ => ?_)
  cases d with
  | false =>
    have q0 : decide ((20 : Int) ≤ (n : Int)) = true := by rw [decide_eq_true_eq]; omega
    simp only [q0, cond_false, ↓R1, RR, seval, RQ, q0, q1, q2, hw, hw2, hw3, hw4, hw5, hw6]
    repeat' (first | (with_reducible rw [allocV_eq]) | (with_reducible refine And.intro ?_ ?_; focus (intros; (repeat' (with_reducible apply And.intro)) <;> first | omega | (simp only [RZ, cells_len]; omega))) | (with_reducible apply And.intro) | ((first | (refine gdV_split (fun hc => ?_) (fun hc => ?_) <;> (try simp only [hc, ↓R1, RR, seval, RQ, q0, q1, q2, hw, hw2, hw3, hw4, hw5, hw6])) | refine condV_split (fun hc => ?_) (fun hc => ?_) | (with_reducible intro β hβ; (try simp only [RB] at hβ); (repeat (obtain ⟨⟨_, _⟩, hβ⟩ := hβ)); (try (have hbis := apart_is (by assumption) hβ; obtain ⟨_, _⟩ := hbis))) | (refine AC.mono (AC.wk (hi1) (wkL_refl _)) ?_; (rintro _ _ ⟨rfl, rfl⟩))) <;> (try simp only [↓R1, RR, seval, RQ, q0, q1, q2, hw, hw2, hw3, hw4, hw5, hw6])))
    refine ⟨true, by simp [subF, slot, wk_refl], St.le_refl _, by decide⟩
  | true =>
    have q0 : decide ((40 : Int) ≤ (n : Int)) = false := by rw [decide_eq_false_iff_not]; omega
    simp only [q0, cond_true, ↓R1, RR, seval, RQ, q0, q1, q2, hw, hw2, hw3, hw4, hw5, hw6]
    repeat' (first | (with_reducible rw [allocV_eq]) | (with_reducible refine And.intro ?_ ?_; focus (intros; (repeat' (with_reducible apply And.intro)) <;> first | omega | (simp only [RZ, cells_len]; omega))) | (with_reducible apply And.intro) | ((first | (refine gdV_split (fun hc => ?_) (fun hc => ?_) <;> (try simp only [hc, ↓R1, RR, seval, RQ, q0, q1, q2, hw, hw2, hw3, hw4, hw5, hw6])) | refine condV_split (fun hc => ?_) (fun hc => ?_) | (with_reducible intro β hβ; (try simp only [RB] at hβ); (repeat (obtain ⟨⟨_, _⟩, hβ⟩ := hβ)); (try (have hbis := apart_is (by assumption) hβ; obtain ⟨_, _⟩ := hbis))) | (refine AC.mono (AC.wk (hi2) (wkL_refl _)) ?_; (rintro _ _ ⟨rfl, rfl⟩))) <;> (try simp only [↓R1, RR, seval, RQ, q0, q1, q2, hw, hw2, hw3, hw4, hw5, hw6])))
    refine loopV_st (α := Bool) (fun d => [(0, .row β 30 1 n), (1, .int .i64 (n : Nat)), (2, .fn 63 []), (6, .int .i64 (bif d then 40 else 20))]) (fun d => σ.setBox β (cells cM (bif d then L3 else L2) J)) (fun _ => True) (fun d => bif d then 0 else 1) false (by simp [subF, slot, wk_refl]) (St.le_refl _) trivial (fun d _ => ?_)
    cases d with
    | false =>
      by_cases hV1 : V.length = 0
      · have q1 : decide ((20 : Int) < (n : Int)) = false := by rw [decide_eq_false_iff_not]; omega
        simp only [q1, cond_false, ↓R1, RR, seval, RQ, q0, q1, q2, hw, hw2, hw3, hw4, hw5, hw6]
        repeat' (first | (with_reducible rw [allocV_eq]) | (with_reducible refine And.intro ?_ ?_; focus (intros; (repeat' (with_reducible apply And.intro)) <;> first | omega | (simp only [RZ, cells_len]; omega))) | (with_reducible apply And.intro) | ((first | (refine gdV_split (fun hc => ?_) (fun hc => ?_) <;> (try simp only [hc, ↓R1, RR, seval, RQ, q0, q1, q2, hw, hw2, hw3, hw4, hw5, hw6])) | refine condV_split (fun hc => ?_) (fun hc => ?_) | (with_reducible intro β hβ; (try simp only [RB] at hβ); (repeat (obtain ⟨⟨_, _⟩, hβ⟩ := hβ)); (try (have hbis := apart_is (by assumption) hβ; obtain ⟨_, _⟩ := hbis)))) <;> (try simp only [↓R1, RR, seval, RQ, q0, q1, q2, hw, hw2, hw3, hw4, hw5, hw6])))
        (refine endP_id (by simp) (by first | (simp [rvsS, rvS]; done) | (simp only [rvsS, rvS, ↓R1, RR, seval, RQ, q0, q1, q2, hw, hw2, hw3, hw4, hw5, hw6]; try simp)) ?_)
        exact ⟨rfl, by rw [hV0 hV1]⟩
      · have q1 : decide ((20 : Int) < (n : Int)) = true := by rw [decide_eq_true_eq]; omega
        have hs := hs1 hV1
        simp only [q1, cond_false, ↓R1, RR, seval, RQ, q0, q1, q2, hw, hw2, hw3, hw4, hw5, hw6]
        repeat' (first | (with_reducible rw [allocV_eq]) | (with_reducible refine And.intro ?_ ?_; focus (intros; (repeat' (with_reducible apply And.intro)) <;> first | omega | (simp only [RZ, cells_len]; omega))) | (with_reducible apply And.intro) | ((first | (refine gdV_split (fun hc => ?_) (fun hc => ?_) <;> (try simp only [hc, ↓R1, RR, seval, RQ, q0, q1, q2, hw, hw2, hw3, hw4, hw5, hw6])) | refine condV_split (fun hc => ?_) (fun hc => ?_) | (with_reducible intro β hβ; (try simp only [RB] at hβ); (repeat (obtain ⟨⟨_, _⟩, hβ⟩ := hβ)); (try (have hbis := apart_is (by assumption) hβ; obtain ⟨_, _⟩ := hbis)))) <;> (try simp only [↓R1, RR, seval, RQ, q0, q1, q2, hw, hw2, hw3, hw4, hw5, hw6])))
        refine loopV_st (α := Unit) (fun _ => [(0, .row β 30 1 n), (1, .int .i64 (n : Nat)), (2, .fn 63 []), (6, .int .i64 20), (7, .int .i64 0), (8, .int .i64 40)]) (fun _ => σ.setBox β (cells cM L2 J)) (fun _ => True) (fun _ => 0) () (by simp [subF, slot, wk_refl]) (St.le_refl _) trivial (fun _ _ => ?_)
        simp only [q0, ↓R1, RR, seval, RQ, q0, q1, q2, hw, hw2, hw3, hw4, hw5, hw6]
        repeat' (first | (with_reducible rw [allocV_eq]) | (with_reducible refine And.intro ?_ ?_; focus (intros; (repeat' (with_reducible apply And.intro)) <;> first | omega | (simp only [RZ, cells_len]; omega))) | (with_reducible apply And.intro) | ((first | (refine gdV_split (fun hc => ?_) (fun hc => ?_) <;> (try simp only [hc, ↓R1, RR, seval, RQ, q0, q1, q2, hw, hw2, hw3, hw4, hw5, hw6])) | refine condV_split (fun hc => ?_) (fun hc => ?_) | (with_reducible intro β hβ; (try simp only [RB] at hβ); (repeat (obtain ⟨⟨_, _⟩, hβ⟩ := hβ)); (try (have hbis := apart_is (by assumption) hβ; obtain ⟨_, _⟩ := hbis))) | (refine AC.mono (AC.wk (hs) (wkL_refl _)) ?_; (rintro _ _ ⟨rfl, rfl⟩))) <;> (try simp only [↓R1, RR, seval, RQ, q0, q1, q2, hw, hw2, hw3, hw4, hw5, hw6])))
        refine ⟨true, by simp [subF, slot, wk_refl], St.le_refl _, by decide⟩
    | true =>
      have q1 : decide ((40 : Int) < (n : Int)) = false := by rw [decide_eq_false_iff_not]; omega
      simp only [q1, cond_true, ↓R1, RR, seval, RQ, q0, q1, q2, hw, hw2, hw3, hw4, hw5, hw6]
      repeat' (first | (with_reducible rw [allocV_eq]) | (with_reducible refine And.intro ?_ ?_; focus (intros; (repeat' (with_reducible apply And.intro)) <;> first | omega | (simp only [RZ, cells_len]; omega))) | (with_reducible apply And.intro) | ((first | (refine gdV_split (fun hc => ?_) (fun hc => ?_) <;> (try simp only [hc, ↓R1, RR, seval, RQ, q0, q1, q2, hw, hw2, hw3, hw4, hw5, hw6])) | refine condV_split (fun hc => ?_) (fun hc => ?_) | (with_reducible intro β hβ; (try simp only [RB] at hβ); (repeat (obtain ⟨⟨_, _⟩, hβ⟩ := hβ)); (try (have hbis := apart_is (by assumption) hβ; obtain ⟨_, _⟩ := hbis)))) <;> (try simp only [↓R1, RR, seval, RQ, q0, q1, q2, hw, hw2, hw3, hw4, hw5, hw6])))
      (refine endP_id (by simp) (by first | (simp [rvsS, rvS]; done) | (simp only [rvsS, rvS, ↓R1, RR, seval, RQ, q0, q1, q2, hw, hw2, hw3, hw4, hw5, hw6]; try simp)) ?_)
      exact ⟨rfl, rfl⟩
theorem a_stab30 (ls : List (List Pl)) (hl : ls.length < 40) (hm : ∀ l ∈ ls, OkM l) (hb : σ.box β = some (cells cM ls J)) :
    AC Tryz.prog 93 [.row β 30 1 ls.length, .int .i64 (ls.length : Nat), .fn 63 []] σ (fun r s => r = .tup [] ∧ s = σ.setBox β (cells cM (isort cmpM ls) J)) := by
  by_cases h : ls.length < 20
  · exact a_stab ls h hm hb
  · have e : ls.take 20 ++ ls.drop 20 = ls := List.take_append_drop 20 ls
    have h1 := a_stab2 (σ := σ) (β := β) (n := ls.length) (J := J) (ls.take 20) (ls.drop 20) (by rw [List.length_take]; omega) (by rw [List.length_drop]; omega) (by rw [List.length_drop]; omega) (fun l hl => hm l (List.mem_of_mem_take hl)) (fun l hl => hm l (List.mem_of_mem_drop hl)) (by rw [e]; exact hb)
    rw [e] at h1
    exact h1
theorem a_sort30 (ls : List (List Pl)) (hl : ls.length < 40) (hm : ∀ l ∈ ls, OkM l) (hb : σ.box β = some (cells cM ls J)) :
    AC Tryz.prog 62 [.row β 30 1 ls.length, .fn 63 []] σ (fun r s => r = .tup [] ∧ s = σ.setBox β (cells cM (isort cmpM ls) J)) := by
  have q0 : True := trivial
  have q1 : True := trivial
  have q2 : True := trivial
  have hw : True := trivial
  have hw2 : True := trivial
  have hw3 : True := trivial
  have hw4 : True := trivial
  have hw5 : True := trivial
  have hw6 : True := trivial
  have hi := a_stab30 ls hl hm hb
  (refine AC_intro c62 b62 (Nat.le_of_ble_eq_true rfl) ?_; simp only [c62, ↓R1, RR, seval, RQ, q0, q1, q2, hw, hw2, hw3, hw4, hw5, hw6])
  repeat' (first | (with_reducible rw [allocV_eq]) | (with_reducible refine And.intro ?_ ?_; focus (intros; (repeat' (with_reducible apply And.intro)) <;> first | omega | (simp only [RZ, cells_len]; omega))) | (with_reducible apply And.intro) | ((first | (refine gdV_split (fun hc => ?_) (fun hc => ?_) <;> (try simp only [hc, ↓R1, RR, seval, RQ, q0, q1, q2, hw, hw2, hw3, hw4, hw5, hw6])) | refine condV_split (fun hc => ?_) (fun hc => ?_) | (with_reducible intro β hβ; (try simp only [RB] at hβ); (repeat (obtain ⟨⟨_, _⟩, hβ⟩ := hβ)); (try (have hbis := apart_is (by assumption) hβ; obtain ⟨_, _⟩ := hbis))) | (refine AC.mono (AC.wk (hi) (wkL_refl _)) ?_; (rintro _ _ ⟨rfl, rfl⟩))) <;> (try simp only [↓R1, RR, seval, RQ, q0, q1, q2, hw, hw2, hw3, hw4, hw5, hw6])))
  (refine endP_id (by simp) (by first | (simp [rvsS, rvS]; done) | (simp only [rvsS, rvS, ↓R1, RR, seval, RQ, q0, q1, q2, hw, hw2, hw3, hw4, hw5, hw6]; try simp)) ?_)
  exact ⟨rfl, rfl⟩
end
end Go.Proofs.YtncadbcjikekhaaGreatDoor
namespace Go.Proofs.YtncadbcjikekhaaGreatDoor
open Go.Abs
set_option linter.all false
set_option maxRecDepth 100000
def outV (k β : Nat) : AV := match k with
  | 0 => .nils
  | k + 1 => .row β 30 1 (k + 1)
def outS (σ : St) (ls : List (List Pl)) (k β j : Nat) : St := match k with
  | 0 => σ
  | k + 1 => σ.setBox β (cells cM (ls.take (k + 1)) (List.replicate j .junk))
theorem outV_0 {k β : Nat} (h : k = 0) : outV k β = .nils := by subst h; rfl
theorem outV_1 {k β : Nat} (h : 0 < k) : outV k β = .row β 30 1 k := by cases k with
  | zero => omega
  | succ k => rfl
theorem outS_0 {σ : St} {ls : List (List Pl)} {k β j : Nat} (h : k = 0) : outS σ ls k β j = σ := by subst h; rfl
theorem outS_1 {σ : St} {ls : List (List Pl)} {k β j : Nat} (h : 0 < k) : outS σ ls k β j = σ.setBox β (cells cM (ls.take k) (List.replicate j .junk)) := by cases k with
  | zero => omega
  | succ k => rfl
theorem cM_get (ls : List (List Pl)) {k : Nat} (h : k < ls.length) : List.take 1 (List.drop (k * 1) (ls.map cM)) = [cM ls[k]] := by
  rw [Nat.mul_one, List.drop_eq_getElem_cons (by simpa using h)]
  simp
theorem none_of_le {σ σ' : St} {γ : Nat} (h : St.le σ σ') (hn : σ'.box γ = none) : σ.box γ = none := by
  cases h2 : σ.box γ with
  | none => rfl
  | some c => rw [h.1 γ c h2] at hn; cases hn
theorem le_drop1 {σ : St} {β : Nat} {c : List AV} (hb : σ.box β = none) : St.le σ ((σ.setBox β c).dropBox β) := by
  refine ⟨fun δ e he => ?_, fun _ _ h => h, fun _ _ h => h, fun _ _ h => h, fun δ T hT => ?_⟩
  · have : δ ≠ β := by rintro rfl; rw [hb] at he; cases he
    simp only [St.dropBox, St.setBox, upd, if_neg this]
    exact he
  · exact hT
theorem le_drop {σ : St} {β γ : Nat} {c d : List AV} (hb : σ.box β = none) (hg : σ.box γ = none) : St.le σ (((σ.setBox β c).setBox γ d).dropBox β) := by
  refine ⟨fun δ e he => ?_, fun _ _ h => h, fun _ _ h => h, fun _ _ h => h, fun δ T hT => ?_⟩
  · have h1 : δ ≠ β := by rintro rfl; rw [hb] at he; cases he
    have h2 : δ ≠ γ := by rintro rfl; rw [hg] at he; cases he
    simp only [St.dropBox, St.setBox, upd, if_neg h1, if_neg h2]
    exact he
  · exact hT
theorem cells_take {α : Type} {c : α → AV} {l : List α} {J : List AV} {k : Nat} (h : l.length = k) : (cells c l J).take (k * 1) = l.map c := by
  subst h
  unfold cells
  rw [Nat.mul_one]
  have : l.length = (l.map c).length := by simp
  rw [this, List.take_left]
end Go.Proofs.YtncadbcjikekhaaGreatDoor
namespace Go.Proofs.YtncadbcjikekhaaGreatDoor
open Go.Abs
set_option linter.all false
set_option maxRecDepth 100000
def badS : List (List Pl) → Int
  | [] => 0
  | l :: ls => if checkS l = 0 then badS ls else checkS l
def sortV (ls : List (List Pl)) : AV := if badS ls = 0 then .tup [.sl false ls.length ((isort cmpM ls).map cM), .int .i64 0] else .tup [.nils, .int .i64 (badS ls)]
theorem badS_at : ∀ ls : List (List Pl), ∃ j, j ≤ ls.length ∧ (∀ k (h : k < ls.length), k < j → checkS ls[k] = 0) ∧ ((j = ls.length ∧ badS ls = 0) ∨ ∃ h : j < ls.length, checkS ls[j] ≠ 0 ∧ badS ls = checkS ls[j])
  | [] => ⟨0, Nat.le_refl _, fun k h => absurd h (by simp), .inl ⟨rfl, rfl⟩⟩
  | l :: ls => by
    by_cases h0 : checkS l = 0
    · obtain ⟨j, h1, h2, h3⟩ := badS_at ls
      refine ⟨j + 1, by simp; omega, fun k h hk => ?_, ?_⟩
      · cases k with
        | zero => exact h0
        | succ k => exact h2 k (by simpa using h) (by omega)
      · rcases h3 with ⟨h3, h4⟩ | ⟨h, h3, h4⟩
        · exact .inl ⟨by simp; exact h3, by simp only [badS, if_pos h0]; exact h4⟩
        · exact .inr ⟨by simp; exact h, h3, by simp only [badS, if_pos h0]; exact h4⟩
    · exact ⟨0, by simp, fun k h hk => by omega, .inr ⟨by simp, h0, by simp only [badS, if_neg h0]; rfl⟩⟩
theorem checkS_ok {l : List Pl} (h : checkS l = 0) : l.length ≠ 0 := by
  intro h0
  unfold checkS at h
  rw [h0] at h
  simp at h
theorem le_two {σ : St} {b β : Nat} {X Y : List AV} (hb : σ.box b = none) (hβ : σ.box β = none) : St.le σ ((σ.setBox b X).setBox β Y) := by
  refine ⟨fun δ e he => ?_, fun _ _ h => h, fun _ _ h => h, fun _ _ h => h, fun δ T hT => hT⟩
  have h1 : δ ≠ b := by rintro rfl; rw [hb] at he; cases he
  have h2 : δ ≠ β := by rintro rfl; rw [hβ] at he; cases he
  simp only [St.setBox, upd, if_neg h1, if_neg h2]
  exact he
set_option maxHeartbeats 4000000 in
theorem sort30 (ls : List (List Pl)) (hl : ls.length < 40) (hk : ∀ l ∈ ls, l.length ≤ 1000000) : Pu Tryz.prog 22 [.sl false ls.length (ls.map cM)] (sortV ls) := by
  obtain ⟨j0, hj0, hgood, hend⟩ := badS_at ls
  have q0 : True := trivial
  have q1 : True := trivial
  have q2 : True := trivial
  have hw : True := trivial
  have hd : True := trivial
  have hd2 : True := trivial
  (refine Pu_intro c22 b22 (Nat.le_of_ble_eq_true rfl) fun σ => ?_; simp only [c22, ↓R1, RR, seval, RQ, q0, q1, q2, hw, hd, hd2])
  repeat' (first | (with_reducible rw [allocV_eq]) | (with_reducible refine And.intro ?_ ?_; focus (intros; (repeat' (with_reducible apply And.intro)) <;> first | omega | (simp only [RZ, cells_len, cP_len, List.length_replicate]; omega))) | (with_reducible apply And.intro) | ((first | (refine gdV_split (fun hc => ?_) (fun hc => ?_) <;> (try simp only [hc, ↓R1, RR, seval, RQ, q0, q1, q2, hw, hd, hd2])) | refine condV_split (fun hc => ?_) (fun hc => ?_) | (with_reducible intro β hβ; (try simp only [RB] at hβ); (repeat (obtain ⟨⟨_, _⟩, hβ⟩ := hβ)); (try (have hbis := apart_is (by assumption) hβ; obtain ⟨_, _⟩ := hbis)))) <;> (try simp only [↓R1, RR, seval, RQ, q0, q1, q2, hw, hd, hd2])))
  refine loopV_st (α := Nat × Nat × Nat) (fun a => [(4, outV a.1 a.2.1), (8, .sl false ls.length (ls.map cM)), (9, .int .i64 (ls.length : Nat)), (10, .int .i64 (a.1 : Nat))]) (fun a => outS σ ls a.1 a.2.1 a.2.2)
    (fun a => a.1 ≤ j0 ∧ (a.1 ≠ 0 → σ.box a.2.1 = none)) (fun a => ls.length - a.1) (0, 0, 0) (by simp [subF, slot, wk_refl, outV]) (St.le_refl _) ⟨by simp, by simp⟩ (fun a ha => ?_)
  obtain ⟨k, b4, j⟩ := a
  obtain ⟨h1, h2⟩ := ha
  simp only at h1 h2 ⊢
  by_cases hltj : k < j0
  · have hlt : k < ls.length := by omega
    have q0 : decide ((k : Int) < (ls.length : Int)) = true := by rw [decide_eq_true_eq]; omega
    have hd := cM_get ls hlt
    have hw : IntKind.i64.wrap ((k : Int) + 1) = ((k + 1 : Nat) : Int) := by rw [wrap64 (by omega) (by omega)]; omega
    obtain ⟨m, hmk⟩ : ∃ m, ls[k] = m := ⟨_, rfl⟩
    have hmm : m ∈ ls := by rw [← hmk]; exact List.getElem_mem hlt
    rw [hmk] at hd
    have hC := p31 m (hk m hmm)
    have hm0 := hgood k hlt hltj
    rw [hmk] at hm0
    rw [hm0] at hC
    have hcl := (clone_ptp m (hk m hmm)).pu
    simp only [cM] at hd
    rcases Nat.eq_zero_or_pos k with h0 | h0
    · rw [outV_0 h0, outS_0 h0]
      simp only [q0, ↓R1, RR, seval, RQ, q0, q1, q2, hw, hd, hd2]
      repeat' (first | (with_reducible rw [allocV_eq]) | (with_reducible refine And.intro ?_ ?_; focus (intros; (repeat' (with_reducible apply And.intro)) <;> first | omega | (simp only [RZ, cells_len, cP_len, List.length_replicate]; omega))) | (with_reducible apply And.intro) | ((first | (refine gdV_split (fun hc => ?_) (fun hc => ?_) <;> (try simp only [hc, ↓R1, RR, seval, RQ, q0, q1, q2, hw, hd, hd2])) | refine condV_split (fun hc => ?_) (fun hc => ?_) | (with_reducible intro β hβ; (try simp only [RB] at hβ); (repeat (obtain ⟨⟨_, _⟩, hβ⟩ := hβ)); (try (have hbis := apart_is (by assumption) hβ; obtain ⟨_, _⟩ := hbis))) | refine Pt (hC) ?_ | refine Ct (hC) ?_ | refine Pt (hcl) ?_ | refine Ct (hcl) ?_ | (refine appRV_nils rfl (by decide) rfl (by unfold maxLen; omega) (by omega) (fun γ j2 hγ => ?_))) <;> (try simp only [↓R1, RR, seval, RQ, q0, q1, q2, hw, hd, hd2])))
      have hle : St.le σ (σ.setBox β [AV.sl false m.length (List.flatMap cP m)]) := St.le_new (St.le_refl _) hβ
      refine ⟨(k + 1, γ, j2), ⟨by simp only; omega, fun _ => none_of_le hle hγ⟩, by subst h0; simp [subF, slot, wk_refl, outV], ?_, by simp only; omega⟩
      have e1 : cells cM (ls.take (k + 1)) (List.replicate j2 .junk) = AV.sl false m.length (List.flatMap cP m) :: List.replicate j2 AV.junk := by
        subst h0
        rw [List.take_succ_eq_append_getElem hlt, hmk]; rfl
      rw [outS_1 (by omega), e1]
      exact St.le_cong _ _ hle
    · have hb := h2 (by omega)
      rw [outV_1 h0, outS_1 h0]
      simp only [q0, ↓R1, RR, seval, RQ, q0, q1, q2, hw, hd, hd2]
      repeat' (first | (with_reducible rw [allocV_eq]) | (with_reducible refine And.intro ?_ ?_; focus (intros; (repeat' (with_reducible apply And.intro)) <;> first | omega | (simp only [RZ, cells_len, cP_len, List.length_replicate]; omega))) | (with_reducible apply And.intro) | ((first | (refine gdV_split (fun hc => ?_) (fun hc => ?_) <;> (try simp only [hc, ↓R1, RR, seval, RQ, q0, q1, q2, hw, hd, hd2])) | refine condV_split (fun hc => ?_) (fun hc => ?_) | (with_reducible intro β hβ; (try simp only [RB] at hβ); (repeat (obtain ⟨⟨_, _⟩, hβ⟩ := hβ)); (try (have hbis := apart_is (by assumption) hβ; obtain ⟨_, _⟩ := hbis))) | refine Pt (hC) ?_ | refine Ct (hC) ?_ | refine Pt (hcl) ?_ | refine Ct (hcl) ?_ | (refine appRV_row rfl (by simp only [↓R1, RR, seval, RQ, q0, q1, q2, hw, hd, hd2]; rfl) (by decide) (by rw [cells_len, List.length_take]; omega) rfl (by unfold maxLen; omega) (by omega) (fun γ j2 hγ => ?_))) <;> (try simp only [↓R1, RR, seval, RQ, q0, q1, q2, hw, hd, hd2])))
      have hle := le_drop (c := cells cM (ls.take k) (List.replicate j .junk)) (d := [AV.sl false m.length (List.flatMap cP m)]) hb hβ
      refine ⟨(k + 1, γ, j2), ⟨by simp only; omega, fun _ => none_of_le hle hγ⟩, by simp [subF, slot, wk_refl, outV], ?_, by simp only; omega⟩
      have e1 : cells cM (ls.take (k + 1)) (List.replicate j2 .junk) = List.take (k * 1) (cells cM (ls.take k) (List.replicate j .junk)) ++ [AV.sl false m.length (List.flatMap cP m)] ++ List.replicate j2 AV.junk := by
        rw [cells_take (by rw [List.length_take]; omega), List.take_succ_eq_append_getElem hlt, hmk]
        simp [cells, cM]
      rw [outS_1 (by omega), e1]
      exact St.le_cong _ _ hle
  rcases hend with ⟨hje, hbad⟩ | ⟨hlt, hne, hbad⟩
  · have hke : k = ls.length := by omega
    subst hke
    have hOk : ∀ l ∈ ls, OkM l := fun l hl => by
      obtain ⟨i, hi, rfl⟩ := List.getElem_of_mem hl
      exact ⟨checkS_ok (hgood i hi (by omega)), hk _ hl⟩
    rw [show sortV ls = .tup [.sl false ls.length ((isort cmpM ls).map cM), .int .i64 0] from if_pos hbad]
    have q0 : decide ((ls.length : Int) < (ls.length : Int)) = false := by simp
    rcases Nat.eq_zero_or_pos ls.length with h0 | h0
    · have hs := a_sort0 (σ := σ)
      have hnil : ls = [] := List.eq_nil_of_length_eq_zero h0
      rw [outV_0 h0, outS_0 h0]
      simp only [q0, ↓R1, RR, seval, RQ, q0, q1, q2, hw, hd, hd2]
      repeat' (first | (with_reducible rw [allocV_eq]) | (with_reducible refine And.intro ?_ ?_; focus (intros; (repeat' (with_reducible apply And.intro)) <;> first | omega | (simp only [RZ, cells_len, cP_len, List.length_replicate]; omega))) | (with_reducible apply And.intro) | ((first | (refine gdV_split (fun hc => ?_) (fun hc => ?_) <;> (try simp only [hc, ↓R1, RR, seval, RQ, q0, q1, q2, hw, hd, hd2])) | refine condV_split (fun hc => ?_) (fun hc => ?_) | (with_reducible intro β hβ; (try simp only [RB] at hβ); (repeat (obtain ⟨⟨_, _⟩, hβ⟩ := hβ)); (try (have hbis := apart_is (by assumption) hβ; obtain ⟨_, _⟩ := hbis))) | (refine AC.mono (AC.wk (hs) (wkL_refl _)) ?_; (rintro _ _ ⟨rfl, rfl⟩))) <;> (try simp only [↓R1, RR, seval, RQ, q0, q1, q2, hw, hd, hd2])))
      rw [aC_frz, show frzS 4 1 _ _ = none from rfl, frzV_none]
      simp only [↓R1, RR, seval, RQ, q0, q1, q2, hw, hd, hd2]
      repeat' (first | (with_reducible rw [allocV_eq]) | (with_reducible refine And.intro ?_ ?_; focus (intros; (repeat' (with_reducible apply And.intro)) <;> first | omega | (simp only [RZ, cells_len, cP_len, List.length_replicate]; omega))) | (with_reducible apply And.intro) | ((first | (refine gdV_split (fun hc => ?_) (fun hc => ?_) <;> (try simp only [hc, ↓R1, RR, seval, RQ, q0, q1, q2, hw, hd, hd2])) | refine condV_split (fun hc => ?_) (fun hc => ?_) | (with_reducible intro β hβ; (try simp only [RB] at hβ); (repeat (obtain ⟨⟨_, _⟩, hβ⟩ := hβ)); (try (have hbis := apart_is (by assumption) hβ; obtain ⟨_, _⟩ := hbis)))) <;> (try simp only [↓R1, RR, seval, RQ, q0, q1, q2, hw, hd, hd2])))
      (refine endP_pu (by simp) (by first | (simp [rvsS, rvS]; done) | (simp only [rvsS, rvS, ↓R1, RR, seval, RQ, q0, q1, q2, hw, hd, hd2]; try simp)) ?_ (by (repeat (first | exact St.le_refl _ | (refine St.le_new ?_ (by assumption)) | (refine St.le_newT ?_ (by assumption))))))
      simp only [resAV, rvV, List.map_cons, List.map_nil, ↓R1, RR, seval, RQ, q0, q1, q2, hw, hd, hd2]
      rw [hnil]
      (repeat' (first | exact wk_refl _ | exact wk_nils | exact wk_tsl _ _ _ | exact wk_full _ _ | exact wkL.nil | exact wkL_refl _ | refine wk_tup ?_ | refine wk_agg ?_ | refine wkL.cons ?_ ?_))
    · have hb := h2 (by omega)
      rw [outV_1 h0, outS_1 h0, List.take_length]
      have hs := a_sort30 (σ := σ.setBox b4 (cells cM ls (List.replicate j .junk))) (β := b4) (J := List.replicate j .junk) ls hl hOk (by simp [St.setBox, upd])
      simp only [q0, ↓R1, RR, seval, RQ, q0, q1, q2, hw, hd, hd2]
      repeat' (first | (with_reducible rw [allocV_eq]) | (with_reducible refine And.intro ?_ ?_; focus (intros; (repeat' (with_reducible apply And.intro)) <;> first | omega | (simp only [RZ, cells_len, cP_len, List.length_replicate]; omega))) | (with_reducible apply And.intro) | ((first | (refine gdV_split (fun hc => ?_) (fun hc => ?_) <;> (try simp only [hc, ↓R1, RR, seval, RQ, q0, q1, q2, hw, hd, hd2])) | refine condV_split (fun hc => ?_) (fun hc => ?_) | (with_reducible intro β hβ; (try simp only [RB] at hβ); (repeat (obtain ⟨⟨_, _⟩, hβ⟩ := hβ)); (try (have hbis := apart_is (by assumption) hβ; obtain ⟨_, _⟩ := hbis))) | (refine AC.mono (AC.wk (hs) (wkL_refl _)) ?_; (rintro _ _ ⟨rfl, rfl⟩))) <;> (try simp only [↓R1, RR, seval, RQ, q0, q1, q2, hw, hd, hd2])))
      rw [aC_frz, frzS_row (n := ls.length) (cs := cells cM (isort cmpM ls) (List.replicate j .junk)) rfl (by simp [St.setBox, upd]) (by rw [cells_len, isort_len]; omega), frzV_some]
      simp only [↓R1, RR, seval, RQ, q0, q1, q2, hw, hd, hd2]
      repeat' (first | (with_reducible rw [allocV_eq]) | (with_reducible refine And.intro ?_ ?_; focus (intros; (repeat' (with_reducible apply And.intro)) <;> first | omega | (simp only [RZ, cells_len, cP_len, List.length_replicate]; omega))) | (with_reducible apply And.intro) | ((first | (refine gdV_split (fun hc => ?_) (fun hc => ?_) <;> (try simp only [hc, ↓R1, RR, seval, RQ, q0, q1, q2, hw, hd, hd2])) | refine condV_split (fun hc => ?_) (fun hc => ?_) | (with_reducible intro β hβ; (try simp only [RB] at hβ); (repeat (obtain ⟨⟨_, _⟩, hβ⟩ := hβ)); (try (have hbis := apart_is (by assumption) hβ; obtain ⟨_, _⟩ := hbis)))) <;> (try simp only [↓R1, RR, seval, RQ, q0, q1, q2, hw, hd, hd2])))
      refine endP_pu (by simp) (by first | (simp [rvsS, rvS]; done) | (simp only [rvsS, rvS, ↓R1, RR, seval, RQ, q0, q1, q2, hw, hd, hd2]; try simp)) (wk_of_eq ?_) (le_drop1 hb)
      (simp only [resAV, rvV, List.map_cons, List.map_nil, ↓R1, RR, seval, RQ, q0, q1, q2, hw, hd, hd2])
      rw [cells_take (isort_len cmpM ls)]
  · have hke : k = j0 := by omega
    subst hke
    rw [show sortV ls = .tup [.nils, .int .i64 (badS ls)] from if_neg (by rw [hbad]; exact hne), hbad]
    have q0 : decide ((k : Int) < (ls.length : Int)) = true := by rw [decide_eq_true_eq]; omega
    have hd := cM_get ls hlt
    obtain ⟨m, hmk⟩ : ∃ m, ls[k] = m := ⟨_, rfl⟩
    have hmm : m ∈ ls := by rw [← hmk]; exact List.getElem_mem hlt
    rw [hmk] at hd hne ⊢
    have hC := p31 m (hk m hmm)
    obtain ⟨e, he⟩ : ∃ e, checkS m = e := ⟨_, rfl⟩
    rw [he] at hne hC ⊢
    have q1 : (e != 0) = true := by rw [bne_iff_ne]; exact hne
    simp only [cM] at hd
    rcases Nat.eq_zero_or_pos k with h0 | h0
    · rw [outV_0 h0, outS_0 h0]
      simp only [q0, ↓R1, RR, seval, RQ, q0, q1, q2, hw, hd, hd2]
      repeat' (first | (with_reducible rw [allocV_eq]) | (with_reducible refine And.intro ?_ ?_; focus (intros; (repeat' (with_reducible apply And.intro)) <;> first | omega | (simp only [RZ, cells_len, cP_len, List.length_replicate]; omega))) | (with_reducible apply And.intro) | ((first | (refine gdV_split (fun hc => ?_) (fun hc => ?_) <;> (try simp only [hc, ↓R1, RR, seval, RQ, q0, q1, q2, hw, hd, hd2])) | refine condV_split (fun hc => ?_) (fun hc => ?_) | (with_reducible intro β hβ; (try simp only [RB] at hβ); (repeat (obtain ⟨⟨_, _⟩, hβ⟩ := hβ)); (try (have hbis := apart_is (by assumption) hβ; obtain ⟨_, _⟩ := hbis))) | refine Pt (hC) ?_ | refine Ct (hC) ?_) <;> (try simp only [↓R1, RR, seval, RQ, q0, q1, q2, hw, hd, hd2])))
      refine endP_pu (by simp) (by first | (simp [rvsS, rvS]; done) | (simp only [rvsS, rvS, ↓R1, RR, seval, RQ, q0, q1, q2, hw, hd, hd2]; try simp)) (wk_of_eq ?_) (St.le_new (St.le_refl _) hβ)
      (simp only [resAV, rvV, List.map_cons, List.map_nil, ↓R1, RR, seval, RQ, q0, q1, q2, hw, hd, hd2])
    · have hb := h2 (by omega)
      rw [outV_1 h0, outS_1 h0]
      simp only [q0, ↓R1, RR, seval, RQ, q0, q1, q2, hw, hd, hd2]
      repeat' (first | (with_reducible rw [allocV_eq]) | (with_reducible refine And.intro ?_ ?_; focus (intros; (repeat' (with_reducible apply And.intro)) <;> first | omega | (simp only [RZ, cells_len, cP_len, List.length_replicate]; omega))) | (with_reducible apply And.intro) | ((first | (refine gdV_split (fun hc => ?_) (fun hc => ?_) <;> (try simp only [hc, ↓R1, RR, seval, RQ, q0, q1, q2, hw, hd, hd2])) | refine condV_split (fun hc => ?_) (fun hc => ?_) | (with_reducible intro β hβ; (try simp only [RB] at hβ); (repeat (obtain ⟨⟨_, _⟩, hβ⟩ := hβ)); (try (have hbis := apart_is (by assumption) hβ; obtain ⟨_, _⟩ := hbis))) | refine Pt (hC) ?_ | refine Ct (hC) ?_) <;> (try simp only [↓R1, RR, seval, RQ, q0, q1, q2, hw, hd, hd2])))
      refine endP_pu (by simp) (by first | (simp [rvsS, rvS]; done) | (simp only [rvsS, rvS, ↓R1, RR, seval, RQ, q0, q1, q2, hw, hd, hd2]; try simp)) (wk_of_eq ?_) (le_two hb hβ)
      (simp only [resAV, rvV, List.map_cons, List.map_nil, ↓R1, RR, seval, RQ, q0, q1, q2, hw, hd, hd2])
end Go.Proofs.YtncadbcjikekhaaGreatDoor
namespace Go.Abs
theorem callGV_not {P : Program} {σ : St} {K : AV → St → Prop} {f : Nat} {xs : List AV} {p : Prop} {h : Hold (σ, K)} (hK : K (.opt false .junk) σ) : callGV P false f p xs σ K h :=
  ⟨.junk, (fun hb => by cases hb), hK⟩
end Go.Abs
namespace Go.Proofs.YtncadbcjikekhaaGreatDoor
open Go.Abs
set_option linter.all false
set_option maxRecDepth 100000
theorem p64 (l : List Pl) (hl : l.length ≤ 1000000) : Pu Tryz.prog 64 [.agg [.sl false l.length (l.flatMap cP)]] (.agg [.sl false l.length (l.flatMap cP)]) := by
  (refine Pu_intro c64 b64 (Nat.le_of_ble_eq_true rfl) fun σ => ?_; simp only [c64, ↓R1, RR, seval])
  repeat' (first | (with_reducible rw [allocV_eq]) | (with_reducible refine And.intro ?_ ?_; focus (intros; (repeat' (with_reducible apply And.intro)) <;> first | omega | (simp only [RZ, cells_len, cP_len, List.length_replicate]; omega))) | (with_reducible apply And.intro) | ((first | (refine gdV_split (fun hc => ?_) (fun hc => ?_) <;> (try simp only [hc, ↓R1, RR, seval])) | refine condV_split (fun hc => ?_) (fun hc => ?_) | (with_reducible intro β hβ; (try simp only [RB] at hβ); (repeat (obtain ⟨⟨_, _⟩, hβ⟩ := hβ)); (try (have hbis := apart_is (by assumption) hβ; obtain ⟨_, _⟩ := hbis))) | ((first | (refine appD_tslK (.inr rfl) rfl ?_ ?_ ?_ ?_ ?_ ?_; (first | rfl | exact St.tip_same _ _ _ | (simp only [↓R1, RR, seval])); (first | omega | (simp only [RZ, cells_len, cP_len, List.length_replicate, List.length_nil, List.length_cons]; omega) | (simp only [RZ, cells_len, cP_len, List.length_replicate, List.length_nil, List.length_cons])); (first | rfl | first | omega | (simp only [RZ, cells_len, cP_len, List.length_replicate, List.length_nil, List.length_cons]; omega) | (simp only [RZ, cells_len, cP_len, List.length_replicate, List.length_nil, List.length_cons]))) | (refine appV_tslK rfl ?_ ?_ ?_ ?_ ?_ ?_; (first | rfl | exact St.tip_same _ _ _ | (simp only [↓R1, RR, seval])); (first | omega | (simp only [RZ, cells_len, cP_len, List.length_replicate, List.length_nil, List.length_cons]; omega) | (simp only [RZ, cells_len, cP_len, List.length_replicate, List.length_nil, List.length_cons])); (first | rfl | first | omega | (simp only [RZ, cells_len, cP_len, List.length_replicate, List.length_nil, List.length_cons]; omega) | (simp only [RZ, cells_len, cP_len, List.length_replicate, List.length_nil, List.length_cons]))) | (refine appV_own ?_ ?_ ?_ ?_; exact flat_len (by intro _; rfl) _) | (refine appD_own ?_ ?_ ?_ ?_ ?_; omega; exact flat_len (by intro _; rfl) _) | (refine appV_fresh rfl trivial rfl ?_ ?_ ?_ ?_ ?_; (first | rfl | first | omega | (simp only [RZ, cells_len, cP_len, List.length_replicate, List.length_nil, List.length_cons]; omega) | (simp only [RZ, cells_len, cP_len, List.length_replicate, List.length_nil, List.length_cons])); (first | rfl | first | omega | (simp only [RZ, cells_len, cP_len, List.length_replicate, List.length_nil, List.length_cons]; omega) | (simp only [RZ, cells_len, cP_len, List.length_replicate, List.length_nil, List.length_cons]))) | (refine appD_fresh rfl trivial rfl ?_ ?_ ?_ ?_ ?_ ?_; omega; (first | rfl | first | omega | (simp only [RZ, cells_len, cP_len, List.length_replicate, List.length_nil, List.length_cons]; omega) | (simp only [RZ, cells_len, cP_len, List.length_replicate, List.length_nil, List.length_cons])); (first | rfl | first | omega | (simp only [RZ, cells_len, cP_len, List.length_replicate, List.length_nil, List.length_cons]; omega) | (simp only [RZ, cells_len, cP_len, List.length_replicate, List.length_nil, List.length_cons])))); (unfold maxLen; omega); omega) | (refine appV_tip (n := 0) (m := l.length) (cs := []) (ds := l.flatMap cP) rfl trivial rfl (by simp) (cP_len l) (by unfold maxLen; omega) (by omega) ?_; with_reducible intro τ hβ; (try simp only [RB] at hβ); (repeat (obtain ⟨⟨_, _⟩, hβ⟩ := hβ)); (try (have hbis := apart_is (by assumption) hβ; obtain ⟨_, _⟩ := hbis)))) <;> (try simp only [↓R1, RR, seval])))
  (refine endP_pu (by simp) (by first | (simp [rvsS, rvS]; done) | (simp only [rvsS, rvS, ↓R1, RR, seval]; try simp)) ?_ (by (repeat (first | exact St.le_refl _ | (refine St.le_new ?_ (by assumption)) | (refine St.le_newT ?_ (by assumption))))))
  simp only [resAV, rvV, List.map_cons, List.map_nil, ↓R1, RR, seval]
  (repeat' (first | exact wk_refl _ | exact wk_nils | exact wk_tsl _ _ _ | exact wk_full _ _ | exact wkL.nil | exact wkL_refl _ | refine wk_tup ?_ | refine wk_agg ?_ | refine wkL.cons ?_ ?_))
end Go.Proofs.YtncadbcjikekhaaGreatDoor
