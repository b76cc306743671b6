/- Part 22 of the proof of MatchItems: an abstract semantics that is proved sound for the model, contracts of functions in it, and plain facts (M14 M15 M16 M17). No condition. -/
import Derived.Test.YtncadbcjikekhaaGreatDoorKMatchItems21
set_option linter.all false
namespace Go.Proofs.YtncadbcjikekhaaGreatDoor
open Go.Abs Go.Lib
set_option linter.all false
set_option maxRecDepth 100000
def accR (x : It) (k : Nat) : List UInt8 := sFound ++ [32] ++ itoa x.q ++ joinTail [32] ((evsT x).take k)
theorem evsT_len (x : It) (hat : x.at'.length = x.ids.length) : (evsT x).length = x.ids.length := by simp [evsT]; omega
theorem evsT_get (x : It) {k : Nat} (h : k < x.ids.length) (h2 : k < x.at'.length) : (evsT x)[k]? = some (evT x.ids[k] x.at'[k]) := by
  have hz : k < (x.ids.zip x.at').length := by rw [List.length_zip]; omega
  simp only [evsT, List.getElem?_map, List.getElem?_eq_getElem hz, List.getElem_zip, Option.map_some]
theorem accR_step (x : It) {k : Nat} (h : k < x.ids.length) (h2 : k < x.at'.length) : accR x k ++ [32] ++ textL (lblB (x.ids[k]).l) ++ [35] ++ itoa (x.ids[k]).n ++ [58] ++ itoa x.at'[k] = accR x (k + 1) := by
  unfold accR
  rw [joinTail_take_succ _ _ _ _ (evsT_get x h h2)]
  simp [evT, List.append_assoc]
theorem evs_mem (x : It) (hbad : ∀ q ∈ x.ids.zip x.at', idBad q = false) : ∀ t ∈ evsT x, t.length ≤ 500 := by
  intro t ht
  obtain ⟨q, hq, rfl⟩ := List.mem_map.1 ht
  have hb := hbad _ hq
  simp only [idBad, Bool.or_eq_false_iff, decide_eq_false_iff_not] at hb
  exact evT_len ⟨by omega, by omega⟩ ⟨by omega, by omega⟩
theorem accR_len (x : It) (ox : OkIt x) (hbad : ∀ q ∈ x.ids.zip x.at', idBad q = false) (hat : x.at'.length = x.ids.length) (hn : x.ids.length ≤ 12) (k : Nat) : (accR x k).length ≤ 10000 := by
  have h1 := tail_len ((evsT x).take k) 500 (fun t ht => evs_mem x hbad t (List.mem_of_mem_take ht))
  have h2 := itoa_len x.q ox.q
  have h3 : ((evsT x).take k).length ≤ 12 := by rw [List.length_take, evsT_len x hat]; omega
  have h4 : ((evsT x).take k).length * (500 + 1) ≤ 12 * 501 := Nat.mul_le_mul_right _ h3
  have h5 : sFound.length = 5 := rfl
  simp only [accR, List.length_append, List.length_cons, List.length_nil, h5]
  omega
def accV (x : It) (k : Nat) : List UInt8 := accR x x.ids.length ++ (bif decide (0 < x.va.length) then [32, 61] else []) ++ joinTail [32] ((x.va.map itoa).take k)
theorem accV_step (x : It) {k : Nat} (h : k < x.va.length) : accV x k ++ [32] ++ itoa x.va[k] = accV x (k + 1) := by
  unfold accV
  rw [joinTail_take_succ _ _ k (itoa x.va[k]) (by simp [h])]
  simp [List.append_assoc]
theorem accV_len (x : It) (ox : OkIt x) (hbad : ∀ q ∈ x.ids.zip x.at', idBad q = false) (hat : x.at'.length = x.ids.length) (hn : x.ids.length ≤ 12) (hv : x.va.length ≤ 4) (k : Nat) : (accV x k).length ≤ 20000 := by
  have h1 := tail_len ((x.va.map itoa).take k) 101 (fun t ht => by obtain ⟨v, hv, rfl⟩ := List.mem_map.1 (List.mem_of_mem_take ht); exact itoa_len v (ox.va v hv))
  have h2 := accR_len x ox hbad hat hn x.ids.length
  have h3 : ((x.va.map itoa).take k).length ≤ 4 := by simp; omega
  have h4 : ((x.va.map itoa).take k).length * (101 + 1) ≤ 4 * 102 := Nat.mul_le_mul_right _ h3
  have h5 : (bif decide (0 < x.va.length) then [(32 : UInt8), 61] else []).length ≤ 2 := by cases decide (0 < x.va.length) <;> simp
  simp only [accV, List.length_append]
  omega
theorem itemS_found (x : It) (hk : x.k = 1) (hat : x.at'.length = x.ids.length) : itemS x = accR x x.ids.length ++ joinTail [32] (tailW x) := by
  have hS : itemS x = Lib.join (sFound :: itoa x.q :: (evsT x ++ tailW x)) [32] := by unfold itemS itemH itemL; rw [hk]; rfl
  rw [hS, Lib.join_cons]
  unfold accR
  rw [List.take_of_length_le (by rw [evsT_len x hat]; exact Nat.le_refl _)]
  simp [joinTail, List.append_assoc]
theorem accV_end (x : It) (hk : x.k = 1) (hat : x.at'.length = x.ids.length) (he : (x.e != 0) = false) : itemS x = accV x x.va.length := by
  rw [itemS_found x hk hat]
  unfold accV tailW
  rw [he, List.take_of_length_le (by simp)]
  cases h : decide (0 < x.va.length) with
  | true => simp [joinTail, List.append_assoc]
  | false =>
    have : x.va = [] := List.eq_nil_of_length_eq_zero (by rw [decide_eq_false_iff_not] at h; omega)
    rw [this]; simp [joinTail]
set_option maxHeartbeats 4000000 in
theorem found_r (x : It) (ox : OkIt x) (hk : x.k = 1) (hr : foundS x = 0) : Pu Tryz.prog 12 [.agg (itL x)] (.tup [.str (itemS x), .int .i64 0]) := by
  have q0 : True := trivial
  have q1 : True := trivial
  have q2 : True := trivial
  have q3 : True := trivial
  have q4 : True := trivial
  have q5 : True := trivial
  have hw : True := trivial
  have hwn : True := trivial
  have hd : True := trivial
  have hd2 : True := trivial
  obtain ⟨hq, hn0, hn12, hat, hbad, he, hev, hv4, hc⟩ := found_ok hr
  have hR : rightS x = 0 := by unfold rightS; rw [hk, hr]; rfl
  have h1 := p14 x (by omega) (by omega) (by omega)
  rw [hR] at h1
  simp only [itL] at h1
  have q1 : (x.k == 2) = false := by rw [hk]; rfl
  have hidl := cId_len x.ids
  have hatl := cI_len x.at'
  have hval := cI_len x.va
  have hdq := p48 x.q ox.q
  have hlq := itoa_len x.q ox.q
  have hle := errS_len x.e
  (refine Pu_intro c12 b12 (Nat.le_of_ble_eq_true rfl) fun σ => ?_; simp only [c12, ↓R1, R2, R3, R4, R5, Nat.reduceEqDiff, Nat.reduceAdd, Nat.reduceMul, Nat.reduceSub, Nat.reduceLeDiff, Nat.reduceLT, reduceIte, reduceCtorEq, Int.reduceBNe, Int.reduceBEq, q0, q1, q2, q3, q4, q5, hw, hwn, hd, hd2])
  simp only [itL, ↓R1, R2, R3, R4, R5, Nat.reduceEqDiff, Nat.reduceAdd, Nat.reduceMul, Nat.reduceSub, Nat.reduceLeDiff, Nat.reduceLT, reduceIte, reduceCtorEq, Int.reduceBNe, Int.reduceBEq, q0, q1, q2, q3, q4, q5, hw, hwn, hd, hd2]
  repeat' (first | (with_reducible rw [allocV_eq]) | (refine gdV_split (fun hc => ?_) (fun hc => ?_) <;> (try simp only [hc, ↓R1, R2, R3, R4, R5, Nat.reduceEqDiff, Nat.reduceAdd, Nat.reduceMul, Nat.reduceSub, Nat.reduceLeDiff, Nat.reduceLT, reduceIte, reduceCtorEq, Int.reduceBNe, Int.reduceBEq, q0, q1, q2, q3, q4, q5, hw, hwn, hd, hd2])) | ((first | refine condV_split (fun hc => ?_) (fun hc => ?_) | (with_reducible intro β hβ; (try simp only [St.box_noneA, St.tip_noneA, St.tip_set, St.box_tip, St.box_lp, St.tip_lp] at hβ); (repeat (obtain ⟨⟨_, _⟩, hβ⟩ := hβ)); (try (have hbis := apart_is (by assumption) hβ; obtain ⟨_, _⟩ := hbis)))) <;> (try simp only [↓R1, R2, R3, R4, R5, Nat.reduceEqDiff, Nat.reduceAdd, Nat.reduceMul, Nat.reduceSub, Nat.reduceLeDiff, Nat.reduceLT, reduceIte, reduceCtorEq, Int.reduceBNe, Int.reduceBEq, q0, q1, q2, q3, q4, q5, hw, hwn, hd, hd2])) | (with_reducible refine And.intro ?_ ?_; (focus (first | omega | (intros; (repeat' (with_reducible apply And.intro)) <;> first | omega | (simp only [cP_len, cId_len, cI_len, cW_len, List.length_map, List.length_append, List.length_cons, List.length_nil, List.length_take, List.length_zip]; omega))))) | (with_reducible apply And.intro) | ((first | refine Pu.to (h1) (wkL_refl _) ?_ | refine callDV_pu (h1) (wkL_refl _) ?_ | refine Pu.to (hdq) (wkL_refl _) ?_ | refine callDV_pu (hdq) (wkL_refl _) ?_); (try simp only [↓R1, R2, R3, R4, R5, Nat.reduceEqDiff, Nat.reduceAdd, Nat.reduceMul, Nat.reduceSub, Nat.reduceLeDiff, Nat.reduceLT, reduceIte, reduceCtorEq, Int.reduceBNe, Int.reduceBEq, q0, q1, q2, q3, q4, q5, hw, hwn, hd, hd2])))
  refine loopV_for x.ids.length (fun k => [(1, .ptr β 0), (5, .str (accR x k)), (6, .int .i64 (k : Nat))])
    (fun k => σ.setBox β [.int .i64 x.k, .int .i64 x.q, .sl false x.ids.length (x.ids.flatMap cId), .sl false x.at'.length (x.at'.flatMap cI), .sl false x.va.length (x.va.flatMap cI), .int .i64 x.e, .int .i64 x.c]) (fun _ => True) (by simp [subF, slot, wk_refl, accR, sFound, joinTail]) (St.le_refl _) trivial (fun k hk _ => ?_)
  have hal := accR_len x ox hbad hat hn12 k
  by_cases hlt : k < x.ids.length
  · have q2 : decide ((k : Int) < (x.ids.length : Int)) = true := by rw [decide_eq_true_eq]; omega
    have hla : k < x.at'.length := by omega
    have hd := cId_get x.ids hlt
    have hd2 := cI_get x.at' hla
    have hw : IntKind.i64.wrap ((k : Int) + 1) = ((k + 1 : Nat) : Int) := by rw [wrap64 (by omega) (by omega)]; omega
    have hz : (x.ids[k], x.at'[k]) ∈ x.ids.zip x.at' := by
      have hzl : k < (x.ids.zip x.at').length := by rw [List.length_zip]; omega
      have := List.getElem_mem hzl
      rwa [List.getElem_zip] at this
    have hb := hbad _ hz
    simp only [idBad, Bool.or_eq_false_iff, decide_eq_false_iff_not] at hb
    have hwn : IntKind.i64.wrap (x.ids[k]).n = (x.ids[k]).n := wrap64 (by omega) (by omega)
    have hlb : Pu Tryz.prog 50 [.int .u64 (x.ids[k]).l] (.str (textL (lblB (x.ids[k]).l))) := by
      have h := p50 (lblB (x.ids[k]).l)
      rwa [lblB_nat (ox.ids _ (List.getElem_mem hlt)).1] at h
    have i1 : I64 (x.ids[k]).n := ⟨by omega, by omega⟩
    have i2 : I64 x.at'[k] := ⟨by omega, by omega⟩
    have l1 := textL_len (lblB (x.ids[k]).l)
    have l2 := itoa_len _ i1
    have l3 := itoa_len _ i2
    have hs := accR_step x hlt hla
    simp only [cId] at hd
    simp only [cI] at hd2
    simp only [q2, ↓R1, R2, R3, R4, R5, Nat.reduceEqDiff, Nat.reduceAdd, Nat.reduceMul, Nat.reduceSub, Nat.reduceLeDiff, Nat.reduceLT, reduceIte, reduceCtorEq, Int.reduceBNe, Int.reduceBEq, q0, q1, q2, q3, q4, q5, hw, hwn, hd, hd2]
    repeat' (first | (with_reducible rw [allocV_eq]) | (refine gdV_split (fun hc => ?_) (fun hc => ?_) <;> (try simp only [hc, ↓R1, R2, R3, R4, R5, Nat.reduceEqDiff, Nat.reduceAdd, Nat.reduceMul, Nat.reduceSub, Nat.reduceLeDiff, Nat.reduceLT, reduceIte, reduceCtorEq, Int.reduceBNe, Int.reduceBEq, q0, q1, q2, q3, q4, q5, hw, hwn, hd, hd2])) | ((first | refine condV_split (fun hc => ?_) (fun hc => ?_) | (with_reducible intro β hβ; (try simp only [St.box_noneA, St.tip_noneA, St.tip_set, St.box_tip, St.box_lp, St.tip_lp] at hβ); (repeat (obtain ⟨⟨_, _⟩, hβ⟩ := hβ)); (try (have hbis := apart_is (by assumption) hβ; obtain ⟨_, _⟩ := hbis)))) <;> (try simp only [↓R1, R2, R3, R4, R5, Nat.reduceEqDiff, Nat.reduceAdd, Nat.reduceMul, Nat.reduceSub, Nat.reduceLeDiff, Nat.reduceLT, reduceIte, reduceCtorEq, Int.reduceBNe, Int.reduceBEq, q0, q1, q2, q3, q4, q5, hw, hwn, hd, hd2])) | (with_reducible refine And.intro ?_ ?_; (focus (first | omega | (intros; (repeat' (with_reducible apply And.intro)) <;> first | omega | (simp only [cP_len, cId_len, cI_len, cW_len, List.length_map, List.length_append, List.length_cons, List.length_nil, List.length_take, List.length_zip]; omega))))) | (with_reducible apply And.intro) | ((first | refine callDV_pu (hlb) (wkL_refl _) ?_ | refine callDV_pu (p48 _ i1) (wkL_refl _) ?_ | refine callDV_pu (p48 _ i2) (wkL_refl _) ?_); (try simp only [↓R1, R2, R3, R4, R5, Nat.reduceEqDiff, Nat.reduceAdd, Nat.reduceMul, Nat.reduceSub, Nat.reduceLeDiff, Nat.reduceLT, reduceIte, reduceCtorEq, Int.reduceBNe, Int.reduceBEq, q0, q1, q2, q3, q4, q5, hw, hwn, hd, hd2])))
    · rw [hs]; simp [subF, slot, wk_refl]
    · exact St.le_refl _
  · have hke : k = x.ids.length := by omega
    subst hke
    have q2 : decide ((x.ids.length : Int) < (x.ids.length : Int)) = false := by simp
    by_cases hez : x.e = 0
    · have q3 : (x.e != 0) = false := by rw [hez]; rfl
      rw [accV_end x (by assumption) hat q3]
      cases q4 : decide ((0 : Int) < (x.va.length : Int)) with
      | true =>
        have hc0 : decide (0 < x.va.length) = true := by first | (rw [decide_eq_true_eq] at q4 ⊢; omega) | (rw [decide_eq_false_iff_not] at q4 ⊢; omega)
        simp only [q2, ↓R1, R2, R3, R4, R5, Nat.reduceEqDiff, Nat.reduceAdd, Nat.reduceMul, Nat.reduceSub, Nat.reduceLeDiff, Nat.reduceLT, reduceIte, reduceCtorEq, Int.reduceBNe, Int.reduceBEq, q0, q1, q2, q3, q4, q5, hw, hwn, hd, hd2]
        repeat' (first | (with_reducible rw [allocV_eq]) | (refine gdV_split (fun hc => ?_) (fun hc => ?_) <;> (try simp only [hc, ↓R1, R2, R3, R4, R5, Nat.reduceEqDiff, Nat.reduceAdd, Nat.reduceMul, Nat.reduceSub, Nat.reduceLeDiff, Nat.reduceLT, reduceIte, reduceCtorEq, Int.reduceBNe, Int.reduceBEq, q0, q1, q2, q3, q4, q5, hw, hwn, hd, hd2])) | ((first | refine condV_split (fun hc => ?_) (fun hc => ?_) | (with_reducible intro β hβ; (try simp only [St.box_noneA, St.tip_noneA, St.tip_set, St.box_tip, St.box_lp, St.tip_lp] at hβ); (repeat (obtain ⟨⟨_, _⟩, hβ⟩ := hβ)); (try (have hbis := apart_is (by assumption) hβ; obtain ⟨_, _⟩ := hbis)))) <;> (try simp only [↓R1, R2, R3, R4, R5, Nat.reduceEqDiff, Nat.reduceAdd, Nat.reduceMul, Nat.reduceSub, Nat.reduceLeDiff, Nat.reduceLT, reduceIte, reduceCtorEq, Int.reduceBNe, Int.reduceBEq, q0, q1, q2, q3, q4, q5, hw, hwn, hd, hd2])) | (with_reducible refine And.intro ?_ ?_; (focus (first | omega | (intros; (repeat' (with_reducible apply And.intro)) <;> first | omega | (simp only [cP_len, cId_len, cI_len, cW_len, List.length_map, List.length_append, List.length_cons, List.length_nil, List.length_take, List.length_zip]; omega))))) | (with_reducible apply And.intro))
        refine loopV_for x.va.length (fun k => [(1, .ptr β 0), (5, .str (accV x k)), (7, .int .i64 (k : Nat))])
          (fun k => σ.setBox β [.int .i64 x.k, .int .i64 x.q, .sl false x.ids.length (x.ids.flatMap cId), .sl false x.at'.length (x.at'.flatMap cI), .sl false x.va.length (x.va.flatMap cI), .int .i64 x.e, .int .i64 x.c]) (fun _ => True) (by simp [subF, slot, wk_refl, accV, hc0, joinTail]) (St.le_refl _) trivial (fun k hk _ => ?_)
        have hvl := accV_len x ox hbad hat hn12 hv4 k
        by_cases hlt : k < x.va.length
        · have q5 : decide ((k : Int) < (x.va.length : Int)) = true := by rw [decide_eq_true_eq]; omega
          have hd := cI_get x.va hlt
          have hw : IntKind.i64.wrap ((k : Int) + 1) = ((k + 1 : Nat) : Int) := by rw [wrap64 (by omega) (by omega)]; omega
          have hs := accV_step x hlt
          have iv := ox.va _ (List.getElem_mem hlt)
          have lv := itoa_len _ iv
          simp only [cI] at hd
          simp only [q5, ↓R1, R2, R3, R4, R5, Nat.reduceEqDiff, Nat.reduceAdd, Nat.reduceMul, Nat.reduceSub, Nat.reduceLeDiff, Nat.reduceLT, reduceIte, reduceCtorEq, Int.reduceBNe, Int.reduceBEq, q0, q1, q2, q3, q4, q5, hw, hwn, hd, hd2]
          repeat' (first | (with_reducible rw [allocV_eq]) | (refine gdV_split (fun hc => ?_) (fun hc => ?_) <;> (try simp only [hc, ↓R1, R2, R3, R4, R5, Nat.reduceEqDiff, Nat.reduceAdd, Nat.reduceMul, Nat.reduceSub, Nat.reduceLeDiff, Nat.reduceLT, reduceIte, reduceCtorEq, Int.reduceBNe, Int.reduceBEq, q0, q1, q2, q3, q4, q5, hw, hwn, hd, hd2])) | ((first | refine condV_split (fun hc => ?_) (fun hc => ?_) | (with_reducible intro β hβ; (try simp only [St.box_noneA, St.tip_noneA, St.tip_set, St.box_tip, St.box_lp, St.tip_lp] at hβ); (repeat (obtain ⟨⟨_, _⟩, hβ⟩ := hβ)); (try (have hbis := apart_is (by assumption) hβ; obtain ⟨_, _⟩ := hbis)))) <;> (try simp only [↓R1, R2, R3, R4, R5, Nat.reduceEqDiff, Nat.reduceAdd, Nat.reduceMul, Nat.reduceSub, Nat.reduceLeDiff, Nat.reduceLT, reduceIte, reduceCtorEq, Int.reduceBNe, Int.reduceBEq, q0, q1, q2, q3, q4, q5, hw, hwn, hd, hd2])) | (with_reducible refine And.intro ?_ ?_; (focus (first | omega | (intros; (repeat' (with_reducible apply And.intro)) <;> first | omega | (simp only [cP_len, cId_len, cI_len, cW_len, List.length_map, List.length_append, List.length_cons, List.length_nil, List.length_take, List.length_zip]; omega))))) | (with_reducible apply And.intro) | ((first | refine Pu.to (p51 _ iv) (wkL_refl _) ?_ | refine callDV_pu (p51 _ iv) (wkL_refl _) ?_); (try simp only [↓R1, R2, R3, R4, R5, Nat.reduceEqDiff, Nat.reduceAdd, Nat.reduceMul, Nat.reduceSub, Nat.reduceLeDiff, Nat.reduceLT, reduceIte, reduceCtorEq, Int.reduceBNe, Int.reduceBEq, q0, q1, q2, q3, q4, q5, hw, hwn, hd, hd2])))
          · rw [hs]; simp [subF, slot, wk_refl]
          · exact St.le_refl _
        · have hke : k = x.va.length := by omega
          subst hke
          have q5 : decide ((x.va.length : Int) < (x.va.length : Int)) = false := by simp
          simp only [q5, ↓R1, R2, R3, R4, R5, Nat.reduceEqDiff, Nat.reduceAdd, Nat.reduceMul, Nat.reduceSub, Nat.reduceLeDiff, Nat.reduceLT, reduceIte, reduceCtorEq, Int.reduceBNe, Int.reduceBEq, q0, q1, q2, q3, q4, q5, hw, hwn, hd, hd2]
          repeat' (first | (with_reducible rw [allocV_eq]) | (refine gdV_split (fun hc => ?_) (fun hc => ?_) <;> (try simp only [hc, ↓R1, R2, R3, R4, R5, Nat.reduceEqDiff, Nat.reduceAdd, Nat.reduceMul, Nat.reduceSub, Nat.reduceLeDiff, Nat.reduceLT, reduceIte, reduceCtorEq, Int.reduceBNe, Int.reduceBEq, q0, q1, q2, q3, q4, q5, hw, hwn, hd, hd2])) | ((first | refine condV_split (fun hc => ?_) (fun hc => ?_) | (with_reducible intro β hβ; (try simp only [St.box_noneA, St.tip_noneA, St.tip_set, St.box_tip, St.box_lp, St.tip_lp] at hβ); (repeat (obtain ⟨⟨_, _⟩, hβ⟩ := hβ)); (try (have hbis := apart_is (by assumption) hβ; obtain ⟨_, _⟩ := hbis)))) <;> (try simp only [↓R1, R2, R3, R4, R5, Nat.reduceEqDiff, Nat.reduceAdd, Nat.reduceMul, Nat.reduceSub, Nat.reduceLeDiff, Nat.reduceLT, reduceIte, reduceCtorEq, Int.reduceBNe, Int.reduceBEq, q0, q1, q2, q3, q4, q5, hw, hwn, hd, hd2])) | (with_reducible refine And.intro ?_ ?_; (focus (first | omega | (intros; (repeat' (with_reducible apply And.intro)) <;> first | omega | (simp only [cP_len, cId_len, cI_len, cW_len, List.length_map, List.length_append, List.length_cons, List.length_nil, List.length_take, List.length_zip]; omega))))) | (with_reducible apply And.intro))
          (refine endP_pu (by simp) (by first | (simp [rvsS, rvS]; done) | (simp only [rvsS, rvS, ↓R1, R2, R3, R4, R5, Nat.reduceEqDiff, Nat.reduceAdd, Nat.reduceMul, Nat.reduceSub, Nat.reduceLeDiff, Nat.reduceLT, reduceIte, reduceCtorEq, Int.reduceBNe, Int.reduceBEq, q0, q1, q2, q3, q4, q5, hw, hwn, hd, hd2]; try simp)) (wk_of_eq ?_) (by (repeat (first | exact St.le_refl _ | (refine St.le_new ?_ (by assumption)) | (refine St.le_newT ?_ (by assumption))))))
          (simp only [resAV, rvV, List.map_cons, List.map_nil, ↓R1, R2, R3, R4, R5, Nat.reduceEqDiff, Nat.reduceAdd, Nat.reduceMul, Nat.reduceSub, Nat.reduceLeDiff, Nat.reduceLT, reduceIte, reduceCtorEq, Int.reduceBNe, Int.reduceBEq, q0, q1, q2, q3, q4, q5, hw, hwn, hd, hd2])
      | false =>
        have hc0 : decide (0 < x.va.length) = false := by first | (rw [decide_eq_true_eq] at q4 ⊢; omega) | (rw [decide_eq_false_iff_not] at q4 ⊢; omega)
        simp only [q2, ↓R1, R2, R3, R4, R5, Nat.reduceEqDiff, Nat.reduceAdd, Nat.reduceMul, Nat.reduceSub, Nat.reduceLeDiff, Nat.reduceLT, reduceIte, reduceCtorEq, Int.reduceBNe, Int.reduceBEq, q0, q1, q2, q3, q4, q5, hw, hwn, hd, hd2]
        repeat' (first | (with_reducible rw [allocV_eq]) | (refine gdV_split (fun hc => ?_) (fun hc => ?_) <;> (try simp only [hc, ↓R1, R2, R3, R4, R5, Nat.reduceEqDiff, Nat.reduceAdd, Nat.reduceMul, Nat.reduceSub, Nat.reduceLeDiff, Nat.reduceLT, reduceIte, reduceCtorEq, Int.reduceBNe, Int.reduceBEq, q0, q1, q2, q3, q4, q5, hw, hwn, hd, hd2])) | ((first | refine condV_split (fun hc => ?_) (fun hc => ?_) | (with_reducible intro β hβ; (try simp only [St.box_noneA, St.tip_noneA, St.tip_set, St.box_tip, St.box_lp, St.tip_lp] at hβ); (repeat (obtain ⟨⟨_, _⟩, hβ⟩ := hβ)); (try (have hbis := apart_is (by assumption) hβ; obtain ⟨_, _⟩ := hbis)))) <;> (try simp only [↓R1, R2, R3, R4, R5, Nat.reduceEqDiff, Nat.reduceAdd, Nat.reduceMul, Nat.reduceSub, Nat.reduceLeDiff, Nat.reduceLT, reduceIte, reduceCtorEq, Int.reduceBNe, Int.reduceBEq, q0, q1, q2, q3, q4, q5, hw, hwn, hd, hd2])) | (with_reducible refine And.intro ?_ ?_; (focus (first | omega | (intros; (repeat' (with_reducible apply And.intro)) <;> first | omega | (simp only [cP_len, cId_len, cI_len, cW_len, List.length_map, List.length_append, List.length_cons, List.length_nil, List.length_take, List.length_zip]; omega))))) | (with_reducible apply And.intro))
        refine loopV_for x.va.length (fun k => [(1, .ptr β 0), (5, .str (accV x k)), (7, .int .i64 (k : Nat))])
          (fun k => σ.setBox β [.int .i64 x.k, .int .i64 x.q, .sl false x.ids.length (x.ids.flatMap cId), .sl false x.at'.length (x.at'.flatMap cI), .sl false x.va.length (x.va.flatMap cI), .int .i64 x.e, .int .i64 x.c]) (fun _ => True) (by simp [subF, slot, wk_refl, accV, hc0, joinTail]) (St.le_refl _) trivial (fun k hk _ => ?_)
        have hvl := accV_len x ox hbad hat hn12 hv4 k
        by_cases hlt : k < x.va.length
        · have q5 : decide ((k : Int) < (x.va.length : Int)) = true := by rw [decide_eq_true_eq]; omega
          have hd := cI_get x.va hlt
          have hw : IntKind.i64.wrap ((k : Int) + 1) = ((k + 1 : Nat) : Int) := by rw [wrap64 (by omega) (by omega)]; omega
          have hs := accV_step x hlt
          have iv := ox.va _ (List.getElem_mem hlt)
          have lv := itoa_len _ iv
          simp only [cI] at hd
          simp only [q5, ↓R1, R2, R3, R4, R5, Nat.reduceEqDiff, Nat.reduceAdd, Nat.reduceMul, Nat.reduceSub, Nat.reduceLeDiff, Nat.reduceLT, reduceIte, reduceCtorEq, Int.reduceBNe, Int.reduceBEq, q0, q1, q2, q3, q4, q5, hw, hwn, hd, hd2]
          repeat' (first | (with_reducible rw [allocV_eq]) | (refine gdV_split (fun hc => ?_) (fun hc => ?_) <;> (try simp only [hc, ↓R1, R2, R3, R4, R5, Nat.reduceEqDiff, Nat.reduceAdd, Nat.reduceMul, Nat.reduceSub, Nat.reduceLeDiff, Nat.reduceLT, reduceIte, reduceCtorEq, Int.reduceBNe, Int.reduceBEq, q0, q1, q2, q3, q4, q5, hw, hwn, hd, hd2])) | ((first | refine condV_split (fun hc => ?_) (fun hc => ?_) | (with_reducible intro β hβ; (try simp only [St.box_noneA, St.tip_noneA, St.tip_set, St.box_tip, St.box_lp, St.tip_lp] at hβ); (repeat (obtain ⟨⟨_, _⟩, hβ⟩ := hβ)); (try (have hbis := apart_is (by assumption) hβ; obtain ⟨_, _⟩ := hbis)))) <;> (try simp only [↓R1, R2, R3, R4, R5, Nat.reduceEqDiff, Nat.reduceAdd, Nat.reduceMul, Nat.reduceSub, Nat.reduceLeDiff, Nat.reduceLT, reduceIte, reduceCtorEq, Int.reduceBNe, Int.reduceBEq, q0, q1, q2, q3, q4, q5, hw, hwn, hd, hd2])) | (with_reducible refine And.intro ?_ ?_; (focus (first | omega | (intros; (repeat' (with_reducible apply And.intro)) <;> first | omega | (simp only [cP_len, cId_len, cI_len, cW_len, List.length_map, List.length_append, List.length_cons, List.length_nil, List.length_take, List.length_zip]; omega))))) | (with_reducible apply And.intro) | ((first | refine Pu.to (p51 _ iv) (wkL_refl _) ?_ | refine callDV_pu (p51 _ iv) (wkL_refl _) ?_); (try simp only [↓R1, R2, R3, R4, R5, Nat.reduceEqDiff, Nat.reduceAdd, Nat.reduceMul, Nat.reduceSub, Nat.reduceLeDiff, Nat.reduceLT, reduceIte, reduceCtorEq, Int.reduceBNe, Int.reduceBEq, q0, q1, q2, q3, q4, q5, hw, hwn, hd, hd2])))
          · rw [hs]; simp [subF, slot, wk_refl]
          · exact St.le_refl _
        · have hke : k = x.va.length := by omega
          subst hke
          have q5 : decide ((x.va.length : Int) < (x.va.length : Int)) = false := by simp
          simp only [q5, ↓R1, R2, R3, R4, R5, Nat.reduceEqDiff, Nat.reduceAdd, Nat.reduceMul, Nat.reduceSub, Nat.reduceLeDiff, Nat.reduceLT, reduceIte, reduceCtorEq, Int.reduceBNe, Int.reduceBEq, q0, q1, q2, q3, q4, q5, hw, hwn, hd, hd2]
          repeat' (first | (with_reducible rw [allocV_eq]) | (refine gdV_split (fun hc => ?_) (fun hc => ?_) <;> (try simp only [hc, ↓R1, R2, R3, R4, R5, Nat.reduceEqDiff, Nat.reduceAdd, Nat.reduceMul, Nat.reduceSub, Nat.reduceLeDiff, Nat.reduceLT, reduceIte, reduceCtorEq, Int.reduceBNe, Int.reduceBEq, q0, q1, q2, q3, q4, q5, hw, hwn, hd, hd2])) | ((first | refine condV_split (fun hc => ?_) (fun hc => ?_) | (with_reducible intro β hβ; (try simp only [St.box_noneA, St.tip_noneA, St.tip_set, St.box_tip, St.box_lp, St.tip_lp] at hβ); (repeat (obtain ⟨⟨_, _⟩, hβ⟩ := hβ)); (try (have hbis := apart_is (by assumption) hβ; obtain ⟨_, _⟩ := hbis)))) <;> (try simp only [↓R1, R2, R3, R4, R5, Nat.reduceEqDiff, Nat.reduceAdd, Nat.reduceMul, Nat.reduceSub, Nat.reduceLeDiff, Nat.reduceLT, reduceIte, reduceCtorEq, Int.reduceBNe, Int.reduceBEq, q0, q1, q2, q3, q4, q5, hw, hwn, hd, hd2])) | (with_reducible refine And.intro ?_ ?_; (focus (first | omega | (intros; (repeat' (with_reducible apply And.intro)) <;> first | omega | (simp only [cP_len, cId_len, cI_len, cW_len, List.length_map, List.length_append, List.length_cons, List.length_nil, List.length_take, List.length_zip]; omega))))) | (with_reducible apply And.intro))
          (refine endP_pu (by simp) (by first | (simp [rvsS, rvS]; done) | (simp only [rvsS, rvS, ↓R1, R2, R3, R4, R5, Nat.reduceEqDiff, Nat.reduceAdd, Nat.reduceMul, Nat.reduceSub, Nat.reduceLeDiff, Nat.reduceLT, reduceIte, reduceCtorEq, Int.reduceBNe, Int.reduceBEq, q0, q1, q2, q3, q4, q5, hw, hwn, hd, hd2]; try simp)) (wk_of_eq ?_) (by (repeat (first | exact St.le_refl _ | (refine St.le_new ?_ (by assumption)) | (refine St.le_newT ?_ (by assumption))))))
          (simp only [resAV, rvV, List.map_cons, List.map_nil, ↓R1, R2, R3, R4, R5, Nat.reduceEqDiff, Nat.reduceAdd, Nat.reduceMul, Nat.reduceSub, Nat.reduceLeDiff, Nat.reduceLT, reduceIte, reduceCtorEq, Int.reduceBNe, Int.reduceBEq, q0, q1, q2, q3, q4, q5, hw, hwn, hd, hd2])
    · have q3 : (x.e != 0) = true := by rw [bne_iff_ne]; exact hez
      have ht : tailW x = [[33], errS x.e] := by unfold tailW; rw [q3]; rfl
      rw [itemS_found x (by assumption) hat, ht]
      simp only [q2, ↓R1, R2, R3, R4, R5, Nat.reduceEqDiff, Nat.reduceAdd, Nat.reduceMul, Nat.reduceSub, Nat.reduceLeDiff, Nat.reduceLT, reduceIte, reduceCtorEq, Int.reduceBNe, Int.reduceBEq, q0, q1, q2, q3, q4, q5, hw, hwn, hd, hd2]
      repeat' (first | (with_reducible rw [allocV_eq]) | (refine gdV_split (fun hc => ?_) (fun hc => ?_) <;> (try simp only [hc, ↓R1, R2, R3, R4, R5, Nat.reduceEqDiff, Nat.reduceAdd, Nat.reduceMul, Nat.reduceSub, Nat.reduceLeDiff, Nat.reduceLT, reduceIte, reduceCtorEq, Int.reduceBNe, Int.reduceBEq, q0, q1, q2, q3, q4, q5, hw, hwn, hd, hd2])) | ((first | refine condV_split (fun hc => ?_) (fun hc => ?_) | (with_reducible intro β hβ; (try simp only [St.box_noneA, St.tip_noneA, St.tip_set, St.box_tip, St.box_lp, St.tip_lp] at hβ); (repeat (obtain ⟨⟨_, _⟩, hβ⟩ := hβ)); (try (have hbis := apart_is (by assumption) hβ; obtain ⟨_, _⟩ := hbis)))) <;> (try simp only [↓R1, R2, R3, R4, R5, Nat.reduceEqDiff, Nat.reduceAdd, Nat.reduceMul, Nat.reduceSub, Nat.reduceLeDiff, Nat.reduceLT, reduceIte, reduceCtorEq, Int.reduceBNe, Int.reduceBEq, q0, q1, q2, q3, q4, q5, hw, hwn, hd, hd2])) | (with_reducible refine And.intro ?_ ?_; (focus (first | omega | (intros; (repeat' (with_reducible apply And.intro)) <;> first | omega | (simp only [cP_len, cId_len, cI_len, cW_len, List.length_map, List.length_append, List.length_cons, List.length_nil, List.length_take, List.length_zip]; omega))))) | (with_reducible apply And.intro) | ((first | refine Pu.to (p49 x.e ox.e) (wkL_refl _) ?_ | refine callDV_pu (p49 x.e ox.e) (wkL_refl _) ?_); (try simp only [↓R1, R2, R3, R4, R5, Nat.reduceEqDiff, Nat.reduceAdd, Nat.reduceMul, Nat.reduceSub, Nat.reduceLeDiff, Nat.reduceLT, reduceIte, reduceCtorEq, Int.reduceBNe, Int.reduceBEq, q0, q1, q2, q3, q4, q5, hw, hwn, hd, hd2])))
      (refine endP_pu (by simp) (by first | (simp [rvsS, rvS]; done) | (simp only [rvsS, rvS, ↓R1, R2, R3, R4, R5, Nat.reduceEqDiff, Nat.reduceAdd, Nat.reduceMul, Nat.reduceSub, Nat.reduceLeDiff, Nat.reduceLT, reduceIte, reduceCtorEq, Int.reduceBNe, Int.reduceBEq, q0, q1, q2, q3, q4, q5, hw, hwn, hd, hd2]; try simp)) (wk_of_eq ?_) (by (repeat (first | exact St.le_refl _ | (refine St.le_new ?_ (by assumption)) | (refine St.le_newT ?_ (by assumption))))))
      (simp only [resAV, rvV, List.map_cons, List.map_nil, ↓R1, R2, R3, R4, R5, Nat.reduceEqDiff, Nat.reduceAdd, Nat.reduceMul, Nat.reduceSub, Nat.reduceLeDiff, Nat.reduceLT, reduceIte, reduceCtorEq, Int.reduceBNe, Int.reduceBEq, q0, q1, q2, q3, q4, q5, hw, hwn, hd, hd2])
      simp [joinTail, List.append_assoc]
theorem p11 (x : It) (ox : OkIt x) : PuG Tryz.prog gl3 11 [.agg (itL x)] (.tup (itemV x)) := by
  have q0 : True := trivial
  have q1 : True := trivial
  have q2 : True := trivial
  have q3 : True := trivial
  have q4 : True := trivial
  have q5 : True := trivial
  have hw : True := trivial
  have hwn : True := trivial
  have hd : True := trivial
  have hd2 : True := trivial
  unfold itemV
  by_cases hr : rightS x = 0
  · rw [hr]
    rcases right_k hr with ⟨h1, h2⟩ | ⟨h1, h2⟩
    · exact found_m x ox h1 h2
    · exact notice_m x ox h1 h2
  · have q0 : (rightS x != 0) = true := by rw [bne_iff_ne]; exact hr
    have hb : (rightS x == 0) = false := by rw [beq_eq_false_iff_ne]; exact hr
    have h1 := p13 x (by have := ox.li; omega) (by have := ox.la; omega) (by have := ox.lv; omega)
    simp only [itL] at h1
    rw [hb]
    (refine PuG_intro c11 b11 (Nat.le_of_ble_eq_true rfl) fun σ hσ => ?_; simp only [c11, ↓R1, R2, R3, R4, R5, Nat.reduceEqDiff, Nat.reduceAdd, Nat.reduceMul, Nat.reduceSub, Nat.reduceLeDiff, Nat.reduceLT, reduceIte, reduceCtorEq, Int.reduceBNe, Int.reduceBEq, q0, q1, q2, q3, q4, q5, hw, hwn, hd, hd2])
    simp only [itL, ↓R1, R2, R3, R4, R5, Nat.reduceEqDiff, Nat.reduceAdd, Nat.reduceMul, Nat.reduceSub, Nat.reduceLeDiff, Nat.reduceLT, reduceIte, reduceCtorEq, Int.reduceBNe, Int.reduceBEq, q0, q1, q2, q3, q4, q5, hw, hwn, hd, hd2]
    repeat' (first | (with_reducible rw [allocV_eq]) | (refine gdV_split (fun hc => ?_) (fun hc => ?_) <;> (try simp only [hc, ↓R1, R2, R3, R4, R5, Nat.reduceEqDiff, Nat.reduceAdd, Nat.reduceMul, Nat.reduceSub, Nat.reduceLeDiff, Nat.reduceLT, reduceIte, reduceCtorEq, Int.reduceBNe, Int.reduceBEq, q0, q1, q2, q3, q4, q5, hw, hwn, hd, hd2])) | ((first | refine condV_split (fun hc => ?_) (fun hc => ?_) | (with_reducible intro β hβ; (try simp only [St.box_noneA, St.tip_noneA, St.tip_set, St.box_tip, St.box_lp, St.tip_lp] at hβ); (repeat (obtain ⟨⟨_, _⟩, hβ⟩ := hβ)); (try (have hbis := apart_is (by assumption) hβ; obtain ⟨_, _⟩ := hbis)))) <;> (try simp only [↓R1, R2, R3, R4, R5, Nat.reduceEqDiff, Nat.reduceAdd, Nat.reduceMul, Nat.reduceSub, Nat.reduceLeDiff, Nat.reduceLT, reduceIte, reduceCtorEq, Int.reduceBNe, Int.reduceBEq, q0, q1, q2, q3, q4, q5, hw, hwn, hd, hd2])) | (with_reducible refine And.intro ?_ ?_; (focus (first | omega | (intros; (repeat' (with_reducible apply And.intro)) <;> first | omega | (simp only [cP_len, cId_len, cI_len, cW_len, List.length_map, List.length_append, List.length_cons, List.length_nil, List.length_take, List.length_zip]; omega))))) | (with_reducible apply And.intro) | ((first | refine Pu.to (h1) (wkL_refl _) ?_ | refine callDV_pu (h1) (wkL_refl _) ?_); (try simp only [↓R1, R2, R3, R4, R5, Nat.reduceEqDiff, Nat.reduceAdd, Nat.reduceMul, Nat.reduceSub, Nat.reduceLeDiff, Nat.reduceLT, reduceIte, reduceCtorEq, Int.reduceBNe, Int.reduceBEq, q0, q1, q2, q3, q4, q5, hw, hwn, hd, hd2])))
    (refine endP_pu (by simp) (by first | (simp [rvsS, rvS]; done) | (simp only [rvsS, rvS, ↓R1, R2, R3, R4, R5, Nat.reduceEqDiff, Nat.reduceAdd, Nat.reduceMul, Nat.reduceSub, Nat.reduceLeDiff, Nat.reduceLT, reduceIte, reduceCtorEq, Int.reduceBNe, Int.reduceBEq, q0, q1, q2, q3, q4, q5, hw, hwn, hd, hd2]; try simp)) (wk_of_eq ?_) (by (repeat (first | exact St.le_refl _ | (refine St.le_new ?_ (by assumption)) | (refine St.le_newT ?_ (by assumption))))))
    (simp only [resAV, rvV, List.map_cons, List.map_nil, ↓R1, R2, R3, R4, R5, Nat.reduceEqDiff, Nat.reduceAdd, Nat.reduceMul, Nat.reduceSub, Nat.reduceLeDiff, Nat.reduceLT, reduceIte, reduceCtorEq, Int.reduceBNe, Int.reduceBEq, q0, q1, q2, q3, q4, q5, hw, hwn, hd, hd2])
theorem p12 (x : It) (ox : OkIt x) : Pu Tryz.prog 12 [.agg (itL x)] (.tup (itemV x)) := by
  have q0 : True := trivial
  have q1 : True := trivial
  have q2 : True := trivial
  have q3 : True := trivial
  have q4 : True := trivial
  have q5 : True := trivial
  have hw : True := trivial
  have hwn : True := trivial
  have hd : True := trivial
  have hd2 : True := trivial
  unfold itemV
  by_cases hr : rightS x = 0
  · rw [hr]
    rcases right_k hr with ⟨h1, h2⟩ | ⟨h1, h2⟩
    · exact found_r x ox h1 h2
    · exact notice_r x ox h1 h2
  · have q0 : (rightS x != 0) = true := by rw [bne_iff_ne]; exact hr
    have hb : (rightS x == 0) = false := by rw [beq_eq_false_iff_ne]; exact hr
    have h1 := p14 x (by have := ox.li; omega) (by have := ox.la; omega) (by have := ox.lv; omega)
    simp only [itL] at h1
    rw [hb]
    (refine Pu_intro c12 b12 (Nat.le_of_ble_eq_true rfl) fun σ => ?_; simp only [c12, ↓R1, R2, R3, R4, R5, Nat.reduceEqDiff, Nat.reduceAdd, Nat.reduceMul, Nat.reduceSub, Nat.reduceLeDiff, Nat.reduceLT, reduceIte, reduceCtorEq, Int.reduceBNe, Int.reduceBEq, q0, q1, q2, q3, q4, q5, hw, hwn, hd, hd2])
    simp only [itL, ↓R1, R2, R3, R4, R5, Nat.reduceEqDiff, Nat.reduceAdd, Nat.reduceMul, Nat.reduceSub, Nat.reduceLeDiff, Nat.reduceLT, reduceIte, reduceCtorEq, Int.reduceBNe, Int.reduceBEq, q0, q1, q2, q3, q4, q5, hw, hwn, hd, hd2]
    repeat' (first | (with_reducible rw [allocV_eq]) | (refine gdV_split (fun hc => ?_) (fun hc => ?_) <;> (try simp only [hc, ↓R1, R2, R3, R4, R5, Nat.reduceEqDiff, Nat.reduceAdd, Nat.reduceMul, Nat.reduceSub, Nat.reduceLeDiff, Nat.reduceLT, reduceIte, reduceCtorEq, Int.reduceBNe, Int.reduceBEq, q0, q1, q2, q3, q4, q5, hw, hwn, hd, hd2])) | ((first | refine condV_split (fun hc => ?_) (fun hc => ?_) | (with_reducible intro β hβ; (try simp only [St.box_noneA, St.tip_noneA, St.tip_set, St.box_tip, St.box_lp, St.tip_lp] at hβ); (repeat (obtain ⟨⟨_, _⟩, hβ⟩ := hβ)); (try (have hbis := apart_is (by assumption) hβ; obtain ⟨_, _⟩ := hbis)))) <;> (try simp only [↓R1, R2, R3, R4, R5, Nat.reduceEqDiff, Nat.reduceAdd, Nat.reduceMul, Nat.reduceSub, Nat.reduceLeDiff, Nat.reduceLT, reduceIte, reduceCtorEq, Int.reduceBNe, Int.reduceBEq, q0, q1, q2, q3, q4, q5, hw, hwn, hd, hd2])) | (with_reducible refine And.intro ?_ ?_; (focus (first | omega | (intros; (repeat' (with_reducible apply And.intro)) <;> first | omega | (simp only [cP_len, cId_len, cI_len, cW_len, List.length_map, List.length_append, List.length_cons, List.length_nil, List.length_take, List.length_zip]; omega))))) | (with_reducible apply And.intro) | ((first | refine Pu.to (h1) (wkL_refl _) ?_ | refine callDV_pu (h1) (wkL_refl _) ?_); (try simp only [↓R1, R2, R3, R4, R5, Nat.reduceEqDiff, Nat.reduceAdd, Nat.reduceMul, Nat.reduceSub, Nat.reduceLeDiff, Nat.reduceLT, reduceIte, reduceCtorEq, Int.reduceBNe, Int.reduceBEq, q0, q1, q2, q3, q4, q5, hw, hwn, hd, hd2])))
    (refine endP_pu (by simp) (by first | (simp [rvsS, rvS]; done) | (simp only [rvsS, rvS, ↓R1, R2, R3, R4, R5, Nat.reduceEqDiff, Nat.reduceAdd, Nat.reduceMul, Nat.reduceSub, Nat.reduceLeDiff, Nat.reduceLT, reduceIte, reduceCtorEq, Int.reduceBNe, Int.reduceBEq, q0, q1, q2, q3, q4, q5, hw, hwn, hd, hd2]; try simp)) (wk_of_eq ?_) (by (repeat (first | exact St.le_refl _ | (refine St.le_new ?_ (by assumption)) | (refine St.le_newT ?_ (by assumption))))))
    (simp only [resAV, rvV, List.map_cons, List.map_nil, ↓R1, R2, R3, R4, R5, Nat.reduceEqDiff, Nat.reduceAdd, Nat.reduceMul, Nat.reduceSub, Nat.reduceLeDiff, Nat.reduceLT, reduceIte, reduceCtorEq, Int.reduceBNe, Int.reduceBEq, q0, q1, q2, q3, q4, q5, hw, hwn, hd, hd2])
end Go.Proofs.YtncadbcjikekhaaGreatDoor
namespace Go.Proofs.YtncadbcjikekhaaGreatDoor
open Go.Abs Go.Lib
set_option linter.all false
set_option maxRecDepth 100000
def cmpN (a b : Int) : Int := bif decide (a < b) then -1 else bif decide (b < a) then 1 else 0
def cmpL : List Int → List Int → Int
  | [], [] => 0
  | [], _ :: _ => -1
  | _ :: _, [] => 1
  | a :: l, b :: m => bif cmpN a b != 0 then cmpN a b else cmpL l m
def orS (l : List Int) : Int := (l.find? (· != 0)).getD 0
def lastP (l : List Pl) : Int := match l.getLast? with
  | some x => x.p
  | none => 0
def cmpM (a b : List Pl) : Int := orS [cmpN (lastP a) (lastP b), cmpL (posL a) (posL b), cmpL (atomL a) (atomL b)]
theorem p117 (n : Int) : Pu Tryz.prog 117 [.int .i64 n] (.bool false) := by
  (refine Pu_intro c117 b117 (Nat.le_of_ble_eq_true rfl) fun σ => ?_; simp only [c117, ↓R1, R2, R3, R4, R5, Nat.reduceEqDiff, Nat.reduceAdd, Nat.reduceMul, Nat.reduceSub, Nat.reduceLeDiff, Nat.reduceLT, reduceIte, reduceCtorEq, Int.reduceBNe, Int.reduceBEq])
  repeat' (first | (with_reducible rw [allocV_eq]) | (refine gdV_split (fun hc => ?_) (fun hc => ?_) <;> (try simp only [hc, ↓R1, R2, R3, R4, R5, Nat.reduceEqDiff, Nat.reduceAdd, Nat.reduceMul, Nat.reduceSub, Nat.reduceLeDiff, Nat.reduceLT, reduceIte, reduceCtorEq, Int.reduceBNe, Int.reduceBEq])) | ((first | refine condV_split (fun hc => ?_) (fun hc => ?_) | (with_reducible intro β hβ; (try simp only [St.box_noneA, St.tip_noneA, St.tip_set, St.box_tip, St.box_lp, St.tip_lp] at hβ); (repeat (obtain ⟨⟨_, _⟩, hβ⟩ := hβ)); (try (have hbis := apart_is (by assumption) hβ; obtain ⟨_, _⟩ := hbis)))) <;> (try simp only [↓R1, R2, R3, R4, R5, Nat.reduceEqDiff, Nat.reduceAdd, Nat.reduceMul, Nat.reduceSub, Nat.reduceLeDiff, Nat.reduceLT, reduceIte, reduceCtorEq, Int.reduceBNe, Int.reduceBEq])) | (with_reducible refine And.intro ?_ ?_; (focus (first | omega | (intros; (repeat' (with_reducible apply And.intro)) <;> first | omega | (simp only [cP_len, cI_len, List.length_map, List.length_append, List.length_cons, List.length_nil, List.length_take]; omega))))) | (with_reducible apply And.intro))
  (refine endP_pu (by simp) (by first | (simp [rvsS, rvS]; done) | (simp only [rvsS, rvS, ↓R1, R2, R3, R4, R5, Nat.reduceEqDiff, Nat.reduceAdd, Nat.reduceMul, Nat.reduceSub, Nat.reduceLeDiff, Nat.reduceLT, reduceIte, reduceCtorEq, Int.reduceBNe, Int.reduceBEq]; try simp)) (wk_of_eq ?_) (by (repeat (first | exact St.le_refl _ | (refine St.le_new ?_ (by assumption)) | (refine St.le_newT ?_ (by assumption))))))
  (simp only [resAV, rvV, List.map_cons, List.map_nil, ↓R1, R2, R3, R4, R5, Nat.reduceEqDiff, Nat.reduceAdd, Nat.reduceMul, Nat.reduceSub, Nat.reduceLeDiff, Nat.reduceLT, reduceIte, reduceCtorEq, Int.reduceBNe, Int.reduceBEq])
theorem p96 (a b : Int) : Pu Tryz.prog 96 [.int .i64 a, .int .i64 b] (.int .i64 (cmpN a b)) := by
  (refine Pu_intro c96 b96 (Nat.le_of_ble_eq_true rfl) fun σ => ?_; simp only [c96, ↓R1, R2, R3, R4, R5, Nat.reduceEqDiff, Nat.reduceAdd, Nat.reduceMul, Nat.reduceSub, Nat.reduceLeDiff, Nat.reduceLT, reduceIte, reduceCtorEq, Int.reduceBNe, Int.reduceBEq])
  repeat' (first | (with_reducible rw [allocV_eq]) | (refine gdV_split (fun hc => ?_) (fun hc => ?_) <;> (try simp only [hc, ↓R1, R2, R3, R4, R5, Nat.reduceEqDiff, Nat.reduceAdd, Nat.reduceMul, Nat.reduceSub, Nat.reduceLeDiff, Nat.reduceLT, reduceIte, reduceCtorEq, Int.reduceBNe, Int.reduceBEq])) | ((first | refine condV_split (fun hc => ?_) (fun hc => ?_) | (with_reducible intro β hβ; (try simp only [St.box_noneA, St.tip_noneA, St.tip_set, St.box_tip, St.box_lp, St.tip_lp] at hβ); (repeat (obtain ⟨⟨_, _⟩, hβ⟩ := hβ)); (try (have hbis := apart_is (by assumption) hβ; obtain ⟨_, _⟩ := hbis)))) <;> (try simp only [↓R1, R2, R3, R4, R5, Nat.reduceEqDiff, Nat.reduceAdd, Nat.reduceMul, Nat.reduceSub, Nat.reduceLeDiff, Nat.reduceLT, reduceIte, reduceCtorEq, Int.reduceBNe, Int.reduceBEq])) | (with_reducible refine And.intro ?_ ?_; (focus (first | omega | (intros; (repeat' (with_reducible apply And.intro)) <;> first | omega | (simp only [cP_len, cI_len, List.length_map, List.length_append, List.length_cons, List.length_nil, List.length_take]; omega))))) | (with_reducible apply And.intro) | ((first | refine Pu.to (p117 a) (wkL_refl _) ?_ | refine callDV_pu (p117 a) (wkL_refl _) ?_ | refine Pu.to (p117 b) (wkL_refl _) ?_ | refine callDV_pu (p117 b) (wkL_refl _) ?_); (try simp only [↓R1, R2, R3, R4, R5, Nat.reduceEqDiff, Nat.reduceAdd, Nat.reduceMul, Nat.reduceSub, Nat.reduceLeDiff, Nat.reduceLT, reduceIte, reduceCtorEq, Int.reduceBNe, Int.reduceBEq])))
  all_goals (refine endP_pu (by simp) (by first | (simp [rvsS, rvS]; done) | (simp only [rvsS, rvS, ↓R1, R2, R3, R4, R5, Nat.reduceEqDiff, Nat.reduceAdd, Nat.reduceMul, Nat.reduceSub, Nat.reduceLeDiff, Nat.reduceLT, reduceIte, reduceCtorEq, Int.reduceBNe, Int.reduceBEq]; try simp)) (wk_of_eq ?_) (by (repeat (first | exact St.le_refl _ | (refine St.le_new ?_ (by assumption)) | (refine St.le_newT ?_ (by assumption))))))
  all_goals (simp only [resAV, rvV, List.map_cons, List.map_nil, ↓R1, R2, R3, R4, R5, Nat.reduceEqDiff, Nat.reduceAdd, Nat.reduceMul, Nat.reduceSub, Nat.reduceLeDiff, Nat.reduceLT, reduceIte, reduceCtorEq, Int.reduceBNe, Int.reduceBEq])
  all_goals (refine congrArg (AV.int .i64) ?_; simp only [cmpN, Bool.cond_eq_ite]; grind)
theorem p95 (l : List Int) (hl : l.length ≤ 1000000) : Pu Tryz.prog 95 [.sl false l.length (l.flatMap cI)] (.int .i64 (orS l)) := by
  have q1 : True := trivial
  have q2 : True := trivial
  have q3 : True := trivial
  have hw : True := trivial
  have hd : True := trivial
  have hd2 : True := trivial
  (refine Pu_intro c95 b95 (Nat.le_of_ble_eq_true rfl) fun σ => ?_; simp only [c95, ↓R1, R2, R3, R4, R5, Nat.reduceEqDiff, Nat.reduceAdd, Nat.reduceMul, Nat.reduceSub, Nat.reduceLeDiff, Nat.reduceLT, reduceIte, reduceCtorEq, Int.reduceBNe, Int.reduceBEq, q1, q2, q3, hw, hd, hd2])
  refine loopV_for l.length (fun k => [(3, .int .i64 0), (6, .sl false l.length (l.flatMap cI)), (7, .int .i64 (l.length : Nat)), (8, .int .i64 (k : Nat))]) (fun _ => σ) (fun k => orS l = orS (l.drop k)) (by simp [subF, slot, wk_refl]) (St.le_refl _) rfl (fun k hk hI => ?_)
  by_cases hlt : k < l.length
  · have q1 : decide ((k : Int) < (l.length : Int)) = true := by rw [decide_eq_true_eq]; omega
    have hd := cI_get l hlt
    have hcl := cI_len l
    have hw : IntKind.i64.wrap ((k : Int) + 1) = ((k + 1 : Nat) : Int) := by rw [wrap64 (by omega) (by omega)]; omega
    simp only [cI] at hd
    rw [List.drop_eq_getElem_cons hlt] at hI
    cases q2 : (l[k] != 0) with
    | true =>
      have : orS l = l[k] := by rw [hI, orS, List.find?_cons, q2]; rfl
      rw [this]
      simp only [q1, ↓R1, R2, R3, R4, R5, Nat.reduceEqDiff, Nat.reduceAdd, Nat.reduceMul, Nat.reduceSub, Nat.reduceLeDiff, Nat.reduceLT, reduceIte, reduceCtorEq, Int.reduceBNe, Int.reduceBEq, q1, q2, q3, hw, hd, hd2]
      repeat' (first | (with_reducible rw [allocV_eq]) | (refine gdV_split (fun hc => ?_) (fun hc => ?_) <;> (try simp only [hc, ↓R1, R2, R3, R4, R5, Nat.reduceEqDiff, Nat.reduceAdd, Nat.reduceMul, Nat.reduceSub, Nat.reduceLeDiff, Nat.reduceLT, reduceIte, reduceCtorEq, Int.reduceBNe, Int.reduceBEq, q1, q2, q3, hw, hd, hd2])) | ((first | refine condV_split (fun hc => ?_) (fun hc => ?_) | (with_reducible intro β hβ; (try simp only [St.box_noneA, St.tip_noneA, St.tip_set, St.box_tip, St.box_lp, St.tip_lp] at hβ); (repeat (obtain ⟨⟨_, _⟩, hβ⟩ := hβ)); (try (have hbis := apart_is (by assumption) hβ; obtain ⟨_, _⟩ := hbis)))) <;> (try simp only [↓R1, R2, R3, R4, R5, Nat.reduceEqDiff, Nat.reduceAdd, Nat.reduceMul, Nat.reduceSub, Nat.reduceLeDiff, Nat.reduceLT, reduceIte, reduceCtorEq, Int.reduceBNe, Int.reduceBEq, q1, q2, q3, hw, hd, hd2])) | (with_reducible refine And.intro ?_ ?_; (focus (first | omega | (intros; (repeat' (with_reducible apply And.intro)) <;> first | omega | (simp only [cP_len, cI_len, List.length_map, List.length_append, List.length_cons, List.length_nil, List.length_take]; omega))))) | (with_reducible apply And.intro))
      (refine endP_pu (by simp) (by first | (simp [rvsS, rvS]; done) | (simp only [rvsS, rvS, ↓R1, R2, R3, R4, R5, Nat.reduceEqDiff, Nat.reduceAdd, Nat.reduceMul, Nat.reduceSub, Nat.reduceLeDiff, Nat.reduceLT, reduceIte, reduceCtorEq, Int.reduceBNe, Int.reduceBEq, q1, q2, q3, hw, hd, hd2]; try simp)) (wk_of_eq ?_) (by (repeat (first | exact St.le_refl _ | (refine St.le_new ?_ (by assumption)) | (refine St.le_newT ?_ (by assumption))))))
      (simp only [resAV, rvV, List.map_cons, List.map_nil, ↓R1, R2, R3, R4, R5, Nat.reduceEqDiff, Nat.reduceAdd, Nat.reduceMul, Nat.reduceSub, Nat.reduceLeDiff, Nat.reduceLT, reduceIte, reduceCtorEq, Int.reduceBNe, Int.reduceBEq, q1, q2, q3, hw, hd, hd2])
    | false =>
      simp only [q1, ↓R1, R2, R3, R4, R5, Nat.reduceEqDiff, Nat.reduceAdd, Nat.reduceMul, Nat.reduceSub, Nat.reduceLeDiff, Nat.reduceLT, reduceIte, reduceCtorEq, Int.reduceBNe, Int.reduceBEq, q1, q2, q3, hw, hd, hd2]
      repeat' (first | (with_reducible rw [allocV_eq]) | (refine gdV_split (fun hc => ?_) (fun hc => ?_) <;> (try simp only [hc, ↓R1, R2, R3, R4, R5, Nat.reduceEqDiff, Nat.reduceAdd, Nat.reduceMul, Nat.reduceSub, Nat.reduceLeDiff, Nat.reduceLT, reduceIte, reduceCtorEq, Int.reduceBNe, Int.reduceBEq, q1, q2, q3, hw, hd, hd2])) | ((first | refine condV_split (fun hc => ?_) (fun hc => ?_) | (with_reducible intro β hβ; (try simp only [St.box_noneA, St.tip_noneA, St.tip_set, St.box_tip, St.box_lp, St.tip_lp] at hβ); (repeat (obtain ⟨⟨_, _⟩, hβ⟩ := hβ)); (try (have hbis := apart_is (by assumption) hβ; obtain ⟨_, _⟩ := hbis)))) <;> (try simp only [↓R1, R2, R3, R4, R5, Nat.reduceEqDiff, Nat.reduceAdd, Nat.reduceMul, Nat.reduceSub, Nat.reduceLeDiff, Nat.reduceLT, reduceIte, reduceCtorEq, Int.reduceBNe, Int.reduceBEq, q1, q2, q3, hw, hd, hd2])) | (with_reducible refine And.intro ?_ ?_; (focus (first | omega | (intros; (repeat' (with_reducible apply And.intro)) <;> first | omega | (simp only [cP_len, cI_len, List.length_map, List.length_append, List.length_cons, List.length_nil, List.length_take]; omega))))) | (with_reducible apply And.intro))
      · rw [hI, orS, List.find?_cons, q2]; rfl
      · simp [subF, slot, wk_refl]
      · exact St.le_refl _
  · have hke : k = l.length := by omega
    subst hke
    have q1 : decide ((l.length : Int) < (l.length : Int)) = false := by simp
    have : orS l = 0 := by rw [hI, List.drop_length]; rfl
    rw [this]
    simp only [q1, ↓R1, R2, R3, R4, R5, Nat.reduceEqDiff, Nat.reduceAdd, Nat.reduceMul, Nat.reduceSub, Nat.reduceLeDiff, Nat.reduceLT, reduceIte, reduceCtorEq, Int.reduceBNe, Int.reduceBEq, q1, q2, q3, hw, hd, hd2]
    repeat' (first | (with_reducible rw [allocV_eq]) | (refine gdV_split (fun hc => ?_) (fun hc => ?_) <;> (try simp only [hc, ↓R1, R2, R3, R4, R5, Nat.reduceEqDiff, Nat.reduceAdd, Nat.reduceMul, Nat.reduceSub, Nat.reduceLeDiff, Nat.reduceLT, reduceIte, reduceCtorEq, Int.reduceBNe, Int.reduceBEq, q1, q2, q3, hw, hd, hd2])) | ((first | refine condV_split (fun hc => ?_) (fun hc => ?_) | (with_reducible intro β hβ; (try simp only [St.box_noneA, St.tip_noneA, St.tip_set, St.box_tip, St.box_lp, St.tip_lp] at hβ); (repeat (obtain ⟨⟨_, _⟩, hβ⟩ := hβ)); (try (have hbis := apart_is (by assumption) hβ; obtain ⟨_, _⟩ := hbis)))) <;> (try simp only [↓R1, R2, R3, R4, R5, Nat.reduceEqDiff, Nat.reduceAdd, Nat.reduceMul, Nat.reduceSub, Nat.reduceLeDiff, Nat.reduceLT, reduceIte, reduceCtorEq, Int.reduceBNe, Int.reduceBEq, q1, q2, q3, hw, hd, hd2])) | (with_reducible refine And.intro ?_ ?_; (focus (first | omega | (intros; (repeat' (with_reducible apply And.intro)) <;> first | omega | (simp only [cP_len, cI_len, List.length_map, List.length_append, List.length_cons, List.length_nil, List.length_take]; omega))))) | (with_reducible apply And.intro))
    (refine endP_pu (by simp) (by first | (simp [rvsS, rvS]; done) | (simp only [rvsS, rvS, ↓R1, R2, R3, R4, R5, Nat.reduceEqDiff, Nat.reduceAdd, Nat.reduceMul, Nat.reduceSub, Nat.reduceLeDiff, Nat.reduceLT, reduceIte, reduceCtorEq, Int.reduceBNe, Int.reduceBEq, q1, q2, q3, hw, hd, hd2]; try simp)) (wk_of_eq ?_) (by (repeat (first | exact St.le_refl _ | (refine St.le_new ?_ (by assumption)) | (refine St.le_newT ?_ (by assumption))))))
    (simp only [resAV, rvV, List.map_cons, List.map_nil, ↓R1, R2, R3, R4, R5, Nat.reduceEqDiff, Nat.reduceAdd, Nat.reduceMul, Nat.reduceSub, Nat.reduceLeDiff, Nat.reduceLT, reduceIte, reduceCtorEq, Int.reduceBNe, Int.reduceBEq, q1, q2, q3, hw, hd, hd2])
theorem cmpL_cons {a b : List Int} {k : Nat} (h : k < a.length) (h2 : k < b.length) : cmpL (a.drop k) (b.drop k) = bif cmpN a[k] b[k] != 0 then cmpN a[k] b[k] else cmpL (a.drop (k + 1)) (b.drop (k + 1)) := by
  rw [List.drop_eq_getElem_cons h, List.drop_eq_getElem_cons h2]; rfl
theorem p97 (a b : List Int) (ha : a.length ≤ 1000000) (hb : b.length ≤ 1000000) : Pu Tryz.prog 97 [.sl false a.length (a.flatMap cI), .sl false b.length (b.flatMap cI)] (.int .i64 (cmpL a b)) := by
  have q1 : True := trivial
  have q2 : True := trivial
  have q3 : True := trivial
  have hw : True := trivial
  have hd : True := trivial
  have hd2 : True := trivial
  (refine Pu_intro c97 b97 (Nat.le_of_ble_eq_true rfl) fun σ => ?_; simp only [c97, ↓R1, R2, R3, R4, R5, Nat.reduceEqDiff, Nat.reduceAdd, Nat.reduceMul, Nat.reduceSub, Nat.reduceLeDiff, Nat.reduceLT, reduceIte, reduceCtorEq, Int.reduceBNe, Int.reduceBEq, q1, q2, q3, hw, hd, hd2])
  refine loopV_for a.length (fun k => [(0, .sl false a.length (a.flatMap cI)), (1, .sl false b.length (b.flatMap cI)), (9, .sl false a.length (a.flatMap cI)), (10, .int .i64 (a.length : Nat)), (11, .int .i64 (k : Nat))]) (fun _ => σ) (fun k => k ≤ b.length ∧ cmpL a b = cmpL (a.drop k) (b.drop k)) (by simp [subF, slot, wk_refl]) (St.le_refl _) (by simp) (fun k hk hI => ?_)
  obtain ⟨hkb, hI⟩ := hI
  have hca := cI_len a
  have hcb := cI_len b
  by_cases hlt : k < a.length
  · have q1 : decide ((k : Int) < (a.length : Int)) = true := by rw [decide_eq_true_eq]; omega
    have hd := cI_get a hlt
    have hw : IntKind.i64.wrap ((k : Int) + 1) = ((k + 1 : Nat) : Int) := by rw [wrap64 (by omega) (by omega)]; omega
    simp only [cI] at hd
    by_cases hlb : k < b.length
    · have q2 : decide ((b.length : Int) ≤ (k : Int)) = false := by rw [decide_eq_false_iff_not]; omega
      have hd2 := cI_get b hlb
      simp only [cI] at hd2
      have hcc := cmpL_cons hlt hlb
      cases q3 : (cmpN a[k] b[k] != 0) with
      | true =>
        have : cmpL a b = cmpN a[k] b[k] := by rw [hI, hcc, q3]; rfl
        rw [this]
        simp only [q1, ↓R1, R2, R3, R4, R5, Nat.reduceEqDiff, Nat.reduceAdd, Nat.reduceMul, Nat.reduceSub, Nat.reduceLeDiff, Nat.reduceLT, reduceIte, reduceCtorEq, Int.reduceBNe, Int.reduceBEq, q1, q2, q3, hw, hd, hd2]
        repeat' (first | (with_reducible rw [allocV_eq]) | (refine gdV_split (fun hc => ?_) (fun hc => ?_) <;> (try simp only [hc, ↓R1, R2, R3, R4, R5, Nat.reduceEqDiff, Nat.reduceAdd, Nat.reduceMul, Nat.reduceSub, Nat.reduceLeDiff, Nat.reduceLT, reduceIte, reduceCtorEq, Int.reduceBNe, Int.reduceBEq, q1, q2, q3, hw, hd, hd2])) | ((first | refine condV_split (fun hc => ?_) (fun hc => ?_) | (with_reducible intro β hβ; (try simp only [St.box_noneA, St.tip_noneA, St.tip_set, St.box_tip, St.box_lp, St.tip_lp] at hβ); (repeat (obtain ⟨⟨_, _⟩, hβ⟩ := hβ)); (try (have hbis := apart_is (by assumption) hβ; obtain ⟨_, _⟩ := hbis)))) <;> (try simp only [↓R1, R2, R3, R4, R5, Nat.reduceEqDiff, Nat.reduceAdd, Nat.reduceMul, Nat.reduceSub, Nat.reduceLeDiff, Nat.reduceLT, reduceIte, reduceCtorEq, Int.reduceBNe, Int.reduceBEq, q1, q2, q3, hw, hd, hd2])) | (with_reducible refine And.intro ?_ ?_; (focus (first | omega | (intros; (repeat' (with_reducible apply And.intro)) <;> first | omega | (simp only [cP_len, cI_len, List.length_map, List.length_append, List.length_cons, List.length_nil, List.length_take]; omega))))) | (with_reducible apply And.intro) | ((first | refine Pu.to (p96 a[k] b[k]) (wkL_refl _) ?_ | refine callDV_pu (p96 a[k] b[k]) (wkL_refl _) ?_); (try simp only [↓R1, R2, R3, R4, R5, Nat.reduceEqDiff, Nat.reduceAdd, Nat.reduceMul, Nat.reduceSub, Nat.reduceLeDiff, Nat.reduceLT, reduceIte, reduceCtorEq, Int.reduceBNe, Int.reduceBEq, q1, q2, q3, hw, hd, hd2])))
        (refine endP_pu (by simp) (by first | (simp [rvsS, rvS]; done) | (simp only [rvsS, rvS, ↓R1, R2, R3, R4, R5, Nat.reduceEqDiff, Nat.reduceAdd, Nat.reduceMul, Nat.reduceSub, Nat.reduceLeDiff, Nat.reduceLT, reduceIte, reduceCtorEq, Int.reduceBNe, Int.reduceBEq, q1, q2, q3, hw, hd, hd2]; try simp)) (wk_of_eq ?_) (by (repeat (first | exact St.le_refl _ | (refine St.le_new ?_ (by assumption)) | (refine St.le_newT ?_ (by assumption))))))
        (simp only [resAV, rvV, List.map_cons, List.map_nil, ↓R1, R2, R3, R4, R5, Nat.reduceEqDiff, Nat.reduceAdd, Nat.reduceMul, Nat.reduceSub, Nat.reduceLeDiff, Nat.reduceLT, reduceIte, reduceCtorEq, Int.reduceBNe, Int.reduceBEq, q1, q2, q3, hw, hd, hd2])
      | false =>
        simp only [q1, ↓R1, R2, R3, R4, R5, Nat.reduceEqDiff, Nat.reduceAdd, Nat.reduceMul, Nat.reduceSub, Nat.reduceLeDiff, Nat.reduceLT, reduceIte, reduceCtorEq, Int.reduceBNe, Int.reduceBEq, q1, q2, q3, hw, hd, hd2]
        repeat' (first | (with_reducible rw [allocV_eq]) | (refine gdV_split (fun hc => ?_) (fun hc => ?_) <;> (try simp only [hc, ↓R1, R2, R3, R4, R5, Nat.reduceEqDiff, Nat.reduceAdd, Nat.reduceMul, Nat.reduceSub, Nat.reduceLeDiff, Nat.reduceLT, reduceIte, reduceCtorEq, Int.reduceBNe, Int.reduceBEq, q1, q2, q3, hw, hd, hd2])) | ((first | refine condV_split (fun hc => ?_) (fun hc => ?_) | (with_reducible intro β hβ; (try simp only [St.box_noneA, St.tip_noneA, St.tip_set, St.box_tip, St.box_lp, St.tip_lp] at hβ); (repeat (obtain ⟨⟨_, _⟩, hβ⟩ := hβ)); (try (have hbis := apart_is (by assumption) hβ; obtain ⟨_, _⟩ := hbis)))) <;> (try simp only [↓R1, R2, R3, R4, R5, Nat.reduceEqDiff, Nat.reduceAdd, Nat.reduceMul, Nat.reduceSub, Nat.reduceLeDiff, Nat.reduceLT, reduceIte, reduceCtorEq, Int.reduceBNe, Int.reduceBEq, q1, q2, q3, hw, hd, hd2])) | (with_reducible refine And.intro ?_ ?_; (focus (first | omega | (intros; (repeat' (with_reducible apply And.intro)) <;> first | omega | (simp only [cP_len, cI_len, List.length_map, List.length_append, List.length_cons, List.length_nil, List.length_take]; omega))))) | (with_reducible apply And.intro) | ((first | refine Pu.to (p96 a[k] b[k]) (wkL_refl _) ?_ | refine callDV_pu (p96 a[k] b[k]) (wkL_refl _) ?_); (try simp only [↓R1, R2, R3, R4, R5, Nat.reduceEqDiff, Nat.reduceAdd, Nat.reduceMul, Nat.reduceSub, Nat.reduceLeDiff, Nat.reduceLT, reduceIte, reduceCtorEq, Int.reduceBNe, Int.reduceBEq, q1, q2, q3, hw, hd, hd2])))
        · rw [hI, hcc, q3]; rfl
        · simp [subF, slot, wk_refl]
        · exact St.le_refl _
    · have q2 : decide ((b.length : Int) ≤ (k : Int)) = true := by rw [decide_eq_true_eq]; omega
      have : cmpL a b = 1 := by rw [hI, List.drop_eq_getElem_cons hlt, List.drop_of_length_le (l := b) (by omega)]; rfl
      rw [this]
      simp only [q1, ↓R1, R2, R3, R4, R5, Nat.reduceEqDiff, Nat.reduceAdd, Nat.reduceMul, Nat.reduceSub, Nat.reduceLeDiff, Nat.reduceLT, reduceIte, reduceCtorEq, Int.reduceBNe, Int.reduceBEq, q1, q2, q3, hw, hd, hd2]
      repeat' (first | (with_reducible rw [allocV_eq]) | (refine gdV_split (fun hc => ?_) (fun hc => ?_) <;> (try simp only [hc, ↓R1, R2, R3, R4, R5, Nat.reduceEqDiff, Nat.reduceAdd, Nat.reduceMul, Nat.reduceSub, Nat.reduceLeDiff, Nat.reduceLT, reduceIte, reduceCtorEq, Int.reduceBNe, Int.reduceBEq, q1, q2, q3, hw, hd, hd2])) | ((first | refine condV_split (fun hc => ?_) (fun hc => ?_) | (with_reducible intro β hβ; (try simp only [St.box_noneA, St.tip_noneA, St.tip_set, St.box_tip, St.box_lp, St.tip_lp] at hβ); (repeat (obtain ⟨⟨_, _⟩, hβ⟩ := hβ)); (try (have hbis := apart_is (by assumption) hβ; obtain ⟨_, _⟩ := hbis)))) <;> (try simp only [↓R1, R2, R3, R4, R5, Nat.reduceEqDiff, Nat.reduceAdd, Nat.reduceMul, Nat.reduceSub, Nat.reduceLeDiff, Nat.reduceLT, reduceIte, reduceCtorEq, Int.reduceBNe, Int.reduceBEq, q1, q2, q3, hw, hd, hd2])) | (with_reducible refine And.intro ?_ ?_; (focus (first | omega | (intros; (repeat' (with_reducible apply And.intro)) <;> first | omega | (simp only [cP_len, cI_len, List.length_map, List.length_append, List.length_cons, List.length_nil, List.length_take]; omega))))) | (with_reducible apply And.intro))
      (refine endP_pu (by simp) (by first | (simp [rvsS, rvS]; done) | (simp only [rvsS, rvS, ↓R1, R2, R3, R4, R5, Nat.reduceEqDiff, Nat.reduceAdd, Nat.reduceMul, Nat.reduceSub, Nat.reduceLeDiff, Nat.reduceLT, reduceIte, reduceCtorEq, Int.reduceBNe, Int.reduceBEq, q1, q2, q3, hw, hd, hd2]; try simp)) (wk_of_eq ?_) (by (repeat (first | exact St.le_refl _ | (refine St.le_new ?_ (by assumption)) | (refine St.le_newT ?_ (by assumption))))))
      (simp only [resAV, rvV, List.map_cons, List.map_nil, ↓R1, R2, R3, R4, R5, Nat.reduceEqDiff, Nat.reduceAdd, Nat.reduceMul, Nat.reduceSub, Nat.reduceLeDiff, Nat.reduceLT, reduceIte, reduceCtorEq, Int.reduceBNe, Int.reduceBEq, q1, q2, q3, hw, hd, hd2])
  · have hke : k = a.length := by omega
    subst hke
    have q1 : decide ((a.length : Int) < (a.length : Int)) = false := by simp
    rw [List.drop_length] at hI
    by_cases hlb : a.length < b.length
    · have q2 : decide ((a.length : Int) < (b.length : Int)) = true := by rw [decide_eq_true_eq]; omega
      have : cmpL a b = -1 := by rw [hI, List.drop_eq_getElem_cons hlb]; rfl
      rw [this]
      simp only [q1, ↓R1, R2, R3, R4, R5, Nat.reduceEqDiff, Nat.reduceAdd, Nat.reduceMul, Nat.reduceSub, Nat.reduceLeDiff, Nat.reduceLT, reduceIte, reduceCtorEq, Int.reduceBNe, Int.reduceBEq, q1, q2, q3, hw, hd, hd2]
      repeat' (first | (with_reducible rw [allocV_eq]) | (refine gdV_split (fun hc => ?_) (fun hc => ?_) <;> (try simp only [hc, ↓R1, R2, R3, R4, R5, Nat.reduceEqDiff, Nat.reduceAdd, Nat.reduceMul, Nat.reduceSub, Nat.reduceLeDiff, Nat.reduceLT, reduceIte, reduceCtorEq, Int.reduceBNe, Int.reduceBEq, q1, q2, q3, hw, hd, hd2])) | ((first | refine condV_split (fun hc => ?_) (fun hc => ?_) | (with_reducible intro β hβ; (try simp only [St.box_noneA, St.tip_noneA, St.tip_set, St.box_tip, St.box_lp, St.tip_lp] at hβ); (repeat (obtain ⟨⟨_, _⟩, hβ⟩ := hβ)); (try (have hbis := apart_is (by assumption) hβ; obtain ⟨_, _⟩ := hbis)))) <;> (try simp only [↓R1, R2, R3, R4, R5, Nat.reduceEqDiff, Nat.reduceAdd, Nat.reduceMul, Nat.reduceSub, Nat.reduceLeDiff, Nat.reduceLT, reduceIte, reduceCtorEq, Int.reduceBNe, Int.reduceBEq, q1, q2, q3, hw, hd, hd2])) | (with_reducible refine And.intro ?_ ?_; (focus (first | omega | (intros; (repeat' (with_reducible apply And.intro)) <;> first | omega | (simp only [cP_len, cI_len, List.length_map, List.length_append, List.length_cons, List.length_nil, List.length_take]; omega))))) | (with_reducible apply And.intro))
      (refine endP_pu (by simp) (by first | (simp [rvsS, rvS]; done) | (simp only [rvsS, rvS, ↓R1, R2, R3, R4, R5, Nat.reduceEqDiff, Nat.reduceAdd, Nat.reduceMul, Nat.reduceSub, Nat.reduceLeDiff, Nat.reduceLT, reduceIte, reduceCtorEq, Int.reduceBNe, Int.reduceBEq, q1, q2, q3, hw, hd, hd2]; try simp)) (wk_of_eq ?_) (by (repeat (first | exact St.le_refl _ | (refine St.le_new ?_ (by assumption)) | (refine St.le_newT ?_ (by assumption))))))
      (simp only [resAV, rvV, List.map_cons, List.map_nil, ↓R1, R2, R3, R4, R5, Nat.reduceEqDiff, Nat.reduceAdd, Nat.reduceMul, Nat.reduceSub, Nat.reduceLeDiff, Nat.reduceLT, reduceIte, reduceCtorEq, Int.reduceBNe, Int.reduceBEq, q1, q2, q3, hw, hd, hd2])
    · have q2 : decide ((a.length : Int) < (b.length : Int)) = false := by rw [decide_eq_false_iff_not]; omega
      have : cmpL a b = 0 := by rw [hI, List.drop_of_length_le (by omega)]; rfl
      rw [this]
      simp only [q1, ↓R1, R2, R3, R4, R5, Nat.reduceEqDiff, Nat.reduceAdd, Nat.reduceMul, Nat.reduceSub, Nat.reduceLeDiff, Nat.reduceLT, reduceIte, reduceCtorEq, Int.reduceBNe, Int.reduceBEq, q1, q2, q3, hw, hd, hd2]
      repeat' (first | (with_reducible rw [allocV_eq]) | (refine gdV_split (fun hc => ?_) (fun hc => ?_) <;> (try simp only [hc, ↓R1, R2, R3, R4, R5, Nat.reduceEqDiff, Nat.reduceAdd, Nat.reduceMul, Nat.reduceSub, Nat.reduceLeDiff, Nat.reduceLT, reduceIte, reduceCtorEq, Int.reduceBNe, Int.reduceBEq, q1, q2, q3, hw, hd, hd2])) | ((first | refine condV_split (fun hc => ?_) (fun hc => ?_) | (with_reducible intro β hβ; (try simp only [St.box_noneA, St.tip_noneA, St.tip_set, St.box_tip, St.box_lp, St.tip_lp] at hβ); (repeat (obtain ⟨⟨_, _⟩, hβ⟩ := hβ)); (try (have hbis := apart_is (by assumption) hβ; obtain ⟨_, _⟩ := hbis)))) <;> (try simp only [↓R1, R2, R3, R4, R5, Nat.reduceEqDiff, Nat.reduceAdd, Nat.reduceMul, Nat.reduceSub, Nat.reduceLeDiff, Nat.reduceLT, reduceIte, reduceCtorEq, Int.reduceBNe, Int.reduceBEq, q1, q2, q3, hw, hd, hd2])) | (with_reducible refine And.intro ?_ ?_; (focus (first | omega | (intros; (repeat' (with_reducible apply And.intro)) <;> first | omega | (simp only [cP_len, cI_len, List.length_map, List.length_append, List.length_cons, List.length_nil, List.length_take]; omega))))) | (with_reducible apply And.intro))
      (refine endP_pu (by simp) (by first | (simp [rvsS, rvS]; done) | (simp only [rvsS, rvS, ↓R1, R2, R3, R4, R5, Nat.reduceEqDiff, Nat.reduceAdd, Nat.reduceMul, Nat.reduceSub, Nat.reduceLeDiff, Nat.reduceLT, reduceIte, reduceCtorEq, Int.reduceBNe, Int.reduceBEq, q1, q2, q3, hw, hd, hd2]; try simp)) (wk_of_eq ?_) (by (repeat (first | exact St.le_refl _ | (refine St.le_new ?_ (by assumption)) | (refine St.le_newT ?_ (by assumption))))))
      (simp only [resAV, rvV, List.map_cons, List.map_nil, ↓R1, R2, R3, R4, R5, Nat.reduceEqDiff, Nat.reduceAdd, Nat.reduceMul, Nat.reduceSub, Nat.reduceLeDiff, Nat.reduceLT, reduceIte, reduceCtorEq, Int.reduceBNe, Int.reduceBEq, q1, q2, q3, hw, hd, hd2])
end Go.Proofs.YtncadbcjikekhaaGreatDoor
namespace Go.Proofs.YtncadbcjikekhaaGreatDoor
open Go.Abs Go.Lib
set_option linter.all false
set_option maxRecDepth 100000
theorem lastP_at {l : List Pl} (h : l.length - 1 < l.length) : lastP l = (l[l.length - 1]).p := by
  unfold lastP
  rw [List.getLast?_eq_getElem?, List.getElem?_eq_getElem h]
theorem p94 (l : List Pl) (h0 : l.length ≠ 0) (hl : l.length ≤ 1000000) : Pu Tryz.prog 94 [.agg [.sl false l.length (l.flatMap cP)]] (.int .i64 (lastP l)) := by
  have q1 : True := trivial
  have q2 : True := trivial
  have q3 : True := trivial
  have q4 : True := trivial
  have hd2 : True := trivial
  have hlt : l.length - 1 < l.length := by omega
  have hw : IntKind.i64.wrap ((l.length : Int) - 1) = ((l.length - 1 : Nat) : Int) := by rw [wrap64 (by omega) (by omega)]; omega
  have hd := cP_get l hlt
  have hcl := cP_len l
  simp only [cP] at hd
  rw [lastP_at hlt]
  (refine Pu_intro c94 b94 (Nat.le_of_ble_eq_true rfl) fun σ => ?_; simp only [c94, ↓R1, R2, R3, R4, R5, Nat.reduceEqDiff, Nat.reduceAdd, Nat.reduceMul, Nat.reduceSub, Nat.reduceLeDiff, Nat.reduceLT, reduceIte, reduceCtorEq, Int.reduceBNe, Int.reduceBEq, q1, q2, q3, q4, hw, hd, hd2, aDrw_callv, callvDV_fn])
  repeat' (first | (with_reducible rw [allocV_eq]) | (refine gdV_split (fun hc => ?_) (fun hc => ?_) <;> (try simp only [hc, ↓R1, R2, R3, R4, R5, Nat.reduceEqDiff, Nat.reduceAdd, Nat.reduceMul, Nat.reduceSub, Nat.reduceLeDiff, Nat.reduceLT, reduceIte, reduceCtorEq, Int.reduceBNe, Int.reduceBEq, q1, q2, q3, q4, hw, hd, hd2, aDrw_callv, callvDV_fn])) | ((first | refine condV_split (fun hc => ?_) (fun hc => ?_) | (with_reducible intro β hβ; (try simp only [St.box_noneA, St.tip_noneA, St.tip_set, St.box_tip, St.box_lp, St.tip_lp] at hβ); (repeat (obtain ⟨⟨_, _⟩, hβ⟩ := hβ)); (try (have hbis := apart_is (by assumption) hβ; obtain ⟨_, _⟩ := hbis)))) <;> (try simp only [↓R1, R2, R3, R4, R5, Nat.reduceEqDiff, Nat.reduceAdd, Nat.reduceMul, Nat.reduceSub, Nat.reduceLeDiff, Nat.reduceLT, reduceIte, reduceCtorEq, Int.reduceBNe, Int.reduceBEq, q1, q2, q3, q4, hw, hd, hd2, aDrw_callv, callvDV_fn])) | (with_reducible refine And.intro ?_ ?_; (focus (first | omega | (intros; (repeat' (with_reducible apply And.intro)) <;> first | omega | (simp only [cP_len, cI_len, List.length_map, List.length_append, List.length_cons, List.length_nil, List.length_take]; omega))))) | (with_reducible apply And.intro))
  (refine endP_pu (by simp) (by first | (simp [rvsS, rvS]; done) | (simp only [rvsS, rvS, ↓R1, R2, R3, R4, R5, Nat.reduceEqDiff, Nat.reduceAdd, Nat.reduceMul, Nat.reduceSub, Nat.reduceLeDiff, Nat.reduceLT, reduceIte, reduceCtorEq, Int.reduceBNe, Int.reduceBEq, q1, q2, q3, q4, hw, hd, hd2, aDrw_callv, callvDV_fn]; try simp)) (wk_of_eq ?_) (by (repeat (first | exact St.le_refl _ | (refine St.le_new ?_ (by assumption)) | (refine St.le_newT ?_ (by assumption))))))
  (simp only [resAV, rvV, List.map_cons, List.map_nil, ↓R1, R2, R3, R4, R5, Nat.reduceEqDiff, Nat.reduceAdd, Nat.reduceMul, Nat.reduceSub, Nat.reduceLeDiff, Nat.reduceLT, reduceIte, reduceCtorEq, Int.reduceBNe, Int.reduceBEq, q1, q2, q3, q4, hw, hd, hd2, aDrw_callv, callvDV_fn])
theorem p63 (a b : List Pl) (ha0 : a.length ≠ 0) (hb0 : b.length ≠ 0) (ha : a.length ≤ 1000000) (hb : b.length ≤ 1000000) : Pu Tryz.prog 63 [.agg [.sl false a.length (a.flatMap cP)], .agg [.sl false b.length (b.flatMap cP)]] (.int .i64 (cmpM a b)) := by
  have q1 : True := trivial
  have q2 : True := trivial
  have q3 : True := trivial
  have q4 : True := trivial
  have hw : True := trivial
  have hd : True := trivial
  have hd2 : True := trivial
  have h1 := p94 a ha0 ha
  have h2 := p94 b hb0 hb
  have h3 := p96 (lastP a) (lastP b)
  have h4 := (p56 a ha 67 (·.p) p67).pu
  have h5 := (p56 b hb 67 (·.p) p67).pu
  have h6 := (p56 a ha 57 (·.a) p57).pu
  have h7 := (p56 b hb 57 (·.a) p57).pu
  have h8 := p97 (posL a) (posL b) (by simp [posL]; omega) (by simp [posL]; omega)
  have h9 := p97 (atomL a) (atomL b) (by simp [atomL]; omega) (by simp [atomL]; omega)
  have h10 := p95 [cmpN (lastP a) (lastP b), cmpL (posL a) (posL b), cmpL (atomL a) (atomL b)] (by simp)
  simp only [posL, atomL, List.length_map] at h8 h9
  simp only [posL, atomL, List.flatMap_cons, List.flatMap_nil, cI, List.length_cons, List.length_nil, List.cons_append, List.nil_append] at h10
  (refine Pu_intro c63 b63 (Nat.le_of_ble_eq_true rfl) fun σ => ?_; simp only [c63, ↓R1, R2, R3, R4, R5, Nat.reduceEqDiff, Nat.reduceAdd, Nat.reduceMul, Nat.reduceSub, Nat.reduceLeDiff, Nat.reduceLT, reduceIte, reduceCtorEq, Int.reduceBNe, Int.reduceBEq, q1, q2, q3, q4, hw, hd, hd2, aDrw_callv, callvDV_fn])
  repeat' (first | (with_reducible rw [allocV_eq]) | (refine gdV_split (fun hc => ?_) (fun hc => ?_) <;> (try simp only [hc, ↓R1, R2, R3, R4, R5, Nat.reduceEqDiff, Nat.reduceAdd, Nat.reduceMul, Nat.reduceSub, Nat.reduceLeDiff, Nat.reduceLT, reduceIte, reduceCtorEq, Int.reduceBNe, Int.reduceBEq, q1, q2, q3, q4, hw, hd, hd2, aDrw_callv, callvDV_fn])) | ((first | refine condV_split (fun hc => ?_) (fun hc => ?_) | (with_reducible intro β hβ; (try simp only [St.box_noneA, St.tip_noneA, St.tip_set, St.box_tip, St.box_lp, St.tip_lp] at hβ); (repeat (obtain ⟨⟨_, _⟩, hβ⟩ := hβ)); (try (have hbis := apart_is (by assumption) hβ; obtain ⟨_, _⟩ := hbis)))) <;> (try simp only [↓R1, R2, R3, R4, R5, Nat.reduceEqDiff, Nat.reduceAdd, Nat.reduceMul, Nat.reduceSub, Nat.reduceLeDiff, Nat.reduceLT, reduceIte, reduceCtorEq, Int.reduceBNe, Int.reduceBEq, q1, q2, q3, q4, hw, hd, hd2, aDrw_callv, callvDV_fn])) | (with_reducible refine And.intro ?_ ?_; (focus (first | omega | (intros; (repeat' (with_reducible apply And.intro)) <;> first | omega | (simp only [cP_len, cI_len, List.length_map, List.length_append, List.length_cons, List.length_nil, List.length_take]; omega))))) | (with_reducible apply And.intro) | ((first | refine callDV_pu (h1) (wkL_refl _) ?_ | refine callDV_pu (h2) (wkL_refl _) ?_ | refine callDV_pu (h3) (wkL_refl _) ?_ | refine callDV_pu (h4) (wkL_refl _) ?_ | refine callDV_pu (h5) (wkL_refl _) ?_ | refine callDV_pu (h6) (wkL_refl _) ?_ | refine callDV_pu (h7) (wkL_refl _) ?_ | refine callDV_pu (h8) (wkL_refl _) ?_ | refine callDV_pu (h9) (wkL_refl _) ?_ | (refine callDV_pu h10 ?_ ?_; (focus ((repeat' (first | exact wk_refl _ | exact wk_nils | exact wk_tsl _ _ _ | exact wk_full _ _ | exact wkL.nil | exact wkL_refl _ | refine wk_tup ?_ | refine wk_agg ?_ | refine wkL.cons ?_ ?_)); done)))); (try simp only [↓R1, R2, R3, R4, R5, Nat.reduceEqDiff, Nat.reduceAdd, Nat.reduceMul, Nat.reduceSub, Nat.reduceLeDiff, Nat.reduceLT, reduceIte, reduceCtorEq, Int.reduceBNe, Int.reduceBEq, q1, q2, q3, q4, hw, hd, hd2, aDrw_callv, callvDV_fn])))
  (refine endP_pu (by simp) (by first | (simp [rvsS, rvS]; done) | (simp only [rvsS, rvS, ↓R1, R2, R3, R4, R5, Nat.reduceEqDiff, Nat.reduceAdd, Nat.reduceMul, Nat.reduceSub, Nat.reduceLeDiff, Nat.reduceLT, reduceIte, reduceCtorEq, Int.reduceBNe, Int.reduceBEq, q1, q2, q3, q4, hw, hd, hd2, aDrw_callv, callvDV_fn]; try simp)) (wk_of_eq ?_) (by (repeat (first | exact St.le_refl _ | (refine St.le_new ?_ (by assumption)) | (refine St.le_newT ?_ (by assumption))))))
  (simp only [resAV, rvV, List.map_cons, List.map_nil, ↓R1, R2, R3, R4, R5, Nat.reduceEqDiff, Nat.reduceAdd, Nat.reduceMul, Nat.reduceSub, Nat.reduceLeDiff, Nat.reduceLT, reduceIte, reduceCtorEq, Int.reduceBNe, Int.reduceBEq, q1, q2, q3, q4, hw, hd, hd2, aDrw_callv, callvDV_fn])
  rfl
end Go.Proofs.YtncadbcjikekhaaGreatDoor
namespace Go.Proofs.YtncadbcjikekhaaGreatDoor
open Go.Abs Go.Lib
set_option linter.all false
set_option maxRecDepth 100000
def cmpE (a b : List Pl) : Int := bif checkS a != 0 then checkS a else checkS b
def cmpX (a b : List Pl) : Int := bif cmpE a b != 0 then 0 else cmpM a b
theorem p24 (a b : List Pl) (ha : a.length ≤ 1000000) (hb : b.length ≤ 1000000) : Pu Tryz.prog 24 [.agg [.sl false a.length (a.flatMap cP)], .agg [.sl false b.length (b.flatMap cP)]] (.tup [.int .i64 (cmpX a b), .int .i64 (cmpE a b)]) := by
  have q1 : True := trivial
  have q2 : True := trivial
  have q3 : True := trivial
  have q4 : True := trivial
  have hw : True := trivial
  have hd : True := trivial
  have hd2 : True := trivial
  have h1 := p31 a ha
  have h2 := p31 b hb
  by_cases ea : checkS a = 0
  · by_cases eb : checkS b = 0
    · obtain ⟨na, _⟩ := check_ok ea
      obtain ⟨nb, _⟩ := check_ok eb
      have h3 := p63 a b na nb ha hb
      have hE : cmpE a b = 0 := by unfold cmpE; rw [ea, eb]; rfl
      have hX : cmpX a b = cmpM a b := by unfold cmpX; rw [hE]; rfl
      rw [hE, hX]
      rw [ea] at h1
      rw [eb] at h2
      (refine Pu_intro c24 b24 (Nat.le_of_ble_eq_true rfl) fun σ => ?_; simp only [c24, ↓R1, R2, R3, R4, R5, Nat.reduceEqDiff, Nat.reduceAdd, Nat.reduceMul, Nat.reduceSub, Nat.reduceLeDiff, Nat.reduceLT, reduceIte, reduceCtorEq, Int.reduceBNe, Int.reduceBEq, q1, q2, q3, q4, hw, hd, hd2, beq_self_eq_true, bne_self_eq_false])
      repeat' (first | (with_reducible rw [allocV_eq]) | (refine gdV_split (fun hc => ?_) (fun hc => ?_) <;> (try simp only [hc, ↓R1, R2, R3, R4, R5, Nat.reduceEqDiff, Nat.reduceAdd, Nat.reduceMul, Nat.reduceSub, Nat.reduceLeDiff, Nat.reduceLT, reduceIte, reduceCtorEq, Int.reduceBNe, Int.reduceBEq, q1, q2, q3, q4, hw, hd, hd2, beq_self_eq_true, bne_self_eq_false])) | ((first | refine condV_split (fun hc => ?_) (fun hc => ?_) | (with_reducible intro β hβ; (try simp only [St.box_noneA, St.tip_noneA, St.tip_set, St.box_tip, St.box_lp, St.tip_lp] at hβ); (repeat (obtain ⟨⟨_, _⟩, hβ⟩ := hβ)); (try (have hbis := apart_is (by assumption) hβ; obtain ⟨_, _⟩ := hbis)))) <;> (try simp only [↓R1, R2, R3, R4, R5, Nat.reduceEqDiff, Nat.reduceAdd, Nat.reduceMul, Nat.reduceSub, Nat.reduceLeDiff, Nat.reduceLT, reduceIte, reduceCtorEq, Int.reduceBNe, Int.reduceBEq, q1, q2, q3, q4, hw, hd, hd2, beq_self_eq_true, bne_self_eq_false])) | (with_reducible refine And.intro ?_ ?_; (focus (first | omega | (intros; (repeat' (with_reducible apply And.intro)) <;> first | omega | (simp only [cP_len, cI_len, List.length_map, List.length_append, List.length_cons, List.length_nil, List.length_take]; omega))))) | (with_reducible apply And.intro) | ((first | refine Pu.to (h1) (wkL_refl _) ?_ | refine callDV_pu (h1) (wkL_refl _) ?_ | refine Pu.to (h2) (wkL_refl _) ?_ | refine callDV_pu (h2) (wkL_refl _) ?_ | refine Pu.to (h3) (wkL_refl _) ?_ | refine callDV_pu (h3) (wkL_refl _) ?_); (try simp only [↓R1, R2, R3, R4, R5, Nat.reduceEqDiff, Nat.reduceAdd, Nat.reduceMul, Nat.reduceSub, Nat.reduceLeDiff, Nat.reduceLT, reduceIte, reduceCtorEq, Int.reduceBNe, Int.reduceBEq, q1, q2, q3, q4, hw, hd, hd2, beq_self_eq_true, bne_self_eq_false])))
      (refine endP_pu (by simp) (by first | (simp [rvsS, rvS]; done) | (simp only [rvsS, rvS, ↓R1, R2, R3, R4, R5, Nat.reduceEqDiff, Nat.reduceAdd, Nat.reduceMul, Nat.reduceSub, Nat.reduceLeDiff, Nat.reduceLT, reduceIte, reduceCtorEq, Int.reduceBNe, Int.reduceBEq, q1, q2, q3, q4, hw, hd, hd2, beq_self_eq_true, bne_self_eq_false]; try simp)) (wk_of_eq ?_) (by (repeat (first | exact St.le_refl _ | (refine St.le_new ?_ (by assumption)) | (refine St.le_newT ?_ (by assumption))))))
      (simp only [resAV, rvV, List.map_cons, List.map_nil, ↓R1, R2, R3, R4, R5, Nat.reduceEqDiff, Nat.reduceAdd, Nat.reduceMul, Nat.reduceSub, Nat.reduceLeDiff, Nat.reduceLT, reduceIte, reduceCtorEq, Int.reduceBNe, Int.reduceBEq, q1, q2, q3, q4, hw, hd, hd2, beq_self_eq_true, bne_self_eq_false])
    · have hE : cmpE a b = checkS b := by unfold cmpE; rw [ea]; rfl
      have q2 : (checkS b != 0) = true := by rw [bne_iff_ne]; exact eb
      have q3 : (checkS b == 0) = false := by rw [beq_eq_false_iff_ne]; exact eb
      have hX : cmpX a b = 0 := by unfold cmpX; rw [hE, q2]; rfl
      rw [hE, hX]
      rw [ea] at h1
      (refine Pu_intro c24 b24 (Nat.le_of_ble_eq_true rfl) fun σ => ?_; simp only [c24, ↓R1, R2, R3, R4, R5, Nat.reduceEqDiff, Nat.reduceAdd, Nat.reduceMul, Nat.reduceSub, Nat.reduceLeDiff, Nat.reduceLT, reduceIte, reduceCtorEq, Int.reduceBNe, Int.reduceBEq, q1, q2, q3, q4, hw, hd, hd2, beq_self_eq_true, bne_self_eq_false])
      repeat' (first | (with_reducible rw [allocV_eq]) | (refine gdV_split (fun hc => ?_) (fun hc => ?_) <;> (try simp only [hc, ↓R1, R2, R3, R4, R5, Nat.reduceEqDiff, Nat.reduceAdd, Nat.reduceMul, Nat.reduceSub, Nat.reduceLeDiff, Nat.reduceLT, reduceIte, reduceCtorEq, Int.reduceBNe, Int.reduceBEq, q1, q2, q3, q4, hw, hd, hd2, beq_self_eq_true, bne_self_eq_false])) | ((first | refine condV_split (fun hc => ?_) (fun hc => ?_) | (with_reducible intro β hβ; (try simp only [St.box_noneA, St.tip_noneA, St.tip_set, St.box_tip, St.box_lp, St.tip_lp] at hβ); (repeat (obtain ⟨⟨_, _⟩, hβ⟩ := hβ)); (try (have hbis := apart_is (by assumption) hβ; obtain ⟨_, _⟩ := hbis)))) <;> (try simp only [↓R1, R2, R3, R4, R5, Nat.reduceEqDiff, Nat.reduceAdd, Nat.reduceMul, Nat.reduceSub, Nat.reduceLeDiff, Nat.reduceLT, reduceIte, reduceCtorEq, Int.reduceBNe, Int.reduceBEq, q1, q2, q3, q4, hw, hd, hd2, beq_self_eq_true, bne_self_eq_false])) | (with_reducible refine And.intro ?_ ?_; (focus (first | omega | (intros; (repeat' (with_reducible apply And.intro)) <;> first | omega | (simp only [cP_len, cI_len, List.length_map, List.length_append, List.length_cons, List.length_nil, List.length_take]; omega))))) | (with_reducible apply And.intro) | ((first | refine Pu.to (h1) (wkL_refl _) ?_ | refine callDV_pu (h1) (wkL_refl _) ?_ | refine Pu.to (h2) (wkL_refl _) ?_ | refine callDV_pu (h2) (wkL_refl _) ?_); (try simp only [↓R1, R2, R3, R4, R5, Nat.reduceEqDiff, Nat.reduceAdd, Nat.reduceMul, Nat.reduceSub, Nat.reduceLeDiff, Nat.reduceLT, reduceIte, reduceCtorEq, Int.reduceBNe, Int.reduceBEq, q1, q2, q3, q4, hw, hd, hd2, beq_self_eq_true, bne_self_eq_false])))
      (refine endP_pu (by simp) (by first | (simp [rvsS, rvS]; done) | (simp only [rvsS, rvS, ↓R1, R2, R3, R4, R5, Nat.reduceEqDiff, Nat.reduceAdd, Nat.reduceMul, Nat.reduceSub, Nat.reduceLeDiff, Nat.reduceLT, reduceIte, reduceCtorEq, Int.reduceBNe, Int.reduceBEq, q1, q2, q3, q4, hw, hd, hd2, beq_self_eq_true, bne_self_eq_false]; try simp)) (wk_of_eq ?_) (by (repeat (first | exact St.le_refl _ | (refine St.le_new ?_ (by assumption)) | (refine St.le_newT ?_ (by assumption))))))
      (simp only [resAV, rvV, List.map_cons, List.map_nil, ↓R1, R2, R3, R4, R5, Nat.reduceEqDiff, Nat.reduceAdd, Nat.reduceMul, Nat.reduceSub, Nat.reduceLeDiff, Nat.reduceLT, reduceIte, reduceCtorEq, Int.reduceBNe, Int.reduceBEq, q1, q2, q3, q4, hw, hd, hd2, beq_self_eq_true, bne_self_eq_false])
  · have q1 : (checkS a != 0) = true := by rw [bne_iff_ne]; exact ea
    have q3 : (checkS a == 0) = false := by rw [beq_eq_false_iff_ne]; exact ea
    have hE : cmpE a b = checkS a := by unfold cmpE; rw [q1]; rfl
    have hX : cmpX a b = 0 := by unfold cmpX; rw [hE, q1]; rfl
    rw [hE, hX]
    (refine Pu_intro c24 b24 (Nat.le_of_ble_eq_true rfl) fun σ => ?_; simp only [c24, ↓R1, R2, R3, R4, R5, Nat.reduceEqDiff, Nat.reduceAdd, Nat.reduceMul, Nat.reduceSub, Nat.reduceLeDiff, Nat.reduceLT, reduceIte, reduceCtorEq, Int.reduceBNe, Int.reduceBEq, q1, q2, q3, q4, hw, hd, hd2, beq_self_eq_true, bne_self_eq_false])
    repeat' (first | (with_reducible rw [allocV_eq]) | (refine gdV_split (fun hc => ?_) (fun hc => ?_) <;> (try simp only [hc, ↓R1, R2, R3, R4, R5, Nat.reduceEqDiff, Nat.reduceAdd, Nat.reduceMul, Nat.reduceSub, Nat.reduceLeDiff, Nat.reduceLT, reduceIte, reduceCtorEq, Int.reduceBNe, Int.reduceBEq, q1, q2, q3, q4, hw, hd, hd2, beq_self_eq_true, bne_self_eq_false])) | ((first | refine condV_split (fun hc => ?_) (fun hc => ?_) | (with_reducible intro β hβ; (try simp only [St.box_noneA, St.tip_noneA, St.tip_set, St.box_tip, St.box_lp, St.tip_lp] at hβ); (repeat (obtain ⟨⟨_, _⟩, hβ⟩ := hβ)); (try (have hbis := apart_is (by assumption) hβ; obtain ⟨_, _⟩ := hbis)))) <;> (try simp only [↓R1, R2, R3, R4, R5, Nat.reduceEqDiff, Nat.reduceAdd, Nat.reduceMul, Nat.reduceSub, Nat.reduceLeDiff, Nat.reduceLT, reduceIte, reduceCtorEq, Int.reduceBNe, Int.reduceBEq, q1, q2, q3, q4, hw, hd, hd2, beq_self_eq_true, bne_self_eq_false])) | (with_reducible refine And.intro ?_ ?_; (focus (first | omega | (intros; (repeat' (with_reducible apply And.intro)) <;> first | omega | (simp only [cP_len, cI_len, List.length_map, List.length_append, List.length_cons, List.length_nil, List.length_take]; omega))))) | (with_reducible apply And.intro) | ((first | refine Pu.to (h1) (wkL_refl _) ?_ | refine callDV_pu (h1) (wkL_refl _) ?_ | refine Pu.to (h2) (wkL_refl _) ?_ | refine callDV_pu (h2) (wkL_refl _) ?_); (try simp only [↓R1, R2, R3, R4, R5, Nat.reduceEqDiff, Nat.reduceAdd, Nat.reduceMul, Nat.reduceSub, Nat.reduceLeDiff, Nat.reduceLT, reduceIte, reduceCtorEq, Int.reduceBNe, Int.reduceBEq, q1, q2, q3, q4, hw, hd, hd2, beq_self_eq_true, bne_self_eq_false])))
    (refine endP_pu (by simp) (by first | (simp [rvsS, rvS]; done) | (simp only [rvsS, rvS, ↓R1, R2, R3, R4, R5, Nat.reduceEqDiff, Nat.reduceAdd, Nat.reduceMul, Nat.reduceSub, Nat.reduceLeDiff, Nat.reduceLT, reduceIte, reduceCtorEq, Int.reduceBNe, Int.reduceBEq, q1, q2, q3, q4, hw, hd, hd2, beq_self_eq_true, bne_self_eq_false]; try simp)) (wk_of_eq ?_) (by (repeat (first | exact St.le_refl _ | (refine St.le_new ?_ (by assumption)) | (refine St.le_newT ?_ (by assumption))))))
    (simp only [resAV, rvV, List.map_cons, List.map_nil, ↓R1, R2, R3, R4, R5, Nat.reduceEqDiff, Nat.reduceAdd, Nat.reduceMul, Nat.reduceSub, Nat.reduceLeDiff, Nat.reduceLT, reduceIte, reduceCtorEq, Int.reduceBNe, Int.reduceBEq, q1, q2, q3, q4, hw, hd, hd2, beq_self_eq_true, bne_self_eq_false])
end Go.Proofs.YtncadbcjikekhaaGreatDoor
