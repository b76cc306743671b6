/- Part 24 of the proof of RowAgain: an abstract semantics that is proved sound for the model, contracts of functions in it, and plain facts (RN1 RN2 RN3 RN4 RK1 RC2). No condition. -/
import Derived.Test.YtemddijemikleaaDoorKRowAgain23
set_option linter.all false
namespace Go.Proofs.YtemddijemikleaaDoor
open Go.Abs
set_option linter.all false
set_option maxRecDepth 100000
def isDig (b : UInt8) : Bool := !(decide ((b.toNat : Int) < 48) || decide ((57 : Int) < b.toNat))
def valN (l : List UInt8) : Nat := l.foldl (fun v b => 10 * v + (b.toNat - 48)) 0
/-- Are they digits as they should be? -/
def digOk (l : List UInt8) : Bool := decide (l.length ≤ 20) && (match l with | [] => false | c :: r => !(c == 48 && !r.isEmpty)) && l.all isDig
def natV (l : List UInt8) : AV := bif digOk l then .tup [.int .u64 ((valN l % 18446744073709551616 : Nat) : Int), .bool (decide (18446744073709551616 ≤ valN l)), .bool true] else .tup [.int .u64 0, .bool false, .bool false]
theorem valN_take (l : List UInt8) {k : Nat} (h : k < l.length) : valN (l.take (k + 1)) = 10 * valN (l.take k) + (l[k].toNat - 48) := by
  rw [← List.take_append_getElem h, valN, List.foldl_append]; rfl
theorem wrapu (n : Nat) : IntKind.u64.wrap (n : Int) = ((n % 18446744073709551616 : Nat) : Int) := by
  rw [IntKind.wrap_u64]; omega
theorem isDig_iff {b : UInt8} : isDig b = true ↔ 48 ≤ b.toNat ∧ b.toNat ≤ 57 := by
  simp only [isDig, Bool.not_eq_true', Bool.or_eq_false_iff, decide_eq_false_iff_not]; omega
def firstOk : List UInt8 → Bool
  | [] => false
  | c :: r => !(c == 48 && !r.isEmpty)
theorem digOk_eq (l : List UInt8) : digOk l = (decide (l.length ≤ 20) && firstOk l && l.all isDig) := by
  cases l <;> rfl
theorem shl3 (n : Nat) : IntKind.u64.wrap ((n : Int) * 2 ^ min (Int.toNat 3) IntKind.u64.bits) = ((8 * n % 18446744073709551616 : Nat) : Int) := by
  rw [show ((n : Int) * 2 ^ min (Int.toNat 3) IntKind.u64.bits) = ((8 * n : Nat) : Int) by rw [show (2 : Int) ^ min (Int.toNat 3) IntKind.u64.bits = 8 from rfl]; omega, wrapu]
theorem shl1 (n : Nat) : IntKind.u64.wrap ((n : Int) * 2 ^ min (Int.toNat 1) IntKind.u64.bits) = ((2 * n % 18446744073709551616 : Nat) : Int) := by
  rw [show ((n : Int) * 2 ^ min (Int.toNat 1) IntKind.u64.bits) = ((2 * n : Nat) : Int) by rw [show (2 : Int) ^ min (Int.toNat 1) IntKind.u64.bits = 2 from rfl]; omega, wrapu]
theorem add_mod (n : Nat) : IntKind.u64.wrap (((8 * n % 18446744073709551616 : Nat) : Int) + ((2 * n % 18446744073709551616 : Nat) : Int)) = ((10 * n % 18446744073709551616 : Nat) : Int) := by
  rw [show (((8 * n % 18446744073709551616 : Nat) : Int) + ((2 * n % 18446744073709551616 : Nat) : Int)) = ((8 * n % 18446744073709551616 + 2 * n % 18446744073709551616 : Nat) : Int) by omega, wrapu]
  congr 1; omega
theorem next_mod (V d : Nat) : IntKind.u64.wrap (((10 * (V % 18446744073709551616) % 18446744073709551616 : Nat) : Int) + (d : Int)) = (((10 * V + d) % 18446744073709551616 : Nat) : Int) := by
  rw [show (((10 * (V % 18446744073709551616) % 18446744073709551616 : Nat) : Int) + (d : Int)) = ((10 * (V % 18446744073709551616) % 18446744073709551616 + d : Nat) : Int) by omega, wrapu]
  congr 1; omega
theorem great_next (V d : Nat) (hd : d ≤ 9) : ((decide (18446744073709551616 ≤ V) || decide ((1844674407370955161 : Int) < ((V % 18446744073709551616 : Nat) : Int))) || decide ((((10 * V + d) % 18446744073709551616 : Nat) : Int) < ((10 * (V % 18446744073709551616) % 18446744073709551616 : Nat) : Int))) = decide (18446744073709551616 ≤ 10 * V + d) := by
  rw [Bool.eq_iff_iff]
  simp only [Bool.or_eq_true, decide_eq_true_eq]
  by_cases hV : 18446744073709551616 ≤ V
  · simp only [hV, true_or, true_iff]; omega
  · rw [Nat.mod_eq_of_lt (show V < 18446744073709551616 by omega)]
    by_cases hb : 1844674407370955161 < V
    · have h1 : (1844674407370955161 : Int) < (V : Int) := by omega
      simp only [h1, or_true, true_or, true_iff]; omega
    · rw [Nat.mod_eq_of_lt (show 10 * V < 18446744073709551616 by omega)]
      omega
theorem dig_sub {b : UInt8} (h : isDig b = true) : IntKind.u8.wrap ((b.toNat : Int) - 48) = ((b.toNat - 48 : Nat) : Int) ∧ b.toNat - 48 ≤ 9 ∧ IntKind.u64.wrap ((b.toNat - 48 : Nat) : Int) = ((b.toNat - 48 : Nat) : Int) := by
  have := isDig_iff.1 h
  refine ⟨by simp [IntKind.wrap, IntKind.signed, IntKind.bits]; omega, by omega, by rw [wrapu]; congr 1; omega⟩
set_option maxHeartbeats 4000000 in
theorem p43 (l : List UInt8) (hl : l.length ≤ 1000000) : Pu Tryd.prog 43 [.str l] (natV l) := by
  have q1 : True := trivial
  have q2 : True := trivial
  have q3 : True := trivial
  have q4 : True := trivial
  have q5 : True := trivial
  have q6 : True := trivial
  have q7 : True := trivial
  have hw : True := trivial
  have hd : True := trivial
  have e1 : True := trivial
  have e2 : True := trivial
  have e3 : True := trivial
  have e4 : True := trivial
  have e5 : True := trivial
  by_cases hnil : l = []
  · subst hnil
    have q1 : (([] : List UInt8) == []) = true := rfl
    have e : natV [] = .tup [.int .u64 0, .bool false, .bool false] := rfl
    rw [e]
    (refine Pu_intro c43 b43 (Nat.le_of_ble_eq_true rfl) fun σ => ?_; simp only [c43, ↓R1, R2, R3, R4, R5, Nat.reduceEqDiff, Nat.reduceAdd, Nat.reduceMul, Nat.reduceSub, Nat.reduceLeDiff, Nat.reduceLT, reduceIte, reduceCtorEq, Int.reduceBNe, Int.reduceBEq, q1, q2, q3, q4, q5, q6, q7, hw, hd, e1, e2, e3, e4, e5])
    repeat' (first | (with_reducible rw [allocV_eq]) | (refine gdV_split (fun hc => ?_) (fun hc => ?_) <;> (try simp only [hc, ↓R1, R2, R3, R4, R5, Nat.reduceEqDiff, Nat.reduceAdd, Nat.reduceMul, Nat.reduceSub, Nat.reduceLeDiff, Nat.reduceLT, reduceIte, reduceCtorEq, Int.reduceBNe, Int.reduceBEq, q1, q2, q3, q4, q5, q6, q7, hw, hd, e1, e2, e3, e4, e5])) | ((first | refine condV_split (fun hc => ?_) (fun hc => ?_) | (with_reducible intro β hβ; (try simp only [St.box_noneA, St.tip_noneA, St.tip_set, St.box_tip, St.box_lp, St.tip_lp] at hβ); (repeat (obtain ⟨⟨_, _⟩, hβ⟩ := hβ)); (try (have hbis := apart_is (by assumption) hβ; obtain ⟨_, _⟩ := hbis)))) <;> (try simp only [↓R1, R2, R3, R4, R5, Nat.reduceEqDiff, Nat.reduceAdd, Nat.reduceMul, Nat.reduceSub, Nat.reduceLeDiff, Nat.reduceLT, reduceIte, reduceCtorEq, Int.reduceBNe, Int.reduceBEq, q1, q2, q3, q4, q5, q6, q7, hw, hd, e1, e2, e3, e4, e5])) | (with_reducible refine And.intro ?_ ?_; (focus (first | omega | (intros; (repeat' (with_reducible apply And.intro)) <;> first | omega | (simp only [List.length_map]; omega))))) | (with_reducible apply And.intro))
    (refine endP_pu (by simp) (by first | (simp [rvsS, rvS]; done) | (simp only [rvsS, rvS, ↓R1, R2, R3, R4, R5, Nat.reduceEqDiff, Nat.reduceAdd, Nat.reduceMul, Nat.reduceSub, Nat.reduceLeDiff, Nat.reduceLT, reduceIte, reduceCtorEq, Int.reduceBNe, Int.reduceBEq, q1, q2, q3, q4, q5, q6, q7, hw, hd, e1, e2, e3, e4, e5]; try simp)) (wk_of_eq ?_) (by (repeat (first | exact St.le_refl _ | (refine St.le_new ?_ (by assumption)) | (refine St.le_newT ?_ (by assumption))))))
    (simp only [resAV, rvV, List.map_cons, List.map_nil, ↓R1, R2, R3, R4, R5, Nat.reduceEqDiff, Nat.reduceAdd, Nat.reduceMul, Nat.reduceSub, Nat.reduceLeDiff, Nat.reduceLT, reduceIte, reduceCtorEq, Int.reduceBNe, Int.reduceBEq, q1, q2, q3, q4, q5, q6, q7, hw, hd, e1, e2, e3, e4, e5])
  · obtain ⟨c, m, e⟩ : ∃ c m, l = c :: m := by
      cases l with
      | nil => exact (hnil rfl).elim
      | cons c m => exact ⟨c, m, rfl⟩
    have q1 : (l == []) = false := by rw [e]; rfl
    have hd : l[0]? = some c := by rw [e]; rfl
    have hl1 : 0 < l.length := by rw [e]; simp
    by_cases h20 : 20 < l.length
    · have q2 : decide ((20 : Int) < (l.length : Int)) = true := by rw [decide_eq_true_eq]; omega
      have e : natV l = .tup [.int .u64 0, .bool false, .bool false] := by
        have : decide (l.length ≤ 20) = false := by rw [decide_eq_false_iff_not]; omega
        rw [natV, digOk_eq, this]; rfl
      rw [e]
      (refine Pu_intro c43 b43 (Nat.le_of_ble_eq_true rfl) fun σ => ?_; simp only [c43, ↓R1, R2, R3, R4, R5, Nat.reduceEqDiff, Nat.reduceAdd, Nat.reduceMul, Nat.reduceSub, Nat.reduceLeDiff, Nat.reduceLT, reduceIte, reduceCtorEq, Int.reduceBNe, Int.reduceBEq, q1, q2, q3, q4, q5, q6, q7, hw, hd, e1, e2, e3, e4, e5])
      repeat' (first | (with_reducible rw [allocV_eq]) | (refine gdV_split (fun hc => ?_) (fun hc => ?_) <;> (try simp only [hc, ↓R1, R2, R3, R4, R5, Nat.reduceEqDiff, Nat.reduceAdd, Nat.reduceMul, Nat.reduceSub, Nat.reduceLeDiff, Nat.reduceLT, reduceIte, reduceCtorEq, Int.reduceBNe, Int.reduceBEq, q1, q2, q3, q4, q5, q6, q7, hw, hd, e1, e2, e3, e4, e5])) | ((first | refine condV_split (fun hc => ?_) (fun hc => ?_) | (with_reducible intro β hβ; (try simp only [St.box_noneA, St.tip_noneA, St.tip_set, St.box_tip, St.box_lp, St.tip_lp] at hβ); (repeat (obtain ⟨⟨_, _⟩, hβ⟩ := hβ)); (try (have hbis := apart_is (by assumption) hβ; obtain ⟨_, _⟩ := hbis)))) <;> (try simp only [↓R1, R2, R3, R4, R5, Nat.reduceEqDiff, Nat.reduceAdd, Nat.reduceMul, Nat.reduceSub, Nat.reduceLeDiff, Nat.reduceLT, reduceIte, reduceCtorEq, Int.reduceBNe, Int.reduceBEq, q1, q2, q3, q4, q5, q6, q7, hw, hd, e1, e2, e3, e4, e5])) | (with_reducible refine And.intro ?_ ?_; (focus (first | omega | (intros; (repeat' (with_reducible apply And.intro)) <;> first | omega | (simp only [List.length_map]; omega))))) | (with_reducible apply And.intro))
      (refine endP_pu (by simp) (by first | (simp [rvsS, rvS]; done) | (simp only [rvsS, rvS, ↓R1, R2, R3, R4, R5, Nat.reduceEqDiff, Nat.reduceAdd, Nat.reduceMul, Nat.reduceSub, Nat.reduceLeDiff, Nat.reduceLT, reduceIte, reduceCtorEq, Int.reduceBNe, Int.reduceBEq, q1, q2, q3, q4, q5, q6, q7, hw, hd, e1, e2, e3, e4, e5]; try simp)) (wk_of_eq ?_) (by (repeat (first | exact St.le_refl _ | (refine St.le_new ?_ (by assumption)) | (refine St.le_newT ?_ (by assumption))))))
      (simp only [resAV, rvV, List.map_cons, List.map_nil, ↓R1, R2, R3, R4, R5, Nat.reduceEqDiff, Nat.reduceAdd, Nat.reduceMul, Nat.reduceSub, Nat.reduceLeDiff, Nat.reduceLT, reduceIte, reduceCtorEq, Int.reduceBNe, Int.reduceBEq, q1, q2, q3, q4, q5, q6, q7, hw, hd, e1, e2, e3, e4, e5])
    · have q2 : decide ((20 : Int) < (l.length : Int)) = false := by rw [decide_eq_false_iff_not]; omega
      have hd20 : decide (l.length ≤ 20) = true := by rw [decide_eq_true_eq]; omega
      have q3 : ((c.toNat : Int) == 48) = decide (c = 48) := u8_eq c 48
      have hfo : firstOk l = !(decide (c = 48) && decide ((1 : Int) < (l.length : Int))) := by
        rw [e]
        show (!(c == 48 && !m.isEmpty)) = _
        have h1 : (c == 48) = decide (c = 48) := by rw [Bool.eq_iff_iff]; simp
        have h2 : (!m.isEmpty) = decide ((1 : Int) < ((c :: m).length : Int)) := by
          cases m with
          | nil => rfl
          | cons x m => rw [Bool.eq_iff_iff]; simp; omega
        rw [h1, h2]
      by_cases hz : (decide (c = 48) && decide ((1 : Int) < (l.length : Int))) = true
      · have e : natV l = .tup [.int .u64 0, .bool false, .bool false] := by
          rw [natV, digOk_eq, hfo, hz]; simp
        rw [Bool.and_eq_true] at hz
        have q4 := hz.1
        have q5 := hz.2
        rw [e]
        (refine Pu_intro c43 b43 (Nat.le_of_ble_eq_true rfl) fun σ => ?_; simp only [c43, ↓R1, R2, R3, R4, R5, Nat.reduceEqDiff, Nat.reduceAdd, Nat.reduceMul, Nat.reduceSub, Nat.reduceLeDiff, Nat.reduceLT, reduceIte, reduceCtorEq, Int.reduceBNe, Int.reduceBEq, q1, q2, q3, q4, q5, q6, q7, hw, hd, e1, e2, e3, e4, e5])
        repeat' (first | (with_reducible rw [allocV_eq]) | (refine gdV_split (fun hc => ?_) (fun hc => ?_) <;> (try simp only [hc, ↓R1, R2, R3, R4, R5, Nat.reduceEqDiff, Nat.reduceAdd, Nat.reduceMul, Nat.reduceSub, Nat.reduceLeDiff, Nat.reduceLT, reduceIte, reduceCtorEq, Int.reduceBNe, Int.reduceBEq, q1, q2, q3, q4, q5, q6, q7, hw, hd, e1, e2, e3, e4, e5])) | ((first | refine condV_split (fun hc => ?_) (fun hc => ?_) | (with_reducible intro β hβ; (try simp only [St.box_noneA, St.tip_noneA, St.tip_set, St.box_tip, St.box_lp, St.tip_lp] at hβ); (repeat (obtain ⟨⟨_, _⟩, hβ⟩ := hβ)); (try (have hbis := apart_is (by assumption) hβ; obtain ⟨_, _⟩ := hbis)))) <;> (try simp only [↓R1, R2, R3, R4, R5, Nat.reduceEqDiff, Nat.reduceAdd, Nat.reduceMul, Nat.reduceSub, Nat.reduceLeDiff, Nat.reduceLT, reduceIte, reduceCtorEq, Int.reduceBNe, Int.reduceBEq, q1, q2, q3, q4, q5, q6, q7, hw, hd, e1, e2, e3, e4, e5])) | (with_reducible refine And.intro ?_ ?_; (focus (first | omega | (intros; (repeat' (with_reducible apply And.intro)) <;> first | omega | (simp only [List.length_map]; omega))))) | (with_reducible apply And.intro))
        all_goals first | omega | skip
        (refine endP_pu (by simp) (by first | (simp [rvsS, rvS]; done) | (simp only [rvsS, rvS, ↓R1, R2, R3, R4, R5, Nat.reduceEqDiff, Nat.reduceAdd, Nat.reduceMul, Nat.reduceSub, Nat.reduceLeDiff, Nat.reduceLT, reduceIte, reduceCtorEq, Int.reduceBNe, Int.reduceBEq, q1, q2, q3, q4, q5, q6, q7, hw, hd, e1, e2, e3, e4, e5]; try simp)) (wk_of_eq ?_) (by (repeat (first | exact St.le_refl _ | (refine St.le_new ?_ (by assumption)) | (refine St.le_newT ?_ (by assumption))))))
        (simp only [resAV, rvV, List.map_cons, List.map_nil, ↓R1, R2, R3, R4, R5, Nat.reduceEqDiff, Nat.reduceAdd, Nat.reduceMul, Nat.reduceSub, Nat.reduceLeDiff, Nat.reduceLT, reduceIte, reduceCtorEq, Int.reduceBNe, Int.reduceBEq, q1, q2, q3, q4, q5, q6, q7, hw, hd, e1, e2, e3, e4, e5])
      · have q4 : (decide (c = 48) && decide ((1 : Int) < (l.length : Int))) = false := by simpa using hz
        have hno : firstOk l = true := by rw [hfo, q4]; rfl
        have hnv : natV l = bif l.all isDig then .tup [.int .u64 ((valN l % 18446744073709551616 : Nat) : Int), .bool (decide (18446744073709551616 ≤ valN l)), .bool true] else .tup [.int .u64 0, .bool false, .bool false] := by
          rw [natV, digOk_eq, hno, hd20, Bool.true_and, Bool.true_and]
        rw [hnv]
        (refine Pu_intro c43 b43 (Nat.le_of_ble_eq_true rfl) fun σ => ?_; simp only [c43, ↓R1, R2, R3, R4, R5, Nat.reduceEqDiff, Nat.reduceAdd, Nat.reduceMul, Nat.reduceSub, Nat.reduceLeDiff, Nat.reduceLT, reduceIte, reduceCtorEq, Int.reduceBNe, Int.reduceBEq, q1, q2, q3, q4, q5, q6, q7, hw, hd, e1, e2, e3, e4, e5])
        repeat' (first | (with_reducible rw [allocV_eq]) | (refine gdV_split (fun hc => ?_) (fun hc => ?_) <;> (try simp only [hc, ↓R1, R2, R3, R4, R5, Nat.reduceEqDiff, Nat.reduceAdd, Nat.reduceMul, Nat.reduceSub, Nat.reduceLeDiff, Nat.reduceLT, reduceIte, reduceCtorEq, Int.reduceBNe, Int.reduceBEq, q1, q2, q3, q4, q5, q6, q7, hw, hd, e1, e2, e3, e4, e5])) | ((first | refine condV_split (fun hc => ?_) (fun hc => ?_) | (with_reducible intro β hβ; (try simp only [St.box_noneA, St.tip_noneA, St.tip_set, St.box_tip, St.box_lp, St.tip_lp] at hβ); (repeat (obtain ⟨⟨_, _⟩, hβ⟩ := hβ)); (try (have hbis := apart_is (by assumption) hβ; obtain ⟨_, _⟩ := hbis)))) <;> (try simp only [↓R1, R2, R3, R4, R5, Nat.reduceEqDiff, Nat.reduceAdd, Nat.reduceMul, Nat.reduceSub, Nat.reduceLeDiff, Nat.reduceLT, reduceIte, reduceCtorEq, Int.reduceBNe, Int.reduceBEq, q1, q2, q3, q4, q5, q6, q7, hw, hd, e1, e2, e3, e4, e5])) | (with_reducible refine And.intro ?_ ?_; (focus (first | omega | (intros; (repeat' (with_reducible apply And.intro)) <;> first | omega | (simp only [List.length_map]; omega))))) | (with_reducible apply And.intro))
        all_goals first | omega | (rw [q4]; done) | skip
        clear hd
        refine loopV_for l.length (fun k => [(2, .int .u64 ((valN (l.take k) % 18446744073709551616 : Nat) : Int)), (3, .bool (decide (18446744073709551616 ≤ valN (l.take k)))), (26, .sl false l.length (l.map fun b => .int .u8 b.toNat)), (27, .int .i64 (l.length : Nat)), (28, .int .i64 (k : Nat))]) (fun _ => σ) (fun k => (l.take k).all isDig = true) (by simp [subF, slot, wk_refl, valN]) (St.le_refl _) (by simp) (fun k hk hI => ?_)
        by_cases hlt : k < l.length
        · have q6 : decide ((k : Int) < (l.length : Int)) = true := by rw [decide_eq_true_eq]; omega
          have hd := bytesL_get l hlt
          have hw : IntKind.i64.wrap ((k : Int) + 1) = ((k + 1 : Nat) : Int) := by rw [wrap64 (by omega) (by omega)]; omega
          cases hb : isDig l[k] with
          | true =>
            have q7 : (decide ((l[k].toNat : Int) < 48) || decide ((57 : Int) < (l[k].toNat : Int))) = false := by
              simp only [isDig, Bool.not_eq_true'] at hb; exact hb
            obtain ⟨d1, d2, d3⟩ := dig_sub hb
            have e1 := shl3 (valN (l.take k) % 18446744073709551616)
            have e2 := shl1 (valN (l.take k) % 18446744073709551616)
            have e3 := add_mod (valN (l.take k) % 18446744073709551616)
            have e4 := next_mod (valN (l.take k)) (l[k].toNat - 48)
            have e5 := d1
            have q5 := d3
            have hg := great_next (valN (l.take k)) (l[k].toNat - 48) d2
            have hv := valN_take l hlt
            simp only [q6, ↓R1, R2, R3, R4, R5, Nat.reduceEqDiff, Nat.reduceAdd, Nat.reduceMul, Nat.reduceSub, Nat.reduceLeDiff, Nat.reduceLT, reduceIte, reduceCtorEq, Int.reduceBNe, Int.reduceBEq, q1, q2, q3, q4, q5, q6, q7, hw, hd, e1, e2, e3, e4, e5]
            repeat' (first | (with_reducible rw [allocV_eq]) | (refine gdV_split (fun hc => ?_) (fun hc => ?_) <;> (try simp only [hc, ↓R1, R2, R3, R4, R5, Nat.reduceEqDiff, Nat.reduceAdd, Nat.reduceMul, Nat.reduceSub, Nat.reduceLeDiff, Nat.reduceLT, reduceIte, reduceCtorEq, Int.reduceBNe, Int.reduceBEq, q1, q2, q3, q4, q5, q6, q7, hw, hd, e1, e2, e3, e4, e5])) | ((first | refine condV_split (fun hc => ?_) (fun hc => ?_) | (with_reducible intro β hβ; (try simp only [St.box_noneA, St.tip_noneA, St.tip_set, St.box_tip, St.box_lp, St.tip_lp] at hβ); (repeat (obtain ⟨⟨_, _⟩, hβ⟩ := hβ)); (try (have hbis := apart_is (by assumption) hβ; obtain ⟨_, _⟩ := hbis)))) <;> (try simp only [↓R1, R2, R3, R4, R5, Nat.reduceEqDiff, Nat.reduceAdd, Nat.reduceMul, Nat.reduceSub, Nat.reduceLeDiff, Nat.reduceLT, reduceIte, reduceCtorEq, Int.reduceBNe, Int.reduceBEq, q1, q2, q3, q4, q5, q6, q7, hw, hd, e1, e2, e3, e4, e5])) | (with_reducible refine And.intro ?_ ?_; (focus (first | omega | (intros; (repeat' (with_reducible apply And.intro)) <;> first | omega | (simp only [List.length_map]; omega))))) | (with_reducible apply And.intro))
            all_goals first | (simp only [List.length_map]; omega) | omega | skip
            · rw [all_take _ _ hlt, hI, hb]; rfl
            · rw [hv, ← hg]; simp [subF, slot, wk_refl]
            · exact St.le_refl _
          | false =>
            have q7 : (decide ((l[k].toNat : Int) < 48) || decide ((57 : Int) < (l[k].toNat : Int))) = true := by
              simp only [isDig, Bool.not_eq_false'] at hb; exact hb
            have hall : l.all isDig = false := by
              rw [← Bool.not_eq_true, List.all_eq_true]
              intro h
              have := h l[k] (List.getElem_mem hlt)
              rw [hb] at this; cases this
            rw [hall]
            simp only [q6, ↓R1, R2, R3, R4, R5, Nat.reduceEqDiff, Nat.reduceAdd, Nat.reduceMul, Nat.reduceSub, Nat.reduceLeDiff, Nat.reduceLT, reduceIte, reduceCtorEq, Int.reduceBNe, Int.reduceBEq, q1, q2, q3, q4, q5, q6, q7, hw, hd, e1, e2, e3, e4, e5]
            repeat' (first | (with_reducible rw [allocV_eq]) | (refine gdV_split (fun hc => ?_) (fun hc => ?_) <;> (try simp only [hc, ↓R1, R2, R3, R4, R5, Nat.reduceEqDiff, Nat.reduceAdd, Nat.reduceMul, Nat.reduceSub, Nat.reduceLeDiff, Nat.reduceLT, reduceIte, reduceCtorEq, Int.reduceBNe, Int.reduceBEq, q1, q2, q3, q4, q5, q6, q7, hw, hd, e1, e2, e3, e4, e5])) | ((first | refine condV_split (fun hc => ?_) (fun hc => ?_) | (with_reducible intro β hβ; (try simp only [St.box_noneA, St.tip_noneA, St.tip_set, St.box_tip, St.box_lp, St.tip_lp] at hβ); (repeat (obtain ⟨⟨_, _⟩, hβ⟩ := hβ)); (try (have hbis := apart_is (by assumption) hβ; obtain ⟨_, _⟩ := hbis)))) <;> (try simp only [↓R1, R2, R3, R4, R5, Nat.reduceEqDiff, Nat.reduceAdd, Nat.reduceMul, Nat.reduceSub, Nat.reduceLeDiff, Nat.reduceLT, reduceIte, reduceCtorEq, Int.reduceBNe, Int.reduceBEq, q1, q2, q3, q4, q5, q6, q7, hw, hd, e1, e2, e3, e4, e5])) | (with_reducible refine And.intro ?_ ?_; (focus (first | omega | (intros; (repeat' (with_reducible apply And.intro)) <;> first | omega | (simp only [List.length_map]; omega))))) | (with_reducible apply And.intro))
            all_goals first | (simp only [List.length_map]; omega) | omega | skip
            (refine endP_pu (by simp) (by first | (simp [rvsS, rvS]; done) | (simp only [rvsS, rvS, ↓R1, R2, R3, R4, R5, Nat.reduceEqDiff, Nat.reduceAdd, Nat.reduceMul, Nat.reduceSub, Nat.reduceLeDiff, Nat.reduceLT, reduceIte, reduceCtorEq, Int.reduceBNe, Int.reduceBEq, q1, q2, q3, q4, q5, q6, q7, hw, hd, e1, e2, e3, e4, e5]; try simp)) (wk_of_eq ?_) (by (repeat (first | exact St.le_refl _ | (refine St.le_new ?_ (by assumption)) | (refine St.le_newT ?_ (by assumption))))))
            (simp only [resAV, rvV, List.map_cons, List.map_nil, ↓R1, R2, R3, R4, R5, Nat.reduceEqDiff, Nat.reduceAdd, Nat.reduceMul, Nat.reduceSub, Nat.reduceLeDiff, Nat.reduceLT, reduceIte, reduceCtorEq, Int.reduceBNe, Int.reduceBEq, q1, q2, q3, q4, q5, q6, q7, hw, hd, e1, e2, e3, e4, e5])
            all_goals rfl
        · have hke : k = l.length := by omega
          subst hke
          have q6 : decide ((l.length : Int) < (l.length : Int)) = false := by simp
          rw [List.take_length] at hI ⊢
          rw [hI]
          simp only [q6, ↓R1, R2, R3, R4, R5, Nat.reduceEqDiff, Nat.reduceAdd, Nat.reduceMul, Nat.reduceSub, Nat.reduceLeDiff, Nat.reduceLT, reduceIte, reduceCtorEq, Int.reduceBNe, Int.reduceBEq, q1, q2, q3, q4, q5, q6, q7, hw, hd, e1, e2, e3, e4, e5]
          repeat' (first | (with_reducible rw [allocV_eq]) | (refine gdV_split (fun hc => ?_) (fun hc => ?_) <;> (try simp only [hc, ↓R1, R2, R3, R4, R5, Nat.reduceEqDiff, Nat.reduceAdd, Nat.reduceMul, Nat.reduceSub, Nat.reduceLeDiff, Nat.reduceLT, reduceIte, reduceCtorEq, Int.reduceBNe, Int.reduceBEq, q1, q2, q3, q4, q5, q6, q7, hw, hd, e1, e2, e3, e4, e5])) | ((first | refine condV_split (fun hc => ?_) (fun hc => ?_) | (with_reducible intro β hβ; (try simp only [St.box_noneA, St.tip_noneA, St.tip_set, St.box_tip, St.box_lp, St.tip_lp] at hβ); (repeat (obtain ⟨⟨_, _⟩, hβ⟩ := hβ)); (try (have hbis := apart_is (by assumption) hβ; obtain ⟨_, _⟩ := hbis)))) <;> (try simp only [↓R1, R2, R3, R4, R5, Nat.reduceEqDiff, Nat.reduceAdd, Nat.reduceMul, Nat.reduceSub, Nat.reduceLeDiff, Nat.reduceLT, reduceIte, reduceCtorEq, Int.reduceBNe, Int.reduceBEq, q1, q2, q3, q4, q5, q6, q7, hw, hd, e1, e2, e3, e4, e5])) | (with_reducible refine And.intro ?_ ?_; (focus (first | omega | (intros; (repeat' (with_reducible apply And.intro)) <;> first | omega | (simp only [List.length_map]; omega))))) | (with_reducible apply And.intro))
          (refine endP_pu (by simp) (by first | (simp [rvsS, rvS]; done) | (simp only [rvsS, rvS, ↓R1, R2, R3, R4, R5, Nat.reduceEqDiff, Nat.reduceAdd, Nat.reduceMul, Nat.reduceSub, Nat.reduceLeDiff, Nat.reduceLT, reduceIte, reduceCtorEq, Int.reduceBNe, Int.reduceBEq, q1, q2, q3, q4, q5, q6, q7, hw, hd, e1, e2, e3, e4, e5]; try simp)) (wk_of_eq ?_) (by (repeat (first | exact St.le_refl _ | (refine St.le_new ?_ (by assumption)) | (refine St.le_newT ?_ (by assumption))))))
          (simp only [resAV, rvV, List.map_cons, List.map_nil, ↓R1, R2, R3, R4, R5, Nat.reduceEqDiff, Nat.reduceAdd, Nat.reduceMul, Nat.reduceSub, Nat.reduceLeDiff, Nat.reduceLT, reduceIte, reduceCtorEq, Int.reduceBNe, Int.reduceBEq, q1, q2, q3, q4, q5, q6, q7, hw, hd, e1, e2, e3, e4, e5])
          all_goals rfl
end Go.Proofs.YtemddijemikleaaDoor
namespace Go.Proofs.YtemddijemikleaaDoor
open Go.Abs
set_option linter.all false
set_option maxRecDepth 100000
def numV (q : Bool) (t : List UInt8) (lo hi : Int) : AV :=
  bif q || !digOk t then .tup [.int .u64 0, .int .i64 3]
  else bif (decide (18446744073709551616 ≤ valN t) || decide (((valN t % 18446744073709551616 : Nat) : Int) < lo)) || decide (hi < ((valN t % 18446744073709551616 : Nat) : Int)) then .tup [.int .u64 0, .int .i64 2]
  else .tup [.int .u64 ((valN t % 18446744073709551616 : Nat) : Int), .int .i64 0]
set_option maxHeartbeats 2000000 in
theorem p17 (q : Bool) (t : List UInt8) (a lo hi : Int) (hl : t.length ≤ 1000000) : Pu Tryd.prog 17 [.agg [.bool q, .str t, .int .i64 a], .int .u64 lo, .int .u64 hi] (numV q t lo hi) := by
  have q1 : True := trivial
  have q2 : True := trivial
  have q3 : True := trivial
  have q4 : True := trivial
  have q5 : True := trivial
  have q6 : True := trivial
  have q7 : True := trivial
  have hp := p43 t hl
  cases hd : digOk t with
  | false =>
    simp only [natV, hd, cond_false] at hp
    simp only [numV, hd, Bool.not_false, Bool.or_true, cond_true]
    (refine Pu_intro c17 b17 (Nat.le_of_ble_eq_true rfl) fun σ => ?_; simp only [c17, ↓R1, R2, R3, R4, R5, Nat.reduceEqDiff, Nat.reduceAdd, Nat.reduceMul, Nat.reduceSub, Nat.reduceLeDiff, Nat.reduceLT, reduceIte, reduceCtorEq, Int.reduceBNe, Int.reduceBEq, q1, q2, q3, q4, q5, q6, q7])
    repeat' (first | (with_reducible rw [allocV_eq]) | (refine gdV_split (fun hc => ?_) (fun hc => ?_) <;> (try simp only [hc, ↓R1, R2, R3, R4, R5, Nat.reduceEqDiff, Nat.reduceAdd, Nat.reduceMul, Nat.reduceSub, Nat.reduceLeDiff, Nat.reduceLT, reduceIte, reduceCtorEq, Int.reduceBNe, Int.reduceBEq, q1, q2, q3, q4, q5, q6, q7])) | ((first | refine condV_split (fun hc => ?_) (fun hc => ?_) | (with_reducible intro β hβ; (try simp only [St.box_noneA, St.tip_noneA, St.tip_set, St.box_tip, St.box_lp, St.tip_lp] at hβ); (repeat (obtain ⟨⟨_, _⟩, hβ⟩ := hβ)); (try (have hbis := apart_is (by assumption) hβ; obtain ⟨_, _⟩ := hbis)))) <;> (try simp only [↓R1, R2, R3, R4, R5, Nat.reduceEqDiff, Nat.reduceAdd, Nat.reduceMul, Nat.reduceSub, Nat.reduceLeDiff, Nat.reduceLT, reduceIte, reduceCtorEq, Int.reduceBNe, Int.reduceBEq, q1, q2, q3, q4, q5, q6, q7])) | (with_reducible refine And.intro ?_ ?_; (focus (first | omega | (intros; (repeat' (with_reducible apply And.intro)) <;> first | omega | (simp only [List.length_map]; omega))))) | (with_reducible apply And.intro) | ((first | refine Pu.to (hp) (wkL_refl _) ?_ | refine callDV_pu (hp) (wkL_refl _) ?_); (try simp only [↓R1, R2, R3, R4, R5, Nat.reduceEqDiff, Nat.reduceAdd, Nat.reduceMul, Nat.reduceSub, Nat.reduceLeDiff, Nat.reduceLT, reduceIte, reduceCtorEq, Int.reduceBNe, Int.reduceBEq, q1, q2, q3, q4, q5, q6, q7])))
    (refine endP_pu (by simp) (by first | (simp [rvsS, rvS]; done) | (simp only [rvsS, rvS, ↓R1, R2, R3, R4, R5, Nat.reduceEqDiff, Nat.reduceAdd, Nat.reduceMul, Nat.reduceSub, Nat.reduceLeDiff, Nat.reduceLT, reduceIte, reduceCtorEq, Int.reduceBNe, Int.reduceBEq, q1, q2, q3, q4, q5, q6, q7]; try simp)) (wk_of_eq ?_) (by (repeat (first | exact St.le_refl _ | (refine St.le_new ?_ (by assumption)) | (refine St.le_newT ?_ (by assumption))))))
    (simp only [resAV, rvV, List.map_cons, List.map_nil, ↓R1, R2, R3, R4, R5, Nat.reduceEqDiff, Nat.reduceAdd, Nat.reduceMul, Nat.reduceSub, Nat.reduceLeDiff, Nat.reduceLT, reduceIte, reduceCtorEq, Int.reduceBNe, Int.reduceBEq, q1, q2, q3, q4, q5, q6, q7])
  | true =>
    simp only [natV, hd, cond_true] at hp
    cases q with
    | true =>
      simp only [numV, Bool.true_or, cond_true]
      (refine Pu_intro c17 b17 (Nat.le_of_ble_eq_true rfl) fun σ => ?_; simp only [c17, ↓R1, R2, R3, R4, R5, Nat.reduceEqDiff, Nat.reduceAdd, Nat.reduceMul, Nat.reduceSub, Nat.reduceLeDiff, Nat.reduceLT, reduceIte, reduceCtorEq, Int.reduceBNe, Int.reduceBEq, q1, q2, q3, q4, q5, q6, q7])
      repeat' (first | (with_reducible rw [allocV_eq]) | (refine gdV_split (fun hc => ?_) (fun hc => ?_) <;> (try simp only [hc, ↓R1, R2, R3, R4, R5, Nat.reduceEqDiff, Nat.reduceAdd, Nat.reduceMul, Nat.reduceSub, Nat.reduceLeDiff, Nat.reduceLT, reduceIte, reduceCtorEq, Int.reduceBNe, Int.reduceBEq, q1, q2, q3, q4, q5, q6, q7])) | ((first | refine condV_split (fun hc => ?_) (fun hc => ?_) | (with_reducible intro β hβ; (try simp only [St.box_noneA, St.tip_noneA, St.tip_set, St.box_tip, St.box_lp, St.tip_lp] at hβ); (repeat (obtain ⟨⟨_, _⟩, hβ⟩ := hβ)); (try (have hbis := apart_is (by assumption) hβ; obtain ⟨_, _⟩ := hbis)))) <;> (try simp only [↓R1, R2, R3, R4, R5, Nat.reduceEqDiff, Nat.reduceAdd, Nat.reduceMul, Nat.reduceSub, Nat.reduceLeDiff, Nat.reduceLT, reduceIte, reduceCtorEq, Int.reduceBNe, Int.reduceBEq, q1, q2, q3, q4, q5, q6, q7])) | (with_reducible refine And.intro ?_ ?_; (focus (first | omega | (intros; (repeat' (with_reducible apply And.intro)) <;> first | omega | (simp only [List.length_map]; omega))))) | (with_reducible apply And.intro) | ((first | refine Pu.to (hp) (wkL_refl _) ?_ | refine callDV_pu (hp) (wkL_refl _) ?_); (try simp only [↓R1, R2, R3, R4, R5, Nat.reduceEqDiff, Nat.reduceAdd, Nat.reduceMul, Nat.reduceSub, Nat.reduceLeDiff, Nat.reduceLT, reduceIte, reduceCtorEq, Int.reduceBNe, Int.reduceBEq, q1, q2, q3, q4, q5, q6, q7])))
      (refine endP_pu (by simp) (by first | (simp [rvsS, rvS]; done) | (simp only [rvsS, rvS, ↓R1, R2, R3, R4, R5, Nat.reduceEqDiff, Nat.reduceAdd, Nat.reduceMul, Nat.reduceSub, Nat.reduceLeDiff, Nat.reduceLT, reduceIte, reduceCtorEq, Int.reduceBNe, Int.reduceBEq, q1, q2, q3, q4, q5, q6, q7]; try simp)) (wk_of_eq ?_) (by (repeat (first | exact St.le_refl _ | (refine St.le_new ?_ (by assumption)) | (refine St.le_newT ?_ (by assumption))))))
      (simp only [resAV, rvV, List.map_cons, List.map_nil, ↓R1, R2, R3, R4, R5, Nat.reduceEqDiff, Nat.reduceAdd, Nat.reduceMul, Nat.reduceSub, Nat.reduceLeDiff, Nat.reduceLT, reduceIte, reduceCtorEq, Int.reduceBNe, Int.reduceBEq, q1, q2, q3, q4, q5, q6, q7])
    | false =>
      simp only [numV, hd, Bool.not_true, Bool.or_false, cond_false]
      cases hb : (decide (18446744073709551616 ≤ valN t) || decide (((valN t % 18446744073709551616 : Nat) : Int) < lo)) || decide (hi < ((valN t % 18446744073709551616 : Nat) : Int)) with
      | true =>
        have q1 := hb
        (refine Pu_intro c17 b17 (Nat.le_of_ble_eq_true rfl) fun σ => ?_; simp only [c17, ↓R1, R2, R3, R4, R5, Nat.reduceEqDiff, Nat.reduceAdd, Nat.reduceMul, Nat.reduceSub, Nat.reduceLeDiff, Nat.reduceLT, reduceIte, reduceCtorEq, Int.reduceBNe, Int.reduceBEq, q1, q2, q3, q4, q5, q6, q7])
        repeat' (first | (with_reducible rw [allocV_eq]) | (refine gdV_split (fun hc => ?_) (fun hc => ?_) <;> (try simp only [hc, ↓R1, R2, R3, R4, R5, Nat.reduceEqDiff, Nat.reduceAdd, Nat.reduceMul, Nat.reduceSub, Nat.reduceLeDiff, Nat.reduceLT, reduceIte, reduceCtorEq, Int.reduceBNe, Int.reduceBEq, q1, q2, q3, q4, q5, q6, q7])) | ((first | refine condV_split (fun hc => ?_) (fun hc => ?_) | (with_reducible intro β hβ; (try simp only [St.box_noneA, St.tip_noneA, St.tip_set, St.box_tip, St.box_lp, St.tip_lp] at hβ); (repeat (obtain ⟨⟨_, _⟩, hβ⟩ := hβ)); (try (have hbis := apart_is (by assumption) hβ; obtain ⟨_, _⟩ := hbis)))) <;> (try simp only [↓R1, R2, R3, R4, R5, Nat.reduceEqDiff, Nat.reduceAdd, Nat.reduceMul, Nat.reduceSub, Nat.reduceLeDiff, Nat.reduceLT, reduceIte, reduceCtorEq, Int.reduceBNe, Int.reduceBEq, q1, q2, q3, q4, q5, q6, q7])) | (with_reducible refine And.intro ?_ ?_; (focus (first | omega | (intros; (repeat' (with_reducible apply And.intro)) <;> first | omega | (simp only [List.length_map]; omega))))) | (with_reducible apply And.intro) | ((first | refine Pu.to (hp) (wkL_refl _) ?_ | refine callDV_pu (hp) (wkL_refl _) ?_); (try simp only [↓R1, R2, R3, R4, R5, Nat.reduceEqDiff, Nat.reduceAdd, Nat.reduceMul, Nat.reduceSub, Nat.reduceLeDiff, Nat.reduceLT, reduceIte, reduceCtorEq, Int.reduceBNe, Int.reduceBEq, q1, q2, q3, q4, q5, q6, q7])))
        (refine endP_pu (by simp) (by first | (simp [rvsS, rvS]; done) | (simp only [rvsS, rvS, ↓R1, R2, R3, R4, R5, Nat.reduceEqDiff, Nat.reduceAdd, Nat.reduceMul, Nat.reduceSub, Nat.reduceLeDiff, Nat.reduceLT, reduceIte, reduceCtorEq, Int.reduceBNe, Int.reduceBEq, q1, q2, q3, q4, q5, q6, q7]; try simp)) (wk_of_eq ?_) (by (repeat (first | exact St.le_refl _ | (refine St.le_new ?_ (by assumption)) | (refine St.le_newT ?_ (by assumption))))))
        (simp only [resAV, rvV, List.map_cons, List.map_nil, ↓R1, R2, R3, R4, R5, Nat.reduceEqDiff, Nat.reduceAdd, Nat.reduceMul, Nat.reduceSub, Nat.reduceLeDiff, Nat.reduceLT, reduceIte, reduceCtorEq, Int.reduceBNe, Int.reduceBEq, q1, q2, q3, q4, q5, q6, q7])
        all_goals rfl
      | false =>
        have q1 := hb
        (refine Pu_intro c17 b17 (Nat.le_of_ble_eq_true rfl) fun σ => ?_; simp only [c17, ↓R1, R2, R3, R4, R5, Nat.reduceEqDiff, Nat.reduceAdd, Nat.reduceMul, Nat.reduceSub, Nat.reduceLeDiff, Nat.reduceLT, reduceIte, reduceCtorEq, Int.reduceBNe, Int.reduceBEq, q1, q2, q3, q4, q5, q6, q7])
        repeat' (first | (with_reducible rw [allocV_eq]) | (refine gdV_split (fun hc => ?_) (fun hc => ?_) <;> (try simp only [hc, ↓R1, R2, R3, R4, R5, Nat.reduceEqDiff, Nat.reduceAdd, Nat.reduceMul, Nat.reduceSub, Nat.reduceLeDiff, Nat.reduceLT, reduceIte, reduceCtorEq, Int.reduceBNe, Int.reduceBEq, q1, q2, q3, q4, q5, q6, q7])) | ((first | refine condV_split (fun hc => ?_) (fun hc => ?_) | (with_reducible intro β hβ; (try simp only [St.box_noneA, St.tip_noneA, St.tip_set, St.box_tip, St.box_lp, St.tip_lp] at hβ); (repeat (obtain ⟨⟨_, _⟩, hβ⟩ := hβ)); (try (have hbis := apart_is (by assumption) hβ; obtain ⟨_, _⟩ := hbis)))) <;> (try simp only [↓R1, R2, R3, R4, R5, Nat.reduceEqDiff, Nat.reduceAdd, Nat.reduceMul, Nat.reduceSub, Nat.reduceLeDiff, Nat.reduceLT, reduceIte, reduceCtorEq, Int.reduceBNe, Int.reduceBEq, q1, q2, q3, q4, q5, q6, q7])) | (with_reducible refine And.intro ?_ ?_; (focus (first | omega | (intros; (repeat' (with_reducible apply And.intro)) <;> first | omega | (simp only [List.length_map]; omega))))) | (with_reducible apply And.intro) | ((first | refine Pu.to (hp) (wkL_refl _) ?_ | refine callDV_pu (hp) (wkL_refl _) ?_); (try simp only [↓R1, R2, R3, R4, R5, Nat.reduceEqDiff, Nat.reduceAdd, Nat.reduceMul, Nat.reduceSub, Nat.reduceLeDiff, Nat.reduceLT, reduceIte, reduceCtorEq, Int.reduceBNe, Int.reduceBEq, q1, q2, q3, q4, q5, q6, q7])))
        (refine endP_pu (by simp) (by first | (simp [rvsS, rvS]; done) | (simp only [rvsS, rvS, ↓R1, R2, R3, R4, R5, Nat.reduceEqDiff, Nat.reduceAdd, Nat.reduceMul, Nat.reduceSub, Nat.reduceLeDiff, Nat.reduceLT, reduceIte, reduceCtorEq, Int.reduceBNe, Int.reduceBEq, q1, q2, q3, q4, q5, q6, q7]; try simp)) (wk_of_eq ?_) (by (repeat (first | exact St.le_refl _ | (refine St.le_new ?_ (by assumption)) | (refine St.le_newT ?_ (by assumption))))))
        (simp only [resAV, rvV, List.map_cons, List.map_nil, ↓R1, R2, R3, R4, R5, Nat.reduceEqDiff, Nat.reduceAdd, Nat.reduceMul, Nat.reduceSub, Nat.reduceLeDiff, Nat.reduceLT, reduceIte, reduceCtorEq, Int.reduceBNe, Int.reduceBEq, q1, q2, q3, q4, q5, q6, q7])
        all_goals rfl
def negS (t : List UInt8) : Bool := match t with
  | c :: _ => decide (c = 45)
  | [] => false
def absS (t : List UInt8) : List UInt8 := bif negS t then t.drop 1 else t
theorem p64 (t : List UInt8) (hl : t.length ≤ 1000000) : Pu Tryd.prog 64 [.str t, .str [45]] (.bool (negS t)) := by
  have q1 : True := trivial
  have q2 : True := trivial
  have q3 : True := trivial
  have q4 : True := trivial
  have q5 : True := trivial
  have q6 : True := trivial
  have q7 : True := trivial
  cases t with
  | nil =>
    (refine Pu_intro c64 b64 (Nat.le_of_ble_eq_true rfl) fun σ => ?_; simp only [c64, ↓R1, R2, R3, R4, R5, Nat.reduceEqDiff, Nat.reduceAdd, Nat.reduceMul, Nat.reduceSub, Nat.reduceLeDiff, Nat.reduceLT, reduceIte, reduceCtorEq, Int.reduceBNe, Int.reduceBEq, q1, q2, q3, q4, q5, q6, q7])
    repeat' (first | (with_reducible rw [allocV_eq]) | (refine gdV_split (fun hc => ?_) (fun hc => ?_) <;> (try simp only [hc, ↓R1, R2, R3, R4, R5, Nat.reduceEqDiff, Nat.reduceAdd, Nat.reduceMul, Nat.reduceSub, Nat.reduceLeDiff, Nat.reduceLT, reduceIte, reduceCtorEq, Int.reduceBNe, Int.reduceBEq, q1, q2, q3, q4, q5, q6, q7])) | ((first | refine condV_split (fun hc => ?_) (fun hc => ?_) | (with_reducible intro β hβ; (try simp only [St.box_noneA, St.tip_noneA, St.tip_set, St.box_tip, St.box_lp, St.tip_lp] at hβ); (repeat (obtain ⟨⟨_, _⟩, hβ⟩ := hβ)); (try (have hbis := apart_is (by assumption) hβ; obtain ⟨_, _⟩ := hbis)))) <;> (try simp only [↓R1, R2, R3, R4, R5, Nat.reduceEqDiff, Nat.reduceAdd, Nat.reduceMul, Nat.reduceSub, Nat.reduceLeDiff, Nat.reduceLT, reduceIte, reduceCtorEq, Int.reduceBNe, Int.reduceBEq, q1, q2, q3, q4, q5, q6, q7])) | (with_reducible refine And.intro ?_ ?_; (focus (first | omega | (intros; (repeat' (with_reducible apply And.intro)) <;> first | omega | (simp only [List.length_map]; omega))))) | (with_reducible apply And.intro))
    all_goals first | (intro h; simp at h; done) | skip
    (refine endP_pu (by simp) (by first | (simp [rvsS, rvS]; done) | (simp only [rvsS, rvS, ↓R1, R2, R3, R4, R5, Nat.reduceEqDiff, Nat.reduceAdd, Nat.reduceMul, Nat.reduceSub, Nat.reduceLeDiff, Nat.reduceLT, reduceIte, reduceCtorEq, Int.reduceBNe, Int.reduceBEq, q1, q2, q3, q4, q5, q6, q7]; try simp)) (wk_of_eq ?_) (by (repeat (first | exact St.le_refl _ | (refine St.le_new ?_ (by assumption)) | (refine St.le_newT ?_ (by assumption))))))
    (simp only [resAV, rvV, List.map_cons, List.map_nil, ↓R1, R2, R3, R4, R5, Nat.reduceEqDiff, Nat.reduceAdd, Nat.reduceMul, Nat.reduceSub, Nat.reduceLeDiff, Nat.reduceLT, reduceIte, reduceCtorEq, Int.reduceBNe, Int.reduceBEq, q1, q2, q3, q4, q5, q6, q7])
    rfl
  | cons c r =>
    (refine Pu_intro c64 b64 (Nat.le_of_ble_eq_true rfl) fun σ => ?_; simp only [c64, ↓R1, R2, R3, R4, R5, Nat.reduceEqDiff, Nat.reduceAdd, Nat.reduceMul, Nat.reduceSub, Nat.reduceLeDiff, Nat.reduceLT, reduceIte, reduceCtorEq, Int.reduceBNe, Int.reduceBEq, q1, q2, q3, q4, q5, q6, q7])
    repeat' (first | (with_reducible rw [allocV_eq]) | (refine gdV_split (fun hc => ?_) (fun hc => ?_) <;> (try simp only [hc, ↓R1, R2, R3, R4, R5, Nat.reduceEqDiff, Nat.reduceAdd, Nat.reduceMul, Nat.reduceSub, Nat.reduceLeDiff, Nat.reduceLT, reduceIte, reduceCtorEq, Int.reduceBNe, Int.reduceBEq, q1, q2, q3, q4, q5, q6, q7])) | ((first | refine condV_split (fun hc => ?_) (fun hc => ?_) | (with_reducible intro β hβ; (try simp only [St.box_noneA, St.tip_noneA, St.tip_set, St.box_tip, St.box_lp, St.tip_lp] at hβ); (repeat (obtain ⟨⟨_, _⟩, hβ⟩ := hβ)); (try (have hbis := apart_is (by assumption) hβ; obtain ⟨_, _⟩ := hbis)))) <;> (try simp only [↓R1, R2, R3, R4, R5, Nat.reduceEqDiff, Nat.reduceAdd, Nat.reduceMul, Nat.reduceSub, Nat.reduceLeDiff, Nat.reduceLT, reduceIte, reduceCtorEq, Int.reduceBNe, Int.reduceBEq, q1, q2, q3, q4, q5, q6, q7])) | (with_reducible refine And.intro ?_ ?_; (focus (first | omega | (intros; (repeat' (with_reducible apply And.intro)) <;> first | omega | (simp only [List.length_map]; omega))))) | (with_reducible apply And.intro))
    all_goals first | (intro h; simp at h; done) | skip
    (refine endP_pu (by simp) (by first | (simp [rvsS, rvS]; done) | (simp only [rvsS, rvS, ↓R1, R2, R3, R4, R5, Nat.reduceEqDiff, Nat.reduceAdd, Nat.reduceMul, Nat.reduceSub, Nat.reduceLeDiff, Nat.reduceLT, reduceIte, reduceCtorEq, Int.reduceBNe, Int.reduceBEq, q1, q2, q3, q4, q5, q6, q7]; try simp)) (wk_of_eq ?_) (by (repeat (first | exact St.le_refl _ | (refine St.le_new ?_ (by assumption)) | (refine St.le_newT ?_ (by assumption))))))
    (simp only [resAV, rvV, List.map_cons, List.map_nil, ↓R1, R2, R3, R4, R5, Nat.reduceEqDiff, Nat.reduceAdd, Nat.reduceMul, Nat.reduceSub, Nat.reduceLeDiff, Nat.reduceLT, reduceIte, reduceCtorEq, Int.reduceBNe, Int.reduceBEq, q1, q2, q3, q4, q5, q6, q7])
    refine congrArg AV.bool ?_
    rw [Bool.eq_iff_iff]
    simp [negS]
    omega
theorem p55 (t : List UInt8) (hl : t.length ≤ 1000000) : Pu Tryd.prog 55 [.str t, .str [45]] (.tup [.str (absS t), .bool (negS t)]) := by
  have q1 : True := trivial
  have q2 : True := trivial
  have q3 : True := trivial
  have q4 : True := trivial
  have q5 : True := trivial
  have q6 : True := trivial
  have q7 : True := trivial
  have hp := p64 t hl
  cases hn : negS t with
  | false =>
    rw [hn] at hp
    (refine Pu_intro c55 b55 (Nat.le_of_ble_eq_true rfl) fun σ => ?_; simp only [c55, ↓R1, R2, R3, R4, R5, Nat.reduceEqDiff, Nat.reduceAdd, Nat.reduceMul, Nat.reduceSub, Nat.reduceLeDiff, Nat.reduceLT, reduceIte, reduceCtorEq, Int.reduceBNe, Int.reduceBEq, q1, q2, q3, q4, q5, q6, q7])
    repeat' (first | (with_reducible rw [allocV_eq]) | (refine gdV_split (fun hc => ?_) (fun hc => ?_) <;> (try simp only [hc, ↓R1, R2, R3, R4, R5, Nat.reduceEqDiff, Nat.reduceAdd, Nat.reduceMul, Nat.reduceSub, Nat.reduceLeDiff, Nat.reduceLT, reduceIte, reduceCtorEq, Int.reduceBNe, Int.reduceBEq, q1, q2, q3, q4, q5, q6, q7])) | ((first | refine condV_split (fun hc => ?_) (fun hc => ?_) | (with_reducible intro β hβ; (try simp only [St.box_noneA, St.tip_noneA, St.tip_set, St.box_tip, St.box_lp, St.tip_lp] at hβ); (repeat (obtain ⟨⟨_, _⟩, hβ⟩ := hβ)); (try (have hbis := apart_is (by assumption) hβ; obtain ⟨_, _⟩ := hbis)))) <;> (try simp only [↓R1, R2, R3, R4, R5, Nat.reduceEqDiff, Nat.reduceAdd, Nat.reduceMul, Nat.reduceSub, Nat.reduceLeDiff, Nat.reduceLT, reduceIte, reduceCtorEq, Int.reduceBNe, Int.reduceBEq, q1, q2, q3, q4, q5, q6, q7])) | (with_reducible refine And.intro ?_ ?_; (focus (first | omega | (intros; (repeat' (with_reducible apply And.intro)) <;> first | omega | (simp only [List.length_map]; omega))))) | (with_reducible apply And.intro) | ((first | refine Pu.to (hp) (wkL_refl _) ?_ | refine callDV_pu (hp) (wkL_refl _) ?_); (try simp only [↓R1, R2, R3, R4, R5, Nat.reduceEqDiff, Nat.reduceAdd, Nat.reduceMul, Nat.reduceSub, Nat.reduceLeDiff, Nat.reduceLT, reduceIte, reduceCtorEq, Int.reduceBNe, Int.reduceBEq, q1, q2, q3, q4, q5, q6, q7])))
    (refine endP_pu (by simp) (by first | (simp [rvsS, rvS]; done) | (simp only [rvsS, rvS, ↓R1, R2, R3, R4, R5, Nat.reduceEqDiff, Nat.reduceAdd, Nat.reduceMul, Nat.reduceSub, Nat.reduceLeDiff, Nat.reduceLT, reduceIte, reduceCtorEq, Int.reduceBNe, Int.reduceBEq, q1, q2, q3, q4, q5, q6, q7]; try simp)) (wk_of_eq ?_) (by (repeat (first | exact St.le_refl _ | (refine St.le_new ?_ (by assumption)) | (refine St.le_newT ?_ (by assumption))))))
    (simp only [resAV, rvV, List.map_cons, List.map_nil, ↓R1, R2, R3, R4, R5, Nat.reduceEqDiff, Nat.reduceAdd, Nat.reduceMul, Nat.reduceSub, Nat.reduceLeDiff, Nat.reduceLT, reduceIte, reduceCtorEq, Int.reduceBNe, Int.reduceBEq, q1, q2, q3, q4, q5, q6, q7])
    simp [absS, hn]
  | true =>
    rw [hn] at hp
    have hl1 : 1 ≤ t.length := by
      cases t with
      | nil => simp [negS] at hn
      | cons c r => simp
    (refine Pu_intro c55 b55 (Nat.le_of_ble_eq_true rfl) fun σ => ?_; simp only [c55, ↓R1, R2, R3, R4, R5, Nat.reduceEqDiff, Nat.reduceAdd, Nat.reduceMul, Nat.reduceSub, Nat.reduceLeDiff, Nat.reduceLT, reduceIte, reduceCtorEq, Int.reduceBNe, Int.reduceBEq, q1, q2, q3, q4, q5, q6, q7])
    repeat' (first | (with_reducible rw [allocV_eq]) | (refine gdV_split (fun hc => ?_) (fun hc => ?_) <;> (try simp only [hc, ↓R1, R2, R3, R4, R5, Nat.reduceEqDiff, Nat.reduceAdd, Nat.reduceMul, Nat.reduceSub, Nat.reduceLeDiff, Nat.reduceLT, reduceIte, reduceCtorEq, Int.reduceBNe, Int.reduceBEq, q1, q2, q3, q4, q5, q6, q7])) | ((first | refine condV_split (fun hc => ?_) (fun hc => ?_) | (with_reducible intro β hβ; (try simp only [St.box_noneA, St.tip_noneA, St.tip_set, St.box_tip, St.box_lp, St.tip_lp] at hβ); (repeat (obtain ⟨⟨_, _⟩, hβ⟩ := hβ)); (try (have hbis := apart_is (by assumption) hβ; obtain ⟨_, _⟩ := hbis)))) <;> (try simp only [↓R1, R2, R3, R4, R5, Nat.reduceEqDiff, Nat.reduceAdd, Nat.reduceMul, Nat.reduceSub, Nat.reduceLeDiff, Nat.reduceLT, reduceIte, reduceCtorEq, Int.reduceBNe, Int.reduceBEq, q1, q2, q3, q4, q5, q6, q7])) | (with_reducible refine And.intro ?_ ?_; (focus (first | omega | (intros; (repeat' (with_reducible apply And.intro)) <;> first | omega | (simp only [List.length_map]; omega))))) | (with_reducible apply And.intro) | ((first | refine Pu.to (hp) (wkL_refl _) ?_ | refine callDV_pu (hp) (wkL_refl _) ?_); (try simp only [↓R1, R2, R3, R4, R5, Nat.reduceEqDiff, Nat.reduceAdd, Nat.reduceMul, Nat.reduceSub, Nat.reduceLeDiff, Nat.reduceLT, reduceIte, reduceCtorEq, Int.reduceBNe, Int.reduceBEq, q1, q2, q3, q4, q5, q6, q7])))
    all_goals first | omega | skip
    (refine endP_pu (by simp) (by first | (simp [rvsS, rvS]; done) | (simp only [rvsS, rvS, ↓R1, R2, R3, R4, R5, Nat.reduceEqDiff, Nat.reduceAdd, Nat.reduceMul, Nat.reduceSub, Nat.reduceLeDiff, Nat.reduceLT, reduceIte, reduceCtorEq, Int.reduceBNe, Int.reduceBEq, q1, q2, q3, q4, q5, q6, q7]; try simp)) (wk_of_eq ?_) (by (repeat (first | exact St.le_refl _ | (refine St.le_new ?_ (by assumption)) | (refine St.le_newT ?_ (by assumption))))))
    (simp only [resAV, rvV, List.map_cons, List.map_nil, ↓R1, R2, R3, R4, R5, Nat.reduceEqDiff, Nat.reduceAdd, Nat.reduceMul, Nat.reduceSub, Nat.reduceLeDiff, Nat.reduceLT, reduceIte, reduceCtorEq, Int.reduceBNe, Int.reduceBEq, q1, q2, q3, q4, q5, q6, q7])
    have e : (t.drop 1).take (t.length - 1) = t.drop 1 := List.take_of_length_le (by simp)
    simp only [e, absS, hn, cond_true]
theorem p45 (t : List UInt8) (hl : t.length ≤ 1000000) : Pu Tryd.prog 45 [.str t, .str [45]] (.tup [.str (absS t), .bool (negS t)]) := by
  have q1 : True := trivial
  have q2 : True := trivial
  have q3 : True := trivial
  have q4 : True := trivial
  have q5 : True := trivial
  have q6 : True := trivial
  have q7 : True := trivial
  (refine Pu_intro c45 b45 (Nat.le_of_ble_eq_true rfl) fun σ => ?_; simp only [c45, ↓R1, R2, R3, R4, R5, Nat.reduceEqDiff, Nat.reduceAdd, Nat.reduceMul, Nat.reduceSub, Nat.reduceLeDiff, Nat.reduceLT, reduceIte, reduceCtorEq, Int.reduceBNe, Int.reduceBEq, q1, q2, q3, q4, q5, q6, q7])
  repeat' (first | (with_reducible rw [allocV_eq]) | (refine gdV_split (fun hc => ?_) (fun hc => ?_) <;> (try simp only [hc, ↓R1, R2, R3, R4, R5, Nat.reduceEqDiff, Nat.reduceAdd, Nat.reduceMul, Nat.reduceSub, Nat.reduceLeDiff, Nat.reduceLT, reduceIte, reduceCtorEq, Int.reduceBNe, Int.reduceBEq, q1, q2, q3, q4, q5, q6, q7])) | ((first | refine condV_split (fun hc => ?_) (fun hc => ?_) | (with_reducible intro β hβ; (try simp only [St.box_noneA, St.tip_noneA, St.tip_set, St.box_tip, St.box_lp, St.tip_lp] at hβ); (repeat (obtain ⟨⟨_, _⟩, hβ⟩ := hβ)); (try (have hbis := apart_is (by assumption) hβ; obtain ⟨_, _⟩ := hbis)))) <;> (try simp only [↓R1, R2, R3, R4, R5, Nat.reduceEqDiff, Nat.reduceAdd, Nat.reduceMul, Nat.reduceSub, Nat.reduceLeDiff, Nat.reduceLT, reduceIte, reduceCtorEq, Int.reduceBNe, Int.reduceBEq, q1, q2, q3, q4, q5, q6, q7])) | (with_reducible refine And.intro ?_ ?_; (focus (first | omega | (intros; (repeat' (with_reducible apply And.intro)) <;> first | omega | (simp only [List.length_map]; omega))))) | (with_reducible apply And.intro) | ((first | refine Pu.to (p55 t hl) (wkL_refl _) ?_ | refine callDV_pu (p55 t hl) (wkL_refl _) ?_); (try simp only [↓R1, R2, R3, R4, R5, Nat.reduceEqDiff, Nat.reduceAdd, Nat.reduceMul, Nat.reduceSub, Nat.reduceLeDiff, Nat.reduceLT, reduceIte, reduceCtorEq, Int.reduceBNe, Int.reduceBEq, q1, q2, q3, q4, q5, q6, q7])))
  (refine endP_pu (by simp) (by first | (simp [rvsS, rvS]; done) | (simp only [rvsS, rvS, ↓R1, R2, R3, R4, R5, Nat.reduceEqDiff, Nat.reduceAdd, Nat.reduceMul, Nat.reduceSub, Nat.reduceLeDiff, Nat.reduceLT, reduceIte, reduceCtorEq, Int.reduceBNe, Int.reduceBEq, q1, q2, q3, q4, q5, q6, q7]; try simp)) (wk_of_eq ?_) (by (repeat (first | exact St.le_refl _ | (refine St.le_new ?_ (by assumption)) | (refine St.le_newT ?_ (by assumption))))))
  (simp only [resAV, rvV, List.map_cons, List.map_nil, ↓R1, R2, R3, R4, R5, Nat.reduceEqDiff, Nat.reduceAdd, Nat.reduceMul, Nat.reduceSub, Nat.reduceLeDiff, Nat.reduceLT, reduceIte, reduceCtorEq, Int.reduceBNe, Int.reduceBEq, q1, q2, q3, q4, q5, q6, q7])
def signV (q : Bool) (t : List UInt8) : AV :=
  bif (q || !digOk (absS t)) || (negS t && decide (valN (absS t) = 0)) then .tup [.int .i64 0, .int .i64 3]
  else bif (decide (18446744073709551616 ≤ valN (absS t)) || decide (9223372036854775808 < valN (absS t))) || (decide (valN (absS t) = 9223372036854775808) && !negS t) then .tup [.int .i64 0, .int .i64 2]
  else .tup [.int .i64 (bif negS t then -((valN (absS t) : Nat) : Int) else ((valN (absS t) : Nat) : Int)), .int .i64 0]
set_option maxHeartbeats 4000000 in
theorem p21 (q : Bool) (t : List UInt8) (a : Int) (hl : t.length ≤ 1000000) : Pu Tryd.prog 21 [.agg [.bool q, .str t, .int .i64 a]] (signV q t) := by
  have q1 : True := trivial
  have q2 : True := trivial
  have q3 : True := trivial
  have q4 : True := trivial
  have q5 : True := trivial
  have q6 : True := trivial
  have q7 : True := trivial
  have hal : (absS t).length ≤ 1000000 := by
    unfold absS
    cases negS t <;> simp <;> omega
  have hcp := p45 t hl
  have hp := p43 (absS t) hal
  cases hd : digOk (absS t) with
  | false =>
    simp only [natV, hd, cond_false] at hp
    simp only [signV, hd, Bool.not_false, Bool.or_true, Bool.true_or, cond_true]
    (refine Pu_intro c21 b21 (Nat.le_of_ble_eq_true rfl) fun σ => ?_; simp only [c21, ↓R1, R2, R3, R4, R5, Nat.reduceEqDiff, Nat.reduceAdd, Nat.reduceMul, Nat.reduceSub, Nat.reduceLeDiff, Nat.reduceLT, reduceIte, reduceCtorEq, Int.reduceBNe, Int.reduceBEq, q1, q2, q3, q4, q5, q6, q7])
    repeat' (first | (with_reducible rw [allocV_eq]) | (refine gdV_split (fun hc => ?_) (fun hc => ?_) <;> (try simp only [hc, ↓R1, R2, R3, R4, R5, Nat.reduceEqDiff, Nat.reduceAdd, Nat.reduceMul, Nat.reduceSub, Nat.reduceLeDiff, Nat.reduceLT, reduceIte, reduceCtorEq, Int.reduceBNe, Int.reduceBEq, q1, q2, q3, q4, q5, q6, q7])) | ((first | refine condV_split (fun hc => ?_) (fun hc => ?_) | (with_reducible intro β hβ; (try simp only [St.box_noneA, St.tip_noneA, St.tip_set, St.box_tip, St.box_lp, St.tip_lp] at hβ); (repeat (obtain ⟨⟨_, _⟩, hβ⟩ := hβ)); (try (have hbis := apart_is (by assumption) hβ; obtain ⟨_, _⟩ := hbis)))) <;> (try simp only [↓R1, R2, R3, R4, R5, Nat.reduceEqDiff, Nat.reduceAdd, Nat.reduceMul, Nat.reduceSub, Nat.reduceLeDiff, Nat.reduceLT, reduceIte, reduceCtorEq, Int.reduceBNe, Int.reduceBEq, q1, q2, q3, q4, q5, q6, q7])) | (with_reducible refine And.intro ?_ ?_; (focus (first | omega | (intros; (repeat' (with_reducible apply And.intro)) <;> first | omega | (simp only [List.length_map]; omega))))) | (with_reducible apply And.intro) | ((first | refine Pu.to (hcp) (wkL_refl _) ?_ | refine callDV_pu (hcp) (wkL_refl _) ?_ | refine Pu.to (hp) (wkL_refl _) ?_ | refine callDV_pu (hp) (wkL_refl _) ?_); (try simp only [↓R1, R2, R3, R4, R5, Nat.reduceEqDiff, Nat.reduceAdd, Nat.reduceMul, Nat.reduceSub, Nat.reduceLeDiff, Nat.reduceLT, reduceIte, reduceCtorEq, Int.reduceBNe, Int.reduceBEq, q1, q2, q3, q4, q5, q6, q7])))
    (refine endP_pu (by simp) (by first | (simp [rvsS, rvS]; done) | (simp only [rvsS, rvS, ↓R1, R2, R3, R4, R5, Nat.reduceEqDiff, Nat.reduceAdd, Nat.reduceMul, Nat.reduceSub, Nat.reduceLeDiff, Nat.reduceLT, reduceIte, reduceCtorEq, Int.reduceBNe, Int.reduceBEq, q1, q2, q3, q4, q5, q6, q7]; try simp)) (wk_of_eq ?_) (by (repeat (first | exact St.le_refl _ | (refine St.le_new ?_ (by assumption)) | (refine St.le_newT ?_ (by assumption))))))
    (simp only [resAV, rvV, List.map_cons, List.map_nil, ↓R1, R2, R3, R4, R5, Nat.reduceEqDiff, Nat.reduceAdd, Nat.reduceMul, Nat.reduceSub, Nat.reduceLeDiff, Nat.reduceLT, reduceIte, reduceCtorEq, Int.reduceBNe, Int.reduceBEq, q1, q2, q3, q4, q5, q6, q7])
  | true =>
    simp only [natV, hd, cond_true] at hp
    cases q with
    | true =>
      simp only [signV, Bool.true_or, cond_true]
      (refine Pu_intro c21 b21 (Nat.le_of_ble_eq_true rfl) fun σ => ?_; simp only [c21, ↓R1, R2, R3, R4, R5, Nat.reduceEqDiff, Nat.reduceAdd, Nat.reduceMul, Nat.reduceSub, Nat.reduceLeDiff, Nat.reduceLT, reduceIte, reduceCtorEq, Int.reduceBNe, Int.reduceBEq, q1, q2, q3, q4, q5, q6, q7])
      repeat' (first | (with_reducible rw [allocV_eq]) | (refine gdV_split (fun hc => ?_) (fun hc => ?_) <;> (try simp only [hc, ↓R1, R2, R3, R4, R5, Nat.reduceEqDiff, Nat.reduceAdd, Nat.reduceMul, Nat.reduceSub, Nat.reduceLeDiff, Nat.reduceLT, reduceIte, reduceCtorEq, Int.reduceBNe, Int.reduceBEq, q1, q2, q3, q4, q5, q6, q7])) | ((first | refine condV_split (fun hc => ?_) (fun hc => ?_) | (with_reducible intro β hβ; (try simp only [St.box_noneA, St.tip_noneA, St.tip_set, St.box_tip, St.box_lp, St.tip_lp] at hβ); (repeat (obtain ⟨⟨_, _⟩, hβ⟩ := hβ)); (try (have hbis := apart_is (by assumption) hβ; obtain ⟨_, _⟩ := hbis)))) <;> (try simp only [↓R1, R2, R3, R4, R5, Nat.reduceEqDiff, Nat.reduceAdd, Nat.reduceMul, Nat.reduceSub, Nat.reduceLeDiff, Nat.reduceLT, reduceIte, reduceCtorEq, Int.reduceBNe, Int.reduceBEq, q1, q2, q3, q4, q5, q6, q7])) | (with_reducible refine And.intro ?_ ?_; (focus (first | omega | (intros; (repeat' (with_reducible apply And.intro)) <;> first | omega | (simp only [List.length_map]; omega))))) | (with_reducible apply And.intro) | ((first | refine Pu.to (hcp) (wkL_refl _) ?_ | refine callDV_pu (hcp) (wkL_refl _) ?_ | refine Pu.to (hp) (wkL_refl _) ?_ | refine callDV_pu (hp) (wkL_refl _) ?_); (try simp only [↓R1, R2, R3, R4, R5, Nat.reduceEqDiff, Nat.reduceAdd, Nat.reduceMul, Nat.reduceSub, Nat.reduceLeDiff, Nat.reduceLT, reduceIte, reduceCtorEq, Int.reduceBNe, Int.reduceBEq, q1, q2, q3, q4, q5, q6, q7])))
      (refine endP_pu (by simp) (by first | (simp [rvsS, rvS]; done) | (simp only [rvsS, rvS, ↓R1, R2, R3, R4, R5, Nat.reduceEqDiff, Nat.reduceAdd, Nat.reduceMul, Nat.reduceSub, Nat.reduceLeDiff, Nat.reduceLT, reduceIte, reduceCtorEq, Int.reduceBNe, Int.reduceBEq, q1, q2, q3, q4, q5, q6, q7]; try simp)) (wk_of_eq ?_) (by (repeat (first | exact St.le_refl _ | (refine St.le_new ?_ (by assumption)) | (refine St.le_newT ?_ (by assumption))))))
      (simp only [resAV, rvV, List.map_cons, List.map_nil, ↓R1, R2, R3, R4, R5, Nat.reduceEqDiff, Nat.reduceAdd, Nat.reduceMul, Nat.reduceSub, Nat.reduceLeDiff, Nat.reduceLT, reduceIte, reduceCtorEq, Int.reduceBNe, Int.reduceBEq, q1, q2, q3, q4, q5, q6, q7])
    | false =>
      simp only [signV, hd, Bool.not_true, Bool.or_false, Bool.false_or]
      obtain ⟨V, hV⟩ : ∃ V, valN (absS t) = V := ⟨_, rfl⟩
      rw [hV] at hp ⊢
      by_cases hg : 18446744073709551616 ≤ V
      · have h0 : decide (V = 0) = false := by rw [decide_eq_false_iff_not]; omega
        have q1 : decide (18446744073709551616 ≤ V) = true := by rw [decide_eq_true_eq]; omega
        rw [q1] at hp
        rw [h0, q1]
        simp only [Bool.and_false, Bool.true_or, cond_false, cond_true]
        (refine Pu_intro c21 b21 (Nat.le_of_ble_eq_true rfl) fun σ => ?_; simp only [c21, ↓R1, R2, R3, R4, R5, Nat.reduceEqDiff, Nat.reduceAdd, Nat.reduceMul, Nat.reduceSub, Nat.reduceLeDiff, Nat.reduceLT, reduceIte, reduceCtorEq, Int.reduceBNe, Int.reduceBEq, q1, q2, q3, q4, q5, q6, q7])
        repeat' (first | (with_reducible rw [allocV_eq]) | (refine gdV_split (fun hc => ?_) (fun hc => ?_) <;> (try simp only [hc, ↓R1, R2, R3, R4, R5, Nat.reduceEqDiff, Nat.reduceAdd, Nat.reduceMul, Nat.reduceSub, Nat.reduceLeDiff, Nat.reduceLT, reduceIte, reduceCtorEq, Int.reduceBNe, Int.reduceBEq, q1, q2, q3, q4, q5, q6, q7])) | ((first | refine condV_split (fun hc => ?_) (fun hc => ?_) | (with_reducible intro β hβ; (try simp only [St.box_noneA, St.tip_noneA, St.tip_set, St.box_tip, St.box_lp, St.tip_lp] at hβ); (repeat (obtain ⟨⟨_, _⟩, hβ⟩ := hβ)); (try (have hbis := apart_is (by assumption) hβ; obtain ⟨_, _⟩ := hbis)))) <;> (try simp only [↓R1, R2, R3, R4, R5, Nat.reduceEqDiff, Nat.reduceAdd, Nat.reduceMul, Nat.reduceSub, Nat.reduceLeDiff, Nat.reduceLT, reduceIte, reduceCtorEq, Int.reduceBNe, Int.reduceBEq, q1, q2, q3, q4, q5, q6, q7])) | (with_reducible refine And.intro ?_ ?_; (focus (first | omega | (intros; (repeat' (with_reducible apply And.intro)) <;> first | omega | (simp only [List.length_map]; omega))))) | (with_reducible apply And.intro) | ((first | refine Pu.to (hcp) (wkL_refl _) ?_ | refine callDV_pu (hcp) (wkL_refl _) ?_ | refine Pu.to (hp) (wkL_refl _) ?_ | refine callDV_pu (hp) (wkL_refl _) ?_); (try simp only [↓R1, R2, R3, R4, R5, Nat.reduceEqDiff, Nat.reduceAdd, Nat.reduceMul, Nat.reduceSub, Nat.reduceLeDiff, Nat.reduceLT, reduceIte, reduceCtorEq, Int.reduceBNe, Int.reduceBEq, q1, q2, q3, q4, q5, q6, q7])))
        refine endP_pu (by simp) (by first | (simp [rvsS, rvS]; done) | (simp only [rvsS, rvS, ↓R1, R2, R3, R4, R5, Nat.reduceEqDiff, Nat.reduceAdd, Nat.reduceMul, Nat.reduceSub, Nat.reduceLeDiff, Nat.reduceLT, reduceIte, reduceCtorEq, Int.reduceBNe, Int.reduceBEq, q1, q2, q3, q4, q5, q6, q7]; try simp)) (wk_of_eq (by (simp only [resAV, rvV, List.map_cons, List.map_nil, ↓R1, R2, R3, R4, R5, Nat.reduceEqDiff, Nat.reduceAdd, Nat.reduceMul, Nat.reduceSub, Nat.reduceLeDiff, Nat.reduceLT, reduceIte, reduceCtorEq, Int.reduceBNe, Int.reduceBEq, q1, q2, q3, q4, q5, q6, q7]))) (St.le_setBox (St.le_refl _) hβ)
      · have q1 : decide (18446744073709551616 ≤ V) = false := by rw [decide_eq_false_iff_not]; omega
        rw [q1, Nat.mod_eq_of_lt (by omega)] at hp
        rw [q1]
        have h0 : ((V : Int) == 0) = decide (V = 0) := by rw [Bool.eq_iff_iff]; simp
        have h1 : decide ((9223372036854775808 : Int) < (V : Int)) = decide (9223372036854775808 < V) := by rw [Bool.eq_iff_iff]; simp; omega
        have h2 : ((V : Int) == 9223372036854775808) = decide (V = 9223372036854775808) := by rw [Bool.eq_iff_iff]; simp; omega
        cases hn : negS t with
        | true =>
          rw [hn] at hcp
          have h3 : ∀ (hv : V ≤ 9223372036854775808), IntKind.i64.wrap (0 - IntKind.i64.wrap (V : Int)) = -(V : Int) := fun hv => by
            simp [IntKind.wrap, IntKind.signed, IntKind.bits]; omega
          by_cases hz : V = 0
          · have q2 : ((V : Int) == 0) = true := by rw [h0, decide_eq_true_eq]; exact hz
            have z : decide (V = 0) = true := by rw [decide_eq_true_eq]; exact hz
            rw [z]
            simp only [Bool.and_true, cond_true]
            (refine Pu_intro c21 b21 (Nat.le_of_ble_eq_true rfl) fun σ => ?_; simp only [c21, ↓R1, R2, R3, R4, R5, Nat.reduceEqDiff, Nat.reduceAdd, Nat.reduceMul, Nat.reduceSub, Nat.reduceLeDiff, Nat.reduceLT, reduceIte, reduceCtorEq, Int.reduceBNe, Int.reduceBEq, q1, q2, q3, q4, q5, q6, q7])
            repeat' (first | (with_reducible rw [allocV_eq]) | (refine gdV_split (fun hc => ?_) (fun hc => ?_) <;> (try simp only [hc, ↓R1, R2, R3, R4, R5, Nat.reduceEqDiff, Nat.reduceAdd, Nat.reduceMul, Nat.reduceSub, Nat.reduceLeDiff, Nat.reduceLT, reduceIte, reduceCtorEq, Int.reduceBNe, Int.reduceBEq, q1, q2, q3, q4, q5, q6, q7])) | ((first | refine condV_split (fun hc => ?_) (fun hc => ?_) | (with_reducible intro β hβ; (try simp only [St.box_noneA, St.tip_noneA, St.tip_set, St.box_tip, St.box_lp, St.tip_lp] at hβ); (repeat (obtain ⟨⟨_, _⟩, hβ⟩ := hβ)); (try (have hbis := apart_is (by assumption) hβ; obtain ⟨_, _⟩ := hbis)))) <;> (try simp only [↓R1, R2, R3, R4, R5, Nat.reduceEqDiff, Nat.reduceAdd, Nat.reduceMul, Nat.reduceSub, Nat.reduceLeDiff, Nat.reduceLT, reduceIte, reduceCtorEq, Int.reduceBNe, Int.reduceBEq, q1, q2, q3, q4, q5, q6, q7])) | (with_reducible refine And.intro ?_ ?_; (focus (first | omega | (intros; (repeat' (with_reducible apply And.intro)) <;> first | omega | (simp only [List.length_map]; omega))))) | (with_reducible apply And.intro) | ((first | refine Pu.to (hcp) (wkL_refl _) ?_ | refine callDV_pu (hcp) (wkL_refl _) ?_ | refine Pu.to (hp) (wkL_refl _) ?_ | refine callDV_pu (hp) (wkL_refl _) ?_); (try simp only [↓R1, R2, R3, R4, R5, Nat.reduceEqDiff, Nat.reduceAdd, Nat.reduceMul, Nat.reduceSub, Nat.reduceLeDiff, Nat.reduceLT, reduceIte, reduceCtorEq, Int.reduceBNe, Int.reduceBEq, q1, q2, q3, q4, q5, q6, q7])))
            refine endP_pu (by simp) (by first | (simp [rvsS, rvS]; done) | (simp only [rvsS, rvS, ↓R1, R2, R3, R4, R5, Nat.reduceEqDiff, Nat.reduceAdd, Nat.reduceMul, Nat.reduceSub, Nat.reduceLeDiff, Nat.reduceLT, reduceIte, reduceCtorEq, Int.reduceBNe, Int.reduceBEq, q1, q2, q3, q4, q5, q6, q7]; try simp)) (wk_of_eq (by (simp only [resAV, rvV, List.map_cons, List.map_nil, ↓R1, R2, R3, R4, R5, Nat.reduceEqDiff, Nat.reduceAdd, Nat.reduceMul, Nat.reduceSub, Nat.reduceLeDiff, Nat.reduceLT, reduceIte, reduceCtorEq, Int.reduceBNe, Int.reduceBEq, q1, q2, q3, q4, q5, q6, q7]))) (St.le_setBox (St.le_refl _) hβ)
          · have q2 : ((V : Int) == 0) = false := by rw [h0, decide_eq_false_iff_not]; exact hz
            have z : decide (V = 0) = false := by rw [decide_eq_false_iff_not]; exact hz
            rw [z]
            simp only [Bool.and_false, cond_false, Bool.not_true, Bool.or_false, Bool.false_or]
            by_cases hb : 9223372036854775808 < V
            · have q3 : decide ((9223372036854775808 : Int) < (V : Int)) = true := by rw [h1, decide_eq_true_eq]; exact hb
              have z2 : decide (9223372036854775808 < V) = true := by rw [decide_eq_true_eq]; exact hb
              rw [z2]
              simp only [cond_true]
              (refine Pu_intro c21 b21 (Nat.le_of_ble_eq_true rfl) fun σ => ?_; simp only [c21, ↓R1, R2, R3, R4, R5, Nat.reduceEqDiff, Nat.reduceAdd, Nat.reduceMul, Nat.reduceSub, Nat.reduceLeDiff, Nat.reduceLT, reduceIte, reduceCtorEq, Int.reduceBNe, Int.reduceBEq, q1, q2, q3, q4, q5, q6, q7])
              repeat' (first | (with_reducible rw [allocV_eq]) | (refine gdV_split (fun hc => ?_) (fun hc => ?_) <;> (try simp only [hc, ↓R1, R2, R3, R4, R5, Nat.reduceEqDiff, Nat.reduceAdd, Nat.reduceMul, Nat.reduceSub, Nat.reduceLeDiff, Nat.reduceLT, reduceIte, reduceCtorEq, Int.reduceBNe, Int.reduceBEq, q1, q2, q3, q4, q5, q6, q7])) | ((first | refine condV_split (fun hc => ?_) (fun hc => ?_) | (with_reducible intro β hβ; (try simp only [St.box_noneA, St.tip_noneA, St.tip_set, St.box_tip, St.box_lp, St.tip_lp] at hβ); (repeat (obtain ⟨⟨_, _⟩, hβ⟩ := hβ)); (try (have hbis := apart_is (by assumption) hβ; obtain ⟨_, _⟩ := hbis)))) <;> (try simp only [↓R1, R2, R3, R4, R5, Nat.reduceEqDiff, Nat.reduceAdd, Nat.reduceMul, Nat.reduceSub, Nat.reduceLeDiff, Nat.reduceLT, reduceIte, reduceCtorEq, Int.reduceBNe, Int.reduceBEq, q1, q2, q3, q4, q5, q6, q7])) | (with_reducible refine And.intro ?_ ?_; (focus (first | omega | (intros; (repeat' (with_reducible apply And.intro)) <;> first | omega | (simp only [List.length_map]; omega))))) | (with_reducible apply And.intro) | ((first | refine Pu.to (hcp) (wkL_refl _) ?_ | refine callDV_pu (hcp) (wkL_refl _) ?_ | refine Pu.to (hp) (wkL_refl _) ?_ | refine callDV_pu (hp) (wkL_refl _) ?_); (try simp only [↓R1, R2, R3, R4, R5, Nat.reduceEqDiff, Nat.reduceAdd, Nat.reduceMul, Nat.reduceSub, Nat.reduceLeDiff, Nat.reduceLT, reduceIte, reduceCtorEq, Int.reduceBNe, Int.reduceBEq, q1, q2, q3, q4, q5, q6, q7])))
              refine endP_pu (by simp) (by first | (simp [rvsS, rvS]; done) | (simp only [rvsS, rvS, ↓R1, R2, R3, R4, R5, Nat.reduceEqDiff, Nat.reduceAdd, Nat.reduceMul, Nat.reduceSub, Nat.reduceLeDiff, Nat.reduceLT, reduceIte, reduceCtorEq, Int.reduceBNe, Int.reduceBEq, q1, q2, q3, q4, q5, q6, q7]; try simp)) (wk_of_eq (by (simp only [resAV, rvV, List.map_cons, List.map_nil, ↓R1, R2, R3, R4, R5, Nat.reduceEqDiff, Nat.reduceAdd, Nat.reduceMul, Nat.reduceSub, Nat.reduceLeDiff, Nat.reduceLT, reduceIte, reduceCtorEq, Int.reduceBNe, Int.reduceBEq, q1, q2, q3, q4, q5, q6, q7]))) (St.le_setBox (St.le_refl _) hβ)
            · have q3 : decide ((9223372036854775808 : Int) < (V : Int)) = false := by rw [h1, decide_eq_false_iff_not]; exact hb
              have z2 : decide (9223372036854775808 < V) = false := by rw [decide_eq_false_iff_not]; exact hb
              have q4 := h3 (by omega)
              rw [z2]
              simp only [cond_false, cond_true]
              (refine Pu_intro c21 b21 (Nat.le_of_ble_eq_true rfl) fun σ => ?_; simp only [c21, ↓R1, R2, R3, R4, R5, Nat.reduceEqDiff, Nat.reduceAdd, Nat.reduceMul, Nat.reduceSub, Nat.reduceLeDiff, Nat.reduceLT, reduceIte, reduceCtorEq, Int.reduceBNe, Int.reduceBEq, q1, q2, q3, q4, q5, q6, q7])
              repeat' (first | (with_reducible rw [allocV_eq]) | (refine gdV_split (fun hc => ?_) (fun hc => ?_) <;> (try simp only [hc, ↓R1, R2, R3, R4, R5, Nat.reduceEqDiff, Nat.reduceAdd, Nat.reduceMul, Nat.reduceSub, Nat.reduceLeDiff, Nat.reduceLT, reduceIte, reduceCtorEq, Int.reduceBNe, Int.reduceBEq, q1, q2, q3, q4, q5, q6, q7])) | ((first | refine condV_split (fun hc => ?_) (fun hc => ?_) | (with_reducible intro β hβ; (try simp only [St.box_noneA, St.tip_noneA, St.tip_set, St.box_tip, St.box_lp, St.tip_lp] at hβ); (repeat (obtain ⟨⟨_, _⟩, hβ⟩ := hβ)); (try (have hbis := apart_is (by assumption) hβ; obtain ⟨_, _⟩ := hbis)))) <;> (try simp only [↓R1, R2, R3, R4, R5, Nat.reduceEqDiff, Nat.reduceAdd, Nat.reduceMul, Nat.reduceSub, Nat.reduceLeDiff, Nat.reduceLT, reduceIte, reduceCtorEq, Int.reduceBNe, Int.reduceBEq, q1, q2, q3, q4, q5, q6, q7])) | (with_reducible refine And.intro ?_ ?_; (focus (first | omega | (intros; (repeat' (with_reducible apply And.intro)) <;> first | omega | (simp only [List.length_map]; omega))))) | (with_reducible apply And.intro) | ((first | refine Pu.to (hcp) (wkL_refl _) ?_ | refine callDV_pu (hcp) (wkL_refl _) ?_ | refine Pu.to (hp) (wkL_refl _) ?_ | refine callDV_pu (hp) (wkL_refl _) ?_); (try simp only [↓R1, R2, R3, R4, R5, Nat.reduceEqDiff, Nat.reduceAdd, Nat.reduceMul, Nat.reduceSub, Nat.reduceLeDiff, Nat.reduceLT, reduceIte, reduceCtorEq, Int.reduceBNe, Int.reduceBEq, q1, q2, q3, q4, q5, q6, q7])))
              refine endP_pu (by simp) (by first | (simp [rvsS, rvS]; done) | (simp only [rvsS, rvS, ↓R1, R2, R3, R4, R5, Nat.reduceEqDiff, Nat.reduceAdd, Nat.reduceMul, Nat.reduceSub, Nat.reduceLeDiff, Nat.reduceLT, reduceIte, reduceCtorEq, Int.reduceBNe, Int.reduceBEq, q1, q2, q3, q4, q5, q6, q7]; try simp)) (wk_of_eq (by (simp only [resAV, rvV, List.map_cons, List.map_nil, ↓R1, R2, R3, R4, R5, Nat.reduceEqDiff, Nat.reduceAdd, Nat.reduceMul, Nat.reduceSub, Nat.reduceLeDiff, Nat.reduceLT, reduceIte, reduceCtorEq, Int.reduceBNe, Int.reduceBEq, q1, q2, q3, q4, q5, q6, q7]))) (St.le_setBox (St.le_refl _) hβ)
        | false =>
          rw [hn] at hcp
          have h3 : ∀ (hv : V < 9223372036854775808), IntKind.i64.wrap (V : Int) = (V : Int) := fun hv => by
            simp [IntKind.wrap, IntKind.signed, IntKind.bits]; omega
          simp only [Bool.false_and, cond_false, Bool.not_false, Bool.and_true, Bool.false_or]
          by_cases hb : 9223372036854775808 < V
          · have q3 : decide ((9223372036854775808 : Int) < (V : Int)) = true := by rw [h1, decide_eq_true_eq]; exact hb
            have z2 : decide (9223372036854775808 < V) = true := by rw [decide_eq_true_eq]; exact hb
            rw [z2]
            simp only [Bool.true_or, cond_true]
            (refine Pu_intro c21 b21 (Nat.le_of_ble_eq_true rfl) fun σ => ?_; simp only [c21, ↓R1, R2, R3, R4, R5, Nat.reduceEqDiff, Nat.reduceAdd, Nat.reduceMul, Nat.reduceSub, Nat.reduceLeDiff, Nat.reduceLT, reduceIte, reduceCtorEq, Int.reduceBNe, Int.reduceBEq, q1, q2, q3, q4, q5, q6, q7])
            repeat' (first | (with_reducible rw [allocV_eq]) | (refine gdV_split (fun hc => ?_) (fun hc => ?_) <;> (try simp only [hc, ↓R1, R2, R3, R4, R5, Nat.reduceEqDiff, Nat.reduceAdd, Nat.reduceMul, Nat.reduceSub, Nat.reduceLeDiff, Nat.reduceLT, reduceIte, reduceCtorEq, Int.reduceBNe, Int.reduceBEq, q1, q2, q3, q4, q5, q6, q7])) | ((first | refine condV_split (fun hc => ?_) (fun hc => ?_) | (with_reducible intro β hβ; (try simp only [St.box_noneA, St.tip_noneA, St.tip_set, St.box_tip, St.box_lp, St.tip_lp] at hβ); (repeat (obtain ⟨⟨_, _⟩, hβ⟩ := hβ)); (try (have hbis := apart_is (by assumption) hβ; obtain ⟨_, _⟩ := hbis)))) <;> (try simp only [↓R1, R2, R3, R4, R5, Nat.reduceEqDiff, Nat.reduceAdd, Nat.reduceMul, Nat.reduceSub, Nat.reduceLeDiff, Nat.reduceLT, reduceIte, reduceCtorEq, Int.reduceBNe, Int.reduceBEq, q1, q2, q3, q4, q5, q6, q7])) | (with_reducible refine And.intro ?_ ?_; (focus (first | omega | (intros; (repeat' (with_reducible apply And.intro)) <;> first | omega | (simp only [List.length_map]; omega))))) | (with_reducible apply And.intro) | ((first | refine Pu.to (hcp) (wkL_refl _) ?_ | refine callDV_pu (hcp) (wkL_refl _) ?_ | refine Pu.to (hp) (wkL_refl _) ?_ | refine callDV_pu (hp) (wkL_refl _) ?_); (try simp only [↓R1, R2, R3, R4, R5, Nat.reduceEqDiff, Nat.reduceAdd, Nat.reduceMul, Nat.reduceSub, Nat.reduceLeDiff, Nat.reduceLT, reduceIte, reduceCtorEq, Int.reduceBNe, Int.reduceBEq, q1, q2, q3, q4, q5, q6, q7])))
            refine endP_pu (by simp) (by first | (simp [rvsS, rvS]; done) | (simp only [rvsS, rvS, ↓R1, R2, R3, R4, R5, Nat.reduceEqDiff, Nat.reduceAdd, Nat.reduceMul, Nat.reduceSub, Nat.reduceLeDiff, Nat.reduceLT, reduceIte, reduceCtorEq, Int.reduceBNe, Int.reduceBEq, q1, q2, q3, q4, q5, q6, q7]; try simp)) (wk_of_eq (by (simp only [resAV, rvV, List.map_cons, List.map_nil, ↓R1, R2, R3, R4, R5, Nat.reduceEqDiff, Nat.reduceAdd, Nat.reduceMul, Nat.reduceSub, Nat.reduceLeDiff, Nat.reduceLT, reduceIte, reduceCtorEq, Int.reduceBNe, Int.reduceBEq, q1, q2, q3, q4, q5, q6, q7]))) (St.le_setBox (St.le_refl _) hβ)
          · have q3 : decide ((9223372036854775808 : Int) < (V : Int)) = false := by rw [h1, decide_eq_false_iff_not]; exact hb
            have z2 : decide (9223372036854775808 < V) = false := by rw [decide_eq_false_iff_not]; exact hb
            rw [z2]
            simp only [Bool.false_or]
            by_cases he : V = 9223372036854775808
            · have q5 : ((V : Int) == 9223372036854775808) = true := by rw [h2, decide_eq_true_eq]; exact he
              have z3 : decide (V = 9223372036854775808) = true := by rw [decide_eq_true_eq]; exact he
              rw [z3]
              simp only [cond_true]
              (refine Pu_intro c21 b21 (Nat.le_of_ble_eq_true rfl) fun σ => ?_; simp only [c21, ↓R1, R2, R3, R4, R5, Nat.reduceEqDiff, Nat.reduceAdd, Nat.reduceMul, Nat.reduceSub, Nat.reduceLeDiff, Nat.reduceLT, reduceIte, reduceCtorEq, Int.reduceBNe, Int.reduceBEq, q1, q2, q3, q4, q5, q6, q7])
              repeat' (first | (with_reducible rw [allocV_eq]) | (refine gdV_split (fun hc => ?_) (fun hc => ?_) <;> (try simp only [hc, ↓R1, R2, R3, R4, R5, Nat.reduceEqDiff, Nat.reduceAdd, Nat.reduceMul, Nat.reduceSub, Nat.reduceLeDiff, Nat.reduceLT, reduceIte, reduceCtorEq, Int.reduceBNe, Int.reduceBEq, q1, q2, q3, q4, q5, q6, q7])) | ((first | refine condV_split (fun hc => ?_) (fun hc => ?_) | (with_reducible intro β hβ; (try simp only [St.box_noneA, St.tip_noneA, St.tip_set, St.box_tip, St.box_lp, St.tip_lp] at hβ); (repeat (obtain ⟨⟨_, _⟩, hβ⟩ := hβ)); (try (have hbis := apart_is (by assumption) hβ; obtain ⟨_, _⟩ := hbis)))) <;> (try simp only [↓R1, R2, R3, R4, R5, Nat.reduceEqDiff, Nat.reduceAdd, Nat.reduceMul, Nat.reduceSub, Nat.reduceLeDiff, Nat.reduceLT, reduceIte, reduceCtorEq, Int.reduceBNe, Int.reduceBEq, q1, q2, q3, q4, q5, q6, q7])) | (with_reducible refine And.intro ?_ ?_; (focus (first | omega | (intros; (repeat' (with_reducible apply And.intro)) <;> first | omega | (simp only [List.length_map]; omega))))) | (with_reducible apply And.intro) | ((first | refine Pu.to (hcp) (wkL_refl _) ?_ | refine callDV_pu (hcp) (wkL_refl _) ?_ | refine Pu.to (hp) (wkL_refl _) ?_ | refine callDV_pu (hp) (wkL_refl _) ?_); (try simp only [↓R1, R2, R3, R4, R5, Nat.reduceEqDiff, Nat.reduceAdd, Nat.reduceMul, Nat.reduceSub, Nat.reduceLeDiff, Nat.reduceLT, reduceIte, reduceCtorEq, Int.reduceBNe, Int.reduceBEq, q1, q2, q3, q4, q5, q6, q7])))
              refine endP_pu (by simp) (by first | (simp [rvsS, rvS]; done) | (simp only [rvsS, rvS, ↓R1, R2, R3, R4, R5, Nat.reduceEqDiff, Nat.reduceAdd, Nat.reduceMul, Nat.reduceSub, Nat.reduceLeDiff, Nat.reduceLT, reduceIte, reduceCtorEq, Int.reduceBNe, Int.reduceBEq, q1, q2, q3, q4, q5, q6, q7]; try simp)) (wk_of_eq (by (simp only [resAV, rvV, List.map_cons, List.map_nil, ↓R1, R2, R3, R4, R5, Nat.reduceEqDiff, Nat.reduceAdd, Nat.reduceMul, Nat.reduceSub, Nat.reduceLeDiff, Nat.reduceLT, reduceIte, reduceCtorEq, Int.reduceBNe, Int.reduceBEq, q1, q2, q3, q4, q5, q6, q7]))) (St.le_setBox (St.le_refl _) hβ)
            · have q5 : ((V : Int) == 9223372036854775808) = false := by rw [h2, decide_eq_false_iff_not]; exact he
              have z3 : decide (V = 9223372036854775808) = false := by rw [decide_eq_false_iff_not]; exact he
              have q4 := h3 (by omega)
              rw [z3]
              simp only [cond_false]
              (refine Pu_intro c21 b21 (Nat.le_of_ble_eq_true rfl) fun σ => ?_; simp only [c21, ↓R1, R2, R3, R4, R5, Nat.reduceEqDiff, Nat.reduceAdd, Nat.reduceMul, Nat.reduceSub, Nat.reduceLeDiff, Nat.reduceLT, reduceIte, reduceCtorEq, Int.reduceBNe, Int.reduceBEq, q1, q2, q3, q4, q5, q6, q7])
              repeat' (first | (with_reducible rw [allocV_eq]) | (refine gdV_split (fun hc => ?_) (fun hc => ?_) <;> (try simp only [hc, ↓R1, R2, R3, R4, R5, Nat.reduceEqDiff, Nat.reduceAdd, Nat.reduceMul, Nat.reduceSub, Nat.reduceLeDiff, Nat.reduceLT, reduceIte, reduceCtorEq, Int.reduceBNe, Int.reduceBEq, q1, q2, q3, q4, q5, q6, q7])) | ((first | refine condV_split (fun hc => ?_) (fun hc => ?_) | (with_reducible intro β hβ; (try simp only [St.box_noneA, St.tip_noneA, St.tip_set, St.box_tip, St.box_lp, St.tip_lp] at hβ); (repeat (obtain ⟨⟨_, _⟩, hβ⟩ := hβ)); (try (have hbis := apart_is (by assumption) hβ; obtain ⟨_, _⟩ := hbis)))) <;> (try simp only [↓R1, R2, R3, R4, R5, Nat.reduceEqDiff, Nat.reduceAdd, Nat.reduceMul, Nat.reduceSub, Nat.reduceLeDiff, Nat.reduceLT, reduceIte, reduceCtorEq, Int.reduceBNe, Int.reduceBEq, q1, q2, q3, q4, q5, q6, q7])) | (with_reducible refine And.intro ?_ ?_; (focus (first | omega | (intros; (repeat' (with_reducible apply And.intro)) <;> first | omega | (simp only [List.length_map]; omega))))) | (with_reducible apply And.intro) | ((first | refine Pu.to (hcp) (wkL_refl _) ?_ | refine callDV_pu (hcp) (wkL_refl _) ?_ | refine Pu.to (hp) (wkL_refl _) ?_ | refine callDV_pu (hp) (wkL_refl _) ?_); (try simp only [↓R1, R2, R3, R4, R5, Nat.reduceEqDiff, Nat.reduceAdd, Nat.reduceMul, Nat.reduceSub, Nat.reduceLeDiff, Nat.reduceLT, reduceIte, reduceCtorEq, Int.reduceBNe, Int.reduceBEq, q1, q2, q3, q4, q5, q6, q7])))
              refine endP_pu (by simp) (by first | (simp [rvsS, rvS]; done) | (simp only [rvsS, rvS, ↓R1, R2, R3, R4, R5, Nat.reduceEqDiff, Nat.reduceAdd, Nat.reduceMul, Nat.reduceSub, Nat.reduceLeDiff, Nat.reduceLT, reduceIte, reduceCtorEq, Int.reduceBNe, Int.reduceBEq, q1, q2, q3, q4, q5, q6, q7]; try simp)) (wk_of_eq (by (simp only [resAV, rvV, List.map_cons, List.map_nil, ↓R1, R2, R3, R4, R5, Nat.reduceEqDiff, Nat.reduceAdd, Nat.reduceMul, Nat.reduceSub, Nat.reduceLeDiff, Nat.reduceLT, reduceIte, reduceCtorEq, Int.reduceBNe, Int.reduceBEq, q1, q2, q3, q4, q5, q6, q7]))) (St.le_setBox (St.le_refl _) hβ)
end Go.Proofs.YtemddijemikleaaDoor
namespace Go.Proofs.YtemddijemikleaaDoor
open Go.Abs
set_option linter.all false
set_option maxRecDepth 100000
/-- Which of the names a word is: the first one. -/
def whichF (t : List UInt8) : List (List UInt8) → Nat → Option Nat
  | [], _ => none
  | n :: l, i => bif n == t then some i else whichF t l (i + 1)
def whichV (q : Bool) (t : List UInt8) (l : List (List UInt8)) : AV :=
  match (bif q then none else whichF t l 0) with
  | some i => .tup [.int .i64 (i : Nat), .int .i64 0]
  | none => .tup [.int .i64 0, .int .i64 7]
theorem whichF_drop (t : List UInt8) (l : List (List UInt8)) {k : Nat} (h : k < l.length) (j : Nat) : whichF t (l.drop k) j = bif l[k] == t then some j else whichF t (l.drop (k + 1)) (j + 1) := by
  rw [List.drop_eq_getElem_cons h]; rfl
set_option maxHeartbeats 2000000 in
theorem p19 (q : Bool) (t : List UInt8) (a : Int) (l : List (List UInt8)) (hl : l.length ≤ 1000) : Pu Tryd.prog 19 [.agg [.bool q, .str t, .int .i64 a], .sl false l.length (l.map AV.str)] (whichV q t l) := by
  have q1 : True := trivial
  have q2 : True := trivial
  have q3 : True := trivial
  have q4 : True := trivial
  have q5 : True := trivial
  have hw : True := trivial
  have hd : True := trivial
  (refine Pu_intro c19 b19 (Nat.le_of_ble_eq_true rfl) fun σ => ?_; simp only [c19, ↓R1, R2, R3, R4, R5, Nat.reduceEqDiff, Nat.reduceAdd, Nat.reduceMul, Nat.reduceSub, Nat.reduceLeDiff, Nat.reduceLT, reduceIte, reduceCtorEq, Int.reduceBNe, Int.reduceBEq, q1, q2, q3, q4, q5, hw, hd])
  intro β hβ
  refine loopV_for l.length (fun k => [(2, .ptr β 0), (8, .sl false l.length (l.map AV.str)), (9, .int .i64 (l.length : Nat)), (10, .int .i64 (k : Nat))]) (fun _ => σ.setBox β [.bool q, .str t, .int .i64 a]) (fun k => (bif q then none else whichF t l 0) = (bif q then none else whichF t (l.drop k) k)) (by simp [subF, slot, wk_refl]) (St.le_refl _) (by simp) (fun k hk hI => ?_)
  by_cases hlt : k < l.length
  · have q1 : decide ((k : Int) < (l.length : Int)) = true := by rw [decide_eq_true_eq]; omega
    have hd := strs_get l hlt
    have hw : IntKind.i64.wrap ((k : Int) + 1) = ((k + 1 : Nat) : Int) := by rw [wrap64 (by omega) (by omega)]; omega
    rw [whichF_drop t l hlt] at hI
    cases q with
    | true =>
      simp only [q1, ↓R1, R2, R3, R4, R5, Nat.reduceEqDiff, Nat.reduceAdd, Nat.reduceMul, Nat.reduceSub, Nat.reduceLeDiff, Nat.reduceLT, reduceIte, reduceCtorEq, Int.reduceBNe, Int.reduceBEq, q1, q2, q3, q4, q5, hw, hd]
      repeat' (first | (with_reducible rw [allocV_eq]) | (refine gdV_split (fun hc => ?_) (fun hc => ?_) <;> (try simp only [hc, ↓R1, R2, R3, R4, R5, Nat.reduceEqDiff, Nat.reduceAdd, Nat.reduceMul, Nat.reduceSub, Nat.reduceLeDiff, Nat.reduceLT, reduceIte, reduceCtorEq, Int.reduceBNe, Int.reduceBEq, q1, q2, q3, q4, q5, hw, hd])) | ((first | refine condV_split (fun hc => ?_) (fun hc => ?_) | (with_reducible intro β hβ; (try simp only [St.box_noneA, St.tip_noneA, St.tip_set, St.box_tip, St.box_lp, St.tip_lp] at hβ); (repeat (obtain ⟨⟨_, _⟩, hβ⟩ := hβ)); (try (have hbis := apart_is (by assumption) hβ; obtain ⟨_, _⟩ := hbis)))) <;> (try simp only [↓R1, R2, R3, R4, R5, Nat.reduceEqDiff, Nat.reduceAdd, Nat.reduceMul, Nat.reduceSub, Nat.reduceLeDiff, Nat.reduceLT, reduceIte, reduceCtorEq, Int.reduceBNe, Int.reduceBEq, q1, q2, q3, q4, q5, hw, hd])) | (with_reducible refine And.intro ?_ ?_; (focus (first | omega | (intros; (repeat' (with_reducible apply And.intro)) <;> first | omega | (simp only [List.length_map]; omega))))) | (with_reducible apply And.intro))
      all_goals first | (simp; done) | skip
      all_goals first | (rw [List.length_map]; omega) | skip
      · simp [subF, slot, wk_refl]
      · exact St.le_refl _
    | false =>
      cases he : l[k] == t with
      | true =>
        rw [he] at hI
        simp only [cond_true, cond_false] at hI
        have q2 := he
        rw [whichV]; simp only [cond_false]; rw [hI]
        simp only [q1, ↓R1, R2, R3, R4, R5, Nat.reduceEqDiff, Nat.reduceAdd, Nat.reduceMul, Nat.reduceSub, Nat.reduceLeDiff, Nat.reduceLT, reduceIte, reduceCtorEq, Int.reduceBNe, Int.reduceBEq, q1, q2, q3, q4, q5, hw, hd]
        repeat' (first | (with_reducible rw [allocV_eq]) | (refine gdV_split (fun hc => ?_) (fun hc => ?_) <;> (try simp only [hc, ↓R1, R2, R3, R4, R5, Nat.reduceEqDiff, Nat.reduceAdd, Nat.reduceMul, Nat.reduceSub, Nat.reduceLeDiff, Nat.reduceLT, reduceIte, reduceCtorEq, Int.reduceBNe, Int.reduceBEq, q1, q2, q3, q4, q5, hw, hd])) | ((first | refine condV_split (fun hc => ?_) (fun hc => ?_) | (with_reducible intro β hβ; (try simp only [St.box_noneA, St.tip_noneA, St.tip_set, St.box_tip, St.box_lp, St.tip_lp] at hβ); (repeat (obtain ⟨⟨_, _⟩, hβ⟩ := hβ)); (try (have hbis := apart_is (by assumption) hβ; obtain ⟨_, _⟩ := hbis)))) <;> (try simp only [↓R1, R2, R3, R4, R5, Nat.reduceEqDiff, Nat.reduceAdd, Nat.reduceMul, Nat.reduceSub, Nat.reduceLeDiff, Nat.reduceLT, reduceIte, reduceCtorEq, Int.reduceBNe, Int.reduceBEq, q1, q2, q3, q4, q5, hw, hd])) | (with_reducible refine And.intro ?_ ?_; (focus (first | omega | (intros; (repeat' (with_reducible apply And.intro)) <;> first | omega | (simp only [List.length_map]; omega))))) | (with_reducible apply And.intro))
        all_goals first | (rw [List.length_map]; omega) | skip
        refine endP_pu (by simp) (by first | (simp [rvsS, rvS]; done) | (simp only [rvsS, rvS, ↓R1, R2, R3, R4, R5, Nat.reduceEqDiff, Nat.reduceAdd, Nat.reduceMul, Nat.reduceSub, Nat.reduceLeDiff, Nat.reduceLT, reduceIte, reduceCtorEq, Int.reduceBNe, Int.reduceBEq, q1, q2, q3, q4, q5, hw, hd]; try simp)) (wk_of_eq (by (simp only [resAV, rvV, List.map_cons, List.map_nil, ↓R1, R2, R3, R4, R5, Nat.reduceEqDiff, Nat.reduceAdd, Nat.reduceMul, Nat.reduceSub, Nat.reduceLeDiff, Nat.reduceLT, reduceIte, reduceCtorEq, Int.reduceBNe, Int.reduceBEq, q1, q2, q3, q4, q5, hw, hd]))) (St.le_setBox (St.le_refl _) hβ)
      | false =>
        rw [he] at hI
        have q2 := he
        simp only [q1, ↓R1, R2, R3, R4, R5, Nat.reduceEqDiff, Nat.reduceAdd, Nat.reduceMul, Nat.reduceSub, Nat.reduceLeDiff, Nat.reduceLT, reduceIte, reduceCtorEq, Int.reduceBNe, Int.reduceBEq, q1, q2, q3, q4, q5, hw, hd]
        repeat' (first | (with_reducible rw [allocV_eq]) | (refine gdV_split (fun hc => ?_) (fun hc => ?_) <;> (try simp only [hc, ↓R1, R2, R3, R4, R5, Nat.reduceEqDiff, Nat.reduceAdd, Nat.reduceMul, Nat.reduceSub, Nat.reduceLeDiff, Nat.reduceLT, reduceIte, reduceCtorEq, Int.reduceBNe, Int.reduceBEq, q1, q2, q3, q4, q5, hw, hd])) | ((first | refine condV_split (fun hc => ?_) (fun hc => ?_) | (with_reducible intro β hβ; (try simp only [St.box_noneA, St.tip_noneA, St.tip_set, St.box_tip, St.box_lp, St.tip_lp] at hβ); (repeat (obtain ⟨⟨_, _⟩, hβ⟩ := hβ)); (try (have hbis := apart_is (by assumption) hβ; obtain ⟨_, _⟩ := hbis)))) <;> (try simp only [↓R1, R2, R3, R4, R5, Nat.reduceEqDiff, Nat.reduceAdd, Nat.reduceMul, Nat.reduceSub, Nat.reduceLeDiff, Nat.reduceLT, reduceIte, reduceCtorEq, Int.reduceBNe, Int.reduceBEq, q1, q2, q3, q4, q5, hw, hd])) | (with_reducible refine And.intro ?_ ?_; (focus (first | omega | (intros; (repeat' (with_reducible apply And.intro)) <;> first | omega | (simp only [List.length_map]; omega))))) | (with_reducible apply And.intro))
        all_goals first | (rw [List.length_map]; omega) | skip
        · simpa using hI
        · simp [subF, slot, wk_refl]
        · exact St.le_refl _
  · have hke : k = l.length := by omega
    subst hke
    have q1 : decide ((l.length : Int) < (l.length : Int)) = false := by simp
    rw [List.drop_length] at hI
    rw [whichV, hI]
    have e : (bif q then none else whichF t [] l.length) = none := by cases q <;> rfl
    rw [e]
    simp only [q1, ↓R1, R2, R3, R4, R5, Nat.reduceEqDiff, Nat.reduceAdd, Nat.reduceMul, Nat.reduceSub, Nat.reduceLeDiff, Nat.reduceLT, reduceIte, reduceCtorEq, Int.reduceBNe, Int.reduceBEq, q1, q2, q3, q4, q5, hw, hd]
    repeat' (first | (with_reducible rw [allocV_eq]) | (refine gdV_split (fun hc => ?_) (fun hc => ?_) <;> (try simp only [hc, ↓R1, R2, R3, R4, R5, Nat.reduceEqDiff, Nat.reduceAdd, Nat.reduceMul, Nat.reduceSub, Nat.reduceLeDiff, Nat.reduceLT, reduceIte, reduceCtorEq, Int.reduceBNe, Int.reduceBEq, q1, q2, q3, q4, q5, hw, hd])) | ((first | refine condV_split (fun hc => ?_) (fun hc => ?_) | (with_reducible intro β hβ; (try simp only [St.box_noneA, St.tip_noneA, St.tip_set, St.box_tip, St.box_lp, St.tip_lp] at hβ); (repeat (obtain ⟨⟨_, _⟩, hβ⟩ := hβ)); (try (have hbis := apart_is (by assumption) hβ; obtain ⟨_, _⟩ := hbis)))) <;> (try simp only [↓R1, R2, R3, R4, R5, Nat.reduceEqDiff, Nat.reduceAdd, Nat.reduceMul, Nat.reduceSub, Nat.reduceLeDiff, Nat.reduceLT, reduceIte, reduceCtorEq, Int.reduceBNe, Int.reduceBEq, q1, q2, q3, q4, q5, hw, hd])) | (with_reducible refine And.intro ?_ ?_; (focus (first | omega | (intros; (repeat' (with_reducible apply And.intro)) <;> first | omega | (simp only [List.length_map]; omega))))) | (with_reducible apply And.intro))
    refine endP_pu (by simp) (by first | (simp [rvsS, rvS]; done) | (simp only [rvsS, rvS, ↓R1, R2, R3, R4, R5, Nat.reduceEqDiff, Nat.reduceAdd, Nat.reduceMul, Nat.reduceSub, Nat.reduceLeDiff, Nat.reduceLT, reduceIte, reduceCtorEq, Int.reduceBNe, Int.reduceBEq, q1, q2, q3, q4, q5, hw, hd]; try simp)) (wk_of_eq (by (simp only [resAV, rvV, List.map_cons, List.map_nil, ↓R1, R2, R3, R4, R5, Nat.reduceEqDiff, Nat.reduceAdd, Nat.reduceMul, Nat.reduceSub, Nat.reduceLeDiff, Nat.reduceLT, reduceIte, reduceCtorEq, Int.reduceBNe, Int.reduceBEq, q1, q2, q3, q4, q5, hw, hd]))) (St.le_setBox (St.le_refl _) hβ)
end Go.Proofs.YtemddijemikleaaDoor
namespace Go.Proofs.YtemddijemikleaaDoor
open Go.Abs
set_option linter.all false
set_option maxRecDepth 100000
theorem signV_tup (q : Bool) (t : List UInt8) : ∃ x y, signV q t = .tup [.int .i64 x, .int .i64 y] := by
  unfold signV
  cases (q || !digOk (absS t)) || (negS t && decide (valN (absS t) = 0)) with
  | true => exact ⟨_, _, rfl⟩
  | false =>
    simp only [cond_false]
    cases (decide (18446744073709551616 ≤ valN (absS t)) || decide (9223372036854775808 < valN (absS t))) || (decide (valN (absS t) = 9223372036854775808) && !negS t) with
    | true => exact ⟨_, _, rfl⟩
    | false => exact ⟨_, _, rfl⟩
end Go.Proofs.YtemddijemikleaaDoor
namespace Go.Proofs.YtemddijemikleaaDoor
open Go.Abs
set_option linter.all false
set_option maxRecDepth 100000
theorem p26 {s : List UInt8} {q : Bool} {t : List UInt8} {a : Nat} (hl : s.length ≤ 1000000) (ht : t.length ≤ 20000) (h : rowsS s = .ok [⟨0, [⟨q, t, a⟩]⟩]) : Pu Tryd.prog 26 [.str s, .agg [.bool q, .str t, .int .i64 (a : Nat)]] (.bool true) := by
  have q1 : (((0 : Nat) : Int) == 0) = true := rfl
  have q2 : True := trivial
  have q3 : True := trivial
  have h1 := p25 s hl
  rw [h] at h1
  simp only [rowsV, faultV, toRI_flat] at h1
  have h2 := p14 [toRI ⟨0, [⟨q, t, a⟩]⟩] (light_of (by simp [toRI, toWI]; exact ht))
  have e : [toRI ⟨0, [⟨q, t, a⟩]⟩].flatMap cRI = [.int .i64 0, .sl false 1 [.bool q, .str t, .int .i64 (a : Nat)]] := rfl
  simp only [List.map_cons, List.map_nil, e, List.length_cons, List.length_nil, Nat.zero_add] at h1 h2
  have hwk : wk (.sl true 1 [AV.int IntKind.i64 0, AV.sl true 1 [AV.bool q, AV.str t, AV.int IntKind.i64 (a : Nat)]]) (.sl false 1 [AV.int IntKind.i64 0, AV.sl false 1 [AV.bool q, AV.str t, AV.int IntKind.i64 (a : Nat)]]) :=
    wk_trans (wk_full _ _) (wk_sl (.cons (wk_refl _) (.cons (wk_full _ _) .nil)))
  (refine Pu_intro c26 b26 (Nat.le_of_ble_eq_true rfl) fun σ => ?_; simp only [c26, ↓R1, R2, R3, R4, R5, Nat.reduceEqDiff, Nat.reduceAdd, Nat.reduceMul, Nat.reduceSub, Nat.reduceLeDiff, Nat.reduceLT, reduceIte, reduceCtorEq, Int.reduceBNe, Int.reduceBEq, q1, q2, q3, beq_self_eq_true])
  repeat' (first | (with_reducible rw [allocV_eq]) | (refine gdV_split (fun hc => ?_) (fun hc => ?_) <;> (try simp only [hc, ↓R1, R2, R3, R4, R5, Nat.reduceEqDiff, Nat.reduceAdd, Nat.reduceMul, Nat.reduceSub, Nat.reduceLeDiff, Nat.reduceLT, reduceIte, reduceCtorEq, Int.reduceBNe, Int.reduceBEq, q1, q2, q3, beq_self_eq_true])) | ((first | refine condV_split (fun hc => ?_) (fun hc => ?_) | (with_reducible intro β hβ; (try simp only [St.box_noneA, St.tip_noneA, St.tip_set, St.box_tip, St.box_lp, St.tip_lp] at hβ); (repeat (obtain ⟨⟨_, _⟩, hβ⟩ := hβ)); (try (have hbis := apart_is (by assumption) hβ; obtain ⟨_, _⟩ := hbis)))) <;> (try simp only [↓R1, R2, R3, R4, R5, Nat.reduceEqDiff, Nat.reduceAdd, Nat.reduceMul, Nat.reduceSub, Nat.reduceLeDiff, Nat.reduceLT, reduceIte, reduceCtorEq, Int.reduceBNe, Int.reduceBEq, q1, q2, q3, beq_self_eq_true])) | (with_reducible refine And.intro ?_ ?_; (focus (first | omega | (intros; (repeat' (with_reducible apply And.intro)) <;> first | omega | (simp only [List.length_map]; omega))))) | (with_reducible apply And.intro) | ((first | refine Pu.to (h1) (wkL_refl _) ?_ | refine callDV_pu (h1) (wkL_refl _) ?_ | (refine Pu.to h2 (.cons (wk_refl _) (.cons hwk .nil)) ?_)); (try simp only [↓R1, R2, R3, R4, R5, Nat.reduceEqDiff, Nat.reduceAdd, Nat.reduceMul, Nat.reduceSub, Nat.reduceLeDiff, Nat.reduceLT, reduceIte, reduceCtorEq, Int.reduceBNe, Int.reduceBEq, q1, q2, q3, beq_self_eq_true])))
  (refine endP_pu (by simp) (by first | (simp [rvsS, rvS]; done) | (simp only [rvsS, rvS, ↓R1, R2, R3, R4, R5, Nat.reduceEqDiff, Nat.reduceAdd, Nat.reduceMul, Nat.reduceSub, Nat.reduceLeDiff, Nat.reduceLT, reduceIte, reduceCtorEq, Int.reduceBNe, Int.reduceBEq, q1, q2, q3, beq_self_eq_true]; try simp)) (wk_of_eq ?_) (by (repeat (first | exact St.le_refl _ | (refine St.le_new ?_ (by assumption)) | (refine St.le_newT ?_ (by assumption))))))
  (simp only [resAV, rvV, List.map_cons, List.map_nil, ↓R1, R2, R3, R4, R5, Nat.reduceEqDiff, Nat.reduceAdd, Nat.reduceMul, Nat.reduceSub, Nat.reduceLeDiff, Nat.reduceLT, reduceIte, reduceCtorEq, Int.reduceBNe, Int.reduceBEq, q1, q2, q3, beq_self_eq_true])
theorem p28 {s : List UInt8} (hl : s.length ≤ 1000000) (h : rowsS s = .error (3, 0)) : Pu Tryd.prog 28 [.str s] (.bool true) := by
  have q1 : (((0 : Nat) : Int) == 0) = true := rfl
  have q2 : (((3 : Nat) : Int) == 3) = true := rfl
  have q3 : True := trivial
  have h1 := p25 s hl
  rw [h] at h1
  simp only [rowsV, faultV] at h1
  (refine Pu_intro c28 b28 (Nat.le_of_ble_eq_true rfl) fun σ => ?_; simp only [c28, ↓R1, R2, R3, R4, R5, Nat.reduceEqDiff, Nat.reduceAdd, Nat.reduceMul, Nat.reduceSub, Nat.reduceLeDiff, Nat.reduceLT, reduceIte, reduceCtorEq, Int.reduceBNe, Int.reduceBEq, q1, q2, q3, beq_self_eq_true])
  repeat' (first | (with_reducible rw [allocV_eq]) | (refine gdV_split (fun hc => ?_) (fun hc => ?_) <;> (try simp only [hc, ↓R1, R2, R3, R4, R5, Nat.reduceEqDiff, Nat.reduceAdd, Nat.reduceMul, Nat.reduceSub, Nat.reduceLeDiff, Nat.reduceLT, reduceIte, reduceCtorEq, Int.reduceBNe, Int.reduceBEq, q1, q2, q3, beq_self_eq_true])) | ((first | refine condV_split (fun hc => ?_) (fun hc => ?_) | (with_reducible intro β hβ; (try simp only [St.box_noneA, St.tip_noneA, St.tip_set, St.box_tip, St.box_lp, St.tip_lp] at hβ); (repeat (obtain ⟨⟨_, _⟩, hβ⟩ := hβ)); (try (have hbis := apart_is (by assumption) hβ; obtain ⟨_, _⟩ := hbis)))) <;> (try simp only [↓R1, R2, R3, R4, R5, Nat.reduceEqDiff, Nat.reduceAdd, Nat.reduceMul, Nat.reduceSub, Nat.reduceLeDiff, Nat.reduceLT, reduceIte, reduceCtorEq, Int.reduceBNe, Int.reduceBEq, q1, q2, q3, beq_self_eq_true])) | (with_reducible refine And.intro ?_ ?_; (focus (first | omega | (intros; (repeat' (with_reducible apply And.intro)) <;> first | omega | (simp only [List.length_map]; omega))))) | (with_reducible apply And.intro) | ((first | refine Pu.to (h1) (wkL_refl _) ?_ | refine callDV_pu (h1) (wkL_refl _) ?_); (try simp only [↓R1, R2, R3, R4, R5, Nat.reduceEqDiff, Nat.reduceAdd, Nat.reduceMul, Nat.reduceSub, Nat.reduceLeDiff, Nat.reduceLT, reduceIte, reduceCtorEq, Int.reduceBNe, Int.reduceBEq, q1, q2, q3, beq_self_eq_true])))
  (refine endP_pu (by simp) (by first | (simp [rvsS, rvS]; done) | (simp only [rvsS, rvS, ↓R1, R2, R3, R4, R5, Nat.reduceEqDiff, Nat.reduceAdd, Nat.reduceMul, Nat.reduceSub, Nat.reduceLeDiff, Nat.reduceLT, reduceIte, reduceCtorEq, Int.reduceBNe, Int.reduceBEq, q1, q2, q3, beq_self_eq_true]; try simp)) (wk_of_eq ?_) (by (repeat (first | exact St.le_refl _ | (refine St.le_new ?_ (by assumption)) | (refine St.le_newT ?_ (by assumption))))))
  (simp only [resAV, rvV, List.map_cons, List.map_nil, ↓R1, R2, R3, R4, R5, Nat.reduceEqDiff, Nat.reduceAdd, Nat.reduceMul, Nat.reduceSub, Nat.reduceLeDiff, Nat.reduceLT, reduceIte, reduceCtorEq, Int.reduceBNe, Int.reduceBEq, q1, q2, q3, beq_self_eq_true])
theorem p30 (q : Bool) (t : List UInt8) (a lo hi x y : Int) (hl : t.length ≤ 1000000) (h : numV q t lo hi = .tup [.int .u64 x, .int .i64 y]) : Pu Tryd.prog 30 [.agg [.bool q, .str t, .int .i64 a], .int .u64 lo, .int .u64 hi] (.int .i64 y) := by
  have q1 : True := trivial
  have q2 : True := trivial
  have q3 : True := trivial
  have h1 := p17 q t a lo hi hl
  rw [h] at h1
  (refine Pu_intro c30 b30 (Nat.le_of_ble_eq_true rfl) fun σ => ?_; simp only [c30, ↓R1, R2, R3, R4, R5, Nat.reduceEqDiff, Nat.reduceAdd, Nat.reduceMul, Nat.reduceSub, Nat.reduceLeDiff, Nat.reduceLT, reduceIte, reduceCtorEq, Int.reduceBNe, Int.reduceBEq, q1, q2, q3, beq_self_eq_true])
  repeat' (first | (with_reducible rw [allocV_eq]) | (refine gdV_split (fun hc => ?_) (fun hc => ?_) <;> (try simp only [hc, ↓R1, R2, R3, R4, R5, Nat.reduceEqDiff, Nat.reduceAdd, Nat.reduceMul, Nat.reduceSub, Nat.reduceLeDiff, Nat.reduceLT, reduceIte, reduceCtorEq, Int.reduceBNe, Int.reduceBEq, q1, q2, q3, beq_self_eq_true])) | ((first | refine condV_split (fun hc => ?_) (fun hc => ?_) | (with_reducible intro β hβ; (try simp only [St.box_noneA, St.tip_noneA, St.tip_set, St.box_tip, St.box_lp, St.tip_lp] at hβ); (repeat (obtain ⟨⟨_, _⟩, hβ⟩ := hβ)); (try (have hbis := apart_is (by assumption) hβ; obtain ⟨_, _⟩ := hbis)))) <;> (try simp only [↓R1, R2, R3, R4, R5, Nat.reduceEqDiff, Nat.reduceAdd, Nat.reduceMul, Nat.reduceSub, Nat.reduceLeDiff, Nat.reduceLT, reduceIte, reduceCtorEq, Int.reduceBNe, Int.reduceBEq, q1, q2, q3, beq_self_eq_true])) | (with_reducible refine And.intro ?_ ?_; (focus (first | omega | (intros; (repeat' (with_reducible apply And.intro)) <;> first | omega | (simp only [List.length_map]; omega))))) | (with_reducible apply And.intro) | ((first | refine Pu.to (h1) (wkL_refl _) ?_ | refine callDV_pu (h1) (wkL_refl _) ?_); (try simp only [↓R1, R2, R3, R4, R5, Nat.reduceEqDiff, Nat.reduceAdd, Nat.reduceMul, Nat.reduceSub, Nat.reduceLeDiff, Nat.reduceLT, reduceIte, reduceCtorEq, Int.reduceBNe, Int.reduceBEq, q1, q2, q3, beq_self_eq_true])))
  (refine endP_pu (by simp) (by first | (simp [rvsS, rvS]; done) | (simp only [rvsS, rvS, ↓R1, R2, R3, R4, R5, Nat.reduceEqDiff, Nat.reduceAdd, Nat.reduceMul, Nat.reduceSub, Nat.reduceLeDiff, Nat.reduceLT, reduceIte, reduceCtorEq, Int.reduceBNe, Int.reduceBEq, q1, q2, q3, beq_self_eq_true]; try simp)) (wk_of_eq ?_) (by (repeat (first | exact St.le_refl _ | (refine St.le_new ?_ (by assumption)) | (refine St.le_newT ?_ (by assumption))))))
  (simp only [resAV, rvV, List.map_cons, List.map_nil, ↓R1, R2, R3, R4, R5, Nat.reduceEqDiff, Nat.reduceAdd, Nat.reduceMul, Nat.reduceSub, Nat.reduceLeDiff, Nat.reduceLT, reduceIte, reduceCtorEq, Int.reduceBNe, Int.reduceBEq, q1, q2, q3, beq_self_eq_true])
theorem p31 (t : List UInt8) (hl : t.length ≤ 1000000) : Pu Tryd.prog 31 [.str t] (signV false t) := by
  have q1 : True := trivial
  have q2 : True := trivial
  have q3 : True := trivial
  have h1 := p21 false t 0 hl
  obtain ⟨x, y, h⟩ := signV_tup false t
  rw [h] at h1 ⊢
  (refine Pu_intro c31 b31 (Nat.le_of_ble_eq_true rfl) fun σ => ?_; simp only [c31, ↓R1, R2, R3, R4, R5, Nat.reduceEqDiff, Nat.reduceAdd, Nat.reduceMul, Nat.reduceSub, Nat.reduceLeDiff, Nat.reduceLT, reduceIte, reduceCtorEq, Int.reduceBNe, Int.reduceBEq, q1, q2, q3, beq_self_eq_true])
  repeat' (first | (with_reducible rw [allocV_eq]) | (refine gdV_split (fun hc => ?_) (fun hc => ?_) <;> (try simp only [hc, ↓R1, R2, R3, R4, R5, Nat.reduceEqDiff, Nat.reduceAdd, Nat.reduceMul, Nat.reduceSub, Nat.reduceLeDiff, Nat.reduceLT, reduceIte, reduceCtorEq, Int.reduceBNe, Int.reduceBEq, q1, q2, q3, beq_self_eq_true])) | ((first | refine condV_split (fun hc => ?_) (fun hc => ?_) | (with_reducible intro β hβ; (try simp only [St.box_noneA, St.tip_noneA, St.tip_set, St.box_tip, St.box_lp, St.tip_lp] at hβ); (repeat (obtain ⟨⟨_, _⟩, hβ⟩ := hβ)); (try (have hbis := apart_is (by assumption) hβ; obtain ⟨_, _⟩ := hbis)))) <;> (try simp only [↓R1, R2, R3, R4, R5, Nat.reduceEqDiff, Nat.reduceAdd, Nat.reduceMul, Nat.reduceSub, Nat.reduceLeDiff, Nat.reduceLT, reduceIte, reduceCtorEq, Int.reduceBNe, Int.reduceBEq, q1, q2, q3, beq_self_eq_true])) | (with_reducible refine And.intro ?_ ?_; (focus (first | omega | (intros; (repeat' (with_reducible apply And.intro)) <;> first | omega | (simp only [List.length_map]; omega))))) | (with_reducible apply And.intro) | ((first | refine Pu.to (p27 _ _ _) (wkL_refl _) ?_ | refine callDV_pu (p27 _ _ _) (wkL_refl _) ?_ | refine Pu.to (h1) (wkL_refl _) ?_ | refine callDV_pu (h1) (wkL_refl _) ?_); (try simp only [↓R1, R2, R3, R4, R5, Nat.reduceEqDiff, Nat.reduceAdd, Nat.reduceMul, Nat.reduceSub, Nat.reduceLeDiff, Nat.reduceLT, reduceIte, reduceCtorEq, Int.reduceBNe, Int.reduceBEq, q1, q2, q3, beq_self_eq_true])))
  (refine endP_pu (by simp) (by first | (simp [rvsS, rvS]; done) | (simp only [rvsS, rvS, ↓R1, R2, R3, R4, R5, Nat.reduceEqDiff, Nat.reduceAdd, Nat.reduceMul, Nat.reduceSub, Nat.reduceLeDiff, Nat.reduceLT, reduceIte, reduceCtorEq, Int.reduceBNe, Int.reduceBEq, q1, q2, q3, beq_self_eq_true]; try simp)) (wk_of_eq ?_) (by (repeat (first | exact St.le_refl _ | (refine St.le_new ?_ (by assumption)) | (refine St.le_newT ?_ (by assumption))))))
  (simp only [resAV, rvV, List.map_cons, List.map_nil, ↓R1, R2, R3, R4, R5, Nat.reduceEqDiff, Nat.reduceAdd, Nat.reduceMul, Nat.reduceSub, Nat.reduceLeDiff, Nat.reduceLT, reduceIte, reduceCtorEq, Int.reduceBNe, Int.reduceBEq, q1, q2, q3, beq_self_eq_true])
set_option maxHeartbeats 4000000 in
theorem known_pu : Pu Tryd.prog 5 [] (.bool true) := by
  have q1 : (((0 : Nat) : Int) == 0) = true := rfl
  have q2 : (((1 : Nat) : Int) == 1) = true := rfl
  have q3 : True := trivial
  have r1 := p25 [] (by decide)
  rw [show rowsS [] = .ok [] by kernel_rfl] at r1
  have r2 := p25 [35, 32, 111, 110, 108, 121] (by decide)
  rw [show rowsS [35, 32, 111, 110, 108, 121] = .ok [] by kernel_rfl] at r2
  simp only [rowsV, faultV, List.flatMap_nil, List.length_nil] at r1 r2
  have s1 := p26 (s := [34, 92, 120, 52, 49, 92, 34, 34]) (q := true) (t := [65, 34]) (a := 0) (by decide) (by decide) (by kernel_rfl)
  have f1 := p28 (s := [97, 34, 98]) (by decide) (by kernel_rfl)
  have f2 := p28 (s := [34, 97, 34, 98]) (by decide) (by kernel_rfl)
  have f3 := p28 (s := [34, 97]) (by decide) (by kernel_rfl)
  have f4 := p28 (s := [97, 92, 98]) (by decide) (by kernel_rfl)
  have f5 := p28 (s := [34, 92, 110, 34]) (by decide) (by kernel_rfl)
  have w1 := p15 true [255] 0 (by decide)
  rw [show wordV (wordT true [255]) = .tup [.str [34, 92, 120, 102, 102, 34], .int .i64 0] by kernel_rfl] at w1
  have w2 := p15 false [] 0 (by decide)
  rw [show wordV (wordT false []) = .tup [.str [], .int .i64 3] by kernel_rfl] at w2
  have b1 := p29 [97, 35] (by decide)
  rw [show bareS [97, 35] = true by kernel_rfl] at b1
  have b2 := p29 [35, 97] (by decide)
  rw [show bareS [35, 97] = false by kernel_rfl] at b2
  have n1 := p30 false [48, 55] 0 0 9 0 3 (by decide) (by kernel_rfl)
  have n2 := p30 false [49, 56, 52, 52, 54, 55, 52, 52, 48, 55, 51, 55, 48, 57, 53, 53, 49, 54, 49, 54] 0 0 18446744073709551615 0 2 (by decide) (by kernel_rfl)
  have n3 := p30 false [53] 0 6 9 0 2 (by decide) (by kernel_rfl)
  have n4 := p30 true [53] 0 0 9 0 3 (by decide) (by kernel_rfl)
  have g1 := p31 [45, 53] (by decide)
  rw [show signV false [45, 53] = .tup [.int .i64 (-5), .int .i64 0] by kernel_rfl] at g1
  have g2 := p31 [45, 48] (by decide)
  rw [show signV false [45, 48] = .tup [.int .i64 0, .int .i64 3] by kernel_rfl] at g2
  have g3 := p31 [45, 57, 50, 50, 51, 51, 55, 50, 48, 51, 54, 56, 53, 52, 55, 55, 53, 56, 48, 56] (by decide)
  rw [show signV false [45, 57, 50, 50, 51, 51, 55, 50, 48, 51, 54, 56, 53, 52, 55, 55, 53, 56, 48, 56] = .tup [.int .i64 (-9223372036854775808), .int .i64 0] by kernel_rfl] at g3
  have g4 := p31 [57, 50, 50, 51, 51, 55, 50, 48, 51, 54, 56, 53, 52, 55, 55, 53, 56, 48, 56] (by decide)
  rw [show signV false [57, 50, 50, 51, 51, 55, 50, 48, 51, 54, 56, 53, 52, 55, 55, 53, 56, 48, 56] = .tup [.int .i64 0, .int .i64 2] by kernel_rfl] at g4
  have i1 := p19 false [98] 0 [[97], [98], [98]] (by decide)
  rw [show whichV false [98] [[97], [98], [98]] = .tup [.int .i64 1, .int .i64 0] by kernel_rfl] at i1
  have i2 := p19 false [99] 0 [[97]] (by decide)
  rw [show whichV false [99] [[97]] = .tup [.int .i64 0, .int .i64 7] by kernel_rfl] at i2
  have i3 := p19 true [97] 0 [[97]] (by decide)
  rw [show whichV true [97] [[97]] = .tup [.int .i64 0, .int .i64 7] by kernel_rfl] at i3
  simp only [List.map_cons, List.map_nil, List.length_cons, List.length_nil, Nat.zero_add, Nat.reduceAdd] at i1 i2 i3
  (refine Pu_intro c5 b5 (Nat.le_of_ble_eq_true rfl) fun σ => ?_; simp only [c5, ↓R1, R2, R3, R4, R5, Nat.reduceEqDiff, Nat.reduceAdd, Nat.reduceMul, Nat.reduceSub, Nat.reduceLeDiff, Nat.reduceLT, reduceIte, reduceCtorEq, Int.reduceBNe, Int.reduceBEq, q1, q2, q3, beq_self_eq_true])
  repeat' (first | (with_reducible rw [allocV_eq]) | (refine gdV_split (fun hc => ?_) (fun hc => ?_) <;> (try simp only [hc, ↓R1, R2, R3, R4, R5, Nat.reduceEqDiff, Nat.reduceAdd, Nat.reduceMul, Nat.reduceSub, Nat.reduceLeDiff, Nat.reduceLT, reduceIte, reduceCtorEq, Int.reduceBNe, Int.reduceBEq, q1, q2, q3, beq_self_eq_true])) | ((first | refine condV_split (fun hc => ?_) (fun hc => ?_) | (with_reducible intro β hβ; (try simp only [St.box_noneA, St.tip_noneA, St.tip_set, St.box_tip, St.box_lp, St.tip_lp] at hβ); (repeat (obtain ⟨⟨_, _⟩, hβ⟩ := hβ)); (try (have hbis := apart_is (by assumption) hβ; obtain ⟨_, _⟩ := hbis)))) <;> (try simp only [↓R1, R2, R3, R4, R5, Nat.reduceEqDiff, Nat.reduceAdd, Nat.reduceMul, Nat.reduceSub, Nat.reduceLeDiff, Nat.reduceLT, reduceIte, reduceCtorEq, Int.reduceBNe, Int.reduceBEq, q1, q2, q3, beq_self_eq_true])) | (with_reducible refine And.intro ?_ ?_; (focus (first | omega | (intros; (repeat' (with_reducible apply And.intro)) <;> first | omega | (simp only [List.length_map]; omega))))) | (with_reducible apply And.intro) | ((first | refine Pu.to (r1) (wkL_refl _) ?_ | refine callDV_pu (r1) (wkL_refl _) ?_ | refine Pu.to (r2) (wkL_refl _) ?_ | refine callDV_pu (r2) (wkL_refl _) ?_ | refine Pu.to (s1) (wkL_refl _) ?_ | refine callDV_pu (s1) (wkL_refl _) ?_ | refine Pu.to (f1) (wkL_refl _) ?_ | refine callDV_pu (f1) (wkL_refl _) ?_ | refine Pu.to (f2) (wkL_refl _) ?_ | refine callDV_pu (f2) (wkL_refl _) ?_ | refine Pu.to (f3) (wkL_refl _) ?_ | refine callDV_pu (f3) (wkL_refl _) ?_ | refine Pu.to (f4) (wkL_refl _) ?_ | refine callDV_pu (f4) (wkL_refl _) ?_ | refine Pu.to (f5) (wkL_refl _) ?_ | refine callDV_pu (f5) (wkL_refl _) ?_ | refine Pu.to (w1) (wkL_refl _) ?_ | refine callDV_pu (w1) (wkL_refl _) ?_ | refine Pu.to (w2) (wkL_refl _) ?_ | refine callDV_pu (w2) (wkL_refl _) ?_ | refine Pu.to (b1) (wkL_refl _) ?_ | refine callDV_pu (b1) (wkL_refl _) ?_ | refine Pu.to (b2) (wkL_refl _) ?_ | refine callDV_pu (b2) (wkL_refl _) ?_ | refine Pu.to (n1) (wkL_refl _) ?_ | refine callDV_pu (n1) (wkL_refl _) ?_ | refine Pu.to (n2) (wkL_refl _) ?_ | refine callDV_pu (n2) (wkL_refl _) ?_ | refine Pu.to (n3) (wkL_refl _) ?_ | refine callDV_pu (n3) (wkL_refl _) ?_ | refine Pu.to (n4) (wkL_refl _) ?_ | refine callDV_pu (n4) (wkL_refl _) ?_ | refine Pu.to (g1) (wkL_refl _) ?_ | refine callDV_pu (g1) (wkL_refl _) ?_ | refine Pu.to (g2) (wkL_refl _) ?_ | refine callDV_pu (g2) (wkL_refl _) ?_ | refine Pu.to (g3) (wkL_refl _) ?_ | refine callDV_pu (g3) (wkL_refl _) ?_ | refine Pu.to (g4) (wkL_refl _) ?_ | refine callDV_pu (g4) (wkL_refl _) ?_ | refine Pu.to (awake_pu) (wkL_refl _) ?_ | refine callDV_pu (awake_pu) (wkL_refl _) ?_ | refine Pu.to (p27 _ _ _) (wkL_refl _) ?_ | refine callDV_pu (p27 _ _ _) (wkL_refl _) ?_); (try simp only [↓R1, R2, R3, R4, R5, Nat.reduceEqDiff, Nat.reduceAdd, Nat.reduceMul, Nat.reduceSub, Nat.reduceLeDiff, Nat.reduceLT, reduceIte, reduceCtorEq, Int.reduceBNe, Int.reduceBEq, q1, q2, q3, beq_self_eq_true])) | (refine Pu.to (i1) ?_ ?_; (focus ((repeat' (first | exact wk_refl _ | exact wk_nils | exact wk_tsl _ _ _ | exact wk_full _ _ | exact wkL.nil | exact wkL_refl _ | refine wk_tup ?_ | refine wk_agg ?_ | refine wkL.cons ?_ ?_)); done)); (try simp only [↓R1, R2, R3, R4, R5, Nat.reduceEqDiff, Nat.reduceAdd, Nat.reduceMul, Nat.reduceSub, Nat.reduceLeDiff, Nat.reduceLT, reduceIte, reduceCtorEq, Int.reduceBNe, Int.reduceBEq, q1, q2, q3, beq_self_eq_true])) | (refine Pu.to (i2) ?_ ?_; (focus ((repeat' (first | exact wk_refl _ | exact wk_nils | exact wk_tsl _ _ _ | exact wk_full _ _ | exact wkL.nil | exact wkL_refl _ | refine wk_tup ?_ | refine wk_agg ?_ | refine wkL.cons ?_ ?_)); done)); (try simp only [↓R1, R2, R3, R4, R5, Nat.reduceEqDiff, Nat.reduceAdd, Nat.reduceMul, Nat.reduceSub, Nat.reduceLeDiff, Nat.reduceLT, reduceIte, reduceCtorEq, Int.reduceBNe, Int.reduceBEq, q1, q2, q3, beq_self_eq_true])) | (refine Pu.to (i3) ?_ ?_; (focus ((repeat' (first | exact wk_refl _ | exact wk_nils | exact wk_tsl _ _ _ | exact wk_full _ _ | exact wkL.nil | exact wkL_refl _ | refine wk_tup ?_ | refine wk_agg ?_ | refine wkL.cons ?_ ?_)); done)); (try simp only [↓R1, R2, R3, R4, R5, Nat.reduceEqDiff, Nat.reduceAdd, Nat.reduceMul, Nat.reduceSub, Nat.reduceLeDiff, Nat.reduceLT, reduceIte, reduceCtorEq, Int.reduceBNe, Int.reduceBEq, q1, q2, q3, beq_self_eq_true])))
  (refine endP_pu (by simp) (by first | (simp [rvsS, rvS]; done) | (simp only [rvsS, rvS, ↓R1, R2, R3, R4, R5, Nat.reduceEqDiff, Nat.reduceAdd, Nat.reduceMul, Nat.reduceSub, Nat.reduceLeDiff, Nat.reduceLT, reduceIte, reduceCtorEq, Int.reduceBNe, Int.reduceBEq, q1, q2, q3, beq_self_eq_true]; try simp)) (wk_of_eq ?_) (by (repeat (first | exact St.le_refl _ | (refine St.le_new ?_ (by assumption)) | (refine St.le_newT ?_ (by assumption))))))
  (simp only [resAV, rvV, List.map_cons, List.map_nil, ↓R1, R2, R3, R4, R5, Nat.reduceEqDiff, Nat.reduceAdd, Nat.reduceMul, Nat.reduceSub, Nat.reduceLeDiff, Nat.reduceLT, reduceIte, reduceCtorEq, Int.reduceBNe, Int.reduceBEq, q1, q2, q3, beq_self_eq_true])
end Go.Proofs.YtemddijemikleaaDoor
namespace Go.Proofs.YtemddijemikleaaDoor
open Go.Abs
set_option linter.all false
set_option maxRecDepth 100000
theorem rowsV_ok (s : List UInt8) {rs : List Rw} (hl : s.length ≤ 1000000) (h : rowsS s = .ok rs) : Pu Tryd.prog 25 [.str s] (.tup [.sl false rs.length ((rs.map toRI).flatMap cRI), .agg [.int .i64 0, .int .i64 0]]) := by
  have h1 := p25 s hl
  rw [h] at h1
  simp only [rowsV, faultV, toRI_flat] at h1
  exact h1
theorem same_ok (xs ys : List Rw) {p : List Body} (hp : LightQ p) (hx : bodyR xs = p) (hy : bodyR ys = p) : Pu Tryd.prog 33 [.sl false xs.length ((xs.map toRI).flatMap cRI), .sl false ys.length ((ys.map toRI).flatMap cRI)] (.bool true) := by
  have h := p33 (xs.map toRI) (ys.map toRI) (light_body (by rw [bodyI_toRI, hx]; exact hp)) (light_body (by rw [bodyI_toRI, hy]; exact hp)) (by rw [bodyI_toRI, bodyI_toRI, hx, hy])
  simpa only [List.length_map] using h
set_option maxHeartbeats 8000000 in
theorem law_RowAgain (s t : List UInt8) : Pu Tryd.prog 7 [.str s, .str t] (.bool true) := by
  have q1 : True := trivial
  have q2 : True := trivial
  have q3 : True := trivial
  have q4 : True := trivial
  have q5 : True := trivial
  have q6 : True := trivial
  by_cases hs : 300 < s.length
  · have q1 : decide ((300 : Int) < (s.length : Int)) = true := by rw [decide_eq_true_eq]; omega
    (refine Pu_intro c7 b7 (Nat.le_of_ble_eq_true rfl) fun σ => ?_; simp only [c7, ↓R1, R2, R3, R4, R5, Nat.reduceEqDiff, Nat.reduceAdd, Nat.reduceMul, Nat.reduceSub, Nat.reduceLeDiff, Nat.reduceLT, reduceIte, reduceCtorEq, Int.reduceBNe, Int.reduceBEq, q1, q2, q3, q4, q5, q6, beq_self_eq_true, bne_self_eq_false])
    repeat' (first | (with_reducible rw [allocV_eq]) | (refine gdV_split (fun hc => ?_) (fun hc => ?_) <;> (try simp only [hc, ↓R1, R2, R3, R4, R5, Nat.reduceEqDiff, Nat.reduceAdd, Nat.reduceMul, Nat.reduceSub, Nat.reduceLeDiff, Nat.reduceLT, reduceIte, reduceCtorEq, Int.reduceBNe, Int.reduceBEq, q1, q2, q3, q4, q5, q6, beq_self_eq_true, bne_self_eq_false])) | ((first | refine condV_split (fun hc => ?_) (fun hc => ?_) | (with_reducible intro β hβ; (try simp only [St.box_noneA, St.tip_noneA, St.tip_set, St.box_tip, St.box_lp, St.tip_lp] at hβ); (repeat (obtain ⟨⟨_, _⟩, hβ⟩ := hβ)); (try (have hbis := apart_is (by assumption) hβ; obtain ⟨_, _⟩ := hbis)))) <;> (try simp only [↓R1, R2, R3, R4, R5, Nat.reduceEqDiff, Nat.reduceAdd, Nat.reduceMul, Nat.reduceSub, Nat.reduceLeDiff, Nat.reduceLT, reduceIte, reduceCtorEq, Int.reduceBNe, Int.reduceBEq, q1, q2, q3, q4, q5, q6, beq_self_eq_true, bne_self_eq_false])) | (with_reducible refine And.intro ?_ ?_; (focus (first | omega | (intros; (repeat' (with_reducible apply And.intro)) <;> first | omega | (simp only [List.length_map]; omega))))) | (with_reducible apply And.intro) | ((first | refine Pu.to (known_pu) (wkL_refl _) ?_ | refine callDV_pu (known_pu) (wkL_refl _) ?_); (try simp only [↓R1, R2, R3, R4, R5, Nat.reduceEqDiff, Nat.reduceAdd, Nat.reduceMul, Nat.reduceSub, Nat.reduceLeDiff, Nat.reduceLT, reduceIte, reduceCtorEq, Int.reduceBNe, Int.reduceBEq, q1, q2, q3, q4, q5, q6, beq_self_eq_true, bne_self_eq_false])))
    (refine endP_pu (by simp) (by first | (simp [rvsS, rvS]; done) | (simp only [rvsS, rvS, ↓R1, R2, R3, R4, R5, Nat.reduceEqDiff, Nat.reduceAdd, Nat.reduceMul, Nat.reduceSub, Nat.reduceLeDiff, Nat.reduceLT, reduceIte, reduceCtorEq, Int.reduceBNe, Int.reduceBEq, q1, q2, q3, q4, q5, q6, beq_self_eq_true, bne_self_eq_false]; try simp)) (wk_of_eq ?_) (by (repeat (first | exact St.le_refl _ | (refine St.le_new ?_ (by assumption)) | (refine St.le_newT ?_ (by assumption))))))
    (simp only [resAV, rvV, List.map_cons, List.map_nil, ↓R1, R2, R3, R4, R5, Nat.reduceEqDiff, Nat.reduceAdd, Nat.reduceMul, Nat.reduceSub, Nat.reduceLeDiff, Nat.reduceLT, reduceIte, reduceCtorEq, Int.reduceBNe, Int.reduceBEq, q1, q2, q3, q4, q5, q6, beq_self_eq_true, bne_self_eq_false])
  have q1 : decide ((300 : Int) < (s.length : Int)) = false := by rw [decide_eq_false_iff_not]; omega
  by_cases ht : 300 < t.length
  · have q2 : decide ((300 : Int) < (t.length : Int)) = true := by rw [decide_eq_true_eq]; omega
    (refine Pu_intro c7 b7 (Nat.le_of_ble_eq_true rfl) fun σ => ?_; simp only [c7, ↓R1, R2, R3, R4, R5, Nat.reduceEqDiff, Nat.reduceAdd, Nat.reduceMul, Nat.reduceSub, Nat.reduceLeDiff, Nat.reduceLT, reduceIte, reduceCtorEq, Int.reduceBNe, Int.reduceBEq, q1, q2, q3, q4, q5, q6, beq_self_eq_true, bne_self_eq_false])
    repeat' (first | (with_reducible rw [allocV_eq]) | (refine gdV_split (fun hc => ?_) (fun hc => ?_) <;> (try simp only [hc, ↓R1, R2, R3, R4, R5, Nat.reduceEqDiff, Nat.reduceAdd, Nat.reduceMul, Nat.reduceSub, Nat.reduceLeDiff, Nat.reduceLT, reduceIte, reduceCtorEq, Int.reduceBNe, Int.reduceBEq, q1, q2, q3, q4, q5, q6, beq_self_eq_true, bne_self_eq_false])) | ((first | refine condV_split (fun hc => ?_) (fun hc => ?_) | (with_reducible intro β hβ; (try simp only [St.box_noneA, St.tip_noneA, St.tip_set, St.box_tip, St.box_lp, St.tip_lp] at hβ); (repeat (obtain ⟨⟨_, _⟩, hβ⟩ := hβ)); (try (have hbis := apart_is (by assumption) hβ; obtain ⟨_, _⟩ := hbis)))) <;> (try simp only [↓R1, R2, R3, R4, R5, Nat.reduceEqDiff, Nat.reduceAdd, Nat.reduceMul, Nat.reduceSub, Nat.reduceLeDiff, Nat.reduceLT, reduceIte, reduceCtorEq, Int.reduceBNe, Int.reduceBEq, q1, q2, q3, q4, q5, q6, beq_self_eq_true, bne_self_eq_false])) | (with_reducible refine And.intro ?_ ?_; (focus (first | omega | (intros; (repeat' (with_reducible apply And.intro)) <;> first | omega | (simp only [List.length_map]; omega))))) | (with_reducible apply And.intro) | ((first | refine Pu.to (known_pu) (wkL_refl _) ?_ | refine callDV_pu (known_pu) (wkL_refl _) ?_); (try simp only [↓R1, R2, R3, R4, R5, Nat.reduceEqDiff, Nat.reduceAdd, Nat.reduceMul, Nat.reduceSub, Nat.reduceLeDiff, Nat.reduceLT, reduceIte, reduceCtorEq, Int.reduceBNe, Int.reduceBEq, q1, q2, q3, q4, q5, q6, beq_self_eq_true, bne_self_eq_false])))
    (refine endP_pu (by simp) (by first | (simp [rvsS, rvS]; done) | (simp only [rvsS, rvS, ↓R1, R2, R3, R4, R5, Nat.reduceEqDiff, Nat.reduceAdd, Nat.reduceMul, Nat.reduceSub, Nat.reduceLeDiff, Nat.reduceLT, reduceIte, reduceCtorEq, Int.reduceBNe, Int.reduceBEq, q1, q2, q3, q4, q5, q6, beq_self_eq_true, bne_self_eq_false]; try simp)) (wk_of_eq ?_) (by (repeat (first | exact St.le_refl _ | (refine St.le_new ?_ (by assumption)) | (refine St.le_newT ?_ (by assumption))))))
    (simp only [resAV, rvV, List.map_cons, List.map_nil, ↓R1, R2, R3, R4, R5, Nat.reduceEqDiff, Nat.reduceAdd, Nat.reduceMul, Nat.reduceSub, Nat.reduceLeDiff, Nat.reduceLT, reduceIte, reduceCtorEq, Int.reduceBNe, Int.reduceBEq, q1, q2, q3, q4, q5, q6, beq_self_eq_true, bne_self_eq_false])
  have q2 : decide ((300 : Int) < (t.length : Int)) = false := by rw [decide_eq_false_iff_not]; omega
  have r1 := p25 s (by omega)
  have r2 := p25 t (by omega)
  cases hra : rowsS s with
  | error e =>
    obtain ⟨c, a⟩ := e
    have q3 : ((c : Nat) : Int) != 0 := by rcases rowsS_err2 hra with rfl | rfl <;> rfl
    rw [hra] at r1
    obtain ⟨v1, v2, v3, hv⟩ : ∃ v1 v2 v3, rowsV (rowsS t) = .tup [v1, .agg [.int .i64 v2, .int .i64 v3]] := by
      cases rowsS t with
      | error e => exact ⟨_, _, _, rfl⟩
      | ok rs => exact ⟨_, _, _, rfl⟩
    rw [hv] at r2
    simp only [rowsV, faultV] at r1
    (refine Pu_intro c7 b7 (Nat.le_of_ble_eq_true rfl) fun σ => ?_; simp only [c7, ↓R1, R2, R3, R4, R5, Nat.reduceEqDiff, Nat.reduceAdd, Nat.reduceMul, Nat.reduceSub, Nat.reduceLeDiff, Nat.reduceLT, reduceIte, reduceCtorEq, Int.reduceBNe, Int.reduceBEq, q1, q2, q3, q4, q5, q6, beq_self_eq_true, bne_self_eq_false])
    repeat' (first | (with_reducible rw [allocV_eq]) | (refine gdV_split (fun hc => ?_) (fun hc => ?_) <;> (try simp only [hc, ↓R1, R2, R3, R4, R5, Nat.reduceEqDiff, Nat.reduceAdd, Nat.reduceMul, Nat.reduceSub, Nat.reduceLeDiff, Nat.reduceLT, reduceIte, reduceCtorEq, Int.reduceBNe, Int.reduceBEq, q1, q2, q3, q4, q5, q6, beq_self_eq_true, bne_self_eq_false])) | ((first | refine condV_split (fun hc => ?_) (fun hc => ?_) | (with_reducible intro β hβ; (try simp only [St.box_noneA, St.tip_noneA, St.tip_set, St.box_tip, St.box_lp, St.tip_lp] at hβ); (repeat (obtain ⟨⟨_, _⟩, hβ⟩ := hβ)); (try (have hbis := apart_is (by assumption) hβ; obtain ⟨_, _⟩ := hbis)))) <;> (try simp only [↓R1, R2, R3, R4, R5, Nat.reduceEqDiff, Nat.reduceAdd, Nat.reduceMul, Nat.reduceSub, Nat.reduceLeDiff, Nat.reduceLT, reduceIte, reduceCtorEq, Int.reduceBNe, Int.reduceBEq, q1, q2, q3, q4, q5, q6, beq_self_eq_true, bne_self_eq_false])) | (with_reducible refine And.intro ?_ ?_; (focus (first | omega | (intros; (repeat' (with_reducible apply And.intro)) <;> first | omega | (simp only [List.length_map]; omega))))) | (with_reducible apply And.intro) | ((first | refine Pu.to (known_pu) (wkL_refl _) ?_ | refine callDV_pu (known_pu) (wkL_refl _) ?_ | refine Pu.to (r1) (wkL_refl _) ?_ | refine callDV_pu (r1) (wkL_refl _) ?_ | refine Pu.to (r2) (wkL_refl _) ?_ | refine callDV_pu (r2) (wkL_refl _) ?_); (try simp only [↓R1, R2, R3, R4, R5, Nat.reduceEqDiff, Nat.reduceAdd, Nat.reduceMul, Nat.reduceSub, Nat.reduceLeDiff, Nat.reduceLT, reduceIte, reduceCtorEq, Int.reduceBNe, Int.reduceBEq, q1, q2, q3, q4, q5, q6, beq_self_eq_true, bne_self_eq_false])))
    (refine endP_pu (by simp) (by first | (simp [rvsS, rvS]; done) | (simp only [rvsS, rvS, ↓R1, R2, R3, R4, R5, Nat.reduceEqDiff, Nat.reduceAdd, Nat.reduceMul, Nat.reduceSub, Nat.reduceLeDiff, Nat.reduceLT, reduceIte, reduceCtorEq, Int.reduceBNe, Int.reduceBEq, q1, q2, q3, q4, q5, q6, beq_self_eq_true, bne_self_eq_false]; try simp)) (wk_of_eq ?_) (by (repeat (first | exact St.le_refl _ | (refine St.le_new ?_ (by assumption)) | (refine St.le_newT ?_ (by assumption))))))
    (simp only [resAV, rvV, List.map_cons, List.map_nil, ↓R1, R2, R3, R4, R5, Nat.reduceEqDiff, Nat.reduceAdd, Nat.reduceMul, Nat.reduceSub, Nat.reduceLeDiff, Nat.reduceLT, reduceIte, reduceCtorEq, Int.reduceBNe, Int.reduceBEq, q1, q2, q3, q4, q5, q6, beq_self_eq_true, bne_self_eq_false])
  | ok ra =>
    have r1 := rowsV_ok s (by omega) hra
    cases hrb : rowsS t with
    | error e =>
      obtain ⟨c, a⟩ := e
      have q3 : ((c : Nat) : Int) != 0 := by rcases rowsS_err2 hrb with rfl | rfl <;> rfl
      rw [hrb] at r2
      simp only [rowsV, faultV] at r2
      (refine Pu_intro c7 b7 (Nat.le_of_ble_eq_true rfl) fun σ => ?_; simp only [c7, ↓R1, R2, R3, R4, R5, Nat.reduceEqDiff, Nat.reduceAdd, Nat.reduceMul, Nat.reduceSub, Nat.reduceLeDiff, Nat.reduceLT, reduceIte, reduceCtorEq, Int.reduceBNe, Int.reduceBEq, q1, q2, q3, q4, q5, q6, beq_self_eq_true, bne_self_eq_false])
      repeat' (first | (with_reducible rw [allocV_eq]) | (refine gdV_split (fun hc => ?_) (fun hc => ?_) <;> (try simp only [hc, ↓R1, R2, R3, R4, R5, Nat.reduceEqDiff, Nat.reduceAdd, Nat.reduceMul, Nat.reduceSub, Nat.reduceLeDiff, Nat.reduceLT, reduceIte, reduceCtorEq, Int.reduceBNe, Int.reduceBEq, q1, q2, q3, q4, q5, q6, beq_self_eq_true, bne_self_eq_false])) | ((first | refine condV_split (fun hc => ?_) (fun hc => ?_) | (with_reducible intro β hβ; (try simp only [St.box_noneA, St.tip_noneA, St.tip_set, St.box_tip, St.box_lp, St.tip_lp] at hβ); (repeat (obtain ⟨⟨_, _⟩, hβ⟩ := hβ)); (try (have hbis := apart_is (by assumption) hβ; obtain ⟨_, _⟩ := hbis)))) <;> (try simp only [↓R1, R2, R3, R4, R5, Nat.reduceEqDiff, Nat.reduceAdd, Nat.reduceMul, Nat.reduceSub, Nat.reduceLeDiff, Nat.reduceLT, reduceIte, reduceCtorEq, Int.reduceBNe, Int.reduceBEq, q1, q2, q3, q4, q5, q6, beq_self_eq_true, bne_self_eq_false])) | (with_reducible refine And.intro ?_ ?_; (focus (first | omega | (intros; (repeat' (with_reducible apply And.intro)) <;> first | omega | (simp only [List.length_map]; omega))))) | (with_reducible apply And.intro) | ((first | refine Pu.to (known_pu) (wkL_refl _) ?_ | refine callDV_pu (known_pu) (wkL_refl _) ?_ | refine Pu.to (r1) (wkL_refl _) ?_ | refine callDV_pu (r1) (wkL_refl _) ?_ | refine Pu.to (r2) (wkL_refl _) ?_ | refine callDV_pu (r2) (wkL_refl _) ?_); (try simp only [↓R1, R2, R3, R4, R5, Nat.reduceEqDiff, Nat.reduceAdd, Nat.reduceMul, Nat.reduceSub, Nat.reduceLeDiff, Nat.reduceLT, reduceIte, reduceCtorEq, Int.reduceBNe, Int.reduceBEq, q1, q2, q3, q4, q5, q6, beq_self_eq_true, bne_self_eq_false])))
      (refine endP_pu (by simp) (by first | (simp [rvsS, rvS]; done) | (simp only [rvsS, rvS, ↓R1, R2, R3, R4, R5, Nat.reduceEqDiff, Nat.reduceAdd, Nat.reduceMul, Nat.reduceSub, Nat.reduceLeDiff, Nat.reduceLT, reduceIte, reduceCtorEq, Int.reduceBNe, Int.reduceBEq, q1, q2, q3, q4, q5, q6, beq_self_eq_true, bne_self_eq_false]; try simp)) (wk_of_eq ?_) (by (repeat (first | exact St.le_refl _ | (refine St.le_new ?_ (by assumption)) | (refine St.le_newT ?_ (by assumption))))))
      (simp only [resAV, rvV, List.map_cons, List.map_nil, ↓R1, R2, R3, R4, R5, Nat.reduceEqDiff, Nat.reduceAdd, Nat.reduceMul, Nat.reduceSub, Nat.reduceLeDiff, Nat.reduceLT, reduceIte, reduceCtorEq, Int.reduceBNe, Int.reduceBEq, q1, q2, q3, q4, q5, q6, beq_self_eq_true, bne_self_eq_false])
    | ok rb =>
      have r2 := rowsV_ok t (by omega) hrb
      have ha : rowsB (rowsS s) = some (bodyR ra) := by rw [hra]; rfl
      have hb : rowsB (rowsS t) = some (bodyR rb) := by rw [hrb]; rfl
      obtain ⟨la1, la2⟩ := rowsS_light (by omega) ha
      obtain ⟨lb1, lb2⟩ := rowsS_light (by omega) hb
      have lA : LightQ (bodyR ra) := lightQ_of (by omega) la2
      have lAB : LightQ (bodyR ra ++ bodyR rb) := lightQ_of (by rw [List.length_append]; omega) (fun x hx => by
        rcases List.mem_append.1 hx with hx | hx
        · exact la2 x hx
        · exact lb2 x hx)
      have hab : bodyR (ra ++ rb) = bodyR ra ++ bodyR rb := by simp [bodyR]
      obtain ⟨rc, ec, bc⟩ := rowsB_ok (rows_both (by omega) (by omega) ha hb)
      obtain ⟨rd, ed, bd⟩ := rowsB_ok (rows_wide (by omega) (by omega) ha hb)
      have hlab : ra.length + rb.length ≤ 602 := by
        have e1 : (bodyR ra).length = ra.length := by simp [bodyR]
        have e2 : (bodyR rb).length = rb.length := by simp [bodyR]
        omega
      have r3 := rowsV_ok (s ++ 10 :: t) (by simp; omega) ec
      rw [show s ++ 10 :: t = s ++ [10] ++ t by simp] at r3
      have r4 := rowsV_ok (wideT s t) (by simp [wideT]; omega) ed
      unfold wideT at r4
      have m1 := same_ok rc (ra ++ rb) lAB bc hab
      have m2 := same_ok rd (ra ++ rb) lAB bd hab
      simp only [List.map_append, List.flatMap_append, List.length_append] at m1 m2
      have hT := p12 (ra.map toRI) (light_body (by rw [bodyI_toRI]; exact lA))
      simp only [List.length_map] at hT
      have hAl : ((ra.map toRI).flatMap cRI).length = ra.length * 2 := by rw [cRI_len]; simp
      have hBl : ((rb.map toRI).flatMap cRI).length = rb.length * 2 := by rw [cRI_len]; simp
      rcases textG_good ra [] (rowsS_good hra) with htx | ⟨w, htx⟩
      · rw [show textS (ra.map toRI) = .error 4 from htx] at hT
        simp only [textV] at hT
        have r5 := rowsV_ok [] (by decide) (show rowsS [] = .ok [] by kernel_rfl)
        have q3 : (((4 : Nat) : Int) == 4) = true := rfl
        (refine Pu_intro c7 b7 (Nat.le_of_ble_eq_true rfl) fun σ => ?_; simp only [c7, ↓R1, R2, R3, R4, R5, Nat.reduceEqDiff, Nat.reduceAdd, Nat.reduceMul, Nat.reduceSub, Nat.reduceLeDiff, Nat.reduceLT, reduceIte, reduceCtorEq, Int.reduceBNe, Int.reduceBEq, q1, q2, q3, q4, q5, q6, beq_self_eq_true, bne_self_eq_false])
        generalize (ra.map toRI).flatMap cRI = A at *
        generalize (rb.map toRI).flatMap cRI = B at *
        repeat' (first | (with_reducible rw [allocV_eq]) | (refine gdV_split (fun hc => ?_) (fun hc => ?_) <;> (try simp only [hc, ↓R1, R2, R3, R4, R5, Nat.reduceEqDiff, Nat.reduceAdd, Nat.reduceMul, Nat.reduceSub, Nat.reduceLeDiff, Nat.reduceLT, reduceIte, reduceCtorEq, Int.reduceBNe, Int.reduceBEq, q1, q2, q3, q4, q5, q6, beq_self_eq_true, bne_self_eq_false])) | ((first | refine condV_split (fun hc => ?_) (fun hc => ?_) | (with_reducible intro β hβ; (try simp only [St.box_noneA, St.tip_noneA, St.tip_set, St.box_tip, St.box_lp, St.tip_lp] at hβ); (repeat (obtain ⟨⟨_, _⟩, hβ⟩ := hβ)); (try (have hbis := apart_is (by assumption) hβ; obtain ⟨_, _⟩ := hbis)))) <;> (try simp only [↓R1, R2, R3, R4, R5, Nat.reduceEqDiff, Nat.reduceAdd, Nat.reduceMul, Nat.reduceSub, Nat.reduceLeDiff, Nat.reduceLT, reduceIte, reduceCtorEq, Int.reduceBNe, Int.reduceBEq, q1, q2, q3, q4, q5, q6, beq_self_eq_true, bne_self_eq_false])) | (with_reducible refine And.intro ?_ ?_; (focus (first | omega | (intros; (repeat' (with_reducible apply And.intro)) <;> first | omega | (simp only [List.length_map]; omega))))) | (with_reducible apply And.intro) | ((first | refine Pu.to (known_pu) (wkL_refl _) ?_ | refine callDV_pu (known_pu) (wkL_refl _) ?_ | refine Pu.to (r1) (wkL_refl _) ?_ | refine callDV_pu (r1) (wkL_refl _) ?_ | refine Pu.to (r2) (wkL_refl _) ?_ | refine callDV_pu (r2) (wkL_refl _) ?_ | refine Pu.to (hT) (wkL_refl _) ?_ | refine callDV_pu (hT) (wkL_refl _) ?_ | refine Pu.to (r5) (wkL_refl _) ?_ | refine callDV_pu (r5) (wkL_refl _) ?_ | refine Pu.to (r3) (wkL_refl _) ?_ | refine callDV_pu (r3) (wkL_refl _) ?_ | refine Pu.to (r4) (wkL_refl _) ?_ | refine callDV_pu (r4) (wkL_refl _) ?_); (try simp only [↓R1, R2, R3, R4, R5, Nat.reduceEqDiff, Nat.reduceAdd, Nat.reduceMul, Nat.reduceSub, Nat.reduceLeDiff, Nat.reduceLT, reduceIte, reduceCtorEq, Int.reduceBNe, Int.reduceBEq, q1, q2, q3, q4, q5, q6, beq_self_eq_true, bne_self_eq_false])))
        all_goals first | (simp; omega) | skip
        refine appV_tip rfl trivial rfl (by simp) hAl (by unfold maxLen; omega) (by omega) (fun τ hτ => ?_)
        simp only [↓R1, R2, R3, R4, R5, Nat.reduceEqDiff, Nat.reduceAdd, Nat.reduceMul, Nat.reduceSub, Nat.reduceLeDiff, Nat.reduceLT, reduceIte, reduceCtorEq, Int.reduceBNe, Int.reduceBEq, q1, q2, q3, q4, q5, q6, beq_self_eq_true, bne_self_eq_false]
        refine appV_tslK rfl (by rw [St.tip_same, Nat.zero_add]) hAl hBl (by unfold maxLen; omega) (by omega) ?_
        simp only [↓R1, R2, R3, R4, R5, Nat.reduceEqDiff, Nat.reduceAdd, Nat.reduceMul, Nat.reduceSub, Nat.reduceLeDiff, Nat.reduceLT, reduceIte, reduceCtorEq, Int.reduceBNe, Int.reduceBEq, q1, q2, q3, q4, q5, q6, beq_self_eq_true, bne_self_eq_false]
        repeat' (first | (with_reducible rw [allocV_eq]) | (refine gdV_split (fun hc => ?_) (fun hc => ?_) <;> (try simp only [hc, ↓R1, R2, R3, R4, R5, Nat.reduceEqDiff, Nat.reduceAdd, Nat.reduceMul, Nat.reduceSub, Nat.reduceLeDiff, Nat.reduceLT, reduceIte, reduceCtorEq, Int.reduceBNe, Int.reduceBEq, q1, q2, q3, q4, q5, q6, beq_self_eq_true, bne_self_eq_false])) | ((first | refine condV_split (fun hc => ?_) (fun hc => ?_) | (with_reducible intro β hβ; (try simp only [St.box_noneA, St.tip_noneA, St.tip_set, St.box_tip, St.box_lp, St.tip_lp] at hβ); (repeat (obtain ⟨⟨_, _⟩, hβ⟩ := hβ)); (try (have hbis := apart_is (by assumption) hβ; obtain ⟨_, _⟩ := hbis)))) <;> (try simp only [↓R1, R2, R3, R4, R5, Nat.reduceEqDiff, Nat.reduceAdd, Nat.reduceMul, Nat.reduceSub, Nat.reduceLeDiff, Nat.reduceLT, reduceIte, reduceCtorEq, Int.reduceBNe, Int.reduceBEq, q1, q2, q3, q4, q5, q6, beq_self_eq_true, bne_self_eq_false])) | (with_reducible refine And.intro ?_ ?_; (focus (first | omega | (intros; (repeat' (with_reducible apply And.intro)) <;> first | omega | (simp only [List.length_map]; omega))))) | (with_reducible apply And.intro) | ((first | refine Pu.to (known_pu) (wkL_refl _) ?_ | refine callDV_pu (known_pu) (wkL_refl _) ?_); (try simp only [↓R1, R2, R3, R4, R5, Nat.reduceEqDiff, Nat.reduceAdd, Nat.reduceMul, Nat.reduceSub, Nat.reduceLeDiff, Nat.reduceLT, reduceIte, reduceCtorEq, Int.reduceBNe, Int.reduceBEq, q1, q2, q3, q4, q5, q6, beq_self_eq_true, bne_self_eq_false])) | (refine Pu.to (m1) ?_ ?_; (focus ((repeat' (first | exact wk_refl _ | exact wk_nils | exact wk_tsl _ _ _ | exact wk_full _ _ | exact wkL.nil | exact wkL_refl _ | refine wk_tup ?_ | refine wk_agg ?_ | refine wkL.cons ?_ ?_)); done)); (try simp only [↓R1, R2, R3, R4, R5, Nat.reduceEqDiff, Nat.reduceAdd, Nat.reduceMul, Nat.reduceSub, Nat.reduceLeDiff, Nat.reduceLT, reduceIte, reduceCtorEq, Int.reduceBNe, Int.reduceBEq, q1, q2, q3, q4, q5, q6, beq_self_eq_true, bne_self_eq_false])) | (refine Pu.to (m2) ?_ ?_; (focus ((repeat' (first | exact wk_refl _ | exact wk_nils | exact wk_tsl _ _ _ | exact wk_full _ _ | exact wkL.nil | exact wkL_refl _ | refine wk_tup ?_ | refine wk_agg ?_ | refine wkL.cons ?_ ?_)); done)); (try simp only [↓R1, R2, R3, R4, R5, Nat.reduceEqDiff, Nat.reduceAdd, Nat.reduceMul, Nat.reduceSub, Nat.reduceLeDiff, Nat.reduceLT, reduceIte, reduceCtorEq, Int.reduceBNe, Int.reduceBEq, q1, q2, q3, q4, q5, q6, beq_self_eq_true, bne_self_eq_false])))
        (refine endP_pu (by simp) (by first | (simp [rvsS, rvS]; done) | (simp only [rvsS, rvS, ↓R1, R2, R3, R4, R5, Nat.reduceEqDiff, Nat.reduceAdd, Nat.reduceMul, Nat.reduceSub, Nat.reduceLeDiff, Nat.reduceLT, reduceIte, reduceCtorEq, Int.reduceBNe, Int.reduceBEq, q1, q2, q3, q4, q5, q6, beq_self_eq_true, bne_self_eq_false]; try simp)) (wk_of_eq ?_) (by (repeat (first | exact St.le_refl _ | (refine St.le_new ?_ (by assumption)) | (refine St.le_newT ?_ (by assumption))))))
        (simp only [resAV, rvV, List.map_cons, List.map_nil, ↓R1, R2, R3, R4, R5, Nat.reduceEqDiff, Nat.reduceAdd, Nat.reduceMul, Nat.reduceSub, Nat.reduceLeDiff, Nat.reduceLT, reduceIte, reduceCtorEq, Int.reduceBNe, Int.reduceBEq, q1, q2, q3, q4, q5, q6, beq_self_eq_true, bne_self_eq_false])
      · have htx2 : textS (ra.map toRI) = .ok w := htx
        rw [htx2] at hT
        simp only [textV] at hT
        obtain ⟨hwl, hwb⟩ := text_back htx2
        obtain ⟨rk, ek, bk⟩ := rowsB_ok hwb
        rw [bodyI_toRI] at bk
        have r5 := rowsV_ok w (by omega) ek
        have m0 := same_ok rk ra lA bk rfl
        (refine Pu_intro c7 b7 (Nat.le_of_ble_eq_true rfl) fun σ => ?_; simp only [c7, ↓R1, R2, R3, R4, R5, Nat.reduceEqDiff, Nat.reduceAdd, Nat.reduceMul, Nat.reduceSub, Nat.reduceLeDiff, Nat.reduceLT, reduceIte, reduceCtorEq, Int.reduceBNe, Int.reduceBEq, q1, q2, q3, q4, q5, q6, beq_self_eq_true, bne_self_eq_false])
        generalize (ra.map toRI).flatMap cRI = A at *
        generalize (rb.map toRI).flatMap cRI = B at *
        repeat' (first | (with_reducible rw [allocV_eq]) | (refine gdV_split (fun hc => ?_) (fun hc => ?_) <;> (try simp only [hc, ↓R1, R2, R3, R4, R5, Nat.reduceEqDiff, Nat.reduceAdd, Nat.reduceMul, Nat.reduceSub, Nat.reduceLeDiff, Nat.reduceLT, reduceIte, reduceCtorEq, Int.reduceBNe, Int.reduceBEq, q1, q2, q3, q4, q5, q6, beq_self_eq_true, bne_self_eq_false])) | ((first | refine condV_split (fun hc => ?_) (fun hc => ?_) | (with_reducible intro β hβ; (try simp only [St.box_noneA, St.tip_noneA, St.tip_set, St.box_tip, St.box_lp, St.tip_lp] at hβ); (repeat (obtain ⟨⟨_, _⟩, hβ⟩ := hβ)); (try (have hbis := apart_is (by assumption) hβ; obtain ⟨_, _⟩ := hbis)))) <;> (try simp only [↓R1, R2, R3, R4, R5, Nat.reduceEqDiff, Nat.reduceAdd, Nat.reduceMul, Nat.reduceSub, Nat.reduceLeDiff, Nat.reduceLT, reduceIte, reduceCtorEq, Int.reduceBNe, Int.reduceBEq, q1, q2, q3, q4, q5, q6, beq_self_eq_true, bne_self_eq_false])) | (with_reducible refine And.intro ?_ ?_; (focus (first | omega | (intros; (repeat' (with_reducible apply And.intro)) <;> first | omega | (simp only [List.length_map]; omega))))) | (with_reducible apply And.intro) | ((first | refine Pu.to (known_pu) (wkL_refl _) ?_ | refine callDV_pu (known_pu) (wkL_refl _) ?_ | refine Pu.to (r1) (wkL_refl _) ?_ | refine callDV_pu (r1) (wkL_refl _) ?_ | refine Pu.to (r2) (wkL_refl _) ?_ | refine callDV_pu (r2) (wkL_refl _) ?_ | refine Pu.to (hT) (wkL_refl _) ?_ | refine callDV_pu (hT) (wkL_refl _) ?_ | refine Pu.to (r5) (wkL_refl _) ?_ | refine callDV_pu (r5) (wkL_refl _) ?_ | refine Pu.to (r3) (wkL_refl _) ?_ | refine callDV_pu (r3) (wkL_refl _) ?_ | refine Pu.to (r4) (wkL_refl _) ?_ | refine callDV_pu (r4) (wkL_refl _) ?_); (try simp only [↓R1, R2, R3, R4, R5, Nat.reduceEqDiff, Nat.reduceAdd, Nat.reduceMul, Nat.reduceSub, Nat.reduceLeDiff, Nat.reduceLT, reduceIte, reduceCtorEq, Int.reduceBNe, Int.reduceBEq, q1, q2, q3, q4, q5, q6, beq_self_eq_true, bne_self_eq_false])))
        all_goals first | (simp; omega) | skip
        refine appV_tip rfl trivial rfl (by simp) hAl (by unfold maxLen; omega) (by omega) (fun τ hτ => ?_)
        simp only [↓R1, R2, R3, R4, R5, Nat.reduceEqDiff, Nat.reduceAdd, Nat.reduceMul, Nat.reduceSub, Nat.reduceLeDiff, Nat.reduceLT, reduceIte, reduceCtorEq, Int.reduceBNe, Int.reduceBEq, q1, q2, q3, q4, q5, q6, beq_self_eq_true, bne_self_eq_false]
        refine appV_tslK rfl (by rw [St.tip_same, Nat.zero_add]) hAl hBl (by unfold maxLen; omega) (by omega) ?_
        simp only [↓R1, R2, R3, R4, R5, Nat.reduceEqDiff, Nat.reduceAdd, Nat.reduceMul, Nat.reduceSub, Nat.reduceLeDiff, Nat.reduceLT, reduceIte, reduceCtorEq, Int.reduceBNe, Int.reduceBEq, q1, q2, q3, q4, q5, q6, beq_self_eq_true, bne_self_eq_false]
        repeat' (first | (with_reducible rw [allocV_eq]) | (refine gdV_split (fun hc => ?_) (fun hc => ?_) <;> (try simp only [hc, ↓R1, R2, R3, R4, R5, Nat.reduceEqDiff, Nat.reduceAdd, Nat.reduceMul, Nat.reduceSub, Nat.reduceLeDiff, Nat.reduceLT, reduceIte, reduceCtorEq, Int.reduceBNe, Int.reduceBEq, q1, q2, q3, q4, q5, q6, beq_self_eq_true, bne_self_eq_false])) | ((first | refine condV_split (fun hc => ?_) (fun hc => ?_) | (with_reducible intro β hβ; (try simp only [St.box_noneA, St.tip_noneA, St.tip_set, St.box_tip, St.box_lp, St.tip_lp] at hβ); (repeat (obtain ⟨⟨_, _⟩, hβ⟩ := hβ)); (try (have hbis := apart_is (by assumption) hβ; obtain ⟨_, _⟩ := hbis)))) <;> (try simp only [↓R1, R2, R3, R4, R5, Nat.reduceEqDiff, Nat.reduceAdd, Nat.reduceMul, Nat.reduceSub, Nat.reduceLeDiff, Nat.reduceLT, reduceIte, reduceCtorEq, Int.reduceBNe, Int.reduceBEq, q1, q2, q3, q4, q5, q6, beq_self_eq_true, bne_self_eq_false])) | (with_reducible refine And.intro ?_ ?_; (focus (first | omega | (intros; (repeat' (with_reducible apply And.intro)) <;> first | omega | (simp only [List.length_map]; omega))))) | (with_reducible apply And.intro) | ((first | refine Pu.to (m0) (wkL_refl _) ?_ | refine callDV_pu (m0) (wkL_refl _) ?_ | refine Pu.to (known_pu) (wkL_refl _) ?_ | refine callDV_pu (known_pu) (wkL_refl _) ?_); (try simp only [↓R1, R2, R3, R4, R5, Nat.reduceEqDiff, Nat.reduceAdd, Nat.reduceMul, Nat.reduceSub, Nat.reduceLeDiff, Nat.reduceLT, reduceIte, reduceCtorEq, Int.reduceBNe, Int.reduceBEq, q1, q2, q3, q4, q5, q6, beq_self_eq_true, bne_self_eq_false])) | (refine Pu.to (m1) ?_ ?_; (focus ((repeat' (first | exact wk_refl _ | exact wk_nils | exact wk_tsl _ _ _ | exact wk_full _ _ | exact wkL.nil | exact wkL_refl _ | refine wk_tup ?_ | refine wk_agg ?_ | refine wkL.cons ?_ ?_)); done)); (try simp only [↓R1, R2, R3, R4, R5, Nat.reduceEqDiff, Nat.reduceAdd, Nat.reduceMul, Nat.reduceSub, Nat.reduceLeDiff, Nat.reduceLT, reduceIte, reduceCtorEq, Int.reduceBNe, Int.reduceBEq, q1, q2, q3, q4, q5, q6, beq_self_eq_true, bne_self_eq_false])) | (refine Pu.to (m2) ?_ ?_; (focus ((repeat' (first | exact wk_refl _ | exact wk_nils | exact wk_tsl _ _ _ | exact wk_full _ _ | exact wkL.nil | exact wkL_refl _ | refine wk_tup ?_ | refine wk_agg ?_ | refine wkL.cons ?_ ?_)); done)); (try simp only [↓R1, R2, R3, R4, R5, Nat.reduceEqDiff, Nat.reduceAdd, Nat.reduceMul, Nat.reduceSub, Nat.reduceLeDiff, Nat.reduceLT, reduceIte, reduceCtorEq, Int.reduceBNe, Int.reduceBEq, q1, q2, q3, q4, q5, q6, beq_self_eq_true, bne_self_eq_false])))
        (refine endP_pu (by simp) (by first | (simp [rvsS, rvS]; done) | (simp only [rvsS, rvS, ↓R1, R2, R3, R4, R5, Nat.reduceEqDiff, Nat.reduceAdd, Nat.reduceMul, Nat.reduceSub, Nat.reduceLeDiff, Nat.reduceLT, reduceIte, reduceCtorEq, Int.reduceBNe, Int.reduceBEq, q1, q2, q3, q4, q5, q6, beq_self_eq_true, bne_self_eq_false]; try simp)) (wk_of_eq ?_) (by (repeat (first | exact St.le_refl _ | (refine St.le_new ?_ (by assumption)) | (refine St.le_newT ?_ (by assumption))))))
        (simp only [resAV, rvV, List.map_cons, List.map_nil, ↓R1, R2, R3, R4, R5, Nat.reduceEqDiff, Nat.reduceAdd, Nat.reduceMul, Nat.reduceSub, Nat.reduceLeDiff, Nat.reduceLT, reduceIte, reduceCtorEq, Int.reduceBNe, Int.reduceBEq, q1, q2, q3, q4, q5, q6, beq_self_eq_true, bne_self_eq_false])
theorem arg_RowAgain (s t : List UInt8) : PuG Tryd.prog [] 7 [.str s, .str t] (.bool true) := fun σ _ => law_RowAgain s t σ
end Go.Proofs.YtemddijemikleaaDoor
