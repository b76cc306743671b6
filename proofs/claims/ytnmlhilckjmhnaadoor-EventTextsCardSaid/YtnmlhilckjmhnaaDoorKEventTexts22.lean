/- Part 22 of the proof of EventTexts: an abstract semantics that is proved sound for the model, contracts of functions in it, and plain facts (EK EV15 EV16 EV17 EV18). No condition. -/
import Derived.Test.YtnmlhilckjmhnaaDoorKEventTexts21
import Derived.Laws.RangeString
import Derived.LoopTactic
import Derived.WalkKit
import Derived.BigCall
namespace Go.Proofs.YtnmlhilckjmhnaaDoor
open Go.Abs Go.Lib
set_option linter.all false
set_option maxRecDepth 100000
def lettersL : List UInt8 := [65, 66, 67, 68, 69, 70, 71, 72, 73, 74, 75, 76, 77, 78, 79, 80, 81, 82, 83, 84, 85, 86, 87, 88, 89, 90]
/-- The kind of a letter and the error, searched from k. -/
def kindL (t : List UInt8) : Nat → Nat → AV
  | 0, _ => .tup [.int .i64 0, .int .i64 11]
  | b + 1, k => bif t == [lettersL[k]?.getD 0] then .tup [.int .i64 k, .int .i64 0] else kindL t b (k + 1)
def kindT (t : List UInt8) : AV := kindL t 26 0
theorem kindL_eq (t : List UInt8) (k : Nat) (hk : k < 26) (h : (t == [lettersL[k]?.getD 0]) = true) : kindL t (26 - k) k = .tup [.int .i64 k, .int .i64 0] := by
  rw [show 26 - k = (25 - k) + 1 by omega]
  show (bif t == [lettersL[k]?.getD 0] then _ else _) = _
  rw [h]; rfl
theorem kindL_no (t : List UInt8) (k : Nat) (hk : k < 26) (h : (t == [lettersL[k]?.getD 0]) = false) : kindL t (26 - k) k = kindL t (26 - (k + 1)) (k + 1) := by
  rw [show 26 - k = (25 - k) + 1 by omega, show 26 - (k + 1) = 25 - k by omega]
  show (bif t == [lettersL[k]?.getD 0] then _ else _) = _
  rw [h]; rfl
theorem p30 (t : List UInt8) : Pu Tryd.prog 30 [.str t] (kindT t) := by
  have hsl : ∀ k, k < 26 → List.take (k + 1 - k) (List.drop k lettersL) = [lettersL[k]?.getD 0] := by decide
  (refine Pu_intro c30 b30 (Nat.le_of_ble_eq_true rfl) fun σ => ?_; simp only [c30, ↓R1, R2, R3, R4, R5, Nat.reduceEqDiff, Nat.reduceAdd, Nat.reduceMul, Nat.reduceSub, Nat.reduceLeDiff, Nat.reduceLT, reduceIte, reduceCtorEq, Int.reduceBNe, Int.reduceBEq])
  refine loopV_for 26 (fun k => [(0, .str t), (4, .int .i64 k)]) (fun _ => σ) (fun k => kindL t (26 - k) k = kindT t) (by simp [subF, slot, wk_refl]) (St.le_refl _) rfl (fun k hk hI => ?_)
  simp only [lt_len, ↓R1, R2, R3, R4, R5, Nat.reduceEqDiff, Nat.reduceAdd, Nat.reduceMul, Nat.reduceSub, Nat.reduceLeDiff, Nat.reduceLT, reduceIte, reduceCtorEq, Int.reduceBNe, Int.reduceBEq]
  refine condV_split (fun hc => ?_) (fun hc => ?_)
  · have hlt : k < 26 := by simp at hc; omega
    have hw : IntKind.i64.wrap ((k : Int) + 1) = ((k + 1 : Nat) : Int) := by rw [wrap64 (by omega) (by omega)]; omega
    have h1 := hsl k hlt
    simp only [hw, ↓R1, R2, R3, R4, R5, Nat.reduceEqDiff, Nat.reduceAdd, Nat.reduceMul, Nat.reduceSub, Nat.reduceLeDiff, Nat.reduceLT, reduceIte, reduceCtorEq, Int.reduceBNe, Int.reduceBEq]
    have hl : lettersL = [65, 66, 67, 68, 69, 70, 71, 72, 73, 74, 75, 76, 77, 78, 79, 80, 81, 82, 83, 84, 85, 86, 87, 88, 89, 90] := rfl
    have hcm : (List.take (k + 1 - k) (List.drop k [65, 66, 67, 68, 69, 70, 71, 72, 73, 74, 75, 76, 77, 78, 79, 80, 81, 82, 83, 84, 85, 86, 87, 88, 89, 90]) == t) = (t == [lettersL[k]?.getD 0]) := by
      rw [← hl, h1, Bool.eq_iff_iff]; simp only [beq_iff_eq]; exact ⟨fun h => h.symm, fun h => h.symm⟩
    repeat' (first | (with_reducible rw [allocV_eq]) | (refine gdV_split (fun hc => ?_) (fun hc => ?_) <;> (try simp only [hc, ↓R1, R2, R3, R4, R5, Nat.reduceEqDiff, Nat.reduceAdd, Nat.reduceMul, Nat.reduceSub, Nat.reduceLeDiff, Nat.reduceLT, reduceIte, reduceCtorEq, Int.reduceBNe, Int.reduceBEq])) | ((first | refine condV_split (fun hc => ?_) (fun hc => ?_) | (with_reducible intro β hβ; (try simp only [St.box_noneA, St.tip_noneA, St.tip_set, St.box_tip] at hβ); (repeat (obtain ⟨⟨_, _⟩, hβ⟩ := hβ)); (try (have hbis := apart_is (by assumption) hβ; obtain ⟨_, _⟩ := hbis)))) <;> (try simp only [↓R1, R2, R3, R4, R5, Nat.reduceEqDiff, Nat.reduceAdd, Nat.reduceMul, Nat.reduceSub, Nat.reduceLeDiff, Nat.reduceLT, reduceIte, reduceCtorEq, Int.reduceBNe, Int.reduceBEq])) | (with_reducible refine And.intro ?_ ?_; (focus (first | omega | (intros; (repeat' (with_reducible apply And.intro)) <;> first | omega | (simp only [List.length_append, List.length_cons, List.length_nil]; omega))))) | (with_reducible apply And.intro))
    · rw [hcm] at hc
      have := kindL_eq t k hlt hc
      rw [hI] at this
      (refine endP_pu (by simp) (by first | (simp [rvsS, rvS]; done) | (simp only [rvsS, rvS, ↓R1, R2, R3, R4, R5, Nat.reduceEqDiff, Nat.reduceAdd, Nat.reduceMul, Nat.reduceSub, Nat.reduceLeDiff, Nat.reduceLT, reduceIte, reduceCtorEq, Int.reduceBNe, Int.reduceBEq]; try simp)) (wk_of_eq ?_) (by (repeat (first | exact St.le_refl _ | (refine St.le_new ?_ (by assumption)) | (refine St.le_newT ?_ (by assumption))))))
      (simp only [resAV, rvV, List.map_cons, List.map_nil, ↓R1, R2, R3, R4, R5, Nat.reduceEqDiff, Nat.reduceAdd, Nat.reduceMul, Nat.reduceSub, Nat.reduceLeDiff, Nat.reduceLT, reduceIte, reduceCtorEq, Int.reduceBNe, Int.reduceBEq])
      rw [this]
    · rw [hcm] at hc
      rw [← kindL_no t k hlt hc]; exact hI
    · simp only [subF, slot, wk_refl, ↓R1, R2, R3, R4, R5, Nat.reduceEqDiff, Nat.reduceAdd, Nat.reduceMul, Nat.reduceSub, Nat.reduceLeDiff, Nat.reduceLT, reduceIte, reduceCtorEq, Int.reduceBNe, Int.reduceBEq]; exact wk_k (by omega)
    · exact St.le_refl _
  · have : k = 26 := by simp at hc; omega
    subst this
    simp only [↓R1, R2, R3, R4, R5, Nat.reduceEqDiff, Nat.reduceAdd, Nat.reduceMul, Nat.reduceSub, Nat.reduceLeDiff, Nat.reduceLT, reduceIte, reduceCtorEq, Int.reduceBNe, Int.reduceBEq]
    repeat' (first | (with_reducible rw [allocV_eq]) | (refine gdV_split (fun hc => ?_) (fun hc => ?_) <;> (try simp only [hc, ↓R1, R2, R3, R4, R5, Nat.reduceEqDiff, Nat.reduceAdd, Nat.reduceMul, Nat.reduceSub, Nat.reduceLeDiff, Nat.reduceLT, reduceIte, reduceCtorEq, Int.reduceBNe, Int.reduceBEq])) | ((first | refine condV_split (fun hc => ?_) (fun hc => ?_) | (with_reducible intro β hβ; (try simp only [St.box_noneA, St.tip_noneA, St.tip_set, St.box_tip] at hβ); (repeat (obtain ⟨⟨_, _⟩, hβ⟩ := hβ)); (try (have hbis := apart_is (by assumption) hβ; obtain ⟨_, _⟩ := hbis)))) <;> (try simp only [↓R1, R2, R3, R4, R5, Nat.reduceEqDiff, Nat.reduceAdd, Nat.reduceMul, Nat.reduceSub, Nat.reduceLeDiff, Nat.reduceLT, reduceIte, reduceCtorEq, Int.reduceBNe, Int.reduceBEq])) | (with_reducible refine And.intro ?_ ?_; (focus (first | omega | (intros; (repeat' (with_reducible apply And.intro)) <;> first | omega | (simp only [List.length_append, List.length_cons, List.length_nil]; omega))))) | (with_reducible apply And.intro))
    (refine endP_pu (by simp) (by first | (simp [rvsS, rvS]; done) | (simp only [rvsS, rvS, ↓R1, R2, R3, R4, R5, Nat.reduceEqDiff, Nat.reduceAdd, Nat.reduceMul, Nat.reduceSub, Nat.reduceLeDiff, Nat.reduceLT, reduceIte, reduceCtorEq, Int.reduceBNe, Int.reduceBEq]; try simp)) (wk_of_eq ?_) (by (repeat (first | exact St.le_refl _ | (refine St.le_new ?_ (by assumption)) | (refine St.le_newT ?_ (by assumption))))))
    (simp only [resAV, rvV, List.map_cons, List.map_nil, ↓R1, R2, R3, R4, R5, Nat.reduceEqDiff, Nat.reduceAdd, Nat.reduceMul, Nat.reduceSub, Nat.reduceLeDiff, Nat.reduceLT, reduceIte, reduceCtorEq, Int.reduceBNe, Int.reduceBEq])
    rw [← hI]; rfl
theorem wEnc : ∀ k (hk : k < ByteArray.size ⟨lettersL.toArray⟩), Utf8.encode (((ByteArray.mk lettersL.toArray)[k].toNat : Nat) : Int) = ⟨[lettersL[k]?.getD 0].toArray⟩ := by decide
set_option maxHeartbeats 4000000 in
theorem w29 (t : List UInt8) (w : World) :
    Calls Tryd.prog 29 #[.string ⟨t.toArray⟩] w fun e w' => ∃ pos i x, kindT t = .tup [.int .i64 i, .int .i64 x] ∧ e = .returned (.tuple #[.int .i64 i, .int .i64 x]) ∧ w' = w.iter ⟨lettersL.toArray⟩ pos := by
  have hbs : ∀ k (hk : k < ByteArray.size ⟨lettersL.toArray⟩), (ByteArray.mk lettersL.toArray)[k].toNat < 128 := by decide
  go_enter Tryd.func29, Tryd.ntmps29
  go_wp2
  go_loopw [4] (fun _ w' => ∃ pos : Nat, pos ≤ 26 ∧ w' = w.iter ⟨lettersL.toArray⟩ pos ∧ kindL t (26 - pos) pos = kindT t) (fun _ w' => 26 - w'.iterPos w.heap.size)
  case atStart => exact ⟨0, by omega, rfl, rfl⟩
  case round =>
    obtain ⟨pos, hp, rfl, hc⟩ := hrel
    by_cases hp : pos < 26
    · have hnx : ∀ ty, (Instr.next (.pointer (some ⟨w.heap.size, 0, none⟩)) true ty).run Tryd.prog (w.iter ⟨lettersL.toArray⟩ pos) = _ := fun ty => run_next_ascii w ⟨lettersL.toArray⟩ pos ty hp (hbs pos hp)
      go_wp2
      · rename_i hq
        rw [wEnc pos hp] at hq
        go_ret2
        exact ⟨_, _, _, by rw [← hc, kindL_eq t pos hp (by simpa using hq)], rfl, rfl⟩
      · rename_i hq
        rw [wEnc pos hp] at hq
        refine ⟨⟨pos + 1, by omega, rfl, ?_⟩, ?_⟩
        · rw [← kindL_no t pos hp (by simpa using hq)]; exact hc
        · simp [World.iterPos, World.iter_heap]; omega
    · have hnx : ∀ ty, (Instr.next (.pointer (some ⟨w.heap.size, 0, none⟩)) true ty).run Tryd.prog (w.iter ⟨lettersL.toArray⟩ pos) = _ := fun ty => run_next_end w ⟨lettersL.toArray⟩ pos ty hp
      go_wp2
      go_ret2
      have : pos = 26 := by omega
      subst this
      exact ⟨_, _, _, hc.symm, rfl, rfl⟩
theorem p29 (t : List UInt8) : Pu Tryd.prog 29 [.str t] (kindT t) := by
  intro σ
  refine AC.of_calls (Go.Proofs.enters_of Tryd.func29 (by kernel_rfl) rfl) ?_
  intro g w vs hI hv
  obtain ⟨v1, vs, rfl, r1, hv⟩ := hv.cons_inv
  rw [hv.nil_inv, r1.str_inv]
  refine (w29 t w).mono ?_
  rintro e w' ⟨pos, i, x, hk, rfl, rfl⟩
  rw [hk]
  exact ⟨_, rfl, (Go.RowKit.Below.refl _ w).alloc (Nat.le_refl _) _, fun g' _ => Rel.tup_mk (.cons (.int _ _) (.cons (.int _ _) .nil))⟩
end Go.Proofs.YtnmlhilckjmhnaaDoor
namespace Go.Proofs.YtnmlhilckjmhnaaDoor
open Go.Abs Go.Lib
set_option linter.all false
set_option maxRecDepth 100000
def kindI (t : List UInt8) : Nat → Nat → Int × Int
  | 0, _ => (0, 11)
  | b + 1, k => bif t == [lettersL[k]?.getD 0] then ((k : Int), 0) else kindI t b (k + 1)
def kindN (t : List UInt8) : Int := (kindI t 26 0).1
def kindX (t : List UInt8) : Int := (kindI t 26 0).2
theorem kindT_eq (t : List UInt8) : kindT t = .tup [.int .i64 (kindN t), .int .i64 (kindX t)] := by
  have : ∀ b k, kindL t b k = .tup [.int .i64 (kindI t b k).1, .int .i64 (kindI t b k).2] := by
    intro b
    induction b with
    | zero => intro k; rfl
    | succ b ih =>
      intro k
      unfold kindL kindI
      cases (t == [lettersL[k]?.getD 0])
      · exact ih _
      · rfl
  exact this _ _
theorem kind_is (t : List UInt8) (h : kindX t = 0) : (0 ≤ kindN t ∧ kindN t < 26) ∧ letterL (kindN t) = t := by
  have : ∀ b k, b + k = 26 → (kindI t b k).2 = 0 → (0 ≤ (kindI t b k).1 ∧ (kindI t b k).1 < 26) ∧ letterL (kindI t b k).1 = t := by
    intro b
    induction b with
    | zero => intro k _ h; simp [kindI] at h
    | succ b ih =>
      intro k hk h
      unfold kindI at h ⊢
      cases hc : (t == [lettersL[k]?.getD 0]) with
      | false => rw [hc] at h; exact ih _ (by omega) h
      | true =>
        simp only [cond_true]
        rw [beq_iff_eq] at hc
        have hl : ∀ k : Nat, k < 26 → letterL (k : Int) = [lettersL[k]?.getD 0] := by decide
        exact ⟨by omega, by rw [hl k (by omega), hc]⟩
  exact this 26 0 rfl h
theorem count_find (c : UInt8) : ∀ s, (s.count c = 0 ↔ ¬ findN s c < s.length) ∧ (findN s c < s.length → s.count c = (tS s c).count c + 1)
  | [] => by simp [findN]
  | x :: l => by
    obtain ⟨h1, h2⟩ := count_find c l
    unfold tS at h2 ⊢
    unfold findN
    cases hx : (x == c) with
    | true => simp at hx; subst hx; simp
    | false =>
      have hne : x ≠ c := by simpa using hx
      simp only [cond_false, List.length_cons, List.drop_succ_cons, Nat.add_lt_add_iff_right]
      rw [List.count_cons_of_ne hne]
      exact ⟨h1, h2⟩
theorem index_pos {s : List UInt8} {c : UInt8} (h : findN s c < s.length) : Lib.index s [c] = (findN s c : Int) := by
  rw [Lib.index_one, find_index, if_pos h]
theorem parts_no {s : List UInt8} {c : UInt8} (h : ¬ findN s c < s.length) : partsL s c = [s] := by
  unfold partsL Lib.split
  rw [Lib.count_one, (count_find c s).1.2 h]
  rfl
theorem parts_yes {s : List UInt8} {c : UInt8} (h : findN s c < s.length) : partsL s c = hS s c :: partsL (tS s c) c := by
  unfold partsL Lib.split
  rw [Lib.count_one, Lib.count_one, (count_find c s).2 h]
  show (if Lib.index s [c] == -1 then _ else _) = _
  have e : ((findN s c : Int) == -1) = false := by rw [beq_eq_false_iff_ne]; omega
  rw [index_pos h, e, if_neg (by simp), Int.toNat_natCast]
  rfl
/-- Three parts: two spaces. -/
theorem parts_three (s : List UInt8) (c : UInt8) : (partsL s c).length = 3 ↔ findN s c < s.length ∧ findN (tS s c) c < (tS s c).length ∧ ¬ findN (tS (tS s c) c) c < (tS (tS s c) c).length := by
  by_cases h1 : findN s c < s.length
  · rw [parts_yes h1]
    by_cases h2 : findN (tS s c) c < (tS s c).length
    · rw [parts_yes h2]
      by_cases h3 : findN (tS (tS s c) c) c < (tS (tS s c) c).length
      · rw [parts_yes h3]
        have : 0 < (partsL (tS (tS (tS s c) c) c) c).length := by
          by_cases h4 : findN (tS (tS (tS s c) c) c) c < (tS (tS (tS s c) c) c).length
          · rw [parts_yes h4]; simp
          · rw [parts_no h4]; simp
        simp only [List.length_cons, h1, h2, h3, true_and, not_true, iff_false]; omega
      · rw [parts_no h3]; simp [h1, h2, h3]
    · rw [parts_no h2]; simp [h2]
  · rw [parts_no h1]; simp [h1]
end Go.Proofs.YtnmlhilckjmhnaaDoor
namespace Go.Proofs.YtnmlhilckjmhnaaDoor
open Go.Abs Go.Lib
set_option linter.all false
set_option maxRecDepth 100000
def badV (u : List UInt8) : Bool := (!valB (tailS u) || (minusB u && ((valN (tailS u) == 0) || decide (9223372036854775808 < valN (tailS u))))) || (!minusB u && decide (9223372036854775808 ≤ valN (tailS u)))
theorem int_val (u : List UInt8) : (intE u == 0) = !badV u ∧ (intE u = 0 → intX u = bif minusB u then -(valN (tailS u) : Int) else (valN (tailS u) : Int)) := by
  unfold intE intX badV
  cases hg : valB (tailS u) with
  | false =>
    have : badI u = true ∨ badI u = false ∧ fit (intV5 u) = false := by
      cases hb : badI u with
      | true => exact .inl rfl
      | false =>
        refine .inr ⟨rfl, ?_⟩
        simp only [badI, Bool.or_eq_false_iff, Bool.not_eq_false'] at hb
        have hv : ¬ val 0 (tailS u) < 18446744073709551616 := by
          intro h; simp [valB, hb.1, h] at hg
        cases hf : fit (intV5 u) with
        | false => rfl
        | true =>
          rw [fit_iff] at hf
          unfold intV5 at hf
          cases hm : minusB u <;> simp only [hm, cond_true, cond_false] at hf <;> omega
    rcases this with h | ⟨h1, h2⟩
    · simp [h]
    · simp [h1, h2]
  | true =>
    obtain ⟨g1, g2, g3⟩ := valB_is hg
    have hz := val_zero g1
    rw [g3]
    have hb : badI u = (minusB u && (val 0 (tailS u) == 0)) := by simp [badI, g1, hz]
    rw [hb]
    have hf : fit (intV5 u) = bif minusB u then decide (val 0 (tailS u) ≤ 9223372036854775808) else decide (val 0 (tailS u) < 9223372036854775808) := by
      rw [Bool.eq_iff_iff, fit_iff]
      unfold intV5
      cases hm : minusB u <;> simp only [cond_true, cond_false, decide_eq_true_eq] <;> omega
    rw [hf]
    unfold intV5
    cases hm : minusB u <;> simp only [Bool.cond_eq_ite] <;> grind
def rdB (s : List UInt8) : Bool := (kindX (hS s 32) == 0) && decide (findN s 32 < s.length) && decide ((parseL (hS (tS s 32) 32)).err = 0) && decide (findN (tS s 32) 32 < (tS s 32).length) && (intE (tS (tS s 32) 32) == 0)
def rdC (s : List UInt8) : List AV := bif rdB s then [.int .u64 (parseL (hS (tS s 32) 32)).l.toNat, .int .i64 (kindN (hS s 32)), .int .i64 (intX (tS (tS s 32) 32))] else [.int .u64 0, .int .i64 0, .int .i64 0]
def rdE (s : List UInt8) : Int := bif rdB s then 0 else 3
theorem w_neg (n : Nat) (h : n ≤ 9223372036854775808) : IntKind.i64.wrap (0 - IntKind.i64.wrap (n : Int)) = -(n : Int) := by
  rw [wI, wI]; split <;> split <;> omega
theorem tS_len (s : List UInt8) (c : UInt8) : (tS s c).length ≤ s.length := by unfold tS; rw [List.length_drop]; omega
theorem take_all (t : List UInt8) (k : Nat) : List.take (t.length - k) (List.drop k t) = List.drop k t := List.take_of_length_le (by rw [List.length_drop]; exact Nat.le_refl _)
theorem minus_split (u : List UInt8) : (decide ((0 : Int) < u.length) && ((((u[0]?).getD 0).toNat : Nat) : Int) == 45) = minusB u := rfl
theorem p33 (s : List UInt8) (hs : s.length ≤ 1000000) : Pu Tryd.prog 33 [.str s] (.tup [.agg (rdC s), .int .i64 (rdE s)]) := by
  have hle := findN_le 32 s
  have htl : (tS s 32).length ≤ s.length := tS_len _ _
  have hle2 := findN_le 32 (tS s 32)
  have htl2 : (tS (tS s 32) 32).length ≤ (tS s 32).length := tS_len _ _
  have hmi := minus_split (tS (tS s 32) 32)
  have h1 := p57 s 32 hs
  have h2 := p30 (hS s 32)
  rw [kindT_eq] at h2
  have h3 := p57 (tS s 32) 32 (by omega)
  have h4 := p58 (hS (tS s 32) 32) (by simp [hS]; omega)
  have h5 := p59 (tailS (tS (tS s 32) 32)) (by have : (tailS (tS (tS s 32) 32)).length ≤ (tS (tS s 32) 32).length := (by unfold tailS; cases minusB (tS (tS s 32) 32) <;> simp); omega)
  have e32 : ((32 : UInt8).toNat : Int) = 32 := rfl
  rw [e32] at h1 h3
  simp only [plAV] at h4
  have ht : List.take (findN s 32) s = hS s 32 := rfl
  have hw : IntKind.i64.wrap ((findN s 32 : Int) + 1) = ((findN s 32 + 1 : Nat) : Int) := by rw [wrap64 (by omega) (by omega)]; omega
  have hd : List.take (s.length - (findN s 32 + 1)) (List.drop (findN s 32 + 1) s) = tS s 32 := by
    exact take_all _ _
  have ht2 : List.take (findN (tS s 32) 32) (tS s 32) = hS (tS s 32) 32 := rfl
  have hw2 : IntKind.i64.wrap ((findN (tS s 32) 32 : Int) + 1) = ((findN (tS s 32) 32 + 1 : Nat) : Int) := by rw [wrap64 (by omega) (by omega)]; omega
  have hd2 : List.take ((tS s 32).length - (findN (tS s 32) 32 + 1)) (List.drop (findN (tS s 32) 32 + 1) (tS s 32)) = tS (tS s 32) 32 := by
    exact take_all _ _
  obtain ⟨i1, i2⟩ := int_val (tS (tS s 32) 32)
  have l1 : (0 : Int) < (tS (tS s 32) 32).length ∨ minusB (tS (tS s 32) 32) = false := by
    rcases Nat.eq_zero_or_pos (tS (tS s 32) 32).length with h | h
    · right; simp [minusB, h]
    · left; omega
  cases hm : minusB (tS (tS s 32) 32) with
  | false =>
    have hT : tailS (tS (tS s 32) 32) = tS (tS s 32) 32 := by unfold tailS; rw [hm]; rfl
    rw [hT] at h5
    have w1 := u_pos (valN (tS (tS s 32) 32))
    rw [hm] at hmi
    simp only [badV, hm, hT] at i1 i2
    (refine Pu_intro c33 b33 (Nat.le_of_ble_eq_true rfl) fun σ => ?_; simp only [c33, ↓R1, R2, R3, R4, R5, Nat.reduceEqDiff, Nat.reduceAdd, Nat.reduceMul, Nat.reduceSub, Nat.reduceLeDiff, Nat.reduceLT, reduceIte, reduceCtorEq, Int.reduceBNe, Int.reduceBEq, ht, hw, hd, ht2, hw2, hd2, hmi, hT])
    repeat' (first | (with_reducible rw [allocV_eq]) | (refine gdV_split (fun hc => ?_) (fun hc => ?_) <;> (try simp only [hc, ↓R1, R2, R3, R4, R5, Nat.reduceEqDiff, Nat.reduceAdd, Nat.reduceMul, Nat.reduceSub, Nat.reduceLeDiff, Nat.reduceLT, reduceIte, reduceCtorEq, Int.reduceBNe, Int.reduceBEq, ht, hw, hd, ht2, hw2, hd2, hmi, hT])) | ((first | refine condV_split (fun hc => ?_) (fun hc => ?_) | (with_reducible intro β hβ; (try simp only [St.box_noneA, St.tip_noneA, St.tip_set, St.box_tip] at hβ); (repeat (obtain ⟨⟨_, _⟩, hβ⟩ := hβ)); (try (have hbis := apart_is (by assumption) hβ; obtain ⟨_, _⟩ := hbis)))) <;> (try simp only [↓R1, R2, R3, R4, R5, Nat.reduceEqDiff, Nat.reduceAdd, Nat.reduceMul, Nat.reduceSub, Nat.reduceLeDiff, Nat.reduceLT, reduceIte, reduceCtorEq, Int.reduceBNe, Int.reduceBEq, ht, hw, hd, ht2, hw2, hd2, hmi, hT])) | (with_reducible refine And.intro ?_ ?_; (focus (first | omega | (intros; (repeat' (with_reducible apply And.intro)) <;> first | omega | (simp only [List.length_append, List.length_cons, List.length_nil]; omega))))) | (with_reducible apply And.intro) | ((first | refine Pu.to (h1) (wkL_refl _) ?_ | refine callDV_pu (h1) (wkL_refl _) ?_ | refine Pu.to (h2) (wkL_refl _) ?_ | refine callDV_pu (h2) (wkL_refl _) ?_ | refine Pu.to (h3) (wkL_refl _) ?_ | refine callDV_pu (h3) (wkL_refl _) ?_ | refine Pu.to (h4) (wkL_refl _) ?_ | refine callDV_pu (h4) (wkL_refl _) ?_ | refine Pu.to (h5) (wkL_refl _) ?_ | refine callDV_pu (h5) (wkL_refl _) ?_); (try simp only [↓R1, R2, R3, R4, R5, Nat.reduceEqDiff, Nat.reduceAdd, Nat.reduceMul, Nat.reduceSub, Nat.reduceLeDiff, Nat.reduceLT, reduceIte, reduceCtorEq, Int.reduceBNe, Int.reduceBEq, ht, hw, hd, ht2, hw2, hd2, hmi, hT])))
    all_goals first | exact Int.le_refl _ | omega | (simp only [Bool.or_eq_false_iff, beq_eq_false_iff_ne] at hc; omega) | (intro hno; simp only [decide_eq_true_eq] at hno; omega) | (rw [β, hβ]; rfl) | skip
    all_goals (refine endP_pu (by simp) (by first | (simp [rvsS, rvS]; done) | (simp only [rvsS, rvS, ↓R1, R2, R3, R4, R5, Nat.reduceEqDiff, Nat.reduceAdd, Nat.reduceMul, Nat.reduceSub, Nat.reduceLeDiff, Nat.reduceLT, reduceIte, reduceCtorEq, Int.reduceBNe, Int.reduceBEq, ht, hw, hd, ht2, hw2, hd2, hmi, hT]; try simp)) (wk_of_eq ?_) (by (repeat (first | exact St.le_refl _ | (refine St.le_new ?_ (by assumption)) | (refine St.le_newT ?_ (by assumption))))))
    all_goals (simp only [resAV, rvV, List.map_cons, List.map_nil, ↓R1, R2, R3, R4, R5, Nat.reduceEqDiff, Nat.reduceAdd, Nat.reduceMul, Nat.reduceSub, Nat.reduceLeDiff, Nat.reduceLT, reduceIte, reduceCtorEq, Int.reduceBNe, Int.reduceBEq, ht, hw, hd, ht2, hw2, hd2, hmi, hT])
    all_goals (simp only [rdC, rdE, rdB, Bool.cond_eq_ite]; grind)
  | true =>
    have hT : List.take ((tS (tS s 32) 32).length - Int.toNat 1) (List.drop (Int.toNat 1) (tS (tS s 32) 32)) = tailS (tS (tS s 32) 32) := by
      unfold tailS; rw [hm]; exact take_all _ _
    have lp : (0 : Int) < (tS (tS s 32) 32).length := by
      rcases l1 with h | h
      · exact h
      · rw [hm] at h; cases h
    rw [hm] at hmi
    have w2 := w_neg (valN (tailS (tS (tS s 32) 32)))
    simp only [badV, hm] at i1 i2
    (refine Pu_intro c33 b33 (Nat.le_of_ble_eq_true rfl) fun σ => ?_; simp only [c33, ↓R1, R2, R3, R4, R5, Nat.reduceEqDiff, Nat.reduceAdd, Nat.reduceMul, Nat.reduceSub, Nat.reduceLeDiff, Nat.reduceLT, reduceIte, reduceCtorEq, Int.reduceBNe, Int.reduceBEq, ht, hw, hd, ht2, hw2, hd2, hmi, hT])
    repeat' (first | (with_reducible rw [allocV_eq]) | (refine gdV_split (fun hc => ?_) (fun hc => ?_) <;> (try simp only [hc, ↓R1, R2, R3, R4, R5, Nat.reduceEqDiff, Nat.reduceAdd, Nat.reduceMul, Nat.reduceSub, Nat.reduceLeDiff, Nat.reduceLT, reduceIte, reduceCtorEq, Int.reduceBNe, Int.reduceBEq, ht, hw, hd, ht2, hw2, hd2, hmi, hT])) | ((first | refine condV_split (fun hc => ?_) (fun hc => ?_) | (with_reducible intro β hβ; (try simp only [St.box_noneA, St.tip_noneA, St.tip_set, St.box_tip] at hβ); (repeat (obtain ⟨⟨_, _⟩, hβ⟩ := hβ)); (try (have hbis := apart_is (by assumption) hβ; obtain ⟨_, _⟩ := hbis)))) <;> (try simp only [↓R1, R2, R3, R4, R5, Nat.reduceEqDiff, Nat.reduceAdd, Nat.reduceMul, Nat.reduceSub, Nat.reduceLeDiff, Nat.reduceLT, reduceIte, reduceCtorEq, Int.reduceBNe, Int.reduceBEq, ht, hw, hd, ht2, hw2, hd2, hmi, hT])) | (with_reducible refine And.intro ?_ ?_; (focus (first | omega | (intros; (repeat' (with_reducible apply And.intro)) <;> first | omega | (simp only [List.length_append, List.length_cons, List.length_nil]; omega))))) | (with_reducible apply And.intro) | ((first | refine Pu.to (h1) (wkL_refl _) ?_ | refine callDV_pu (h1) (wkL_refl _) ?_ | refine Pu.to (h2) (wkL_refl _) ?_ | refine callDV_pu (h2) (wkL_refl _) ?_ | refine Pu.to (h3) (wkL_refl _) ?_ | refine callDV_pu (h3) (wkL_refl _) ?_ | refine Pu.to (h4) (wkL_refl _) ?_ | refine callDV_pu (h4) (wkL_refl _) ?_ | refine Pu.to (h5) (wkL_refl _) ?_ | refine callDV_pu (h5) (wkL_refl _) ?_); (try simp only [↓R1, R2, R3, R4, R5, Nat.reduceEqDiff, Nat.reduceAdd, Nat.reduceMul, Nat.reduceSub, Nat.reduceLeDiff, Nat.reduceLT, reduceIte, reduceCtorEq, Int.reduceBNe, Int.reduceBEq, ht, hw, hd, ht2, hw2, hd2, hmi, hT])))
    all_goals first | exact Int.le_refl _ | omega | (simp only [Bool.or_eq_false_iff, beq_eq_false_iff_ne] at hc; omega) | (intro hno; simp only [decide_eq_true_eq] at hno; omega) | (rw [β, hβ]; rfl) | skip
    all_goals (refine endP_pu (by simp) (by first | (simp [rvsS, rvS]; done) | (simp only [rvsS, rvS, ↓R1, R2, R3, R4, R5, Nat.reduceEqDiff, Nat.reduceAdd, Nat.reduceMul, Nat.reduceSub, Nat.reduceLeDiff, Nat.reduceLT, reduceIte, reduceCtorEq, Int.reduceBNe, Int.reduceBEq, ht, hw, hd, ht2, hw2, hd2, hmi, hT]; try simp)) (wk_of_eq ?_) (by (repeat (first | exact St.le_refl _ | (refine St.le_new ?_ (by assumption)) | (refine St.le_newT ?_ (by assumption))))))
    all_goals (simp only [resAV, rvV, List.map_cons, List.map_nil, ↓R1, R2, R3, R4, R5, Nat.reduceEqDiff, Nat.reduceAdd, Nat.reduceMul, Nat.reduceSub, Nat.reduceLeDiff, Nat.reduceLT, reduceIte, reduceCtorEq, Int.reduceBNe, Int.reduceBEq, ht, hw, hd, ht2, hw2, hd2, hmi, hT])
    all_goals (simp only [rdC, rdE, rdB, Bool.cond_eq_ite]; grind)
end Go.Proofs.YtnmlhilckjmhnaaDoor
namespace Go.Proofs.YtnmlhilckjmhnaaDoor
open Go.Abs Go.Lib
set_option linter.all false
set_option maxRecDepth 100000
theorem intX_64 (u : List UInt8) : I64 (intX u) := by
  unfold intX I64
  cases badI u
  · cases hf : fit (intV5 u)
    · simp
    · rw [fit_iff] at hf; simpa using hf
  · simp
theorem no_find {u : List UInt8} {c : UInt8} (h : ∀ x ∈ u, x ≠ c) : ¬ findN u c < u.length := by
  intro hl
  have h2 := find_hit c u hl
  have e : u[findN u c]?.getD 0 = u[findN u c] := by rw [List.getElem?_eq_getElem hl]; rfl
  rw [e, beq_iff_eq] at h2
  exact h _ (List.getElem_mem hl) h2
theorem dec_no (n : Nat) : ∀ x ∈ decDigits n, x ≠ 32 := by
  intro x hx h
  have := List.all_eq_true.1 (dec_facts n).2.1 x hx
  subst h
  revert this; decide
theorem int_no {u : List UInt8} (h : intE u = 0) : ¬ findN u 32 < u.length := by
  rw [← write_read u h]
  refine no_find ?_
  unfold itoa
  split
  · intro x hx
    rcases List.mem_cons.1 hx with rfl | hx
    · decide
    · exact dec_no _ x hx
  · exact dec_no _
theorem rd_three {s : List UInt8} (h : rdB s = true) : (partsL s 32).length = 3 := by
  simp only [rdB, Bool.and_eq_true, beq_iff_eq, decide_eq_true_eq] at h
  exact (parts_three s 32).2 ⟨h.1.1.1.2, h.1.2, int_no h.2⟩
theorem parts_is {s : List UInt8} (h : (partsL s 32).length = 3) : partsL s 32 = [hS s 32, hS (tS s 32) 32, tS (tS s 32) 32] := by
  obtain ⟨h1, h2, h3⟩ := (parts_three s 32).1 h
  rw [parts_yes h1, parts_yes h2, parts_no h3]
theorem rd_again {s : List UInt8} (h : (partsL s 32).length = 3) (h1 : kindX (hS s 32) = 0) (h2 : (parseL (hS (tS s 32) 32)).err = 0) (h3 : intE (tS (tS s 32) 32) = 0) :
    rdB s = true ∧ checkE (kindN (hS s 32)) = 0 ∧ evText (parseL (hS (tS s 32) 32)).l (kindN (hS s 32)) (intX (tS (tS s 32) 32)) = s := by
  obtain ⟨p1, p2, p3⟩ := (parts_three s 32).1 h
  obtain ⟨k1, k2⟩ := kind_is _ h1
  have hk : checkE (kindN (hS s 32)) = 0 := by simp only [checkE, Bool.cond_eq_ite]; grind
  refine ⟨by simp [rdB, h1, h2, h3, p1, p2], hk, ?_⟩
  simp only [evText, hk, beq_self_eq_true, cond_true]
  rw [k2, parseL_only h2, write_read _ h3]
  have e1 := split_at p1
  have e2 := split_at p2
  rw [← e2] at e1
  simpa [List.append_assoc] using e1
theorem parts_len (s : List UInt8) : (partsL s 32).length ≤ s.length + 1 := by
  unfold partsL Lib.split
  have : ∀ n s, (Lib.splitK [32] 0 n s).length ≤ n + 1 := by
    intro n
    induction n with
    | zero => intro s; simp [Lib.splitK]
    | succ n ih =>
      intro s
      unfold Lib.splitK
      split
      · simp
      · rw [List.length_cons]
        exact Nat.succ_le_succ (ih _)
  have h2 := this (Lib.count s [32]) s
  have h3 : Lib.count s [32] ≤ s.length := by rw [Lib.count_one]; exact List.count_le_length
  omega
theorem p32 (s : List UInt8) (hs : s.length ≤ 1000000) : PuG Tryd.prog gl3 32 [.str s] (.tup [.agg (rdC s), .int .i64 (rdE s)]) := by
  have h1 := p54 s 32 hs
  have hl := parts_len s
  by_cases hp : (partsL s 32).length = 3
  · have hpp := parts_is hp
    have lA : (hS s 32).length ≤ 1000000 := by simp [hS]; omega
    have htl := tS_len s 32
    have htl2 := tS_len (tS s 32) 32
    have h2 := p29 (hS s 32)
    rw [kindT_eq] at h2
    have h3 := p55 (hS (tS s 32) 32) (by simp [hS]; omega)
    have h4 := p56 (tS (tS s 32) 32) (by unfold maxLen; omega)
    have h5 := p14 (parseL (hS (tS s 32) 32)).l (kindN (hS s 32)) (intX (tS (tS s 32) 32)) (intX_64 _)
    have ha := rd_again hp
    rw [hpp] at h1
    simp only [List.map_cons, List.map_nil, List.length_cons, List.length_nil] at h1
    simp only [plAV] at h3
    rw [intL_eq] at h4
    have hx : (hS s 32).length ≤ 1000000 := lA
    (refine PuG_intro c32 b32 (Nat.le_of_ble_eq_true rfl) fun σ hσ => ?_; simp only [c32, ↓R1, R2, R3, R4, R5, Nat.reduceEqDiff, Nat.reduceAdd, Nat.reduceMul, Nat.reduceSub, Nat.reduceLeDiff, Nat.reduceLT, reduceIte, reduceCtorEq, Int.reduceBNe, Int.reduceBEq, hx])
    repeat' (first | (with_reducible rw [allocV_eq]) | (refine gdV_split (fun hc => ?_) (fun hc => ?_) <;> (try simp only [hc, ↓R1, R2, R3, R4, R5, Nat.reduceEqDiff, Nat.reduceAdd, Nat.reduceMul, Nat.reduceSub, Nat.reduceLeDiff, Nat.reduceLT, reduceIte, reduceCtorEq, Int.reduceBNe, Int.reduceBEq, hx])) | ((first | refine condV_split (fun hc => ?_) (fun hc => ?_) | (with_reducible intro β hβ; (try simp only [St.box_noneA, St.tip_noneA, St.tip_set, St.box_tip] at hβ); (repeat (obtain ⟨⟨_, _⟩, hβ⟩ := hβ)); (try (have hbis := apart_is (by assumption) hβ; obtain ⟨_, _⟩ := hbis)))) <;> (try simp only [↓R1, R2, R3, R4, R5, Nat.reduceEqDiff, Nat.reduceAdd, Nat.reduceMul, Nat.reduceSub, Nat.reduceLeDiff, Nat.reduceLT, reduceIte, reduceCtorEq, Int.reduceBNe, Int.reduceBEq, hx])) | (with_reducible refine And.intro ?_ ?_; (focus (first | omega | (intros; (repeat' (with_reducible apply And.intro)) <;> first | omega | (simp only [List.length_append, List.length_cons, List.length_nil]; omega))))) | (with_reducible apply And.intro) | ((first | refine Pu.to (h1) (wkL_refl _) ?_ | refine callDV_pu (h1) (wkL_refl _) ?_ | refine Pu.to (h2) (wkL_refl _) ?_ | refine callDV_pu (h2) (wkL_refl _) ?_ | refine Pu.to (h3) (wkL_refl _) ?_ | refine callDV_pu (h3) (wkL_refl _) ?_ | refine Pu.to (h4) (wkL_refl _) ?_ | refine callDV_pu (h4) (wkL_refl _) ?_ | refine PuG.to (h5) hσ (wkL_refl _) ?_); (try simp only [↓R1, R2, R3, R4, R5, Nat.reduceEqDiff, Nat.reduceAdd, Nat.reduceMul, Nat.reduceSub, Nat.reduceLeDiff, Nat.reduceLT, reduceIte, reduceCtorEq, Int.reduceBNe, Int.reduceBEq, hx])))
    all_goals first | (exfalso; simp at hc; done) | exact Nat.zero_lt_succ _ | skip
    · have hv : rdB s = false := by
        cases hv : rdB s with
        | false => rfl
        | true =>
          exfalso
          simp only [rdB, Bool.and_eq_true, beq_iff_eq, decide_eq_true_eq] at hv
          rw [hv.1.1.1.1, hv.1.1.2, hv.2] at hc
          simp at hc
      (refine endP_pu (by simp) (by first | (simp [rvsS, rvS]; done) | (simp only [rvsS, rvS, ↓R1, R2, R3, R4, R5, Nat.reduceEqDiff, Nat.reduceAdd, Nat.reduceMul, Nat.reduceSub, Nat.reduceLeDiff, Nat.reduceLT, reduceIte, reduceCtorEq, Int.reduceBNe, Int.reduceBEq, hx]; try simp)) (wk_of_eq ?_) (by (repeat (first | exact St.le_refl _ | (refine St.le_new ?_ (by assumption)) | (refine St.le_newT ?_ (by assumption))))))
      (simp only [resAV, rvV, List.map_cons, List.map_nil, ↓R1, R2, R3, R4, R5, Nat.reduceEqDiff, Nat.reduceAdd, Nat.reduceMul, Nat.reduceSub, Nat.reduceLeDiff, Nat.reduceLT, reduceIte, reduceCtorEq, Int.reduceBNe, Int.reduceBEq, hx])
      simp only [rdC, rdE, hv, cond_false]
    all_goals (
      have hq : (kindX (hS s 32) != 0 || ((parseL (hS (tS s 32) 32)).err : Int) != 0 || intE (tS (tS s 32) 32) != 0) = false := by assumption
      simp only [Bool.or_eq_false_iff, bne_eq_false_iff_eq] at hq
      obtain ⟨a1, a2, a3⟩ := ha hq.1.1 (by omega) hq.2)
    · exfalso
      rw [a2, a3] at hc
      simp at hc
    · (refine endP_pu (by simp) (by first | (simp [rvsS, rvS]; done) | (simp only [rvsS, rvS, ↓R1, R2, R3, R4, R5, Nat.reduceEqDiff, Nat.reduceAdd, Nat.reduceMul, Nat.reduceSub, Nat.reduceLeDiff, Nat.reduceLT, reduceIte, reduceCtorEq, Int.reduceBNe, Int.reduceBEq, hx]; try simp)) (wk_of_eq ?_) (by (repeat (first | exact St.le_refl _ | (refine St.le_new ?_ (by assumption)) | (refine St.le_newT ?_ (by assumption))))))
      (simp only [resAV, rvV, List.map_cons, List.map_nil, ↓R1, R2, R3, R4, R5, Nat.reduceEqDiff, Nat.reduceAdd, Nat.reduceMul, Nat.reduceSub, Nat.reduceLeDiff, Nat.reduceLT, reduceIte, reduceCtorEq, Int.reduceBNe, Int.reduceBEq, hx])
      simp only [rdC, rdE, a1, cond_true]
  · have hx : (((partsL s 32).length : Int) != 3) = true := by rw [bne_iff_ne]; omega
    have hv : rdB s = false := by
      cases hv : rdB s with
      | false => rfl
      | true => exact (hp (rd_three hv)).elim
    (refine PuG_intro c32 b32 (Nat.le_of_ble_eq_true rfl) fun σ hσ => ?_; simp only [c32, ↓R1, R2, R3, R4, R5, Nat.reduceEqDiff, Nat.reduceAdd, Nat.reduceMul, Nat.reduceSub, Nat.reduceLeDiff, Nat.reduceLT, reduceIte, reduceCtorEq, Int.reduceBNe, Int.reduceBEq, hx])
    repeat' (first | (with_reducible rw [allocV_eq]) | (refine gdV_split (fun hc => ?_) (fun hc => ?_) <;> (try simp only [hc, ↓R1, R2, R3, R4, R5, Nat.reduceEqDiff, Nat.reduceAdd, Nat.reduceMul, Nat.reduceSub, Nat.reduceLeDiff, Nat.reduceLT, reduceIte, reduceCtorEq, Int.reduceBNe, Int.reduceBEq, hx])) | ((first | refine condV_split (fun hc => ?_) (fun hc => ?_) | (with_reducible intro β hβ; (try simp only [St.box_noneA, St.tip_noneA, St.tip_set, St.box_tip] at hβ); (repeat (obtain ⟨⟨_, _⟩, hβ⟩ := hβ)); (try (have hbis := apart_is (by assumption) hβ; obtain ⟨_, _⟩ := hbis)))) <;> (try simp only [↓R1, R2, R3, R4, R5, Nat.reduceEqDiff, Nat.reduceAdd, Nat.reduceMul, Nat.reduceSub, Nat.reduceLeDiff, Nat.reduceLT, reduceIte, reduceCtorEq, Int.reduceBNe, Int.reduceBEq, hx])) | (with_reducible refine And.intro ?_ ?_; (focus (first | omega | (intros; (repeat' (with_reducible apply And.intro)) <;> first | omega | (simp only [List.length_append, List.length_cons, List.length_nil]; omega))))) | (with_reducible apply And.intro) | ((first | refine Pu.to (h1) (wkL_refl _) ?_ | refine callDV_pu (h1) (wkL_refl _) ?_); (try simp only [↓R1, R2, R3, R4, R5, Nat.reduceEqDiff, Nat.reduceAdd, Nat.reduceMul, Nat.reduceSub, Nat.reduceLeDiff, Nat.reduceLT, reduceIte, reduceCtorEq, Int.reduceBNe, Int.reduceBEq, hx])))
    all_goals (refine endP_pu (by simp) (by first | (simp [rvsS, rvS]; done) | (simp only [rvsS, rvS, ↓R1, R2, R3, R4, R5, Nat.reduceEqDiff, Nat.reduceAdd, Nat.reduceMul, Nat.reduceSub, Nat.reduceLeDiff, Nat.reduceLT, reduceIte, reduceCtorEq, Int.reduceBNe, Int.reduceBEq, hx]; try simp)) (wk_of_eq ?_) (by (repeat (first | exact St.le_refl _ | (refine St.le_new ?_ (by assumption)) | (refine St.le_newT ?_ (by assumption))))))
    all_goals (simp only [resAV, rvV, List.map_cons, List.map_nil, ↓R1, R2, R3, R4, R5, Nat.reduceEqDiff, Nat.reduceAdd, Nat.reduceMul, Nat.reduceSub, Nat.reduceLeDiff, Nat.reduceLT, reduceIte, reduceCtorEq, Int.reduceBNe, Int.reduceBEq, hx])
    all_goals simp only [rdC, rdE, hv, cond_false]
end Go.Proofs.YtnmlhilckjmhnaaDoor
namespace Go.Proofs.YtnmlhilckjmhnaaDoor
open Go.Abs Go.Lib
set_option linter.all false
set_option maxRecDepth 100000
theorem rdC_is (s : List UInt8) : ∃ c0 c1 c2, rdC s = [.int .u64 c0, .int .i64 c1, .int .i64 c2] := by
  unfold rdC
  cases rdB s <;> exact ⟨_, _, _, rfl⟩
theorem ridC_is (s : List UInt8) : ∃ c0 c1, ridC s = [.int .u64 c0, .int .u64 c1] := by
  unfold ridC
  cases ridB s <;> exact ⟨_, _, rfl⟩
theorem law_EventTexts_far (l : BitVec 64) (k v : Int) (m : BitVec 64) (n : Int) (s : List UInt8) (hs : 300 < s.length) : PuG Tryd.prog gl3 7 [.agg [.int .u64 l.toNat, .int .i64 k, .int .i64 v], .agg [.int .u64 m.toNat, .int .u64 n], .str s] (.bool true) := by
  have hb1 : decide (300 < (s.length : Int)) = true := by simp; omega
  (refine PuG_intro c7 b7 (Nat.le_of_ble_eq_true rfl) fun σ hσ => ?_; simp only [c7, ↓R1, R2, R3, R4, R5, Nat.reduceEqDiff, Nat.reduceAdd, Nat.reduceMul, Nat.reduceSub, Nat.reduceLeDiff, Nat.reduceLT, reduceIte, reduceCtorEq, Int.reduceBNe, Int.reduceBEq, hb1])
  repeat' (first | (with_reducible rw [allocV_eq]) | (refine gdV_split (fun hc => ?_) (fun hc => ?_) <;> (try simp only [hc, ↓R1, R2, R3, R4, R5, Nat.reduceEqDiff, Nat.reduceAdd, Nat.reduceMul, Nat.reduceSub, Nat.reduceLeDiff, Nat.reduceLT, reduceIte, reduceCtorEq, Int.reduceBNe, Int.reduceBEq, hb1])) | ((first | refine condV_split (fun hc => ?_) (fun hc => ?_) | (with_reducible intro β hβ; (try simp only [St.box_noneA, St.tip_noneA, St.tip_set, St.box_tip] at hβ); (repeat (obtain ⟨⟨_, _⟩, hβ⟩ := hβ)); (try (have hbis := apart_is (by assumption) hβ; obtain ⟨_, _⟩ := hbis)))) <;> (try simp only [↓R1, R2, R3, R4, R5, Nat.reduceEqDiff, Nat.reduceAdd, Nat.reduceMul, Nat.reduceSub, Nat.reduceLeDiff, Nat.reduceLT, reduceIte, reduceCtorEq, Int.reduceBNe, Int.reduceBEq, hb1])) | (with_reducible refine And.intro ?_ ?_; (focus (first | omega | (intros; (repeat' (with_reducible apply And.intro)) <;> first | omega | (simp only [List.length_append, List.length_cons, List.length_nil]; omega))))) | (with_reducible apply And.intro) | ((first | refine PuG.to (awake_pu) hσ (wkL_refl _) ?_); (try simp only [↓R1, R2, R3, R4, R5, Nat.reduceEqDiff, Nat.reduceAdd, Nat.reduceMul, Nat.reduceSub, Nat.reduceLeDiff, Nat.reduceLT, reduceIte, reduceCtorEq, Int.reduceBNe, Int.reduceBEq, hb1])))
  (refine endP_pu (by simp) (by first | (simp [rvsS, rvS]; done) | (simp only [rvsS, rvS, ↓R1, R2, R3, R4, R5, Nat.reduceEqDiff, Nat.reduceAdd, Nat.reduceMul, Nat.reduceSub, Nat.reduceLeDiff, Nat.reduceLT, reduceIte, reduceCtorEq, Int.reduceBNe, Int.reduceBEq, hb1]; try simp)) (wk_of_eq ?_) (by (repeat (first | exact St.le_refl _ | (refine St.le_new ?_ (by assumption)) | (refine St.le_newT ?_ (by assumption))))))
  (simp only [resAV, rvV, List.map_cons, List.map_nil, ↓R1, R2, R3, R4, R5, Nat.reduceEqDiff, Nat.reduceAdd, Nat.reduceMul, Nat.reduceSub, Nat.reduceLeDiff, Nat.reduceLT, reduceIte, reduceCtorEq, Int.reduceBNe, Int.reduceBEq, hb1])
set_option maxHeartbeats 4000000 in
theorem law_EventTexts (l : BitVec 64) (k v : Int) (m : BitVec 64) (n : Int) (s : List UInt8) (hv : I64 v) : PuG Tryd.prog gl3 7 [.agg [.int .u64 l.toNat, .int .i64 k, .int .i64 v], .agg [.int .u64 m.toNat, .int .u64 n], .str s] (.bool true) := by
  rcases Nat.lt_or_ge 300 s.length with hs | hs
  · exact law_EventTexts_far l k v m n s hs
  have hb1 : decide (300 < (s.length : Int)) = false := by simp; omega
  have h1 := p14 l k v hv
  have h2 := p31 l k v hv
  have h3 := p32 s (by omega)
  have h4 := p33 s (by omega)
  obtain ⟨d0, d1, d2, hE⟩ := rdC_is s
  rw [hE] at h3 h4
  have h5 := p34 m n
  have h6 := p35 m n
  have h7 := p36 s (by omega)
  have h8 := p37 s (by omega)
  obtain ⟨e0, e1, hF⟩ := ridC_is s
  rw [hF] at h7 h8
  have h9 := p38 m.toNat n
  have h10 := p39 m.toNat n
  (refine PuG_intro c7 b7 (Nat.le_of_ble_eq_true rfl) fun σ hσ => ?_; simp only [c7, ↓R1, R2, R3, R4, R5, Nat.reduceEqDiff, Nat.reduceAdd, Nat.reduceMul, Nat.reduceSub, Nat.reduceLeDiff, Nat.reduceLT, reduceIte, reduceCtorEq, Int.reduceBNe, Int.reduceBEq, hb1])
  repeat' (first | (with_reducible rw [allocV_eq]) | (refine gdV_split (fun hc => ?_) (fun hc => ?_) <;> (try simp only [hc, ↓R1, R2, R3, R4, R5, Nat.reduceEqDiff, Nat.reduceAdd, Nat.reduceMul, Nat.reduceSub, Nat.reduceLeDiff, Nat.reduceLT, reduceIte, reduceCtorEq, Int.reduceBNe, Int.reduceBEq, hb1])) | ((first | refine condV_split (fun hc => ?_) (fun hc => ?_) | (with_reducible intro β hβ; (try simp only [St.box_noneA, St.tip_noneA, St.tip_set, St.box_tip] at hβ); (repeat (obtain ⟨⟨_, _⟩, hβ⟩ := hβ)); (try (have hbis := apart_is (by assumption) hβ; obtain ⟨_, _⟩ := hbis)))) <;> (try simp only [↓R1, R2, R3, R4, R5, Nat.reduceEqDiff, Nat.reduceAdd, Nat.reduceMul, Nat.reduceSub, Nat.reduceLeDiff, Nat.reduceLT, reduceIte, reduceCtorEq, Int.reduceBNe, Int.reduceBEq, hb1])) | (with_reducible refine And.intro ?_ ?_; (focus (first | omega | (intros; (repeat' (with_reducible apply And.intro)) <;> first | omega | (simp only [List.length_append, List.length_cons, List.length_nil]; omega))))) | (with_reducible apply And.intro) | ((first | refine PuG.to (h1) hσ (wkL_refl _) ?_ | refine Pu.to (h2) (wkL_refl _) ?_ | refine callDV_pu (h2) (wkL_refl _) ?_ | refine PuG.to (h3) hσ (wkL_refl _) ?_ | refine Pu.to (h4) (wkL_refl _) ?_ | refine callDV_pu (h4) (wkL_refl _) ?_ | refine PuG.to (h5) hσ (wkL_refl _) ?_ | refine Pu.to (h6) (wkL_refl _) ?_ | refine callDV_pu (h6) (wkL_refl _) ?_ | refine PuG.to (h7) hσ (wkL_refl _) ?_ | refine Pu.to (h8) (wkL_refl _) ?_ | refine callDV_pu (h8) (wkL_refl _) ?_ | refine Pu.to (h9) (wkL_refl _) ?_ | refine callDV_pu (h9) (wkL_refl _) ?_ | refine Pu.to (h10) (wkL_refl _) ?_ | refine callDV_pu (h10) (wkL_refl _) ?_ | refine PuG.to (awake_pu) hσ (wkL_refl _) ?_ | (refine callGV_puG hσ (fun hgv => ⟨?_, (awake_pu), wkL_refl _⟩) ?_; (first | trivial | (focus (simp only [↓R1, R2, R3, R4, R5, Nat.reduceEqDiff, Nat.reduceAdd, Nat.reduceMul, Nat.reduceSub, Nat.reduceLeDiff, Nat.reduceLT, reduceIte, reduceCtorEq, Int.reduceBNe, Int.reduceBEq, hb1]; done))))); (try simp only [↓R1, R2, R3, R4, R5, Nat.reduceEqDiff, Nat.reduceAdd, Nat.reduceMul, Nat.reduceSub, Nat.reduceLeDiff, Nat.reduceLT, reduceIte, reduceCtorEq, Int.reduceBNe, Int.reduceBEq, hb1])))
  all_goals (refine endP_pu (by simp) (by first | (simp [rvsS, rvS]; done) | (simp only [rvsS, rvS, ↓R1, R2, R3, R4, R5, Nat.reduceEqDiff, Nat.reduceAdd, Nat.reduceMul, Nat.reduceSub, Nat.reduceLeDiff, Nat.reduceLT, reduceIte, reduceCtorEq, Int.reduceBNe, Int.reduceBEq, hb1]; try simp)) (wk_of_eq ?_) (by (repeat (first | exact St.le_refl _ | (refine St.le_new ?_ (by assumption)) | (refine St.le_newT ?_ (by assumption))))))
  all_goals (simp only [resAV, rvV, List.map_cons, List.map_nil, ↓R1, R2, R3, R4, R5, Nat.reduceEqDiff, Nat.reduceAdd, Nat.reduceMul, Nat.reduceSub, Nat.reduceLeDiff, Nat.reduceLT, reduceIte, reduceCtorEq, Int.reduceBNe, Int.reduceBEq, hb1])
theorem bv_is18 {n : Int} (h0 : 0 ≤ n) (h1 : n ≤ 18446744073709551615) : ∃ l : BitVec 64, (l.toNat : Int) = n :=
  ⟨BitVec.ofNat 64 n.toNat, by rw [BitVec.toNat_ofNat, Nat.mod_eq_of_lt (by omega)]; omega⟩
theorem arg_EventTexts (x : Int × Int × Int) (y : Int × Int) (s : List UInt8) (h : U64 x.1) (hv : I64 x.2.2) (h2 : U64 y.1) : PuG Tryd.prog gl3 7 [.agg (cEv x), .agg (cId y), .str s] (.bool true) := by
  obtain ⟨l, hl⟩ := bv_is18 h.1 h.2
  obtain ⟨m, hm⟩ := bv_is18 h2.1 h2.2
  have := law_EventTexts l x.2.1 x.2.2 m y.2 s hv
  rw [hl, hm] at this
  exact this
end Go.Proofs.YtnmlhilckjmhnaaDoor
