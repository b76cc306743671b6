/- Part 22 of the proof of EventBack: an abstract semantics that is proved sound for the model, contracts of functions in it, and plain facts (EK EV15 EV16 EV17 EV18 EW3 EV19 EV20 EV21 EV22). No condition. -/
import Derived.Test.YtnmlhilckjmhnaaDoorKEventBack21
import Derived.Laws.RangeString
import Derived.LoopTactic
import Derived.WalkKit
import Derived.BigCall
set_option linter.all false
namespace Go.Proofs.YtnmlhilckjmhnaaDoor
open Go.Abs Go.Lib
set_option linter.all false
set_option maxRecDepth 100000
def lettersL : List UInt8 := [65, 66, 67, 68, 69, 70, 71, 72, 73, 74, 75, 76, 77, 78, 79, 80, 81, 82, 83, 84, 85, 86, 87, 88, 89, 90]
/-- The kind of a letter and the error, searched from k. -/
def kindL (t : List UInt8) : Nat → Nat → AV
  | 0, _ => .tup [.int .i64 0, .int .i64 11]
  | b + 1, k => bif t == [lettersL[k]?.getD 0] then .tup [.int .i64 k, .int .i64 0] else kindL t b (k + 1)
def kindT (t : List UInt8) : AV := kindL t 26 0
theorem kindL_eq (t : List UInt8) (k : Nat) (hk : k < 26) (h : (t == [lettersL[k]?.getD 0]) = true) : kindL t (26 - k) k = .tup [.int .i64 k, .int .i64 0] := by
  rw [show 26 - k = (25 - k) + 1 by omega]
  show (bif t == [lettersL[k]?.getD 0] then _ else _) = _
  rw [h]; rfl
theorem kindL_no (t : List UInt8) (k : Nat) (hk : k < 26) (h : (t == [lettersL[k]?.getD 0]) = false) : kindL t (26 - k) k = kindL t (26 - (k + 1)) (k + 1) := by
  rw [show 26 - k = (25 - k) + 1 by omega, show 26 - (k + 1) = 25 - k by omega]
  show (bif t == [lettersL[k]?.getD 0] then _ else _) = _
  rw [h]; rfl
theorem wEnc : ∀ k (hk : k < ByteArray.size ⟨lettersL.toArray⟩), Utf8.encode (((ByteArray.mk lettersL.toArray)[k].toNat : Nat) : Int) = ⟨[lettersL[k]?.getD 0].toArray⟩ := by decide
set_option maxHeartbeats 4000000 in
theorem w29 (t : List UInt8) (w : World) :
    Calls Tryd.prog 29 #[.string ⟨t.toArray⟩] w fun e w' => ∃ pos i x, kindT t = .tup [.int .i64 i, .int .i64 x] ∧ e = .returned (.tuple #[.int .i64 i, .int .i64 x]) ∧ w' = w.iter ⟨lettersL.toArray⟩ pos := by
  have hbs : ∀ k (hk : k < ByteArray.size ⟨lettersL.toArray⟩), (ByteArray.mk lettersL.toArray)[k].toNat < 128 := by decide
  go_enter Tryd.func29, Tryd.ntmps29
  go_wp2
  go_loopw [4] (fun _ w' => ∃ pos : Nat, pos ≤ 26 ∧ w' = w.iter ⟨lettersL.toArray⟩ pos ∧ kindL t (26 - pos) pos = kindT t) (fun _ w' => 26 - w'.iterPos w.heap.size)
  case atStart => exact ⟨0, by omega, rfl, rfl⟩
  case round =>
    obtain ⟨pos, hp, rfl, hc⟩ := hrel
    by_cases hp : pos < 26
    · have hnx : ∀ ty, (Instr.next (.pointer (some ⟨w.heap.size, 0, none⟩)) true ty).run Tryd.prog (w.iter ⟨lettersL.toArray⟩ pos) = _ := fun ty => run_next_ascii w ⟨lettersL.toArray⟩ pos ty hp (hbs pos hp)
      go_wp2
      · rename_i hq
        rw [wEnc pos hp] at hq
        go_ret2
        exact ⟨_, _, _, by rw [← hc, kindL_eq t pos hp (by simpa using hq)], rfl, rfl⟩
      · rename_i hq
        rw [wEnc pos hp] at hq
        refine ⟨⟨pos + 1, by omega, rfl, ?_⟩, ?_⟩
        · rw [← kindL_no t pos hp (by simpa using hq)]; exact hc
        · simp [World.iterPos, World.iter_heap]; omega
    · have hnx : ∀ ty, (Instr.next (.pointer (some ⟨w.heap.size, 0, none⟩)) true ty).run Tryd.prog (w.iter ⟨lettersL.toArray⟩ pos) = _ := fun ty => run_next_end w ⟨lettersL.toArray⟩ pos ty hp
      go_wp2
      go_ret2
      have : pos = 26 := by omega
      subst this
      exact ⟨_, _, _, hc.symm, rfl, rfl⟩
theorem p29 (t : List UInt8) : Pu Tryd.prog 29 [.str t] (kindT t) := by
  intro σ
  refine AC.of_calls (Go.Proofs.enters_of Tryd.func29 (by kernel_rfl) rfl) ?_
  intro g w vs hI hv
  obtain ⟨v1, vs, rfl, r1, hv⟩ := hv.cons_inv
  rw [hv.nil_inv, r1.str_inv]
  refine (w29 t w).mono ?_
  rintro e w' ⟨pos, i, x, hk, rfl, rfl⟩
  rw [hk]
  exact ⟨_, rfl, (Go.RowKit.Below.refl _ w).alloc (Nat.le_refl _) _, fun g' _ => Rel.tup_mk (.cons (.int _ _) (.cons (.int _ _) .nil))⟩
end Go.Proofs.YtnmlhilckjmhnaaDoor
namespace Go.Proofs.YtnmlhilckjmhnaaDoor
open Go.Abs Go.Lib
set_option linter.all false
set_option maxRecDepth 100000
def kindI (t : List UInt8) : Nat → Nat → Int × Int
  | 0, _ => (0, 11)
  | b + 1, k => bif t == [lettersL[k]?.getD 0] then ((k : Int), 0) else kindI t b (k + 1)
def kindN (t : List UInt8) : Int := (kindI t 26 0).1
def kindX (t : List UInt8) : Int := (kindI t 26 0).2
theorem kindT_eq (t : List UInt8) : kindT t = .tup [.int .i64 (kindN t), .int .i64 (kindX t)] := by
  have : ∀ b k, kindL t b k = .tup [.int .i64 (kindI t b k).1, .int .i64 (kindI t b k).2] := by
    intro b
    induction b with
    | zero => intro k; rfl
    | succ b ih =>
      intro k
      unfold kindL kindI
      cases (t == [lettersL[k]?.getD 0])
      · exact ih _
      · rfl
  exact this _ _
theorem kind_is (t : List UInt8) (h : kindX t = 0) : (0 ≤ kindN t ∧ kindN t < 26) ∧ letterL (kindN t) = t := by
  have : ∀ b k, b + k = 26 → (kindI t b k).2 = 0 → (0 ≤ (kindI t b k).1 ∧ (kindI t b k).1 < 26) ∧ letterL (kindI t b k).1 = t := by
    intro b
    induction b with
    | zero => intro k _ h; simp [kindI] at h
    | succ b ih =>
      intro k hk h
      unfold kindI at h ⊢
      cases hc : (t == [lettersL[k]?.getD 0]) with
      | false => rw [hc] at h; exact ih _ (by omega) h
      | true =>
        simp only [cond_true]
        rw [beq_iff_eq] at hc
        have hl : ∀ k : Nat, k < 26 → letterL (k : Int) = [lettersL[k]?.getD 0] := by decide
        exact ⟨by omega, by rw [hl k (by omega), hc]⟩
  exact this 26 0 rfl h
theorem count_find (c : UInt8) : ∀ s, (s.count c = 0 ↔ ¬ findN s c < s.length) ∧ (findN s c < s.length → s.count c = (tS s c).count c + 1)
  | [] => by simp [findN]
  | x :: l => by
    obtain ⟨h1, h2⟩ := count_find c l
    unfold tS at h2 ⊢
    unfold findN
    cases hx : (x == c) with
    | true => simp at hx; subst hx; simp
    | false =>
      have hne : x ≠ c := by simpa using hx
      simp only [cond_false, List.length_cons, List.drop_succ_cons, Nat.add_lt_add_iff_right]
      rw [List.count_cons_of_ne hne]
      exact ⟨h1, h2⟩
theorem index_pos {s : List UInt8} {c : UInt8} (h : findN s c < s.length) : Lib.index s [c] = (findN s c : Int) := by
  rw [Lib.index_one, find_index, if_pos h]
theorem parts_no {s : List UInt8} {c : UInt8} (h : ¬ findN s c < s.length) : partsL s c = [s] := by
  unfold partsL Lib.split
  rw [Lib.count_one, (count_find c s).1.2 h]
  rfl
theorem parts_yes {s : List UInt8} {c : UInt8} (h : findN s c < s.length) : partsL s c = hS s c :: partsL (tS s c) c := by
  unfold partsL Lib.split
  rw [Lib.count_one, Lib.count_one, (count_find c s).2 h]
  show (if Lib.index s [c] == -1 then _ else _) = _
  have e : ((findN s c : Int) == -1) = false := by rw [beq_eq_false_iff_ne]; omega
  rw [index_pos h, e, if_neg (by simp), Int.toNat_natCast]
  rfl
/-- Three parts: two spaces. -/
theorem parts_three (s : List UInt8) (c : UInt8) : (partsL s c).length = 3 ↔ findN s c < s.length ∧ findN (tS s c) c < (tS s c).length ∧ ¬ findN (tS (tS s c) c) c < (tS (tS s c) c).length := by
  by_cases h1 : findN s c < s.length
  · rw [parts_yes h1]
    by_cases h2 : findN (tS s c) c < (tS s c).length
    · rw [parts_yes h2]
      by_cases h3 : findN (tS (tS s c) c) c < (tS (tS s c) c).length
      · rw [parts_yes h3]
        have : 0 < (partsL (tS (tS (tS s c) c) c) c).length := by
          by_cases h4 : findN (tS (tS (tS s c) c) c) c < (tS (tS (tS s c) c) c).length
          · rw [parts_yes h4]; simp
          · rw [parts_no h4]; simp
        simp only [List.length_cons, h1, h2, h3, true_and, not_true, iff_false]; omega
      · rw [parts_no h3]; simp [h1, h2, h3]
    · rw [parts_no h2]; simp [h2]
  · rw [parts_no h1]; simp [h1]
end Go.Proofs.YtnmlhilckjmhnaaDoor
namespace Go.Proofs.YtnmlhilckjmhnaaDoor
open Go.Abs Go.Lib
set_option linter.all false
set_option maxRecDepth 100000
def rdB (s : List UInt8) : Bool := (kindX (hS s 32) == 0) && decide (findN s 32 < s.length) && decide ((parseL (hS (tS s 32) 32)).err = 0) && decide (findN (tS s 32) 32 < (tS s 32).length) && (intE (tS (tS s 32) 32) == 0)
def rdC (s : List UInt8) : List AV := bif rdB s then [.int .u64 (parseL (hS (tS s 32) 32)).l.toNat, .int .i64 (kindN (hS s 32)), .int .i64 (intX (tS (tS s 32) 32))] else [.int .u64 0, .int .i64 0, .int .i64 0]
def rdE (s : List UInt8) : Int := bif rdB s then 0 else 3
theorem tS_len (s : List UInt8) (c : UInt8) : (tS s c).length ≤ s.length := by unfold tS; rw [List.length_drop]; omega
end Go.Proofs.YtnmlhilckjmhnaaDoor
namespace Go.Proofs.YtnmlhilckjmhnaaDoor
open Go.Abs Go.Lib
set_option linter.all false
set_option maxRecDepth 100000
theorem intX_64 (u : List UInt8) : I64 (intX u) := by
  unfold intX I64
  cases badI u
  · cases hf : fit (intV5 u)
    · simp
    · rw [fit_iff] at hf; simpa using hf
  · simp
theorem no_find {u : List UInt8} {c : UInt8} (h : ∀ x ∈ u, x ≠ c) : ¬ findN u c < u.length := by
  intro hl
  have h2 := find_hit c u hl
  have e : u[findN u c]?.getD 0 = u[findN u c] := by rw [List.getElem?_eq_getElem hl]; rfl
  rw [e, beq_iff_eq] at h2
  exact h _ (List.getElem_mem hl) h2
theorem dec_no (n : Nat) : ∀ x ∈ decDigits n, x ≠ 32 := by
  intro x hx h
  have := List.all_eq_true.1 (dec_facts n).2.1 x hx
  subst h
  revert this; decide
theorem int_no {u : List UInt8} (h : intE u = 0) : ¬ findN u 32 < u.length := by
  rw [← write_read u h]
  refine no_find ?_
  unfold itoa
  split
  · intro x hx
    rcases List.mem_cons.1 hx with rfl | hx
    · decide
    · exact dec_no _ x hx
  · exact dec_no _
theorem rd_three {s : List UInt8} (h : rdB s = true) : (partsL s 32).length = 3 := by
  simp only [rdB, Bool.and_eq_true, beq_iff_eq, decide_eq_true_eq] at h
  exact (parts_three s 32).2 ⟨h.1.1.1.2, h.1.2, int_no h.2⟩
theorem parts_is {s : List UInt8} (h : (partsL s 32).length = 3) : partsL s 32 = [hS s 32, hS (tS s 32) 32, tS (tS s 32) 32] := by
  obtain ⟨h1, h2, h3⟩ := (parts_three s 32).1 h
  rw [parts_yes h1, parts_yes h2, parts_no h3]
theorem rd_again {s : List UInt8} (h : (partsL s 32).length = 3) (h1 : kindX (hS s 32) = 0) (h2 : (parseL (hS (tS s 32) 32)).err = 0) (h3 : intE (tS (tS s 32) 32) = 0) :
    rdB s = true ∧ checkE (kindN (hS s 32)) = 0 ∧ evText (parseL (hS (tS s 32) 32)).l (kindN (hS s 32)) (intX (tS (tS s 32) 32)) = s := by
  obtain ⟨p1, p2, p3⟩ := (parts_three s 32).1 h
  obtain ⟨k1, k2⟩ := kind_is _ h1
  have hk : checkE (kindN (hS s 32)) = 0 := by simp only [checkE, Bool.cond_eq_ite]; grind
  refine ⟨by simp [rdB, h1, h2, h3, p1, p2], hk, ?_⟩
  simp only [evText, hk, beq_self_eq_true, cond_true]
  rw [k2, parseL_only h2, write_read _ h3]
  have e1 := split_at p1
  have e2 := split_at p2
  rw [← e2] at e1
  simpa [List.append_assoc] using e1
theorem parts_len (s : List UInt8) : (partsL s 32).length ≤ s.length + 1 := by
  unfold partsL Lib.split
  have : ∀ n s, (Lib.splitK [32] 0 n s).length ≤ n + 1 := by
    intro n
    induction n with
    | zero => intro s; simp [Lib.splitK]
    | succ n ih =>
      intro s
      unfold Lib.splitK
      split
      · simp
      · rw [List.length_cons]
        exact Nat.succ_le_succ (ih _)
  have h2 := this (Lib.count s [32]) s
  have h3 : Lib.count s [32] ≤ s.length := by rw [Lib.count_one]; exact List.count_le_length
  omega
theorem p32 (s : List UInt8) (hs : s.length ≤ 1000000) : PuG Tryd.prog gl3 32 [.str s] (.tup [.agg (rdC s), .int .i64 (rdE s)]) := by
  have h1 := p54 s 32 hs
  have hl := parts_len s
  by_cases hp : (partsL s 32).length = 3
  · have hpp := parts_is hp
    have lA : (hS s 32).length ≤ 1000000 := by simp [hS]; omega
    have htl := tS_len s 32
    have htl2 := tS_len (tS s 32) 32
    have h2 := p29 (hS s 32)
    rw [kindT_eq] at h2
    have h3 := p55 (hS (tS s 32) 32) (by simp [hS]; omega)
    have h4 := p56 (tS (tS s 32) 32) (by unfold maxLen; omega)
    have h5 := p14 (parseL (hS (tS s 32) 32)).l (kindN (hS s 32)) (intX (tS (tS s 32) 32)) (intX_64 _)
    have ha := rd_again hp
    rw [hpp] at h1
    simp only [List.map_cons, List.map_nil, List.length_cons, List.length_nil] at h1
    simp only [plAV] at h3
    rw [intL_eq] at h4
    have hx : (hS s 32).length ≤ 1000000 := lA
    (refine PuG_intro c32 b32 (Nat.le_of_ble_eq_true rfl) fun σ hσ => ?_; simp only [c32, ↓R1, R2, R3, R4, R5, Nat.reduceEqDiff, Nat.reduceAdd, Nat.reduceMul, Nat.reduceSub, Nat.reduceLeDiff, Nat.reduceLT, reduceIte, reduceCtorEq, Int.reduceBNe, Int.reduceBEq, hx])
    repeat' (first | (with_reducible rw [allocV_eq]) | (refine gdV_split (fun hc => ?_) (fun hc => ?_) <;> (try simp only [hc, ↓R1, R2, R3, R4, R5, Nat.reduceEqDiff, Nat.reduceAdd, Nat.reduceMul, Nat.reduceSub, Nat.reduceLeDiff, Nat.reduceLT, reduceIte, reduceCtorEq, Int.reduceBNe, Int.reduceBEq, hx])) | ((first | refine condV_split (fun hc => ?_) (fun hc => ?_) | (with_reducible intro β hβ; (try simp only [St.box_noneA, St.tip_noneA, St.tip_set, St.box_tip, St.box_lp, St.tip_lp] at hβ); (repeat (obtain ⟨⟨_, _⟩, hβ⟩ := hβ)); (try (have hbis := apart_is (by assumption) hβ; obtain ⟨_, _⟩ := hbis)))) <;> (try simp only [↓R1, R2, R3, R4, R5, Nat.reduceEqDiff, Nat.reduceAdd, Nat.reduceMul, Nat.reduceSub, Nat.reduceLeDiff, Nat.reduceLT, reduceIte, reduceCtorEq, Int.reduceBNe, Int.reduceBEq, hx])) | (with_reducible refine And.intro ?_ ?_; (focus (first | omega | (intros; (repeat' (with_reducible apply And.intro)) <;> first | omega | (simp only [List.length_append, List.length_cons, List.length_nil]; omega))))) | (with_reducible apply And.intro) | ((first | refine Pu.to (h1) (wkL_refl _) ?_ | refine callDV_pu (h1) (wkL_refl _) ?_ | refine Pu.to (h2) (wkL_refl _) ?_ | refine callDV_pu (h2) (wkL_refl _) ?_ | refine Pu.to (h3) (wkL_refl _) ?_ | refine callDV_pu (h3) (wkL_refl _) ?_ | refine Pu.to (h4) (wkL_refl _) ?_ | refine callDV_pu (h4) (wkL_refl _) ?_ | refine PuG.to (h5) hσ (wkL_refl _) ?_); (try simp only [↓R1, R2, R3, R4, R5, Nat.reduceEqDiff, Nat.reduceAdd, Nat.reduceMul, Nat.reduceSub, Nat.reduceLeDiff, Nat.reduceLT, reduceIte, reduceCtorEq, Int.reduceBNe, Int.reduceBEq, hx])))
    all_goals first | (exfalso; simp at hc; done) | exact Nat.zero_lt_succ _ | skip
    · have hv : rdB s = false := by
        cases hv : rdB s with
        | false => rfl
        | true =>
          exfalso
          simp only [rdB, Bool.and_eq_true, beq_iff_eq, decide_eq_true_eq] at hv
          rw [hv.1.1.1.1, hv.1.1.2, hv.2] at hc
          simp at hc
      (refine endP_pu (by simp) (by first | (simp [rvsS, rvS]; done) | (simp only [rvsS, rvS, ↓R1, R2, R3, R4, R5, Nat.reduceEqDiff, Nat.reduceAdd, Nat.reduceMul, Nat.reduceSub, Nat.reduceLeDiff, Nat.reduceLT, reduceIte, reduceCtorEq, Int.reduceBNe, Int.reduceBEq, hx]; try simp)) (wk_of_eq ?_) (by (repeat (first | exact St.le_refl _ | (refine St.le_new ?_ (by assumption)) | (refine St.le_newT ?_ (by assumption))))))
      (simp only [resAV, rvV, List.map_cons, List.map_nil, ↓R1, R2, R3, R4, R5, Nat.reduceEqDiff, Nat.reduceAdd, Nat.reduceMul, Nat.reduceSub, Nat.reduceLeDiff, Nat.reduceLT, reduceIte, reduceCtorEq, Int.reduceBNe, Int.reduceBEq, hx])
      simp only [rdC, rdE, hv, cond_false]
    all_goals (
      have hq : (kindX (hS s 32) != 0 || ((parseL (hS (tS s 32) 32)).err : Int) != 0 || intE (tS (tS s 32) 32) != 0) = false := by assumption
      simp only [Bool.or_eq_false_iff, bne_eq_false_iff_eq] at hq
      obtain ⟨a1, a2, a3⟩ := ha hq.1.1 (by omega) hq.2)
    · exfalso
      rw [a2, a3] at hc
      simp at hc
    · (refine endP_pu (by simp) (by first | (simp [rvsS, rvS]; done) | (simp only [rvsS, rvS, ↓R1, R2, R3, R4, R5, Nat.reduceEqDiff, Nat.reduceAdd, Nat.reduceMul, Nat.reduceSub, Nat.reduceLeDiff, Nat.reduceLT, reduceIte, reduceCtorEq, Int.reduceBNe, Int.reduceBEq, hx]; try simp)) (wk_of_eq ?_) (by (repeat (first | exact St.le_refl _ | (refine St.le_new ?_ (by assumption)) | (refine St.le_newT ?_ (by assumption))))))
      (simp only [resAV, rvV, List.map_cons, List.map_nil, ↓R1, R2, R3, R4, R5, Nat.reduceEqDiff, Nat.reduceAdd, Nat.reduceMul, Nat.reduceSub, Nat.reduceLeDiff, Nat.reduceLT, reduceIte, reduceCtorEq, Int.reduceBNe, Int.reduceBEq, hx])
      simp only [rdC, rdE, a1, cond_true]
  · have hx : (((partsL s 32).length : Int) != 3) = true := by rw [bne_iff_ne]; omega
    have hv : rdB s = false := by
      cases hv : rdB s with
      | false => rfl
      | true => exact (hp (rd_three hv)).elim
    (refine PuG_intro c32 b32 (Nat.le_of_ble_eq_true rfl) fun σ hσ => ?_; simp only [c32, ↓R1, R2, R3, R4, R5, Nat.reduceEqDiff, Nat.reduceAdd, Nat.reduceMul, Nat.reduceSub, Nat.reduceLeDiff, Nat.reduceLT, reduceIte, reduceCtorEq, Int.reduceBNe, Int.reduceBEq, hx])
    repeat' (first | (with_reducible rw [allocV_eq]) | (refine gdV_split (fun hc => ?_) (fun hc => ?_) <;> (try simp only [hc, ↓R1, R2, R3, R4, R5, Nat.reduceEqDiff, Nat.reduceAdd, Nat.reduceMul, Nat.reduceSub, Nat.reduceLeDiff, Nat.reduceLT, reduceIte, reduceCtorEq, Int.reduceBNe, Int.reduceBEq, hx])) | ((first | refine condV_split (fun hc => ?_) (fun hc => ?_) | (with_reducible intro β hβ; (try simp only [St.box_noneA, St.tip_noneA, St.tip_set, St.box_tip, St.box_lp, St.tip_lp] at hβ); (repeat (obtain ⟨⟨_, _⟩, hβ⟩ := hβ)); (try (have hbis := apart_is (by assumption) hβ; obtain ⟨_, _⟩ := hbis)))) <;> (try simp only [↓R1, R2, R3, R4, R5, Nat.reduceEqDiff, Nat.reduceAdd, Nat.reduceMul, Nat.reduceSub, Nat.reduceLeDiff, Nat.reduceLT, reduceIte, reduceCtorEq, Int.reduceBNe, Int.reduceBEq, hx])) | (with_reducible refine And.intro ?_ ?_; (focus (first | omega | (intros; (repeat' (with_reducible apply And.intro)) <;> first | omega | (simp only [List.length_append, List.length_cons, List.length_nil]; omega))))) | (with_reducible apply And.intro) | ((first | refine Pu.to (h1) (wkL_refl _) ?_ | refine callDV_pu (h1) (wkL_refl _) ?_); (try simp only [↓R1, R2, R3, R4, R5, Nat.reduceEqDiff, Nat.reduceAdd, Nat.reduceMul, Nat.reduceSub, Nat.reduceLeDiff, Nat.reduceLT, reduceIte, reduceCtorEq, Int.reduceBNe, Int.reduceBEq, hx])))
    all_goals (refine endP_pu (by simp) (by first | (simp [rvsS, rvS]; done) | (simp only [rvsS, rvS, ↓R1, R2, R3, R4, R5, Nat.reduceEqDiff, Nat.reduceAdd, Nat.reduceMul, Nat.reduceSub, Nat.reduceLeDiff, Nat.reduceLT, reduceIte, reduceCtorEq, Int.reduceBNe, Int.reduceBEq, hx]; try simp)) (wk_of_eq ?_) (by (repeat (first | exact St.le_refl _ | (refine St.le_new ?_ (by assumption)) | (refine St.le_newT ?_ (by assumption))))))
    all_goals (simp only [resAV, rvV, List.map_cons, List.map_nil, ↓R1, R2, R3, R4, R5, Nat.reduceEqDiff, Nat.reduceAdd, Nat.reduceMul, Nat.reduceSub, Nat.reduceLeDiff, Nat.reduceLT, reduceIte, reduceCtorEq, Int.reduceBNe, Int.reduceBEq, hx])
    all_goals simp only [rdC, rdE, hv, cond_false]
end Go.Proofs.YtnmlhilckjmhnaaDoor
namespace Go.Proofs.YtnmlhilckjmhnaaDoor
open Go.Abs Go.Lib
set_option linter.all false
set_option maxRecDepth 100000
theorem bv_is18 {n : Int} (h0 : 0 ≤ n) (h1 : n ≤ 18446744073709551615) : ∃ l : BitVec 64, (l.toNat : Int) = n :=
  ⟨BitVec.ofNat 64 n.toNat, by rw [BitVec.toNat_ofNat, Nat.mod_eq_of_lt (by omega)]; omega⟩
end Go.Proofs.YtnmlhilckjmhnaaDoor
namespace Go.Proofs.YtnmlhilckjmhnaaDoor
open Go.Abs Go.Lib
set_option linter.all false
set_option maxRecDepth 100000
theorem numV_one (b : UInt8) : (numV [b]).toNat = b.toNat := by
  have h : ∀ n : Fin 256, (numV [UInt8.ofNat n.val]).toNat = n.val := by decide +kernel
  have := h ⟨b.toNat, b.toNat_lt⟩
  simpa using this
theorem checkE_nat (n : Nat) : (checkE (n : Int) == 0) = decide (n < 26) := by
  simp only [checkE, Bool.cond_eq_ite]; grind
theorem par_eq (s : List UInt8) : parE s = parE' s ∧ parF s = parF' s := by
  rcases Nat.lt_or_ge s.length 8 with h8 | h8
  · have e1 : rd1 s = ⟨s, 0, 5, 0⟩ := by simp [rd1, rd0, takeR, h8]
    have e2 : rd2 s = ⟨s, 0, 5, 0⟩ := by simp [rd2, e1, takeR]
    have ek : kindB s = 0 := by simp [kindB, e1, takeS, numV]; decide
    have e3 : rd3 s = ⟨s, 0, 5, 0⟩ := by simp [rd3, e2, ek, checkE]
    have e4 : rd4 s = ⟨s, 0, 5, 0⟩ := by simp [rd4, e3, takeR]
    simp [parE, parF, parE', parF', e4, endR, failR, h8, show (s.length == 17) = false by simp; omega]
  · have e1 : rd1 s = ⟨s, 8, 0, 0⟩ := by simp [rd1, rd0, takeR, Nat.not_lt.2 h8]
    rcases Nat.lt_or_ge s.length 9 with h9 | h9
    · have e2 : rd2 s = ⟨s, 8, 5, 8⟩ := by simp [rd2, e1, takeR, h9]
      have ek : kindB s = 0 := by simp [kindB, e1, takeS, numV, h9]; decide
      have e3 : rd3 s = ⟨s, 8, 5, 8⟩ := by simp [rd3, e2, ek, checkE]
      have e4 : rd4 s = ⟨s, 8, 5, 8⟩ := by simp [rd4, e3, takeR]
      simp [parE, parF, parE', parF', e4, endR, failR, h9, show ¬ s.length < 8 by omega, show (s.length == 17) = false by simp; omega]
    · have e2 : rd2 s = ⟨s, 9, 0, 0⟩ := by simp [rd2, e1, takeR, Nat.not_lt.2 h9]
      have et : takeS (rd1 s) 1 = [s[8]?.getD 0] := by
        simp [takeS, e1, Nat.not_lt.2 h9]
        rw [List.drop_eq_getElem_cons (by omega), List.getElem?_eq_getElem (by omega)]; rfl
      have ek : kindB s = (s[8]?.getD 0).toNat := by rw [kindB, et, numV_one]; exact wrap_byte _
      have n8 : ¬ s.length < 8 := by omega
      have n9 : ¬ s.length < 9 := by omega
      have hm : min 8 s.length = 8 := by omega
      by_cases hk : 26 ≤ (s[8]?.getD 0).toNat
      · have hc : (checkE (kindB s) == 0) = false := by
          rw [ek, checkE_nat]; simpa using hk
        have e3 : rd3 s = ⟨s, 9, 11, 8⟩ := by simp only [rd3, hc, cond_false]; rw [e2, hm]; rfl
        have e4 : rd4 s = ⟨s, 9, 11, 8⟩ := by rw [rd4, e3]; rfl
        have e5 : (endR (rd4 s)).e = 11 ∧ (endR (rd4 s)).fa = 8 := by
          rw [e4]; cases h : decide (9 < s.length) <;> simp only [endR, failR, h] <;> exact ⟨rfl, rfl⟩
        simp [parE, parF, parE', parF', e5.1, e5.2, hk, n8, n9, show ¬ (s[8]?.getD 0).toNat < 26 by omega]
      · have hc : (checkE (kindB s) == 0) = true := by
          rw [ek, checkE_nat]; simpa using hk
        have e3 : rd3 s = ⟨s, 9, 0, 0⟩ := by simp only [rd3, hc, cond_true]; exact e2
        have k26 : (s[8]?.getD 0).toNat < 26 := by omega
        rcases Nat.lt_or_ge s.length 17 with h17 | h17
        · have e4 : rd4 s = ⟨s, 9, 5, 9⟩ := by simp [rd4, e3, takeR, h17]
          have e5 : (endR (rd4 s)).e = 5 ∧ (endR (rd4 s)).fa = 9 := by
            rw [e4]; cases h : decide (9 < s.length) <;> simp only [endR, failR, h] <;> exact ⟨rfl, rfl⟩
          simp [parE, parF, parE', parF', e5.1, e5.2, hk, n8, n9, k26, h17, show (s.length == 17) = false by simp; omega]
        · have n17 : ¬ s.length < 17 := by omega
          have e4 : rd4 s = ⟨s, 17, 0, 0⟩ := by simp [rd4, e3, takeR, n17]
          by_cases hl : 17 < s.length
          · have e5 : (endR (rd4 s)).e = 4 ∧ (endR (rd4 s)).fa = 17 := by
              rw [e4]; simp [endR, failR, hl]
            simp [parE, parF, parE', parF', e5.1, e5.2, hk, n8, n9, k26, n17, hl, show (s.length == 17) = false by simp; omega]
          · have h17' : s.length = 17 := by omega
            have e5 : (endR (rd4 s)).e = 0 ∧ (endR (rd4 s)).fa = 0 := by
              rw [e4]; simp [endR, hl]
            have t0 : takeS (rd0 s) 8 = s.take 8 := by simp [takeS, rd0, n8]
            have t3 : takeS (rd3 s) 8 = s.drop 9 := by
              rw [e3]; simp only [takeS, beq_self_eq_true, cond_true]
              rw [show decide (s.length < 9 + 8) = false by simp; omega, cond_false]
              exact List.take_of_length_le (by simp; omega)
            have d8 : decide ((s[8]?.getD 0).toNat < 26) = true := by simpa using k26
            have d9 : decide (26 ≤ (s[8]?.getD 0).toNat) = false := by simpa using hk
            have z : ((0 : Int) == 0) = true := rfl
            simp only [parE, parF, parE', parF', e5.1, n8, n9, n17, hl, d8, d9, h17', t0, t3, ek, z, cond_true]
            simp
theorem parC_is (s : List UInt8) : ∃ c0 c1 c2 c3 c4, parE' s = [.int .u64 c0, .int .i64 c1, .int .i64 c2] ∧ parF' s = [.int .i64 c3, .int .i64 c4] := by
  unfold parE' parF'
  cases (s.length == 17 && decide ((s[8]?.getD 0).toNat < 26)) <;> cases decide (s.length < 8) <;> cases decide (s.length < 9) <;> cases decide (26 ≤ (s[8]?.getD 0).toNat) <;> cases decide (s.length < 17) <;> cases decide (17 < s.length) <;> exact ⟨_, _, _, _, _, rfl, rfl⟩
end Go.Proofs.YtnmlhilckjmhnaaDoor
namespace Go.Proofs.YtnmlhilckjmhnaaDoor
open Go.Abs
set_option linter.all false
end Go.Proofs.YtnmlhilckjmhnaaDoor
namespace Go.Proofs.YtnmlhilckjmhnaaDoor
open Go.Abs Go.Lib
set_option linter.all false
set_option maxRecDepth 100000
theorem stepB_nat (a : BitVec 64) (c : UInt8) (h : a.toNat < 72057594037927936) : (stepB a c).toNat = a.toNat * 256 + c.toNat := by
  have hc := c.toNat_lt
  unfold stepB
  rw [BitVec.toNat_or, BitVec.toNat_shiftLeft, BitVec.toNat_ofNat, Nat.mod_eq_of_lt (show c.toNat < 2 ^ 64 by omega)]
  have e : a.toNat <<< 8 % 2 ^ 64 = a.toNat * 256 := by rw [Nat.shiftLeft_eq]; omega
  rw [e, show a.toNat * 256 = 2 ^ 8 * a.toNat by omega, ← Nat.two_pow_add_eq_or_of_lt (show c.toNat < 2 ^ 8 by omega)]
theorem num_bytes (a : BitVec 64) : numV (bytesL a) = a := by
  have hb : ∀ i, (UInt8.ofNat (byteN a i)).toNat = byteN a i := fun i => by
    rw [UInt8.toNat_ofNat']; unfold byteN; omega
  apply BitVec.eq_of_toNat_eq
  have ha := a.isLt
  have e : bytesL a = [UInt8.ofNat (byteN a 0), UInt8.ofNat (byteN a 1), UInt8.ofNat (byteN a 2), UInt8.ofNat (byteN a 3), UInt8.ofNat (byteN a 4), UInt8.ofNat (byteN a 5), UInt8.ofNat (byteN a 6), UInt8.ofNat (byteN a 7)] := rfl
  have h0 : (0#64 : BitVec 64).toNat = 0 := rfl
  have b0 : ∀ i, byteN a i < 256 := fun i => Nat.mod_lt _ (by decide)
  have q0 := b0 0
  have q1 := b0 1
  have q2 := b0 2
  have q3 := b0 3
  have q4 := b0 4
  have q5 := b0 5
  have q6 := b0 6
  have q7 := b0 7
  rw [e]
  simp only [numV, List.foldl_cons, List.foldl_nil]
  have s1 := stepB_nat 0#64 (UInt8.ofNat (byteN a 0)) (by rw [h0]; decide)
  generalize stepB 0#64 (UInt8.ofNat (byteN a 0)) = x1 at *
  have s2 := stepB_nat x1 (UInt8.ofNat (byteN a 1)) (by rw [s1, h0, hb]; omega)
  generalize stepB x1 (UInt8.ofNat (byteN a 1)) = x2 at *
  have s3 := stepB_nat x2 (UInt8.ofNat (byteN a 2)) (by rw [s2, s1, h0, hb, hb]; omega)
  generalize stepB x2 (UInt8.ofNat (byteN a 2)) = x3 at *
  have s4 := stepB_nat x3 (UInt8.ofNat (byteN a 3)) (by rw [s3, s2, s1, h0, hb, hb, hb]; omega)
  generalize stepB x3 (UInt8.ofNat (byteN a 3)) = x4 at *
  have s5 := stepB_nat x4 (UInt8.ofNat (byteN a 4)) (by rw [s4, s3, s2, s1, h0, hb, hb, hb, hb]; omega)
  generalize stepB x4 (UInt8.ofNat (byteN a 4)) = x5 at *
  have s6 := stepB_nat x5 (UInt8.ofNat (byteN a 5)) (by rw [s5, s4, s3, s2, s1, h0, hb, hb, hb, hb, hb]; omega)
  generalize stepB x5 (UInt8.ofNat (byteN a 5)) = x6 at *
  have s7 := stepB_nat x6 (UInt8.ofNat (byteN a 6)) (by rw [s6, s5, s4, s3, s2, s1, h0, hb, hb, hb, hb, hb, hb]; omega)
  generalize stepB x6 (UInt8.ofNat (byteN a 6)) = x7 at *
  have s8 := stepB_nat x7 (UInt8.ofNat (byteN a 7)) (by rw [s7, s6, s5, s4, s3, s2, s1, h0, hb, hb, hb, hb, hb, hb, hb]; omega)
  rw [s8, s7, s6, s5, s4, s3, s2, s1, h0]
  simp only [hb]
  simp only [byteN, Nat.reduceMul, Nat.reduceSub, Nat.reducePow] at *
  omega
theorem ofInt_wrap {v : Int} (hv : I64 v) : IntKind.i64.wrap ((BitVec.ofInt 64 v).toNat : Int) = v := by
  unfold I64 at hv
  rw [wI, BitVec.toNat_ofInt]
  split <;> omega
theorem par_back (l : BitVec 64) {k v : Int} (hk : 0 ≤ k ∧ k < 26) (hv : I64 v) : parE' (evBytes l k v) = [.int .u64 l.toNat, .int .i64 k, .int .i64 v] ∧ parF' (evBytes l k v) = [.int .i64 0, .int .i64 0] := by
  have e : evBytes l k v = bytesL l ++ UInt8.ofNat (IntKind.u8.wrap k).toNat :: bytesL (BitVec.ofInt 64 v) := by
    simp only [evBytes, ok_kind hk, beq_self_eq_true, cond_true]
  have l8 := bytesL_len l
  have l9 := bytesL_len (BitVec.ofInt 64 v)
  have hl : (evBytes l k v).length = 17 := by rw [e]; simp [l8, l9]
  have h1 : (evBytes l k v).take 8 = bytesL l := by rw [e, List.take_append_of_le_length (by omega), List.take_of_length_le (by omega)]
  have h2 : (evBytes l k v).drop 9 = bytesL (BitVec.ofInt 64 v) := by
    rw [e, List.drop_append]; simp [l8]
  have h3 : (((evBytes l k v)[8]?.getD 0).toNat : Int) = k := by
    rw [e, List.getElem?_append_right (by omega)]
    simp only [l8, Nat.sub_self, List.getElem?_cons_zero, Option.getD_some, wU8, UInt8.toNat_ofNat']
    omega
  have h4 : ((evBytes l k v)[8]?.getD 0).toNat < 26 := by omega
  unfold parE' parF'
  rw [hl, h1, h2, h3, num_bytes, num_bytes, ofInt_wrap hv, decide_eq_true h4]
  generalize ((evBytes l k v)[8]?.getD 0).toNat = q at *
  have h5 : decide (26 ≤ q) = false := decide_eq_false (by omega)
  rw [h5]
  exact ⟨rfl, rfl⟩
end Go.Proofs.YtnmlhilckjmhnaaDoor
namespace Go.Proofs.YtnmlhilckjmhnaaDoor
open Go.Abs Go.Lib
set_option linter.all false
set_option maxRecDepth 100000
theorem bytes_num {u : List UInt8} (h : u.length = 8) : bytesL (numV u) = u := by
  match u, h with
  | [a, b, c, d, e, f, g, i], _ =>
    have qa := a.toNat_lt
    have qb := b.toNat_lt
    have qc := c.toNat_lt
    have qd := d.toNat_lt
    have qe := e.toNat_lt
    have qf := f.toNat_lt
    have qg := g.toNat_lt
    have qi := i.toNat_lt
    have hn : (numV [a, b, c, d, e, f, g, i]).toNat = ((((((a.toNat * 256 + b.toNat) * 256 + c.toNat) * 256 + d.toNat) * 256 + e.toNat) * 256 + f.toNat) * 256 + g.toNat) * 256 + i.toNat := by
      have h0 : (0#64 : BitVec 64).toNat = 0 := rfl
      simp only [numV, List.foldl_cons, List.foldl_nil]
      have s1 := stepB_nat 0#64 a (by rw [h0]; decide)
      generalize stepB 0#64 a = x1 at *
      have s2 := stepB_nat x1 b (by omega)
      generalize stepB x1 b = x2 at *
      have s3 := stepB_nat x2 c (by omega)
      generalize stepB x2 c = x3 at *
      have s4 := stepB_nat x3 d (by omega)
      generalize stepB x3 d = x4 at *
      have s5 := stepB_nat x4 e (by omega)
      generalize stepB x4 e = x5 at *
      have s6 := stepB_nat x5 f (by omega)
      generalize stepB x5 f = x6 at *
      have s7 := stepB_nat x6 g (by omega)
      generalize stepB x6 g = x7 at *
      have s8 := stepB_nat x7 i (by omega)
      omega
    show [UInt8.ofNat (byteN _ 0), UInt8.ofNat (byteN _ 1), UInt8.ofNat (byteN _ 2), UInt8.ofNat (byteN _ 3), UInt8.ofNat (byteN _ 4), UInt8.ofNat (byteN _ 5), UInt8.ofNat (byteN _ 6), UInt8.ofNat (byteN _ 7)] = _
    have hb : ∀ (x : UInt8) (n : Nat), n = x.toNat → UInt8.ofNat n = x := fun x n hx => by rw [hx]; exact UInt8.ofNat_toNat
    simp only [List.cons.injEq, and_true]
    refine ⟨hb _ _ ?_, hb _ _ ?_, hb _ _ ?_, hb _ _ ?_, hb _ _ ?_, hb _ _ ?_, hb _ _ ?_, hb _ _ ?_⟩ <;> simp only [byteN, hn, Nat.reduceMul, Nat.reduceSub, Nat.reducePow] <;> omega
end Go.Proofs.YtnmlhilckjmhnaaDoor
namespace Go.Proofs.YtnmlhilckjmhnaaDoor
open Go.Abs Go.Lib
set_option linter.all false
set_option maxRecDepth 100000
theorem find_app {a r : List UInt8} {c : UInt8} (h : ∀ x ∈ a, x ≠ c) : findN (a ++ c :: r) c = a.length := by
  induction a with
  | nil => simp [findN]
  | cons x a ih =>
    have hx : (x == c) = false := by simpa using h x (by simp)
    simp only [List.cons_append, findN, hx, cond_false, List.length_cons]
    rw [ih (fun y hy => h y (by simp [hy]))]
theorem parts_app {a r : List UInt8} {c : UInt8} (h : ∀ x ∈ a, x ≠ c) : hS (a ++ c :: r) c = a ∧ tS (a ++ c :: r) c = r := by
  unfold hS tS
  rw [find_app h]
  refine ⟨by simp, ?_⟩
  rw [List.drop_append]; simp
theorem dec2_no (k : Nat) (hk : k < 100) : ∀ x ∈ dec2 k, x ≠ 32 := by
  have : ∀ k : Fin 100, ∀ x ∈ dec2 k.val, x ≠ 32 := by decide
  exact this ⟨k, hk⟩
theorem commas_no : ∀ l : List Nat, (∀ k ∈ l, k < 100) → ∀ x ∈ commas l, x ≠ 32
  | [], _ => by simp [commas]
  | k :: l, h => by
    intro x hx
    rcases List.mem_cons.1 hx with rfl | hx
    · decide
    · rcases List.mem_append.1 hx with hx | hx
      · exact dec2_no k (h k (by simp)) x hx
      · exact commas_no l (fun j hj => h j (by simp [hj])) x hx
theorem cats_lt100 (a : BitVec 64) : ∀ k ∈ cats a, k < 100 := by
  intro k hk
  have : k < 64 := List.mem_range.1 (List.mem_filter.1 hk).1
  omega
theorem textL_no (a : BitVec 64) : ∀ x ∈ textL a, x ≠ 32 := by
  intro x hx
  rcases List.mem_cons.1 hx with rfl | hx
  · decide
  · rcases List.mem_append.1 hx with hx | hx
    · have hc := cats_lt100 a
      cases hq : cats a with
      | nil => rw [hq] at hx; simp [bodyT] at hx
      | cons k l =>
        rw [hq] at hx hc
        rcases List.mem_append.1 hx with hx | hx
        · exact dec2_no k (hc k (by simp)) x hx
        · exact commas_no l (fun j hj => hc j (by simp [hj])) x hx
    · simp at hx; subst hx; decide
theorem kind_back {k : Int} (hk : 0 ≤ k ∧ k < 26) : kindN (letterL k) = k ∧ kindX (letterL k) = 0 ∧ ∀ x ∈ letterL k, x ≠ 32 := by
  obtain ⟨n, rfl⟩ := Int.eq_ofNat_of_zero_le hk.1
  have : ∀ n : Fin 26, kindN (letterL (n.val : Int)) = (n.val : Int) ∧ kindX (letterL (n.val : Int)) = 0 ∧ ∀ x ∈ letterL (n.val : Int), x ≠ 32 := by decide
  exact this ⟨n, by omega⟩
theorem rd_back (l : BitVec 64) {k v : Int} (hk : 0 ≤ k ∧ k < 26) (hv : I64 v) : rdE (evText l k v) = 0 ∧ rdC (evText l k v) = [.int .u64 l.toNat, .int .i64 k, .int .i64 v] := by
  obtain ⟨k1, k2, k3⟩ := kind_back hk
  obtain ⟨r1, r2⟩ := read_itoa v hv
  have e : evText l k v = letterL k ++ 32 :: (textL l ++ 32 :: itoa v) := by
    simp only [evText, ok_kind hk, beq_self_eq_true, cond_true, List.append_assoc, List.cons_append, List.nil_append]
  rw [e]
  have f1 := find_app (r := textL l ++ 32 :: itoa v) k3
  have f2 := find_app (r := itoa v) (textL_no l)
  obtain ⟨p1, p2⟩ := parts_app (r := textL l ++ 32 :: itoa v) k3
  obtain ⟨q1, q2⟩ := parts_app (r := itoa v) (textL_no l)
  have hB : rdB (letterL k ++ 32 :: (textL l ++ 32 :: itoa v)) = true := by
    simp only [rdB, p1, p2, q1, q2, k2, f1, f2, r2, parseL_text, List.length_append, List.length_cons, beq_self_eq_true, decide_true, Bool.and_true, Bool.true_and, Bool.and_eq_true, decide_eq_true_eq]
    omega
  unfold rdE rdC
  rw [hB, p1, p2, q1, q2, k1, r1, parseL_text]
  exact ⟨rfl, rfl⟩
/-- What is read has this text. -/
theorem rd_same {s : List UInt8} (h : rdE s = 0) : ∃ (l : BitVec 64) (k v : Int), rdC s = [.int .u64 l.toNat, .int .i64 k, .int .i64 v] ∧ I64 v ∧ checkE k = 0 ∧ evText l k v = s := by
  have hB : rdB s = true := by
    unfold rdE at h
    cases hq : rdB s with
    | true => rfl
    | false => rw [hq] at h; simp at h
  have h3 := rd_three hB
  have hq := hB
  simp only [rdB, Bool.and_eq_true, beq_iff_eq, decide_eq_true_eq] at hq
  obtain ⟨a1, a2, a3⟩ := rd_again h3 hq.1.1.1.1 hq.1.1.2 hq.2
  refine ⟨_, _, _, ?_, intX_64 _, a2, a3⟩
  unfold rdC
  rw [hB]; rfl
theorem rid_same {s : List UInt8} (h : ridE s = 0) : ∃ (l : BitVec 64) (n : Int), ridC s = [.int .u64 l.toNat, .int .u64 n] ∧ idE n = 0 ∧ idText l n = s := by
  have hB : ridB s = true := by
    unfold ridE at h
    cases hq : ridB s with
    | true => rfl
    | false => rw [hq] at h; simp at h
  have hq := hB
  simp only [ridB, Bool.and_eq_true, beq_iff_eq, decide_eq_true_eq] at hq
  have := rid_again hq.1.1.1 hq.1.2 hq.2
  rw [hB, beq_iff_eq] at this
  refine ⟨_, _, ?_, hq.2, this⟩
  unfold ridC
  rw [hB]; rfl
theorem wrap_ofInt (a : BitVec 64) : BitVec.ofInt 64 (IntKind.i64.wrap (a.toNat : Int)) = a := by
  apply BitVec.eq_of_toNat_eq
  have := a.isLt
  rw [BitVec.toNat_ofInt, wI]
  split <;> omega
theorem par_same {s : List UInt8} {c : Int} (h : ∃ x, parF' s = [.int .i64 0, x]) : ∃ (l : BitVec 64) (k v : Int), parE' s = [.int .u64 l.toNat, .int .i64 k, .int .i64 v] ∧ checkE k = 0 ∧ evBytes l k v = s := by
  obtain ⟨x, h⟩ := h
  have hl : s.length = 17 ∧ (s[8]?.getD 0).toNat < 26 := by
    unfold parF' at h
    by_cases h1 : s.length < 8
    · simp [h1] at h
    by_cases h2 : s.length < 9
    · simp [h1, h2] at h
    by_cases h3 : 26 ≤ (s[8]?.getD 0).toNat
    · simp only [h1, h2, h3, decide_true, decide_false, cond_true, cond_false] at h; simp at h
    by_cases h4 : s.length < 17
    · simp only [h1, h2, h3, h4, decide_true, decide_false, cond_true, cond_false] at h; simp at h
    by_cases h5 : 17 < s.length
    · simp only [h1, h2, h3, h4, h5, decide_true, decide_false, cond_true, cond_false] at h; simp at h
    omega
  have hk := hl.2
  refine ⟨numV (s.take 8), ((s[8]?.getD 0).toNat : Int), IntKind.i64.wrap ((numV (s.drop 9)).toNat : Int), ?_, ok_kind ⟨by omega, by omega⟩, ?_⟩
  · unfold parE'
    rw [hl.1, decide_eq_true hk]; rfl
  · unfold evBytes
    rw [ok_kind ⟨by omega, by omega⟩, wrap_ofInt, bytes_num (by simp [hl.1]), bytes_num (by simp [hl.1])]
    have hw : IntKind.u8.wrap (((s[8]?.getD 0).toNat : Nat) : Int) = ((s[8]?.getD 0).toNat : Int) := by rw [wU8]; omega
    have hb : UInt8.ofNat (s[8]?.getD 0).toNat = s[8]?.getD 0 := UInt8.ofNat_toNat
    rw [hw, Int.toNat_natCast, hb]
    have h8 : s[8]?.getD 0 = s[8]'(by omega) := by rw [List.getElem?_eq_getElem (by omega)]; rfl
    rw [h8]
    show s.take 8 ++ s[8]'(by omega) :: s.drop 9 = s
    rw [← List.drop_eq_getElem_cons (by omega), List.take_append_drop]
end Go.Proofs.YtnmlhilckjmhnaaDoor
namespace Go.Proofs.YtnmlhilckjmhnaaDoor
open Go.Abs Go.Lib
set_option linter.all false
set_option maxRecDepth 100000
theorem par_some (s : List UInt8) : ∃ (l : BitVec 64) (k v c d : Int), parE' s = [.int .u64 l.toNat, .int .i64 k, .int .i64 v] ∧ parF' s = [.int .i64 c, .int .i64 d] ∧ (c = 0 → checkE k = 0 ∧ evBytes l k v = s) := by
  obtain ⟨c0, c1, c2, c3, c4, hE, hF⟩ := parC_is s
  by_cases hc : c3 = 0
  · subst hc
    obtain ⟨l, k, v, h1, h2, h3⟩ := par_same (s := s) (c := 0) ⟨_, hF⟩
    exact ⟨l, k, v, 0, c4, h1, hF, fun _ => ⟨h2, h3⟩⟩
  · unfold parE' at hE ⊢
    cases hq : (s.length == 17 && decide ((s[8]?.getD 0).toNat < 26)) with
    | true => exact ⟨_, _, _, c3, c4, rfl, hF, fun h => (hc h).elim⟩
    | false => exact ⟨0, 0, 0, c3, c4, rfl, hF, fun h => (hc h).elim⟩
theorem rd_some (s : List UInt8) : ∃ (l : BitVec 64) (k v : Int), rdC s = [.int .u64 l.toNat, .int .i64 k, .int .i64 v] ∧ I64 v ∧ (rdE s = 0 → checkE k = 0 ∧ evText l k v = s) := by
  by_cases hc : rdE s = 0
  · obtain ⟨l, k, v, h1, h2, h3, h4⟩ := rd_same hc
    exact ⟨l, k, v, h1, h2, fun _ => ⟨h3, h4⟩⟩
  · have hB : rdB s = false := by
      cases hq : rdB s with
      | false => rfl
      | true => exact (hc (by simp [rdE, hq])).elim
    exact ⟨0, 0, 0, by unfold rdC; rw [hB]; rfl, by unfold I64; omega, fun h => (hc h).elim⟩
theorem rid_some (s : List UInt8) : ∃ (l : BitVec 64) (n : Int), ridC s = [.int .u64 l.toNat, .int .u64 n] ∧ (ridE s = 0 → idE n = 0 ∧ idText l n = s) := by
  by_cases hc : ridE s = 0
  · obtain ⟨l, n, h1, h2, h3⟩ := rid_same hc
    exact ⟨l, n, h1, fun _ => ⟨h2, h3⟩⟩
  · have hB : ridB s = false := by
      cases hq : ridB s with
      | false => rfl
      | true => exact (hc (by simp [ridE, hq])).elim
    exact ⟨0, 0, by unfold ridC; rw [hB]; rfl, fun h => (hc h).elim⟩
theorem evBytes_len (l : BitVec 64) {k v : Int} (hk : checkE k = 0) : (evBytes l k v).length = 17 := by
  simp [evBytes, hk, bytesL_len]
theorem evText_len (l : BitVec 64) (k v : Int) (hv : I64 v) : (evText l k v).length ≤ 1000 := by
  unfold evText
  have h1 := textL_len l
  have h2 := letterL_len k
  have h3 : (itoa v).length ≤ 21 := by
    unfold I64 at hv
    unfold itoa
    split
    · have := dec_len20 v.natAbs (by omega)
      simp only [List.length_cons]; omega
    · exact Nat.le_trans (dec_len20 _ (by omega)) (by omega)
  cases (checkE k == 0)
  · simp
  · simp only [cond_true, List.length_append, List.length_cons, List.length_nil]; omega
theorem law_EventBack_far (l : BitVec 64) (k v : Int) (s : List UInt8) (hs : 100 < s.length) : PuG Tryd.prog gl3 8 [.int .u64 l.toNat, .int .u8 k, .int .i64 v, .str s] (.bool true) := by
  have hb1 : decide (100 < (s.length : Int)) = true := by simp; omega
  (refine PuG_intro c8 b8 (Nat.le_of_ble_eq_true rfl) fun σ hσ => ?_; simp only [c8, ↓R1, R2, R3, R4, R5, Nat.reduceEqDiff, Nat.reduceAdd, Nat.reduceMul, Nat.reduceSub, Nat.reduceLeDiff, Nat.reduceLT, reduceIte, reduceCtorEq, Int.reduceBNe, Int.reduceBEq, hb1])
  repeat' (first | (with_reducible rw [allocV_eq]) | (refine gdV_split (fun hc => ?_) (fun hc => ?_) <;> (try simp only [hc, ↓R1, R2, R3, R4, R5, Nat.reduceEqDiff, Nat.reduceAdd, Nat.reduceMul, Nat.reduceSub, Nat.reduceLeDiff, Nat.reduceLT, reduceIte, reduceCtorEq, Int.reduceBNe, Int.reduceBEq, hb1])) | ((first | refine condV_split (fun hc => ?_) (fun hc => ?_) | (with_reducible intro β hβ; (try simp only [St.box_noneA, St.tip_noneA, St.tip_set, St.box_tip, St.box_lp, St.tip_lp] at hβ); (repeat (obtain ⟨⟨_, _⟩, hβ⟩ := hβ)); (try (have hbis := apart_is (by assumption) hβ; obtain ⟨_, _⟩ := hbis)))) <;> (try simp only [↓R1, R2, R3, R4, R5, Nat.reduceEqDiff, Nat.reduceAdd, Nat.reduceMul, Nat.reduceSub, Nat.reduceLeDiff, Nat.reduceLT, reduceIte, reduceCtorEq, Int.reduceBNe, Int.reduceBEq, hb1])) | (with_reducible refine And.intro ?_ ?_; (focus (first | omega | (intros; (repeat' (with_reducible apply And.intro)) <;> first | omega | (simp only [List.length_append, List.length_cons, List.length_nil]; omega))))) | (with_reducible apply And.intro) | ((first | refine PuG.to (awake_pu) hσ (wkL_refl _) ?_); (try simp only [↓R1, R2, R3, R4, R5, Nat.reduceEqDiff, Nat.reduceAdd, Nat.reduceMul, Nat.reduceSub, Nat.reduceLeDiff, Nat.reduceLT, reduceIte, reduceCtorEq, Int.reduceBNe, Int.reduceBEq, hb1])))
  (refine endP_pu (by simp) (by first | (simp [rvsS, rvS]; done) | (simp only [rvsS, rvS, ↓R1, R2, R3, R4, R5, Nat.reduceEqDiff, Nat.reduceAdd, Nat.reduceMul, Nat.reduceSub, Nat.reduceLeDiff, Nat.reduceLT, reduceIte, reduceCtorEq, Int.reduceBNe, Int.reduceBEq, hb1]; try simp)) (wk_of_eq ?_) (by (repeat (first | exact St.le_refl _ | (refine St.le_new ?_ (by assumption)) | (refine St.le_newT ?_ (by assumption))))))
  (simp only [resAV, rvV, List.map_cons, List.map_nil, ↓R1, R2, R3, R4, R5, Nat.reduceEqDiff, Nat.reduceAdd, Nat.reduceMul, Nat.reduceSub, Nat.reduceLeDiff, Nat.reduceLT, reduceIte, reduceCtorEq, Int.reduceBNe, Int.reduceBEq, hb1])
set_option maxHeartbeats 4000000 in
theorem law_EventBack (l : BitVec 64) (m v : Int) (s : List UInt8) (hm : 0 ≤ m ∧ m ≤ 255) (hv : I64 v) : PuG Tryd.prog gl3 8 [.int .u64 l.toNat, .int .u8 m, .int .i64 v, .str s] (.bool true) := by
  rcases Nat.lt_or_ge 100 s.length with hs | hs
  · exact law_EventBack_far l m v s hs
  have hb1 : decide (100 < (s.length : Int)) = false := by simp; omega
  have m1 := p12 l.toNat m v
  have wm : Int.tmod (IntKind.i64.wrap m) 26 = m % 26 := by rw [wrap64 (by omega) (by omega), Int.tmod_eq_emod_of_nonneg hm.1]
  rw [wm] at m1
  have hk : 0 ≤ m % 26 ∧ m % 26 < 26 := by omega
  generalize m % 26 = k at *
  have hE := ok_kind hk
  have hlen : (evBytes l k v).length = 17 := evBytes_len l hE
  have e1 := p13 l k v
  have t1 := p14 l k v hv
  rw [hE] at e1 t1
  have e2 := p23 (evBytes l k v) (by omega)
  rw [(par_eq _).1, (par_eq _).2, (par_back l hk hv).1, (par_back l hk hv).2] at e2
  have t2 := p32 (evText l k v) (Nat.le_trans (evText_len l k v hv) (by omega))
  rw [(rd_back l hk hv).1, (rd_back l hk hv).2] at t2
  obtain ⟨pl, pk, pv, pc, pd, hpE, hpF, hp⟩ := par_some s
  have e3 := p23 s (by omega)
  rw [(par_eq _).1, (par_eq _).2, hpE, hpF] at e3
  have e4 := p13 pl pk pv
  obtain ⟨rl, rk, rv, hrC, hrv, hr⟩ := rd_some s
  have t3 := p32 s (by omega)
  rw [hrC] at t3
  have t4 := p14 rl rk rv hrv
  obtain ⟨il, n, hiC, hi⟩ := rid_some s
  have i3 := p36 s (by omega)
  rw [hiC] at i3
  have i4 := p34 il n
  generalize rdE s = re at *
  generalize ridE s = ie at *
  (refine PuG_intro c8 b8 (Nat.le_of_ble_eq_true rfl) fun σ hσ => ?_; simp only [c8, ↓R1, R2, R3, R4, R5, Nat.reduceEqDiff, Nat.reduceAdd, Nat.reduceMul, Nat.reduceSub, Nat.reduceLeDiff, Nat.reduceLT, reduceIte, reduceCtorEq, Int.reduceBNe, Int.reduceBEq, hb1, hlen])
  repeat' (first | (with_reducible rw [allocV_eq]) | (refine gdV_split (fun hc => ?_) (fun hc => ?_) <;> (try simp only [hc, ↓R1, R2, R3, R4, R5, Nat.reduceEqDiff, Nat.reduceAdd, Nat.reduceMul, Nat.reduceSub, Nat.reduceLeDiff, Nat.reduceLT, reduceIte, reduceCtorEq, Int.reduceBNe, Int.reduceBEq, hb1, hlen])) | ((first | refine condV_split (fun hc => ?_) (fun hc => ?_) | (with_reducible intro β hβ; (try simp only [St.box_noneA, St.tip_noneA, St.tip_set, St.box_tip, St.box_lp, St.tip_lp] at hβ); (repeat (obtain ⟨⟨_, _⟩, hβ⟩ := hβ)); (try (have hbis := apart_is (by assumption) hβ; obtain ⟨_, _⟩ := hbis)))) <;> (try simp only [↓R1, R2, R3, R4, R5, Nat.reduceEqDiff, Nat.reduceAdd, Nat.reduceMul, Nat.reduceSub, Nat.reduceLeDiff, Nat.reduceLT, reduceIte, reduceCtorEq, Int.reduceBNe, Int.reduceBEq, hb1, hlen])) | (with_reducible refine And.intro ?_ ?_; (focus (first | omega | (intros; (repeat' (with_reducible apply And.intro)) <;> first | omega | (simp only [List.length_append, List.length_cons, List.length_nil]; omega))))) | (with_reducible apply And.intro) | ((first | refine Pu.to (m1) (wkL_refl _) ?_ | refine callDV_pu (m1) (wkL_refl _) ?_ | refine Pu.to (e1) (wkL_refl _) ?_ | refine callDV_pu (e1) (wkL_refl _) ?_ | refine Pu.to (e2) (wkL_refl _) ?_ | refine callDV_pu (e2) (wkL_refl _) ?_ | refine Pu.to (e3) (wkL_refl _) ?_ | refine callDV_pu (e3) (wkL_refl _) ?_ | refine Pu.to (e4) (wkL_refl _) ?_ | refine callDV_pu (e4) (wkL_refl _) ?_ | refine PuG.to (t1) hσ (wkL_refl _) ?_ | refine PuG.to (t2) hσ (wkL_refl _) ?_ | refine PuG.to (t3) hσ (wkL_refl _) ?_ | refine PuG.to (t4) hσ (wkL_refl _) ?_ | refine PuG.to (i3) hσ (wkL_refl _) ?_ | refine PuG.to (i4) hσ (wkL_refl _) ?_ | refine PuG.to (awake_pu) hσ (wkL_refl _) ?_ | (refine callGV_puG hσ (fun hgv => ⟨?_, (awake_pu), wkL_refl _⟩) ?_; (first | trivial | (focus (simp only [↓R1, R2, R3, R4, R5, Nat.reduceEqDiff, Nat.reduceAdd, Nat.reduceMul, Nat.reduceSub, Nat.reduceLeDiff, Nat.reduceLT, reduceIte, reduceCtorEq, Int.reduceBNe, Int.reduceBEq, hb1, hlen]; done))))); (try simp only [↓R1, R2, R3, R4, R5, Nat.reduceEqDiff, Nat.reduceAdd, Nat.reduceMul, Nat.reduceSub, Nat.reduceLeDiff, Nat.reduceLT, reduceIte, reduceCtorEq, Int.reduceBNe, Int.reduceBEq, hb1, hlen])))
  all_goals first | (exfalso; simp_all; done) | skip
  all_goals (refine endP_pu (by simp) (by first | (simp [rvsS, rvS]; done) | (simp only [rvsS, rvS, ↓R1, R2, R3, R4, R5, Nat.reduceEqDiff, Nat.reduceAdd, Nat.reduceMul, Nat.reduceSub, Nat.reduceLeDiff, Nat.reduceLT, reduceIte, reduceCtorEq, Int.reduceBNe, Int.reduceBEq, hb1, hlen]; try simp)) (wk_of_eq ?_) (by (repeat (first | exact St.le_refl _ | (refine St.le_new ?_ (by assumption)) | (refine St.le_newT ?_ (by assumption))))))
  all_goals (simp only [resAV, rvV, List.map_cons, List.map_nil, ↓R1, R2, R3, R4, R5, Nat.reduceEqDiff, Nat.reduceAdd, Nat.reduceMul, Nat.reduceSub, Nat.reduceLeDiff, Nat.reduceLT, reduceIte, reduceCtorEq, Int.reduceBNe, Int.reduceBEq, hb1, hlen])
theorem arg_EventBack (l m v : Int) (s : List UInt8) (hl : U64 l) (hm : 0 ≤ m ∧ m ≤ 255) (hv : I64 v) : PuG Tryd.prog gl3 8 [.int .u64 l, .int .u8 m, .int .i64 v, .str s] (.bool true) := by
  obtain ⟨x, rfl⟩ := bv_is18 hl.1 hl.2
  exact law_EventBack x m v s hm hv
end Go.Proofs.YtnmlhilckjmhnaaDoor
