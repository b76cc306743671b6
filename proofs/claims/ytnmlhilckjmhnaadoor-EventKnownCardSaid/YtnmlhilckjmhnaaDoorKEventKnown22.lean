/- Part 22 of the proof of EventKnown: an abstract semantics that is proved sound for the model, contracts of functions in it, and plain facts (EK EV15 EV16 EV17 EW3 EV23). No condition. -/
import Derived.Test.YtnmlhilckjmhnaaDoorKEventKnown21
import Derived.Laws.RangeString
import Derived.LoopTactic
import Derived.WalkKit
import Derived.BigCall
set_option linter.all false
namespace Go.Proofs.YtnmlhilckjmhnaaDoor
open Go.Abs Go.Lib
set_option linter.all false
set_option maxRecDepth 100000
def lettersL : List UInt8 := [65, 66, 67, 68, 69, 70, 71, 72, 73, 74, 75, 76, 77, 78, 79, 80, 81, 82, 83, 84, 85, 86, 87, 88, 89, 90]
/-- The kind of a letter and the error, searched from k. -/
def kindL (t : List UInt8) : Nat → Nat → AV
  | 0, _ => .tup [.int .i64 0, .int .i64 11]
  | b + 1, k => bif t == [lettersL[k]?.getD 0] then .tup [.int .i64 k, .int .i64 0] else kindL t b (k + 1)
def kindT (t : List UInt8) : AV := kindL t 26 0
theorem kindL_eq (t : List UInt8) (k : Nat) (hk : k < 26) (h : (t == [lettersL[k]?.getD 0]) = true) : kindL t (26 - k) k = .tup [.int .i64 k, .int .i64 0] := by
  rw [show 26 - k = (25 - k) + 1 by omega]
  show (bif t == [lettersL[k]?.getD 0] then _ else _) = _
  rw [h]; rfl
theorem kindL_no (t : List UInt8) (k : Nat) (hk : k < 26) (h : (t == [lettersL[k]?.getD 0]) = false) : kindL t (26 - k) k = kindL t (26 - (k + 1)) (k + 1) := by
  rw [show 26 - k = (25 - k) + 1 by omega, show 26 - (k + 1) = 25 - k by omega]
  show (bif t == [lettersL[k]?.getD 0] then _ else _) = _
  rw [h]; rfl
theorem wEnc : ∀ k (hk : k < ByteArray.size ⟨lettersL.toArray⟩), Utf8.encode (((ByteArray.mk lettersL.toArray)[k].toNat : Nat) : Int) = ⟨[lettersL[k]?.getD 0].toArray⟩ := by decide
set_option maxHeartbeats 4000000 in
theorem w29 (t : List UInt8) (w : World) :
    Calls Tryd.prog 29 #[.string ⟨t.toArray⟩] w fun e w' => ∃ pos i x, kindT t = .tup [.int .i64 i, .int .i64 x] ∧ e = .returned (.tuple #[.int .i64 i, .int .i64 x]) ∧ w' = w.iter ⟨lettersL.toArray⟩ pos := by
  have hbs : ∀ k (hk : k < ByteArray.size ⟨lettersL.toArray⟩), (ByteArray.mk lettersL.toArray)[k].toNat < 128 := by decide
  go_enter Tryd.func29, Tryd.ntmps29
  go_wp2
  go_loopw [4] (fun _ w' => ∃ pos : Nat, pos ≤ 26 ∧ w' = w.iter ⟨lettersL.toArray⟩ pos ∧ kindL t (26 - pos) pos = kindT t) (fun _ w' => 26 - w'.iterPos w.heap.size)
  case atStart => exact ⟨0, by omega, rfl, rfl⟩
  case round =>
    obtain ⟨pos, hp, rfl, hc⟩ := hrel
    by_cases hp : pos < 26
    · have hnx : ∀ ty, (Instr.next (.pointer (some ⟨w.heap.size, 0, none⟩)) true ty).run Tryd.prog (w.iter ⟨lettersL.toArray⟩ pos) = _ := fun ty => run_next_ascii w ⟨lettersL.toArray⟩ pos ty hp (hbs pos hp)
      go_wp2
      · rename_i hq
        rw [wEnc pos hp] at hq
        go_ret2
        exact ⟨_, _, _, by rw [← hc, kindL_eq t pos hp (by simpa using hq)], rfl, rfl⟩
      · rename_i hq
        rw [wEnc pos hp] at hq
        refine ⟨⟨pos + 1, by omega, rfl, ?_⟩, ?_⟩
        · rw [← kindL_no t pos hp (by simpa using hq)]; exact hc
        · simp [World.iterPos, World.iter_heap]; omega
    · have hnx : ∀ ty, (Instr.next (.pointer (some ⟨w.heap.size, 0, none⟩)) true ty).run Tryd.prog (w.iter ⟨lettersL.toArray⟩ pos) = _ := fun ty => run_next_end w ⟨lettersL.toArray⟩ pos ty hp
      go_wp2
      go_ret2
      have : pos = 26 := by omega
      subst this
      exact ⟨_, _, _, hc.symm, rfl, rfl⟩
theorem p29 (t : List UInt8) : Pu Tryd.prog 29 [.str t] (kindT t) := by
  intro σ
  refine AC.of_calls (Go.Proofs.enters_of Tryd.func29 (by kernel_rfl) rfl) ?_
  intro g w vs hI hv
  obtain ⟨v1, vs, rfl, r1, hv⟩ := hv.cons_inv
  rw [hv.nil_inv, r1.str_inv]
  refine (w29 t w).mono ?_
  rintro e w' ⟨pos, i, x, hk, rfl, rfl⟩
  rw [hk]
  exact ⟨_, rfl, (Go.RowKit.Below.refl _ w).alloc (Nat.le_refl _) _, fun g' _ => Rel.tup_mk (.cons (.int _ _) (.cons (.int _ _) .nil))⟩
end Go.Proofs.YtnmlhilckjmhnaaDoor
namespace Go.Proofs.YtnmlhilckjmhnaaDoor
open Go.Abs Go.Lib
set_option linter.all false
set_option maxRecDepth 100000
def kindI (t : List UInt8) : Nat → Nat → Int × Int
  | 0, _ => (0, 11)
  | b + 1, k => bif t == [lettersL[k]?.getD 0] then ((k : Int), 0) else kindI t b (k + 1)
def kindN (t : List UInt8) : Int := (kindI t 26 0).1
def kindX (t : List UInt8) : Int := (kindI t 26 0).2
theorem kindT_eq (t : List UInt8) : kindT t = .tup [.int .i64 (kindN t), .int .i64 (kindX t)] := by
  have : ∀ b k, kindL t b k = .tup [.int .i64 (kindI t b k).1, .int .i64 (kindI t b k).2] := by
    intro b
    induction b with
    | zero => intro k; rfl
    | succ b ih =>
      intro k
      unfold kindL kindI
      cases (t == [lettersL[k]?.getD 0])
      · exact ih _
      · rfl
  exact this _ _
theorem kind_is (t : List UInt8) (h : kindX t = 0) : (0 ≤ kindN t ∧ kindN t < 26) ∧ letterL (kindN t) = t := by
  have : ∀ b k, b + k = 26 → (kindI t b k).2 = 0 → (0 ≤ (kindI t b k).1 ∧ (kindI t b k).1 < 26) ∧ letterL (kindI t b k).1 = t := by
    intro b
    induction b with
    | zero => intro k _ h; simp [kindI] at h
    | succ b ih =>
      intro k hk h
      unfold kindI at h ⊢
      cases hc : (t == [lettersL[k]?.getD 0]) with
      | false => rw [hc] at h; exact ih _ (by omega) h
      | true =>
        simp only [cond_true]
        rw [beq_iff_eq] at hc
        have hl : ∀ k : Nat, k < 26 → letterL (k : Int) = [lettersL[k]?.getD 0] := by decide
        exact ⟨by omega, by rw [hl k (by omega), hc]⟩
  exact this 26 0 rfl h
theorem count_find (c : UInt8) : ∀ s, (s.count c = 0 ↔ ¬ findN s c < s.length) ∧ (findN s c < s.length → s.count c = (tS s c).count c + 1)
  | [] => by simp [findN]
  | x :: l => by
    obtain ⟨h1, h2⟩ := count_find c l
    unfold tS at h2 ⊢
    unfold findN
    cases hx : (x == c) with
    | true => simp at hx; subst hx; simp
    | false =>
      have hne : x ≠ c := by simpa using hx
      simp only [cond_false, List.length_cons, List.drop_succ_cons, Nat.add_lt_add_iff_right]
      rw [List.count_cons_of_ne hne]
      exact ⟨h1, h2⟩
theorem index_pos {s : List UInt8} {c : UInt8} (h : findN s c < s.length) : Lib.index s [c] = (findN s c : Int) := by
  rw [Lib.index_one, find_index, if_pos h]
theorem parts_no {s : List UInt8} {c : UInt8} (h : ¬ findN s c < s.length) : partsL s c = [s] := by
  unfold partsL Lib.split
  rw [Lib.count_one, (count_find c s).1.2 h]
  rfl
theorem parts_yes {s : List UInt8} {c : UInt8} (h : findN s c < s.length) : partsL s c = hS s c :: partsL (tS s c) c := by
  unfold partsL Lib.split
  rw [Lib.count_one, Lib.count_one, (count_find c s).2 h]
  show (if Lib.index s [c] == -1 then _ else _) = _
  have e : ((findN s c : Int) == -1) = false := by rw [beq_eq_false_iff_ne]; omega
  rw [index_pos h, e, if_neg (by simp), Int.toNat_natCast]
  rfl
/-- Three parts: two spaces. -/
theorem parts_three (s : List UInt8) (c : UInt8) : (partsL s c).length = 3 ↔ findN s c < s.length ∧ findN (tS s c) c < (tS s c).length ∧ ¬ findN (tS (tS s c) c) c < (tS (tS s c) c).length := by
  by_cases h1 : findN s c < s.length
  · rw [parts_yes h1]
    by_cases h2 : findN (tS s c) c < (tS s c).length
    · rw [parts_yes h2]
      by_cases h3 : findN (tS (tS s c) c) c < (tS (tS s c) c).length
      · rw [parts_yes h3]
        have : 0 < (partsL (tS (tS (tS s c) c) c) c).length := by
          by_cases h4 : findN (tS (tS (tS s c) c) c) c < (tS (tS (tS s c) c) c).length
          · rw [parts_yes h4]; simp
          · rw [parts_no h4]; simp
        simp only [List.length_cons, h1, h2, h3, true_and, not_true, iff_false]; omega
      · rw [parts_no h3]; simp [h1, h2, h3]
    · rw [parts_no h2]; simp [h2]
  · rw [parts_no h1]; simp [h1]
end Go.Proofs.YtnmlhilckjmhnaaDoor
namespace Go.Proofs.YtnmlhilckjmhnaaDoor
open Go.Abs Go.Lib
set_option linter.all false
set_option maxRecDepth 100000
def rdB (s : List UInt8) : Bool := (kindX (hS s 32) == 0) && decide (findN s 32 < s.length) && decide ((parseL (hS (tS s 32) 32)).err = 0) && decide (findN (tS s 32) 32 < (tS s 32).length) && (intE (tS (tS s 32) 32) == 0)
def rdC (s : List UInt8) : List AV := bif rdB s then [.int .u64 (parseL (hS (tS s 32) 32)).l.toNat, .int .i64 (kindN (hS s 32)), .int .i64 (intX (tS (tS s 32) 32))] else [.int .u64 0, .int .i64 0, .int .i64 0]
def rdE (s : List UInt8) : Int := bif rdB s then 0 else 3
theorem tS_len (s : List UInt8) (c : UInt8) : (tS s c).length ≤ s.length := by unfold tS; rw [List.length_drop]; omega
end Go.Proofs.YtnmlhilckjmhnaaDoor
namespace Go.Proofs.YtnmlhilckjmhnaaDoor
open Go.Abs Go.Lib
set_option linter.all false
set_option maxRecDepth 100000
theorem intX_64 (u : List UInt8) : I64 (intX u) := by
  unfold intX I64
  cases badI u
  · cases hf : fit (intV5 u)
    · simp
    · rw [fit_iff] at hf; simpa using hf
  · simp
theorem no_find {u : List UInt8} {c : UInt8} (h : ∀ x ∈ u, x ≠ c) : ¬ findN u c < u.length := by
  intro hl
  have h2 := find_hit c u hl
  have e : u[findN u c]?.getD 0 = u[findN u c] := by rw [List.getElem?_eq_getElem hl]; rfl
  rw [e, beq_iff_eq] at h2
  exact h _ (List.getElem_mem hl) h2
theorem dec_no (n : Nat) : ∀ x ∈ decDigits n, x ≠ 32 := by
  intro x hx h
  have := List.all_eq_true.1 (dec_facts n).2.1 x hx
  subst h
  revert this; decide
theorem int_no {u : List UInt8} (h : intE u = 0) : ¬ findN u 32 < u.length := by
  rw [← write_read u h]
  refine no_find ?_
  unfold itoa
  split
  · intro x hx
    rcases List.mem_cons.1 hx with rfl | hx
    · decide
    · exact dec_no _ x hx
  · exact dec_no _
theorem rd_three {s : List UInt8} (h : rdB s = true) : (partsL s 32).length = 3 := by
  simp only [rdB, Bool.and_eq_true, beq_iff_eq, decide_eq_true_eq] at h
  exact (parts_three s 32).2 ⟨h.1.1.1.2, h.1.2, int_no h.2⟩
theorem parts_is {s : List UInt8} (h : (partsL s 32).length = 3) : partsL s 32 = [hS s 32, hS (tS s 32) 32, tS (tS s 32) 32] := by
  obtain ⟨h1, h2, h3⟩ := (parts_three s 32).1 h
  rw [parts_yes h1, parts_yes h2, parts_no h3]
theorem rd_again {s : List UInt8} (h : (partsL s 32).length = 3) (h1 : kindX (hS s 32) = 0) (h2 : (parseL (hS (tS s 32) 32)).err = 0) (h3 : intE (tS (tS s 32) 32) = 0) :
    rdB s = true ∧ checkE (kindN (hS s 32)) = 0 ∧ evText (parseL (hS (tS s 32) 32)).l (kindN (hS s 32)) (intX (tS (tS s 32) 32)) = s := by
  obtain ⟨p1, p2, p3⟩ := (parts_three s 32).1 h
  obtain ⟨k1, k2⟩ := kind_is _ h1
  have hk : checkE (kindN (hS s 32)) = 0 := by simp only [checkE, Bool.cond_eq_ite]; grind
  refine ⟨by simp [rdB, h1, h2, h3, p1, p2], hk, ?_⟩
  simp only [evText, hk, beq_self_eq_true, cond_true]
  rw [k2, parseL_only h2, write_read _ h3]
  have e1 := split_at p1
  have e2 := split_at p2
  rw [← e2] at e1
  simpa [List.append_assoc] using e1
theorem parts_len (s : List UInt8) : (partsL s 32).length ≤ s.length + 1 := by
  unfold partsL Lib.split
  have : ∀ n s, (Lib.splitK [32] 0 n s).length ≤ n + 1 := by
    intro n
    induction n with
    | zero => intro s; simp [Lib.splitK]
    | succ n ih =>
      intro s
      unfold Lib.splitK
      split
      · simp
      · rw [List.length_cons]
        exact Nat.succ_le_succ (ih _)
  have h2 := this (Lib.count s [32]) s
  have h3 : Lib.count s [32] ≤ s.length := by rw [Lib.count_one]; exact List.count_le_length
  omega
theorem p32 (s : List UInt8) (hs : s.length ≤ 1000000) : PuG Tryd.prog gl3 32 [.str s] (.tup [.agg (rdC s), .int .i64 (rdE s)]) := by
  have h1 := p54 s 32 hs
  have hl := parts_len s
  by_cases hp : (partsL s 32).length = 3
  · have hpp := parts_is hp
    have lA : (hS s 32).length ≤ 1000000 := by simp [hS]; omega
    have htl := tS_len s 32
    have htl2 := tS_len (tS s 32) 32
    have h2 := p29 (hS s 32)
    rw [kindT_eq] at h2
    have h3 := p55 (hS (tS s 32) 32) (by simp [hS]; omega)
    have h4 := p56 (tS (tS s 32) 32) (by unfold maxLen; omega)
    have h5 := p14 (parseL (hS (tS s 32) 32)).l (kindN (hS s 32)) (intX (tS (tS s 32) 32)) (intX_64 _)
    have ha := rd_again hp
    rw [hpp] at h1
    simp only [List.map_cons, List.map_nil, List.length_cons, List.length_nil] at h1
    simp only [plAV] at h3
    rw [intL_eq] at h4
    have hx : (hS s 32).length ≤ 1000000 := lA
    (refine PuG_intro c32 b32 (Nat.le_of_ble_eq_true rfl) fun σ hσ => ?_; simp only [c32, ↓R1, R2, R3, R4, R5, Nat.reduceEqDiff, Nat.reduceAdd, Nat.reduceMul, Nat.reduceSub, Nat.reduceLeDiff, Nat.reduceLT, reduceIte, reduceCtorEq, Int.reduceBNe, Int.reduceBEq, hx])
    repeat' (first | (with_reducible rw [allocV_eq]) | (refine gdV_split (fun hc => ?_) (fun hc => ?_) <;> (try simp only [hc, ↓R1, R2, R3, R4, R5, Nat.reduceEqDiff, Nat.reduceAdd, Nat.reduceMul, Nat.reduceSub, Nat.reduceLeDiff, Nat.reduceLT, reduceIte, reduceCtorEq, Int.reduceBNe, Int.reduceBEq, hx])) | ((first | refine condV_split (fun hc => ?_) (fun hc => ?_) | (with_reducible intro β hβ; (try simp only [St.box_noneA, St.tip_noneA, St.tip_set, St.box_tip, St.box_lp, St.tip_lp] at hβ); (repeat (obtain ⟨⟨_, _⟩, hβ⟩ := hβ)); (try (have hbis := apart_is (by assumption) hβ; obtain ⟨_, _⟩ := hbis)))) <;> (try simp only [↓R1, R2, R3, R4, R5, Nat.reduceEqDiff, Nat.reduceAdd, Nat.reduceMul, Nat.reduceSub, Nat.reduceLeDiff, Nat.reduceLT, reduceIte, reduceCtorEq, Int.reduceBNe, Int.reduceBEq, hx])) | (with_reducible refine And.intro ?_ ?_; (focus (first | omega | (intros; (repeat' (with_reducible apply And.intro)) <;> first | omega | (simp only [List.length_append, List.length_cons, List.length_nil]; omega))))) | (with_reducible apply And.intro) | ((first | refine Pu.to (h1) (wkL_refl _) ?_ | refine callDV_pu (h1) (wkL_refl _) ?_ | refine Pu.to (h2) (wkL_refl _) ?_ | refine callDV_pu (h2) (wkL_refl _) ?_ | refine Pu.to (h3) (wkL_refl _) ?_ | refine callDV_pu (h3) (wkL_refl _) ?_ | refine Pu.to (h4) (wkL_refl _) ?_ | refine callDV_pu (h4) (wkL_refl _) ?_ | refine PuG.to (h5) hσ (wkL_refl _) ?_); (try simp only [↓R1, R2, R3, R4, R5, Nat.reduceEqDiff, Nat.reduceAdd, Nat.reduceMul, Nat.reduceSub, Nat.reduceLeDiff, Nat.reduceLT, reduceIte, reduceCtorEq, Int.reduceBNe, Int.reduceBEq, hx])))
    all_goals first | (exfalso; simp at hc; done) | exact Nat.zero_lt_succ _ | skip
    · have hv : rdB s = false := by
        cases hv : rdB s with
        | false => rfl
        | true =>
          exfalso
          simp only [rdB, Bool.and_eq_true, beq_iff_eq, decide_eq_true_eq] at hv
          rw [hv.1.1.1.1, hv.1.1.2, hv.2] at hc
          simp at hc
      (refine endP_pu (by simp) (by first | (simp [rvsS, rvS]; done) | (simp only [rvsS, rvS, ↓R1, R2, R3, R4, R5, Nat.reduceEqDiff, Nat.reduceAdd, Nat.reduceMul, Nat.reduceSub, Nat.reduceLeDiff, Nat.reduceLT, reduceIte, reduceCtorEq, Int.reduceBNe, Int.reduceBEq, hx]; try simp)) (wk_of_eq ?_) (by (repeat (first | exact St.le_refl _ | (refine St.le_new ?_ (by assumption)) | (refine St.le_newT ?_ (by assumption))))))
      (simp only [resAV, rvV, List.map_cons, List.map_nil, ↓R1, R2, R3, R4, R5, Nat.reduceEqDiff, Nat.reduceAdd, Nat.reduceMul, Nat.reduceSub, Nat.reduceLeDiff, Nat.reduceLT, reduceIte, reduceCtorEq, Int.reduceBNe, Int.reduceBEq, hx])
      simp only [rdC, rdE, hv, cond_false]
    all_goals (
      have hq : (kindX (hS s 32) != 0 || ((parseL (hS (tS s 32) 32)).err : Int) != 0 || intE (tS (tS s 32) 32) != 0) = false := by assumption
      simp only [Bool.or_eq_false_iff, bne_eq_false_iff_eq] at hq
      obtain ⟨a1, a2, a3⟩ := ha hq.1.1 (by omega) hq.2)
    · exfalso
      rw [a2, a3] at hc
      simp at hc
    · (refine endP_pu (by simp) (by first | (simp [rvsS, rvS]; done) | (simp only [rvsS, rvS, ↓R1, R2, R3, R4, R5, Nat.reduceEqDiff, Nat.reduceAdd, Nat.reduceMul, Nat.reduceSub, Nat.reduceLeDiff, Nat.reduceLT, reduceIte, reduceCtorEq, Int.reduceBNe, Int.reduceBEq, hx]; try simp)) (wk_of_eq ?_) (by (repeat (first | exact St.le_refl _ | (refine St.le_new ?_ (by assumption)) | (refine St.le_newT ?_ (by assumption))))))
      (simp only [resAV, rvV, List.map_cons, List.map_nil, ↓R1, R2, R3, R4, R5, Nat.reduceEqDiff, Nat.reduceAdd, Nat.reduceMul, Nat.reduceSub, Nat.reduceLeDiff, Nat.reduceLT, reduceIte, reduceCtorEq, Int.reduceBNe, Int.reduceBEq, hx])
      simp only [rdC, rdE, a1, cond_true]
  · have hx : (((partsL s 32).length : Int) != 3) = true := by rw [bne_iff_ne]; omega
    have hv : rdB s = false := by
      cases hv : rdB s with
      | false => rfl
      | true => exact (hp (rd_three hv)).elim
    (refine PuG_intro c32 b32 (Nat.le_of_ble_eq_true rfl) fun σ hσ => ?_; simp only [c32, ↓R1, R2, R3, R4, R5, Nat.reduceEqDiff, Nat.reduceAdd, Nat.reduceMul, Nat.reduceSub, Nat.reduceLeDiff, Nat.reduceLT, reduceIte, reduceCtorEq, Int.reduceBNe, Int.reduceBEq, hx])
    repeat' (first | (with_reducible rw [allocV_eq]) | (refine gdV_split (fun hc => ?_) (fun hc => ?_) <;> (try simp only [hc, ↓R1, R2, R3, R4, R5, Nat.reduceEqDiff, Nat.reduceAdd, Nat.reduceMul, Nat.reduceSub, Nat.reduceLeDiff, Nat.reduceLT, reduceIte, reduceCtorEq, Int.reduceBNe, Int.reduceBEq, hx])) | ((first | refine condV_split (fun hc => ?_) (fun hc => ?_) | (with_reducible intro β hβ; (try simp only [St.box_noneA, St.tip_noneA, St.tip_set, St.box_tip, St.box_lp, St.tip_lp] at hβ); (repeat (obtain ⟨⟨_, _⟩, hβ⟩ := hβ)); (try (have hbis := apart_is (by assumption) hβ; obtain ⟨_, _⟩ := hbis)))) <;> (try simp only [↓R1, R2, R3, R4, R5, Nat.reduceEqDiff, Nat.reduceAdd, Nat.reduceMul, Nat.reduceSub, Nat.reduceLeDiff, Nat.reduceLT, reduceIte, reduceCtorEq, Int.reduceBNe, Int.reduceBEq, hx])) | (with_reducible refine And.intro ?_ ?_; (focus (first | omega | (intros; (repeat' (with_reducible apply And.intro)) <;> first | omega | (simp only [List.length_append, List.length_cons, List.length_nil]; omega))))) | (with_reducible apply And.intro) | ((first | refine Pu.to (h1) (wkL_refl _) ?_ | refine callDV_pu (h1) (wkL_refl _) ?_); (try simp only [↓R1, R2, R3, R4, R5, Nat.reduceEqDiff, Nat.reduceAdd, Nat.reduceMul, Nat.reduceSub, Nat.reduceLeDiff, Nat.reduceLT, reduceIte, reduceCtorEq, Int.reduceBNe, Int.reduceBEq, hx])))
    all_goals (refine endP_pu (by simp) (by first | (simp [rvsS, rvS]; done) | (simp only [rvsS, rvS, ↓R1, R2, R3, R4, R5, Nat.reduceEqDiff, Nat.reduceAdd, Nat.reduceMul, Nat.reduceSub, Nat.reduceLeDiff, Nat.reduceLT, reduceIte, reduceCtorEq, Int.reduceBNe, Int.reduceBEq, hx]; try simp)) (wk_of_eq ?_) (by (repeat (first | exact St.le_refl _ | (refine St.le_new ?_ (by assumption)) | (refine St.le_newT ?_ (by assumption))))))
    all_goals (simp only [resAV, rvV, List.map_cons, List.map_nil, ↓R1, R2, R3, R4, R5, Nat.reduceEqDiff, Nat.reduceAdd, Nat.reduceMul, Nat.reduceSub, Nat.reduceLeDiff, Nat.reduceLT, reduceIte, reduceCtorEq, Int.reduceBNe, Int.reduceBEq, hx])
    all_goals simp only [rdC, rdE, hv, cond_false]
end Go.Proofs.YtnmlhilckjmhnaaDoor
namespace Go.Proofs.YtnmlhilckjmhnaaDoor
open Go.Abs Go.Lib
set_option linter.all false
set_option maxRecDepth 100000
theorem numV_one (b : UInt8) : (numV [b]).toNat = b.toNat := by
  have h : ∀ n : Fin 256, (numV [UInt8.ofNat n.val]).toNat = n.val := by decide +kernel
  have := h ⟨b.toNat, b.toNat_lt⟩
  simpa using this
theorem checkE_nat (n : Nat) : (checkE (n : Int) == 0) = decide (n < 26) := by
  simp only [checkE, Bool.cond_eq_ite]; grind
theorem par_eq (s : List UInt8) : parE s = parE' s ∧ parF s = parF' s := by
  rcases Nat.lt_or_ge s.length 8 with h8 | h8
  · have e1 : rd1 s = ⟨s, 0, 5, 0⟩ := by simp [rd1, rd0, takeR, h8]
    have e2 : rd2 s = ⟨s, 0, 5, 0⟩ := by simp [rd2, e1, takeR]
    have ek : kindB s = 0 := by simp [kindB, e1, takeS, numV]; decide
    have e3 : rd3 s = ⟨s, 0, 5, 0⟩ := by simp [rd3, e2, ek, checkE]
    have e4 : rd4 s = ⟨s, 0, 5, 0⟩ := by simp [rd4, e3, takeR]
    simp [parE, parF, parE', parF', e4, endR, failR, h8, show (s.length == 17) = false by simp; omega]
  · have e1 : rd1 s = ⟨s, 8, 0, 0⟩ := by simp [rd1, rd0, takeR, Nat.not_lt.2 h8]
    rcases Nat.lt_or_ge s.length 9 with h9 | h9
    · have e2 : rd2 s = ⟨s, 8, 5, 8⟩ := by simp [rd2, e1, takeR, h9]
      have ek : kindB s = 0 := by simp [kindB, e1, takeS, numV, h9]; decide
      have e3 : rd3 s = ⟨s, 8, 5, 8⟩ := by simp [rd3, e2, ek, checkE]
      have e4 : rd4 s = ⟨s, 8, 5, 8⟩ := by simp [rd4, e3, takeR]
      simp [parE, parF, parE', parF', e4, endR, failR, h9, show ¬ s.length < 8 by omega, show (s.length == 17) = false by simp; omega]
    · have e2 : rd2 s = ⟨s, 9, 0, 0⟩ := by simp [rd2, e1, takeR, Nat.not_lt.2 h9]
      have et : takeS (rd1 s) 1 = [s[8]?.getD 0] := by
        simp [takeS, e1, Nat.not_lt.2 h9]
        rw [List.drop_eq_getElem_cons (by omega), List.getElem?_eq_getElem (by omega)]; rfl
      have ek : kindB s = (s[8]?.getD 0).toNat := by rw [kindB, et, numV_one]; exact wrap_byte _
      have n8 : ¬ s.length < 8 := by omega
      have n9 : ¬ s.length < 9 := by omega
      have hm : min 8 s.length = 8 := by omega
      by_cases hk : 26 ≤ (s[8]?.getD 0).toNat
      · have hc : (checkE (kindB s) == 0) = false := by
          rw [ek, checkE_nat]; simpa using hk
        have e3 : rd3 s = ⟨s, 9, 11, 8⟩ := by simp only [rd3, hc, cond_false]; rw [e2, hm]; rfl
        have e4 : rd4 s = ⟨s, 9, 11, 8⟩ := by rw [rd4, e3]; rfl
        have e5 : (endR (rd4 s)).e = 11 ∧ (endR (rd4 s)).fa = 8 := by
          rw [e4]; cases h : decide (9 < s.length) <;> simp only [endR, failR, h] <;> exact ⟨rfl, rfl⟩
        simp [parE, parF, parE', parF', e5.1, e5.2, hk, n8, n9, show ¬ (s[8]?.getD 0).toNat < 26 by omega]
      · have hc : (checkE (kindB s) == 0) = true := by
          rw [ek, checkE_nat]; simpa using hk
        have e3 : rd3 s = ⟨s, 9, 0, 0⟩ := by simp only [rd3, hc, cond_true]; exact e2
        have k26 : (s[8]?.getD 0).toNat < 26 := by omega
        rcases Nat.lt_or_ge s.length 17 with h17 | h17
        · have e4 : rd4 s = ⟨s, 9, 5, 9⟩ := by simp [rd4, e3, takeR, h17]
          have e5 : (endR (rd4 s)).e = 5 ∧ (endR (rd4 s)).fa = 9 := by
            rw [e4]; cases h : decide (9 < s.length) <;> simp only [endR, failR, h] <;> exact ⟨rfl, rfl⟩
          simp [parE, parF, parE', parF', e5.1, e5.2, hk, n8, n9, k26, h17, show (s.length == 17) = false by simp; omega]
        · have n17 : ¬ s.length < 17 := by omega
          have e4 : rd4 s = ⟨s, 17, 0, 0⟩ := by simp [rd4, e3, takeR, n17]
          by_cases hl : 17 < s.length
          · have e5 : (endR (rd4 s)).e = 4 ∧ (endR (rd4 s)).fa = 17 := by
              rw [e4]; simp [endR, failR, hl]
            simp [parE, parF, parE', parF', e5.1, e5.2, hk, n8, n9, k26, n17, hl, show (s.length == 17) = false by simp; omega]
          · have h17' : s.length = 17 := by omega
            have e5 : (endR (rd4 s)).e = 0 ∧ (endR (rd4 s)).fa = 0 := by
              rw [e4]; simp [endR, hl]
            have t0 : takeS (rd0 s) 8 = s.take 8 := by simp [takeS, rd0, n8]
            have t3 : takeS (rd3 s) 8 = s.drop 9 := by
              rw [e3]; simp only [takeS, beq_self_eq_true, cond_true]
              rw [show decide (s.length < 9 + 8) = false by simp; omega, cond_false]
              exact List.take_of_length_le (by simp; omega)
            have d8 : decide ((s[8]?.getD 0).toNat < 26) = true := by simpa using k26
            have d9 : decide (26 ≤ (s[8]?.getD 0).toNat) = false := by simpa using hk
            have z : ((0 : Int) == 0) = true := rfl
            simp only [parE, parF, parE', parF', e5.1, n8, n9, n17, hl, d8, d9, h17', t0, t3, ek, z, cond_true]
            simp
end Go.Proofs.YtnmlhilckjmhnaaDoor
namespace Go.Proofs.YtnmlhilckjmhnaaDoor
open Go.Abs
set_option linter.all false
end Go.Proofs.YtnmlhilckjmhnaaDoor
namespace Go.Proofs.YtnmlhilckjmhnaaDoor
open Go.Abs Go.Lib
set_option linter.all false
set_option maxRecDepth 100000
theorem p41 (s : List UInt8) (hs : s.length ≤ 1000) (c0 c1 c2 c3 c4 : Int) (hE : parE' s = [.int .u64 c0, .int .i64 c1, .int .i64 c2]) (hF : parF' s = [.int .i64 c3, .int .i64 c4]) (e a : Int) :
    Pu Tryd.prog 41 [.str s, .int .i64 e, .int .i64 a] (.bool ((c0 == 0 && (c1 == 0 && c2 == 0)) && (c3 == e && c4 == a))) := by
  have h1 := p23 s hs
  rw [(par_eq _).1, (par_eq _).2, hE, hF] at h1
  (refine Pu_intro c41 b41 (Nat.le_of_ble_eq_true rfl) fun σ => ?_; simp only [c41, ↓R1, R2, R3, R4, R5, Nat.reduceEqDiff, Nat.reduceAdd, Nat.reduceMul, Nat.reduceSub, Nat.reduceLeDiff, Nat.reduceLT, reduceIte, reduceCtorEq, Int.reduceBNe, Int.reduceBEq])
  repeat' (first | (with_reducible rw [allocV_eq]) | (refine gdV_split (fun hc => ?_) (fun hc => ?_) <;> (try simp only [hc, ↓R1, R2, R3, R4, R5, Nat.reduceEqDiff, Nat.reduceAdd, Nat.reduceMul, Nat.reduceSub, Nat.reduceLeDiff, Nat.reduceLT, reduceIte, reduceCtorEq, Int.reduceBNe, Int.reduceBEq])) | ((first | refine condV_split (fun hc => ?_) (fun hc => ?_) | (with_reducible intro β hβ; (try simp only [St.box_noneA, St.tip_noneA, St.tip_set, St.box_tip, St.box_lp, St.tip_lp] at hβ); (repeat (obtain ⟨⟨_, _⟩, hβ⟩ := hβ)); (try (have hbis := apart_is (by assumption) hβ; obtain ⟨_, _⟩ := hbis)))) <;> (try simp only [↓R1, R2, R3, R4, R5, Nat.reduceEqDiff, Nat.reduceAdd, Nat.reduceMul, Nat.reduceSub, Nat.reduceLeDiff, Nat.reduceLT, reduceIte, reduceCtorEq, Int.reduceBNe, Int.reduceBEq])) | (with_reducible refine And.intro ?_ ?_; (focus (first | omega | (intros; (repeat' (with_reducible apply And.intro)) <;> first | omega | (simp only [List.length_append, List.length_cons, List.length_nil]; omega))))) | (with_reducible apply And.intro) | ((first | refine Pu.to (h1) (wkL_refl _) ?_ | refine callDV_pu (h1) (wkL_refl _) ?_); (try simp only [↓R1, R2, R3, R4, R5, Nat.reduceEqDiff, Nat.reduceAdd, Nat.reduceMul, Nat.reduceSub, Nat.reduceLeDiff, Nat.reduceLT, reduceIte, reduceCtorEq, Int.reduceBNe, Int.reduceBEq])))
  all_goals (refine endP_pu (by simp) (by first | (simp [rvsS, rvS]; done) | (simp only [rvsS, rvS, ↓R1, R2, R3, R4, R5, Nat.reduceEqDiff, Nat.reduceAdd, Nat.reduceMul, Nat.reduceSub, Nat.reduceLeDiff, Nat.reduceLT, reduceIte, reduceCtorEq, Int.reduceBNe, Int.reduceBEq]; try simp)) (wk_of_eq ?_) (by (repeat (first | exact St.le_refl _ | (refine St.le_new ?_ (by assumption)) | (refine St.le_newT ?_ (by assumption))))))
  all_goals (simp only [resAV, rvV, List.map_cons, List.map_nil, ↓R1, R2, R3, R4, R5, Nat.reduceEqDiff, Nat.reduceAdd, Nat.reduceMul, Nat.reduceSub, Nat.reduceLeDiff, Nat.reduceLT, reduceIte, reduceCtorEq, Int.reduceBNe, Int.reduceBEq])
  all_goals (refine congrArg AV.bool ?_; rw [Bool.eq_iff_iff]; simp only [Bool.and_eq_true, Bool.or_eq_true, decide_eq_true_eq, beq_iff_eq, bne_iff_ne, Bool.and_eq_false_iff, Bool.not_eq_true', Bool.false_eq_true, false_iff, true_iff, beq_eq_false_iff_ne, decide_eq_false_iff_not] at *; grind)
def exB : List UInt8 := [0, 0, 0, 0, 0, 0, 1, 1, 2, 255, 255, 255, 255, 255, 255, 255, 254]
theorem k_par : parE' exB = [.int .u64 257, .int .i64 2, .int .i64 (-2)] ∧ parF' exB = [.int .i64 0, .int .i64 0] := ⟨by kernel_rfl, by kernel_rfl⟩
def exT : List UInt8 := [67, 32, 123, 48, 44, 56, 125, 32, 45, 50]
def exU : List UInt8 := [67, 32, 123, 56, 44, 48, 125, 32, 45, 50]
def exV : List UInt8 := [67, 32, 123, 48, 44, 56, 125, 32, 45, 48]
theorem k_t : rdC exT = [.int .u64 257, .int .i64 2, .int .i64 (-2)] ∧ rdE exT = 0 := ⟨by kernel_rfl, by kernel_rfl⟩
theorem k_u : rdC exU = [.int .u64 0, .int .i64 0, .int .i64 0] ∧ rdE exU = 3 := ⟨by kernel_rfl, by kernel_rfl⟩
theorem k_v : rdC exV = [.int .u64 0, .int .i64 0, .int .i64 0] ∧ rdE exV = 3 := ⟨by kernel_rfl, by kernel_rfl⟩
def exI : List UInt8 := [123, 125, 35, 49, 50]
def exJ : List UInt8 := [123, 125, 35, 48, 49, 50]
def exK : List UInt8 := [123, 125, 35, 48]
theorem k_i : ridC exI = [.int .u64 0, .int .u64 12] ∧ ridE exI = 0 := ⟨by kernel_rfl, by kernel_rfl⟩
theorem k_j : ridC exJ = [.int .u64 0, .int .u64 0] ∧ ridE exJ = 3 := ⟨by kernel_rfl, by kernel_rfl⟩
theorem k_k : ridC exK = [.int .u64 0, .int .u64 0] ∧ ridE exK = 3 := ⟨by kernel_rfl, by kernel_rfl⟩
theorem k_12 : idText 0#64 12 = exI := by
  have h : decDigits 12 = [49, 50] := by rw [decDigits, decDigits]; rfl
  have h2 : textL 0#64 = [123, 125] := by kernel_rfl
  show textL 0#64 ++ [35] ++ decDigits 12 = _
  rw [h, h2]; rfl
set_option maxHeartbeats 4000000 in
theorem known_pu : PuG Tryd.prog gl3 9 [] (.bool true) := by
  have s0 := p40
  have e1 := p23 exB (by decide)
  rw [(par_eq _).1, (par_eq _).2, k_par.1, k_par.2] at e1
  have f1 : Pu Tryd.prog 41 [.str [0, 0, 0, 0, 0, 0, 1, 1], .int .i64 5, .int .i64 8] (.bool true) := p41 _ (by decide) 0 0 0 5 8 (by kernel_rfl) (by kernel_rfl) 5 8
  have f2 : Pu Tryd.prog 41 [.str [0, 0, 0, 0, 0, 0, 1, 1, 2, 255, 255, 255], .int .i64 5, .int .i64 9] (.bool true) := p41 _ (by decide) 0 0 0 5 9 (by kernel_rfl) (by kernel_rfl) 5 9
  have f3 : Pu Tryd.prog 41 [.str [0, 0, 0, 0, 0, 0, 1, 1, 2, 255, 255, 255, 255, 255, 255, 255, 254, 120], .int .i64 4, .int .i64 17] (.bool true) := p41 _ (by decide) 0 0 0 4 17 (by kernel_rfl) (by kernel_rfl) 4 17
  have f4 : Pu Tryd.prog 41 [.str [0, 0, 0, 0, 0, 0, 1, 1, 26], .int .i64 11, .int .i64 8] (.bool true) := p41 _ (by decide) 0 0 0 11 8 (by kernel_rfl) (by kernel_rfl) 11 8
  have f5 : Pu Tryd.prog 41 [.str [], .int .i64 5, .int .i64 0] (.bool true) := p41 _ (by decide) 0 0 0 5 0 (by kernel_rfl) (by kernel_rfl) 5 0
  have t1 := p32 exT (by decide)
  rw [k_t.1, k_t.2] at t1
  have t2 := p32 exU (by decide)
  rw [k_u.1, k_u.2] at t2
  have t3 := p32 exV (by decide)
  rw [k_v.1, k_v.2] at t3
  have i0 : PuG Tryd.prog gl3 34 [.agg [.int .u64 0, .int .u64 12]] (.tup [.str (idText 0#64 12), .int .i64 0]) := p34 0#64 12
  rw [k_12] at i0
  have i1 := p36 exI (by decide)
  rw [k_i.1, k_i.2] at i1
  have i2 := p36 exJ (by decide)
  rw [k_j.1, k_j.2] at i2
  have i3 := p36 exK (by decide)
  rw [k_k.1, k_k.2] at i3
  have m1 : Pu Tryd.prog 10 [.agg [.int .u64 0, .int .u64 5], .agg [.int .u64 1, .int .u64 1]] (.int .i64 (-1)) := p10 0 5 1 1
  have m2 : Pu Tryd.prog 10 [.agg [.int .u64 0, .int .u64 5], .agg [.int .u64 0, .int .u64 4]] (.int .i64 1) := p10 0 5 0 4
  have l1 : Pu Tryd.prog 27 [.int .i64 25] (.tup [.str [90], .int .i64 0]) := p27 25
  have l2 : Pu Tryd.prog 27 [.int .i64 26] (.tup [.str [], .int .i64 11]) := p27 26
  have k1 : Pu Tryd.prog 29 [.str [90]] (.tup [.int .i64 25, .int .i64 0]) := p29 [90]
  have k2 : Pu Tryd.prog 29 [.str [122]] (.tup [.int .i64 0, .int .i64 11]) := p29 [122]
  have r1 : Pu Tryd.prog 15 [.agg [.int .u64 0, .int .i64 26, .int .i64 0], .int .u64 1, .int .u64 1, .int .u64 0] (.tup [.agg [.int .u64 0, .int .u64 0, .int .u64 0, .int .u64 0, .int .i64 0, .int .i64 0], .int .i64 11]) := p15 0 26 0 1 1 0
  have r2 : Pu Tryd.prog 15 [.agg [.int .u64 0, .int .i64 0, .int .i64 0], .int .u64 0, .int .u64 1, .int .u64 0] (.tup [.agg [.int .u64 0, .int .u64 0, .int .u64 0, .int .u64 0, .int .i64 0, .int .i64 0], .int .i64 2]) := p15 0 0 0 0 1 0
  have r3 : Pu Tryd.prog 15 [.agg [.int .u64 0, .int .i64 0, .int .i64 0], .int .u64 1, .int .u64 1099511627777, .int .u64 0] (.tup [.agg [.int .u64 0, .int .u64 0, .int .u64 0, .int .u64 0, .int .i64 0, .int .i64 0], .int .i64 2]) := p15 0 0 0 1 1099511627777 0
  simp only [exB, exT, exU, exV, exI, exJ, exK] at e1 t1 t2 t3 i0 i1 i2 i3
  (refine PuG_intro c9 b9 (Nat.le_of_ble_eq_true rfl) fun σ hσ => ?_; simp only [c9, ↓R1, R2, R3, R4, R5, Nat.reduceEqDiff, Nat.reduceAdd, Nat.reduceMul, Nat.reduceSub, Nat.reduceLeDiff, Nat.reduceLT, reduceIte, reduceCtorEq, Int.reduceBNe, Int.reduceBEq, Int.reduceToNat])
  repeat' (first | (with_reducible rw [allocV_eq]) | (refine gdV_split (fun hc => ?_) (fun hc => ?_) <;> (try simp only [hc, ↓R1, R2, R3, R4, R5, Nat.reduceEqDiff, Nat.reduceAdd, Nat.reduceMul, Nat.reduceSub, Nat.reduceLeDiff, Nat.reduceLT, reduceIte, reduceCtorEq, Int.reduceBNe, Int.reduceBEq, Int.reduceToNat])) | ((first | refine condV_split (fun hc => ?_) (fun hc => ?_) | (with_reducible intro β hβ; (try simp only [St.box_noneA, St.tip_noneA, St.tip_set, St.box_tip, St.box_lp, St.tip_lp] at hβ); (repeat (obtain ⟨⟨_, _⟩, hβ⟩ := hβ)); (try (have hbis := apart_is (by assumption) hβ; obtain ⟨_, _⟩ := hbis)))) <;> (try simp only [↓R1, R2, R3, R4, R5, Nat.reduceEqDiff, Nat.reduceAdd, Nat.reduceMul, Nat.reduceSub, Nat.reduceLeDiff, Nat.reduceLT, reduceIte, reduceCtorEq, Int.reduceBNe, Int.reduceBEq, Int.reduceToNat])) | (with_reducible refine And.intro ?_ ?_; (focus (first | omega | (intros; (repeat' (with_reducible apply And.intro)) <;> first | omega | (simp only [List.length_append, List.length_cons, List.length_nil]; omega))))) | (with_reducible apply And.intro) | ((first | refine Pu.to (s0) (wkL_refl _) ?_ | refine callDV_pu (s0) (wkL_refl _) ?_ | refine Pu.to (e1) (wkL_refl _) ?_ | refine callDV_pu (e1) (wkL_refl _) ?_ | (refine callGV_pu (fun hgv => ⟨?_, (f1), wkL_refl _⟩) ?_; (first | trivial | (focus (simp only [↓R1, R2, R3, R4, R5, Nat.reduceEqDiff, Nat.reduceAdd, Nat.reduceMul, Nat.reduceSub, Nat.reduceLeDiff, Nat.reduceLT, reduceIte, reduceCtorEq, Int.reduceBNe, Int.reduceBEq, Int.reduceToNat]; done)))) | (refine callGV_pu (fun hgv => ⟨?_, (f2), wkL_refl _⟩) ?_; (first | trivial | (focus (simp only [↓R1, R2, R3, R4, R5, Nat.reduceEqDiff, Nat.reduceAdd, Nat.reduceMul, Nat.reduceSub, Nat.reduceLeDiff, Nat.reduceLT, reduceIte, reduceCtorEq, Int.reduceBNe, Int.reduceBEq, Int.reduceToNat]; done)))) | (refine callGV_pu (fun hgv => ⟨?_, (f3), wkL_refl _⟩) ?_; (first | trivial | (focus (simp only [↓R1, R2, R3, R4, R5, Nat.reduceEqDiff, Nat.reduceAdd, Nat.reduceMul, Nat.reduceSub, Nat.reduceLeDiff, Nat.reduceLT, reduceIte, reduceCtorEq, Int.reduceBNe, Int.reduceBEq, Int.reduceToNat]; done)))) | (refine callGV_pu (fun hgv => ⟨?_, (f4), wkL_refl _⟩) ?_; (first | trivial | (focus (simp only [↓R1, R2, R3, R4, R5, Nat.reduceEqDiff, Nat.reduceAdd, Nat.reduceMul, Nat.reduceSub, Nat.reduceLeDiff, Nat.reduceLT, reduceIte, reduceCtorEq, Int.reduceBNe, Int.reduceBEq, Int.reduceToNat]; done)))) | (refine callGV_pu (fun hgv => ⟨?_, (f5), wkL_refl _⟩) ?_; (first | trivial | (focus (simp only [↓R1, R2, R3, R4, R5, Nat.reduceEqDiff, Nat.reduceAdd, Nat.reduceMul, Nat.reduceSub, Nat.reduceLeDiff, Nat.reduceLT, reduceIte, reduceCtorEq, Int.reduceBNe, Int.reduceBEq, Int.reduceToNat]; done)))) | (refine callGV_pu (fun hgv => ⟨?_, (m1), wkL_refl _⟩) ?_; (first | trivial | (focus (simp only [↓R1, R2, R3, R4, R5, Nat.reduceEqDiff, Nat.reduceAdd, Nat.reduceMul, Nat.reduceSub, Nat.reduceLeDiff, Nat.reduceLT, reduceIte, reduceCtorEq, Int.reduceBNe, Int.reduceBEq, Int.reduceToNat]; done)))) | (refine callGV_pu (fun hgv => ⟨?_, (m2), wkL_refl _⟩) ?_; (first | trivial | (focus (simp only [↓R1, R2, R3, R4, R5, Nat.reduceEqDiff, Nat.reduceAdd, Nat.reduceMul, Nat.reduceSub, Nat.reduceLeDiff, Nat.reduceLT, reduceIte, reduceCtorEq, Int.reduceBNe, Int.reduceBEq, Int.reduceToNat]; done)))) | refine Pu.to (f1) (wkL_refl _) ?_ | refine callDV_pu (f1) (wkL_refl _) ?_ | refine Pu.to (f2) (wkL_refl _) ?_ | refine callDV_pu (f2) (wkL_refl _) ?_ | refine Pu.to (f3) (wkL_refl _) ?_ | refine callDV_pu (f3) (wkL_refl _) ?_ | refine Pu.to (f4) (wkL_refl _) ?_ | refine callDV_pu (f4) (wkL_refl _) ?_ | refine Pu.to (f5) (wkL_refl _) ?_ | refine callDV_pu (f5) (wkL_refl _) ?_ | refine PuG.to (t1) hσ (wkL_refl _) ?_ | refine PuG.to (t2) hσ (wkL_refl _) ?_ | refine PuG.to (t3) hσ (wkL_refl _) ?_ | refine PuG.to (i0) hσ (wkL_refl _) ?_ | refine PuG.to (i1) hσ (wkL_refl _) ?_ | refine PuG.to (i2) hσ (wkL_refl _) ?_ | refine PuG.to (i3) hσ (wkL_refl _) ?_ | refine Pu.to (m1) (wkL_refl _) ?_ | refine callDV_pu (m1) (wkL_refl _) ?_ | refine Pu.to (m2) (wkL_refl _) ?_ | refine callDV_pu (m2) (wkL_refl _) ?_ | refine Pu.to (l1) (wkL_refl _) ?_ | refine callDV_pu (l1) (wkL_refl _) ?_ | refine Pu.to (l2) (wkL_refl _) ?_ | refine callDV_pu (l2) (wkL_refl _) ?_ | refine Pu.to (k1) (wkL_refl _) ?_ | refine callDV_pu (k1) (wkL_refl _) ?_ | refine Pu.to (k2) (wkL_refl _) ?_ | refine callDV_pu (k2) (wkL_refl _) ?_ | refine Pu.to (r1) (wkL_refl _) ?_ | refine callDV_pu (r1) (wkL_refl _) ?_ | refine Pu.to (r2) (wkL_refl _) ?_ | refine callDV_pu (r2) (wkL_refl _) ?_ | refine Pu.to (r3) (wkL_refl _) ?_ | refine callDV_pu (r3) (wkL_refl _) ?_ | refine PuG.to (awake_pu) hσ (wkL_refl _) ?_ | (refine callGV_puG hσ (fun hgv => ⟨?_, (awake_pu), wkL_refl _⟩) ?_; (first | trivial | (focus (simp only [↓R1, R2, R3, R4, R5, Nat.reduceEqDiff, Nat.reduceAdd, Nat.reduceMul, Nat.reduceSub, Nat.reduceLeDiff, Nat.reduceLT, reduceIte, reduceCtorEq, Int.reduceBNe, Int.reduceBEq, Int.reduceToNat]; done))))); (try simp only [↓R1, R2, R3, R4, R5, Nat.reduceEqDiff, Nat.reduceAdd, Nat.reduceMul, Nat.reduceSub, Nat.reduceLeDiff, Nat.reduceLT, reduceIte, reduceCtorEq, Int.reduceBNe, Int.reduceBEq, Int.reduceToNat])))
  all_goals (refine endP_pu (by simp) (by first | (simp [rvsS, rvS]; done) | (simp only [rvsS, rvS, ↓R1, R2, R3, R4, R5, Nat.reduceEqDiff, Nat.reduceAdd, Nat.reduceMul, Nat.reduceSub, Nat.reduceLeDiff, Nat.reduceLT, reduceIte, reduceCtorEq, Int.reduceBNe, Int.reduceBEq, Int.reduceToNat]; try simp)) (wk_of_eq ?_) (by (repeat (first | exact St.le_refl _ | (refine St.le_new ?_ (by assumption)) | (refine St.le_newT ?_ (by assumption))))))
  all_goals (simp only [resAV, rvV, List.map_cons, List.map_nil, ↓R1, R2, R3, R4, R5, Nat.reduceEqDiff, Nat.reduceAdd, Nat.reduceMul, Nat.reduceSub, Nat.reduceLeDiff, Nat.reduceLT, reduceIte, reduceCtorEq, Int.reduceBNe, Int.reduceBEq, Int.reduceToNat])
end Go.Proofs.YtnmlhilckjmhnaaDoor
