/-
  The kind of a letter: by the program (a range over a string: walked in the model) and by the reference. An event's bytes: the reader's answer by cases; EventBytes. EventBytes at the arguments as they come.
-/
import Derived.Test.YtnmlhilckjmhnaaDoorEW2
import Derived.Laws.RangeString
import Derived.LoopTactic
import Derived.WalkKit
import Derived.BigCall
import Derived.Test.YtnmlhilckjmhnaaDoorEV4
import Derived.Test.YtnmlhilckjmhnaaDoorA03
namespace Go.Proofs.YtnmlhilckjmhnaaDoor
open Go.Abs Go.Lib
set_option linter.all false
set_option maxRecDepth 100000

def lettersL : List UInt8 := [65, 66, 67, 68, 69, 70, 71, 72, 73, 74, 75, 76, 77, 78, 79, 80, 81, 82, 83, 84, 85, 86, 87, 88, 89, 90]
/-- The kind of a letter and the error, searched from k. -/
def kindL (t : List UInt8) : Nat → Nat → AV
  | 0, _ => .tup [.int .i64 0, .int .i64 11]
  | b + 1, k => bif t == [lettersL[k]?.getD 0] then .tup [.int .i64 k, .int .i64 0] else kindL t b (k + 1)
def kindT (t : List UInt8) : AV := kindL t 26 0
theorem kindL_ne (t : List UInt8) (k : Nat) (hk : k ≤ 26) (h : ∀ j, j < k → (t == [lettersL[j]?.getD 0]) = false) : kindL t (26 - k) k = kindT t := by
  have : ∀ n k, n + k = 26 → (∀ j, j < k → (t == [lettersL[j]?.getD 0]) = false) → kindL t n k = kindT t := by
    intro n k
    induction k generalizing n with
    | zero => intro hn _; subst hn; rfl
    | succ k ih =>
      intro hn hj
      rw [← ih (n + 1) (by omega) (fun j hj' => hj j (by omega))]
      show kindL t n (k + 1) = bif t == [lettersL[k]?.getD 0] then _ else _
      rw [hj k (by omega)]; rfl
  exact this _ _ (by omega) h
theorem kindL_eq (t : List UInt8) (k : Nat) (hk : k < 26) (h : (t == [lettersL[k]?.getD 0]) = true) : kindL t (26 - k) k = .tup [.int .i64 k, .int .i64 0] := by
  rw [show 26 - k = (25 - k) + 1 by omega]
  show (bif t == [lettersL[k]?.getD 0] then _ else _) = _
  rw [h]; rfl
theorem kindL_no (t : List UInt8) (k : Nat) (hk : k < 26) (h : (t == [lettersL[k]?.getD 0]) = false) : kindL t (26 - k) k = kindL t (26 - (k + 1)) (k + 1) := by
  rw [show 26 - k = (25 - k) + 1 by omega, show 26 - (k + 1) = 25 - k by omega]
  show (bif t == [lettersL[k]?.getD 0] then _ else _) = _
  rw [h]; rfl
theorem p30 (t : List UInt8) : Pu Tryd.prog 30 [.str t] (kindT t) := by
  have hsl : ∀ k, k < 26 → List.take (k + 1 - k) (List.drop k lettersL) = [lettersL[k]?.getD 0] := by decide
  (refine Pu_intro c30 b30 (Nat.le_of_ble_eq_true rfl) fun σ => ?_; simp only [c30, ↓R1, R2, R3, R4, keepF, initF, ps, pf, ev, slot, putF, guardC, CO.ods, optAll, evU, binV, binS, intV, intS, strV, strS, unV, unS, pickV, pickS, boolS, slv, intOfA, isIntA, isIntO, bnd, ldV, ldS, pcells, AV.fits, AV.one, AV.cells, putParts, partsS, fresh, nilOk, nilP, pickE, isLd, sqL, sqV, Nat.reduceEqDiff, Nat.reduceAdd, Nat.reduceMul, Nat.reduceSub, Nat.reduceLeDiff, Nat.reduceLT, reduceIte, reduceCtorEq, Int.reduceBNe, Int.reduceBEq, putL])
  refine loopV_for 26 (fun k => [(0, .str t), (4, .int .i64 k)]) (fun _ => σ) (fun k => kindL t (26 - k) k = kindT t) (by simp [subF, slot, wk_refl]) (St.le_refl _) rfl (fun k hk hI => ?_)
  simp only [lt_len, ↓R1, R2, R3, R4, keepF, initF, ps, pf, ev, slot, putF, guardC, CO.ods, optAll, evU, binV, binS, intV, intS, strV, strS, unV, unS, pickV, pickS, boolS, slv, intOfA, isIntA, isIntO, bnd, ldV, ldS, pcells, AV.fits, AV.one, AV.cells, putParts, partsS, fresh, nilOk, nilP, pickE, isLd, sqL, sqV, Nat.reduceEqDiff, Nat.reduceAdd, Nat.reduceMul, Nat.reduceSub, Nat.reduceLeDiff, Nat.reduceLT, reduceIte, reduceCtorEq, Int.reduceBNe, Int.reduceBEq, putL]
  refine condV_split (fun hc => ?_) (fun hc => ?_)
  · have hlt : k < 26 := by simp at hc; omega
    have hw : IntKind.i64.wrap ((k : Int) + 1) = ((k + 1 : Nat) : Int) := by rw [wrap64 (by omega) (by omega)]; omega
    have h1 := hsl k hlt
    simp only [hw, ↓R1, R2, R3, R4, keepF, initF, ps, pf, ev, slot, putF, guardC, CO.ods, optAll, evU, binV, binS, intV, intS, strV, strS, unV, unS, pickV, pickS, boolS, slv, intOfA, isIntA, isIntO, bnd, ldV, ldS, pcells, AV.fits, AV.one, AV.cells, putParts, partsS, fresh, nilOk, nilP, pickE, isLd, sqL, sqV, Nat.reduceEqDiff, Nat.reduceAdd, Nat.reduceMul, Nat.reduceSub, Nat.reduceLeDiff, Nat.reduceLT, reduceIte, reduceCtorEq, Int.reduceBNe, Int.reduceBEq, putL]
    have hl : lettersL = [65, 66, 67, 68, 69, 70, 71, 72, 73, 74, 75, 76, 77, 78, 79, 80, 81, 82, 83, 84, 85, 86, 87, 88, 89, 90] := rfl
    have hcm : (List.take (k + 1 - k) (List.drop k [65, 66, 67, 68, 69, 70, 71, 72, 73, 74, 75, 76, 77, 78, 79, 80, 81, 82, 83, 84, 85, 86, 87, 88, 89, 90]) == t) = (t == [lettersL[k]?.getD 0]) := by
      rw [← hl, h1, Bool.eq_iff_iff]; simp only [beq_iff_eq]; exact ⟨fun h => h.symm, fun h => h.symm⟩
    repeat' (first | (with_reducible rw [allocV_eq]) | (refine gdV_split (fun hc => ?_) (fun hc => ?_) <;> (try simp only [hc, ↓R1, R2, R3, R4, keepF, initF, ps, pf, ev, slot, putF, guardC, CO.ods, optAll, evU, binV, binS, intV, intS, strV, strS, unV, unS, pickV, pickS, boolS, slv, intOfA, isIntA, isIntO, bnd, ldV, ldS, pcells, AV.fits, AV.one, AV.cells, putParts, partsS, fresh, nilOk, nilP, pickE, isLd, sqL, sqV, Nat.reduceEqDiff, Nat.reduceAdd, Nat.reduceMul, Nat.reduceSub, Nat.reduceLeDiff, Nat.reduceLT, reduceIte, reduceCtorEq, Int.reduceBNe, Int.reduceBEq, putL])) | ((first | refine condV_split (fun hc => ?_) (fun hc => ?_) | (with_reducible intro β hβ; (try simp only [St.box_noneA, St.tip_noneA, St.tip_set, St.box_tip] at hβ); (repeat (obtain ⟨⟨_, _⟩, hβ⟩ := hβ)); (try (have hbis := apart_is (by assumption) hβ; obtain ⟨_, _⟩ := hbis)))) <;> (try simp only [↓R1, R2, R3, R4, keepF, initF, ps, pf, ev, slot, putF, guardC, CO.ods, optAll, evU, binV, binS, intV, intS, strV, strS, unV, unS, pickV, pickS, boolS, slv, intOfA, isIntA, isIntO, bnd, ldV, ldS, pcells, AV.fits, AV.one, AV.cells, putParts, partsS, fresh, nilOk, nilP, pickE, isLd, sqL, sqV, Nat.reduceEqDiff, Nat.reduceAdd, Nat.reduceMul, Nat.reduceSub, Nat.reduceLeDiff, Nat.reduceLT, reduceIte, reduceCtorEq, Int.reduceBNe, Int.reduceBEq, putL])) | (with_reducible refine And.intro ?_ ?_; (focus (first | omega | (intros; (repeat' (with_reducible apply And.intro)) <;> first | omega | (simp only [List.length_append, List.length_cons, List.length_nil]; omega))))) | (with_reducible apply And.intro))
    · rw [hcm] at hc
      have := kindL_eq t k hlt hc
      rw [hI] at this
      (refine endP_pu (by simp) (by first | (simp [rvsS, rvS]; done) | (simp only [rvsS, rvS, ↓R1, R2, R3, R4, keepF, initF, ps, pf, ev, slot, putF, guardC, CO.ods, optAll, evU, binV, binS, intV, intS, strV, strS, unV, unS, pickV, pickS, boolS, slv, intOfA, isIntA, isIntO, bnd, ldV, ldS, pcells, AV.fits, AV.one, AV.cells, putParts, partsS, fresh, nilOk, nilP, pickE, isLd, sqL, sqV, Nat.reduceEqDiff, Nat.reduceAdd, Nat.reduceMul, Nat.reduceSub, Nat.reduceLeDiff, Nat.reduceLT, reduceIte, reduceCtorEq, Int.reduceBNe, Int.reduceBEq, putL]; try simp)) (wk_of_eq ?_) (by (repeat (first | exact St.le_refl _ | (refine St.le_new ?_ (by assumption)) | (refine St.le_newT ?_ (by assumption))))))
      (simp only [resAV, rvV, List.map_cons, List.map_nil, ↓R1, R2, R3, R4, keepF, initF, ps, pf, ev, slot, putF, guardC, CO.ods, optAll, evU, binV, binS, intV, intS, strV, strS, unV, unS, pickV, pickS, boolS, slv, intOfA, isIntA, isIntO, bnd, ldV, ldS, pcells, AV.fits, AV.one, AV.cells, putParts, partsS, fresh, nilOk, nilP, pickE, isLd, sqL, sqV, Nat.reduceEqDiff, Nat.reduceAdd, Nat.reduceMul, Nat.reduceSub, Nat.reduceLeDiff, Nat.reduceLT, reduceIte, reduceCtorEq, Int.reduceBNe, Int.reduceBEq, putL])
      rw [this]
    · rw [hcm] at hc
      rw [← kindL_no t k hlt hc]; exact hI
    · simp only [subF, slot, wk_refl, ↓R1, R2, R3, R4, keepF, initF, ps, pf, ev, slot, putF, guardC, CO.ods, optAll, evU, binV, binS, intV, intS, strV, strS, unV, unS, pickV, pickS, boolS, slv, intOfA, isIntA, isIntO, bnd, ldV, ldS, pcells, AV.fits, AV.one, AV.cells, putParts, partsS, fresh, nilOk, nilP, pickE, isLd, sqL, sqV, Nat.reduceEqDiff, Nat.reduceAdd, Nat.reduceMul, Nat.reduceSub, Nat.reduceLeDiff, Nat.reduceLT, reduceIte, reduceCtorEq, Int.reduceBNe, Int.reduceBEq, putL]; exact wk_k (by omega)
    · exact St.le_refl _
  · have : k = 26 := by simp at hc; omega
    subst this
    simp only [↓R1, R2, R3, R4, keepF, initF, ps, pf, ev, slot, putF, guardC, CO.ods, optAll, evU, binV, binS, intV, intS, strV, strS, unV, unS, pickV, pickS, boolS, slv, intOfA, isIntA, isIntO, bnd, ldV, ldS, pcells, AV.fits, AV.one, AV.cells, putParts, partsS, fresh, nilOk, nilP, pickE, isLd, sqL, sqV, Nat.reduceEqDiff, Nat.reduceAdd, Nat.reduceMul, Nat.reduceSub, Nat.reduceLeDiff, Nat.reduceLT, reduceIte, reduceCtorEq, Int.reduceBNe, Int.reduceBEq, putL]
    repeat' (first | (with_reducible rw [allocV_eq]) | (refine gdV_split (fun hc => ?_) (fun hc => ?_) <;> (try simp only [hc, ↓R1, R2, R3, R4, keepF, initF, ps, pf, ev, slot, putF, guardC, CO.ods, optAll, evU, binV, binS, intV, intS, strV, strS, unV, unS, pickV, pickS, boolS, slv, intOfA, isIntA, isIntO, bnd, ldV, ldS, pcells, AV.fits, AV.one, AV.cells, putParts, partsS, fresh, nilOk, nilP, pickE, isLd, sqL, sqV, Nat.reduceEqDiff, Nat.reduceAdd, Nat.reduceMul, Nat.reduceSub, Nat.reduceLeDiff, Nat.reduceLT, reduceIte, reduceCtorEq, Int.reduceBNe, Int.reduceBEq, putL])) | ((first | refine condV_split (fun hc => ?_) (fun hc => ?_) | (with_reducible intro β hβ; (try simp only [St.box_noneA, St.tip_noneA, St.tip_set, St.box_tip] at hβ); (repeat (obtain ⟨⟨_, _⟩, hβ⟩ := hβ)); (try (have hbis := apart_is (by assumption) hβ; obtain ⟨_, _⟩ := hbis)))) <;> (try simp only [↓R1, R2, R3, R4, keepF, initF, ps, pf, ev, slot, putF, guardC, CO.ods, optAll, evU, binV, binS, intV, intS, strV, strS, unV, unS, pickV, pickS, boolS, slv, intOfA, isIntA, isIntO, bnd, ldV, ldS, pcells, AV.fits, AV.one, AV.cells, putParts, partsS, fresh, nilOk, nilP, pickE, isLd, sqL, sqV, Nat.reduceEqDiff, Nat.reduceAdd, Nat.reduceMul, Nat.reduceSub, Nat.reduceLeDiff, Nat.reduceLT, reduceIte, reduceCtorEq, Int.reduceBNe, Int.reduceBEq, putL])) | (with_reducible refine And.intro ?_ ?_; (focus (first | omega | (intros; (repeat' (with_reducible apply And.intro)) <;> first | omega | (simp only [List.length_append, List.length_cons, List.length_nil]; omega))))) | (with_reducible apply And.intro))
    (refine endP_pu (by simp) (by first | (simp [rvsS, rvS]; done) | (simp only [rvsS, rvS, ↓R1, R2, R3, R4, keepF, initF, ps, pf, ev, slot, putF, guardC, CO.ods, optAll, evU, binV, binS, intV, intS, strV, strS, unV, unS, pickV, pickS, boolS, slv, intOfA, isIntA, isIntO, bnd, ldV, ldS, pcells, AV.fits, AV.one, AV.cells, putParts, partsS, fresh, nilOk, nilP, pickE, isLd, sqL, sqV, Nat.reduceEqDiff, Nat.reduceAdd, Nat.reduceMul, Nat.reduceSub, Nat.reduceLeDiff, Nat.reduceLT, reduceIte, reduceCtorEq, Int.reduceBNe, Int.reduceBEq, putL]; try simp)) (wk_of_eq ?_) (by (repeat (first | exact St.le_refl _ | (refine St.le_new ?_ (by assumption)) | (refine St.le_newT ?_ (by assumption))))))
    (simp only [resAV, rvV, List.map_cons, List.map_nil, ↓R1, R2, R3, R4, keepF, initF, ps, pf, ev, slot, putF, guardC, CO.ods, optAll, evU, binV, binS, intV, intS, strV, strS, unV, unS, pickV, pickS, boolS, slv, intOfA, isIntA, isIntO, bnd, ldV, ldS, pcells, AV.fits, AV.one, AV.cells, putParts, partsS, fresh, nilOk, nilP, pickE, isLd, sqL, sqV, Nat.reduceEqDiff, Nat.reduceAdd, Nat.reduceMul, Nat.reduceSub, Nat.reduceLeDiff, Nat.reduceLT, reduceIte, reduceCtorEq, Int.reduceBNe, Int.reduceBEq, putL])
    rw [← hI]; rfl
theorem wEnc : ∀ k (hk : k < ByteArray.size ⟨lettersL.toArray⟩), Utf8.encode (((ByteArray.mk lettersL.toArray)[k].toNat : Nat) : Int) = ⟨[lettersL[k]?.getD 0].toArray⟩ := by decide
set_option maxHeartbeats 4000000 in
theorem w29 (t : List UInt8) (w : World) :
    Calls Tryd.prog 29 #[.string ⟨t.toArray⟩] w fun e w' => ∃ pos i x, kindT t = .tup [.int .i64 i, .int .i64 x] ∧ e = .returned (.tuple #[.int .i64 i, .int .i64 x]) ∧ w' = w.iter ⟨lettersL.toArray⟩ pos := by
  have hbs : ∀ k (hk : k < ByteArray.size ⟨lettersL.toArray⟩), (ByteArray.mk lettersL.toArray)[k].toNat < 128 := by decide
  go_enter Tryd.func29, Tryd.ntmps29
  go_wp2
  go_loopw [4] (fun _ w' => ∃ pos : Nat, pos ≤ 26 ∧ w' = w.iter ⟨lettersL.toArray⟩ pos ∧ kindL t (26 - pos) pos = kindT t) (fun _ w' => 26 - w'.iterPos w.heap.size)
  case atStart => exact ⟨0, by omega, rfl, rfl⟩
  case round =>
    obtain ⟨pos, hp, rfl, hc⟩ := hrel
    by_cases hp : pos < 26
    · have hnx : ∀ ty, (Instr.next (.pointer (some ⟨w.heap.size, 0, none⟩)) true ty).run Tryd.prog (w.iter ⟨lettersL.toArray⟩ pos) = _ := fun ty => run_next_ascii w ⟨lettersL.toArray⟩ pos ty hp (hbs pos hp)
      go_wp2
      · rename_i hq
        rw [wEnc pos hp] at hq
        go_ret2
        exact ⟨_, _, _, by rw [← hc, kindL_eq t pos hp (by simpa using hq)], rfl, rfl⟩
      · rename_i hq
        rw [wEnc pos hp] at hq
        refine ⟨⟨pos + 1, by omega, rfl, ?_⟩, ?_⟩
        · rw [← kindL_no t pos hp (by simpa using hq)]; exact hc
        · simp [World.iterPos, World.iter_heap]; omega
    · have hnx : ∀ ty, (Instr.next (.pointer (some ⟨w.heap.size, 0, none⟩)) true ty).run Tryd.prog (w.iter ⟨lettersL.toArray⟩ pos) = _ := fun ty => run_next_end w ⟨lettersL.toArray⟩ pos ty hp
      go_wp2
      go_ret2
      have : pos = 26 := by omega
      subst this
      exact ⟨_, _, _, hc.symm, rfl, rfl⟩
end Go.Proofs.YtnmlhilckjmhnaaDoor
namespace Go.Proofs.YtnmlhilckjmhnaaDoor
open Go.Abs Go.Lib
set_option linter.all false
set_option maxRecDepth 100000
theorem p29 (t : List UInt8) : Pu Tryd.prog 29 [.str t] (kindT t) := by
  intro σ
  refine AC.of_calls (Go.Proofs.enters_of Tryd.func29 (by kernel_rfl) rfl) ?_
  intro g w vs hI hv
  obtain ⟨v1, vs, rfl, r1, hv⟩ := hv.cons_inv
  rw [hv.nil_inv, r1.str_inv]
  refine (w29 t w).mono ?_
  rintro e w' ⟨pos, i, x, hk, rfl, rfl⟩
  rw [hk]
  exact ⟨_, rfl, (Go.RowKit.Below.refl _ w).alloc (Nat.le_refl _) _, fun g' _ => Rel.tup_mk (.cons (.int _ _) (.cons (.int _ _) .nil))⟩
theorem numV_one (b : UInt8) : (numV [b]).toNat = b.toNat := by
  have h : ∀ n : Fin 256, (numV [UInt8.ofNat n.val]).toNat = n.val := by decide +kernel
  have := h ⟨b.toNat, b.toNat_lt⟩
  simpa using this
theorem checkE_nat (n : Nat) : (checkE (n : Int) == 0) = decide (n < 26) := by
  simp only [checkE, Bool.cond_eq_ite]; grind
theorem par_eq (s : List UInt8) : parE s = parE' s ∧ parF s = parF' s := by
  rcases Nat.lt_or_ge s.length 8 with h8 | h8
  · have e1 : rd1 s = ⟨s, 0, 5, 0⟩ := by simp [rd1, rd0, takeR, h8]
    have e2 : rd2 s = ⟨s, 0, 5, 0⟩ := by simp [rd2, e1, takeR]
    have ek : kindB s = 0 := by simp [kindB, e1, takeS, numV]; decide
    have e3 : rd3 s = ⟨s, 0, 5, 0⟩ := by simp [rd3, e2, ek, checkE]
    have e4 : rd4 s = ⟨s, 0, 5, 0⟩ := by simp [rd4, e3, takeR]
    simp [parE, parF, parE', parF', e4, endR, failR, h8, show (s.length == 17) = false by simp; omega]
  · have e1 : rd1 s = ⟨s, 8, 0, 0⟩ := by simp [rd1, rd0, takeR, Nat.not_lt.2 h8]
    rcases Nat.lt_or_ge s.length 9 with h9 | h9
    · have e2 : rd2 s = ⟨s, 8, 5, 8⟩ := by simp [rd2, e1, takeR, h9]
      have ek : kindB s = 0 := by simp [kindB, e1, takeS, numV, h9]; decide
      have e3 : rd3 s = ⟨s, 8, 5, 8⟩ := by simp [rd3, e2, ek, checkE]
      have e4 : rd4 s = ⟨s, 8, 5, 8⟩ := by simp [rd4, e3, takeR]
      simp [parE, parF, parE', parF', e4, endR, failR, h9, show ¬ s.length < 8 by omega, show (s.length == 17) = false by simp; omega]
    · have e2 : rd2 s = ⟨s, 9, 0, 0⟩ := by simp [rd2, e1, takeR, Nat.not_lt.2 h9]
      have et : takeS (rd1 s) 1 = [s[8]?.getD 0] := by
        simp [takeS, e1, Nat.not_lt.2 h9]
        rw [List.drop_eq_getElem_cons (by omega), List.getElem?_eq_getElem (by omega)]; rfl
      have ek : kindB s = (s[8]?.getD 0).toNat := by rw [kindB, et, numV_one]; exact wrap_byte _
      have n8 : ¬ s.length < 8 := by omega
      have n9 : ¬ s.length < 9 := by omega
      have hm : min 8 s.length = 8 := by omega
      by_cases hk : 26 ≤ (s[8]?.getD 0).toNat
      · have hc : (checkE (kindB s) == 0) = false := by
          rw [ek, checkE_nat]; simpa using hk
        have e3 : rd3 s = ⟨s, 9, 11, 8⟩ := by simp only [rd3, hc, cond_false]; rw [e2, hm]; rfl
        have e4 : rd4 s = ⟨s, 9, 11, 8⟩ := by rw [rd4, e3]; rfl
        have e5 : (endR (rd4 s)).e = 11 ∧ (endR (rd4 s)).fa = 8 := by
          rw [e4]; cases h : decide (9 < s.length) <;> simp only [endR, failR, h] <;> exact ⟨rfl, rfl⟩
        simp [parE, parF, parE', parF', e5.1, e5.2, hk, n8, n9, show ¬ (s[8]?.getD 0).toNat < 26 by omega]
      · have hc : (checkE (kindB s) == 0) = true := by
          rw [ek, checkE_nat]; simpa using hk
        have e3 : rd3 s = ⟨s, 9, 0, 0⟩ := by simp only [rd3, hc, cond_true]; exact e2
        have k26 : (s[8]?.getD 0).toNat < 26 := by omega
        rcases Nat.lt_or_ge s.length 17 with h17 | h17
        · have e4 : rd4 s = ⟨s, 9, 5, 9⟩ := by simp [rd4, e3, takeR, h17]
          have e5 : (endR (rd4 s)).e = 5 ∧ (endR (rd4 s)).fa = 9 := by
            rw [e4]; cases h : decide (9 < s.length) <;> simp only [endR, failR, h] <;> exact ⟨rfl, rfl⟩
          simp [parE, parF, parE', parF', e5.1, e5.2, hk, n8, n9, k26, h17, show (s.length == 17) = false by simp; omega]
        · have n17 : ¬ s.length < 17 := by omega
          have e4 : rd4 s = ⟨s, 17, 0, 0⟩ := by simp [rd4, e3, takeR, n17]
          by_cases hl : 17 < s.length
          · have e5 : (endR (rd4 s)).e = 4 ∧ (endR (rd4 s)).fa = 17 := by
              rw [e4]; simp [endR, failR, hl]
            simp [parE, parF, parE', parF', e5.1, e5.2, hk, n8, n9, k26, n17, hl, show (s.length == 17) = false by simp; omega]
          · have h17' : s.length = 17 := by omega
            have e5 : (endR (rd4 s)).e = 0 ∧ (endR (rd4 s)).fa = 0 := by
              rw [e4]; simp [endR, hl]
            have t0 : takeS (rd0 s) 8 = s.take 8 := by simp [takeS, rd0, n8]
            have t3 : takeS (rd3 s) 8 = s.drop 9 := by
              rw [e3]; simp only [takeS, beq_self_eq_true, cond_true]
              rw [show decide (s.length < 9 + 8) = false by simp; omega, cond_false]
              exact List.take_of_length_le (by simp; omega)
            have d8 : decide ((s[8]?.getD 0).toNat < 26) = true := by simpa using k26
            have d9 : decide (26 ≤ (s[8]?.getD 0).toNat) = false := by simpa using hk
            have z : ((0 : Int) == 0) = true := rfl
            simp only [parE, parF, parE', parF', e5.1, n8, n9, n17, hl, d8, d9, h17', t0, t3, ek, z, cond_true]
            simp
theorem parC_is (s : List UInt8) : ∃ c0 c1 c2 c3 c4, parE' s = [.int .u64 c0, .int .i64 c1, .int .i64 c2] ∧ parF' s = [.int .i64 c3, .int .i64 c4] := by
  unfold parE' parF'
  cases (s.length == 17 && decide ((s[8]?.getD 0).toNat < 26)) <;> cases decide (s.length < 8) <;> cases decide (s.length < 9) <;> cases decide (26 ≤ (s[8]?.getD 0).toNat) <;> cases decide (s.length < 17) <;> cases decide (17 < s.length) <;> exact ⟨_, _, _, _, _, rfl, rfl⟩
theorem kindT_is (s : List UInt8) : ∃ c0 c1, kindT s = .tup [.int .i64 c0, .int .i64 c1] := by
  have : ∀ n k, ∃ c0 c1, kindL s n k = .tup [.int .i64 c0, .int .i64 c1] := by
    intro n
    induction n with
    | zero => intro k; exact ⟨_, _, rfl⟩
    | succ n ih =>
      intro k
      unfold kindL
      cases (s == [lettersL[k]?.getD 0])
      · exact ih _
      · exact ⟨_, _, rfl⟩
  exact this _ _
theorem law_EventBytes_far (l : BitVec 64) (k v : Int) (s : List UInt8) (kd : Int) (t : List UInt8) (hs : 60 < s.length) : PuG Tryd.prog gl3 6 [.agg [.int .u64 l.toNat, .int .i64 k, .int .i64 v], .str s, .int .i64 kd, .str t] (.bool true) := by
  have hb1 : decide (60 < (s.length : Int)) = true := by simp; omega
  (refine PuG_intro c6 b6 (Nat.le_of_ble_eq_true rfl) fun σ hσ => ?_; simp only [c6, ↓R1, R2, R3, R4, keepF, initF, ps, pf, ev, slot, putF, guardC, CO.ods, optAll, evU, binV, binS, intV, intS, strV, strS, unV, unS, pickV, pickS, boolS, slv, intOfA, isIntA, isIntO, bnd, ldV, ldS, pcells, AV.fits, AV.one, AV.cells, putParts, partsS, fresh, nilOk, nilP, pickE, isLd, sqL, sqV, Nat.reduceEqDiff, Nat.reduceAdd, Nat.reduceMul, Nat.reduceSub, Nat.reduceLeDiff, Nat.reduceLT, reduceIte, reduceCtorEq, Int.reduceBNe, Int.reduceBEq, putL, hb1])
  repeat' (first | (with_reducible rw [allocV_eq]) | (refine gdV_split (fun hc => ?_) (fun hc => ?_) <;> (try simp only [hc, ↓R1, R2, R3, R4, keepF, initF, ps, pf, ev, slot, putF, guardC, CO.ods, optAll, evU, binV, binS, intV, intS, strV, strS, unV, unS, pickV, pickS, boolS, slv, intOfA, isIntA, isIntO, bnd, ldV, ldS, pcells, AV.fits, AV.one, AV.cells, putParts, partsS, fresh, nilOk, nilP, pickE, isLd, sqL, sqV, Nat.reduceEqDiff, Nat.reduceAdd, Nat.reduceMul, Nat.reduceSub, Nat.reduceLeDiff, Nat.reduceLT, reduceIte, reduceCtorEq, Int.reduceBNe, Int.reduceBEq, putL, hb1])) | ((first | refine condV_split (fun hc => ?_) (fun hc => ?_) | (with_reducible intro β hβ; (try simp only [St.box_noneA, St.tip_noneA, St.tip_set, St.box_tip] at hβ); (repeat (obtain ⟨⟨_, _⟩, hβ⟩ := hβ)); (try (have hbis := apart_is (by assumption) hβ; obtain ⟨_, _⟩ := hbis)))) <;> (try simp only [↓R1, R2, R3, R4, keepF, initF, ps, pf, ev, slot, putF, guardC, CO.ods, optAll, evU, binV, binS, intV, intS, strV, strS, unV, unS, pickV, pickS, boolS, slv, intOfA, isIntA, isIntO, bnd, ldV, ldS, pcells, AV.fits, AV.one, AV.cells, putParts, partsS, fresh, nilOk, nilP, pickE, isLd, sqL, sqV, Nat.reduceEqDiff, Nat.reduceAdd, Nat.reduceMul, Nat.reduceSub, Nat.reduceLeDiff, Nat.reduceLT, reduceIte, reduceCtorEq, Int.reduceBNe, Int.reduceBEq, putL, hb1])) | (with_reducible refine And.intro ?_ ?_; (focus (first | omega | (intros; (repeat' (with_reducible apply And.intro)) <;> first | omega | (simp only [List.length_append, List.length_cons, List.length_nil]; omega))))) | (with_reducible apply And.intro) | ((first | refine PuG.to (awake_pu) hσ (wkL_refl _) ?_); (try simp only [↓R1, R2, R3, R4, keepF, initF, ps, pf, ev, slot, putF, guardC, CO.ods, optAll, evU, binV, binS, intV, intS, strV, strS, unV, unS, pickV, pickS, boolS, slv, intOfA, isIntA, isIntO, bnd, ldV, ldS, pcells, AV.fits, AV.one, AV.cells, putParts, partsS, fresh, nilOk, nilP, pickE, isLd, sqL, sqV, Nat.reduceEqDiff, Nat.reduceAdd, Nat.reduceMul, Nat.reduceSub, Nat.reduceLeDiff, Nat.reduceLT, reduceIte, reduceCtorEq, Int.reduceBNe, Int.reduceBEq, putL, hb1])))
  (refine endP_pu (by simp) (by first | (simp [rvsS, rvS]; done) | (simp only [rvsS, rvS, ↓R1, R2, R3, R4, keepF, initF, ps, pf, ev, slot, putF, guardC, CO.ods, optAll, evU, binV, binS, intV, intS, strV, strS, unV, unS, pickV, pickS, boolS, slv, intOfA, isIntA, isIntO, bnd, ldV, ldS, pcells, AV.fits, AV.one, AV.cells, putParts, partsS, fresh, nilOk, nilP, pickE, isLd, sqL, sqV, Nat.reduceEqDiff, Nat.reduceAdd, Nat.reduceMul, Nat.reduceSub, Nat.reduceLeDiff, Nat.reduceLT, reduceIte, reduceCtorEq, Int.reduceBNe, Int.reduceBEq, putL, hb1]; try simp)) (wk_of_eq ?_) (by (repeat (first | exact St.le_refl _ | (refine St.le_new ?_ (by assumption)) | (refine St.le_newT ?_ (by assumption))))))
  (simp only [resAV, rvV, List.map_cons, List.map_nil, ↓R1, R2, R3, R4, keepF, initF, ps, pf, ev, slot, putF, guardC, CO.ods, optAll, evU, binV, binS, intV, intS, strV, strS, unV, unS, pickV, pickS, boolS, slv, intOfA, isIntA, isIntO, bnd, ldV, ldS, pcells, AV.fits, AV.one, AV.cells, putParts, partsS, fresh, nilOk, nilP, pickE, isLd, sqL, sqV, Nat.reduceEqDiff, Nat.reduceAdd, Nat.reduceMul, Nat.reduceSub, Nat.reduceLeDiff, Nat.reduceLT, reduceIte, reduceCtorEq, Int.reduceBNe, Int.reduceBEq, putL, hb1])
set_option maxHeartbeats 4000000 in
theorem law_EventBytes (l : BitVec 64) (k v : Int) (s : List UInt8) (kd : Int) (t : List UInt8) : PuG Tryd.prog gl3 6 [.agg [.int .u64 l.toNat, .int .i64 k, .int .i64 v], .str s, .int .i64 kd, .str t] (.bool true) := by
  rcases Nat.lt_or_ge 60 s.length with hs | hs
  · exact law_EventBytes_far l k v s kd t hs
  have hb1 : decide (60 < (s.length : Int)) = false := by simp; omega
  have h1 := p13 l k v
  have h2 := p22 l k v
  have h3 := p23 s (by omega)
  have h4 := p24 s (by omega)
  rw [(par_eq s).1, (par_eq s).2] at h3
  obtain ⟨d0, d1, d2, d3, d4, hE, hF⟩ := parC_is s
  rw [hE, hF] at h3 h4
  have h5 := p25 l.toNat k v
  have h6 := p26 l.toNat k v
  have h7 := p27 kd
  have h8 := p28 kd
  have h9 := p29 t
  have h10 := p30 t
  obtain ⟨i0, i1, hK⟩ := kindT_is t
  rw [hK] at h9 h10
  (refine PuG_intro c6 b6 (Nat.le_of_ble_eq_true rfl) fun σ hσ => ?_; simp only [c6, ↓R1, R2, R3, R4, keepF, initF, ps, pf, ev, slot, putF, guardC, CO.ods, optAll, evU, binV, binS, intV, intS, strV, strS, unV, unS, pickV, pickS, boolS, slv, intOfA, isIntA, isIntO, bnd, ldV, ldS, pcells, AV.fits, AV.one, AV.cells, putParts, partsS, fresh, nilOk, nilP, pickE, isLd, sqL, sqV, Nat.reduceEqDiff, Nat.reduceAdd, Nat.reduceMul, Nat.reduceSub, Nat.reduceLeDiff, Nat.reduceLT, reduceIte, reduceCtorEq, Int.reduceBNe, Int.reduceBEq, putL, hb1])
  repeat' (first | (with_reducible rw [allocV_eq]) | (refine gdV_split (fun hc => ?_) (fun hc => ?_) <;> (try simp only [hc, ↓R1, R2, R3, R4, keepF, initF, ps, pf, ev, slot, putF, guardC, CO.ods, optAll, evU, binV, binS, intV, intS, strV, strS, unV, unS, pickV, pickS, boolS, slv, intOfA, isIntA, isIntO, bnd, ldV, ldS, pcells, AV.fits, AV.one, AV.cells, putParts, partsS, fresh, nilOk, nilP, pickE, isLd, sqL, sqV, Nat.reduceEqDiff, Nat.reduceAdd, Nat.reduceMul, Nat.reduceSub, Nat.reduceLeDiff, Nat.reduceLT, reduceIte, reduceCtorEq, Int.reduceBNe, Int.reduceBEq, putL, hb1])) | ((first | refine condV_split (fun hc => ?_) (fun hc => ?_) | (with_reducible intro β hβ; (try simp only [St.box_noneA, St.tip_noneA, St.tip_set, St.box_tip] at hβ); (repeat (obtain ⟨⟨_, _⟩, hβ⟩ := hβ)); (try (have hbis := apart_is (by assumption) hβ; obtain ⟨_, _⟩ := hbis)))) <;> (try simp only [↓R1, R2, R3, R4, keepF, initF, ps, pf, ev, slot, putF, guardC, CO.ods, optAll, evU, binV, binS, intV, intS, strV, strS, unV, unS, pickV, pickS, boolS, slv, intOfA, isIntA, isIntO, bnd, ldV, ldS, pcells, AV.fits, AV.one, AV.cells, putParts, partsS, fresh, nilOk, nilP, pickE, isLd, sqL, sqV, Nat.reduceEqDiff, Nat.reduceAdd, Nat.reduceMul, Nat.reduceSub, Nat.reduceLeDiff, Nat.reduceLT, reduceIte, reduceCtorEq, Int.reduceBNe, Int.reduceBEq, putL, hb1])) | (with_reducible refine And.intro ?_ ?_; (focus (first | omega | (intros; (repeat' (with_reducible apply And.intro)) <;> first | omega | (simp only [List.length_append, List.length_cons, List.length_nil]; omega))))) | (with_reducible apply And.intro) | ((first | refine Pu.to (h1) (wkL_refl _) ?_ | refine callDV_pu (h1) (wkL_refl _) ?_ | refine Pu.to (h2) (wkL_refl _) ?_ | refine callDV_pu (h2) (wkL_refl _) ?_ | refine Pu.to (h3) (wkL_refl _) ?_ | refine callDV_pu (h3) (wkL_refl _) ?_ | refine Pu.to (h4) (wkL_refl _) ?_ | refine callDV_pu (h4) (wkL_refl _) ?_ | refine Pu.to (h5) (wkL_refl _) ?_ | refine callDV_pu (h5) (wkL_refl _) ?_ | refine Pu.to (h6) (wkL_refl _) ?_ | refine callDV_pu (h6) (wkL_refl _) ?_ | refine Pu.to (h7) (wkL_refl _) ?_ | refine callDV_pu (h7) (wkL_refl _) ?_ | refine Pu.to (h8) (wkL_refl _) ?_ | refine callDV_pu (h8) (wkL_refl _) ?_ | refine Pu.to (h9) (wkL_refl _) ?_ | refine callDV_pu (h9) (wkL_refl _) ?_ | refine Pu.to (h10) (wkL_refl _) ?_ | refine callDV_pu (h10) (wkL_refl _) ?_ | refine PuG.to (awake_pu) hσ (wkL_refl _) ?_ | (refine callGV_puG hσ (fun hgv => ⟨?_, (awake_pu), wkL_refl _⟩) ?_; (first | trivial | (focus (simp only [↓R1, R2, R3, R4, keepF, initF, ps, pf, ev, slot, putF, guardC, CO.ods, optAll, evU, binV, binS, intV, intS, strV, strS, unV, unS, pickV, pickS, boolS, slv, intOfA, isIntA, isIntO, bnd, ldV, ldS, pcells, AV.fits, AV.one, AV.cells, putParts, partsS, fresh, nilOk, nilP, pickE, isLd, sqL, sqV, Nat.reduceEqDiff, Nat.reduceAdd, Nat.reduceMul, Nat.reduceSub, Nat.reduceLeDiff, Nat.reduceLT, reduceIte, reduceCtorEq, Int.reduceBNe, Int.reduceBEq, putL, hb1]; done))))); (try simp only [↓R1, R2, R3, R4, keepF, initF, ps, pf, ev, slot, putF, guardC, CO.ods, optAll, evU, binV, binS, intV, intS, strV, strS, unV, unS, pickV, pickS, boolS, slv, intOfA, isIntA, isIntO, bnd, ldV, ldS, pcells, AV.fits, AV.one, AV.cells, putParts, partsS, fresh, nilOk, nilP, pickE, isLd, sqL, sqV, Nat.reduceEqDiff, Nat.reduceAdd, Nat.reduceMul, Nat.reduceSub, Nat.reduceLeDiff, Nat.reduceLT, reduceIte, reduceCtorEq, Int.reduceBNe, Int.reduceBEq, putL, hb1])))
  all_goals (refine endP_pu (by simp) (by first | (simp [rvsS, rvS]; done) | (simp only [rvsS, rvS, ↓R1, R2, R3, R4, keepF, initF, ps, pf, ev, slot, putF, guardC, CO.ods, optAll, evU, binV, binS, intV, intS, strV, strS, unV, unS, pickV, pickS, boolS, slv, intOfA, isIntA, isIntO, bnd, ldV, ldS, pcells, AV.fits, AV.one, AV.cells, putParts, partsS, fresh, nilOk, nilP, pickE, isLd, sqL, sqV, Nat.reduceEqDiff, Nat.reduceAdd, Nat.reduceMul, Nat.reduceSub, Nat.reduceLeDiff, Nat.reduceLT, reduceIte, reduceCtorEq, Int.reduceBNe, Int.reduceBEq, putL, hb1]; try simp)) (wk_of_eq ?_) (by (repeat (first | exact St.le_refl _ | (refine St.le_new ?_ (by assumption)) | (refine St.le_newT ?_ (by assumption))))))
  all_goals (simp only [resAV, rvV, List.map_cons, List.map_nil, ↓R1, R2, R3, R4, keepF, initF, ps, pf, ev, slot, putF, guardC, CO.ods, optAll, evU, binV, binS, intV, intS, strV, strS, unV, unS, pickV, pickS, boolS, slv, intOfA, isIntA, isIntO, bnd, ldV, ldS, pcells, AV.fits, AV.one, AV.cells, putParts, partsS, fresh, nilOk, nilP, pickE, isLd, sqL, sqV, Nat.reduceEqDiff, Nat.reduceAdd, Nat.reduceMul, Nat.reduceSub, Nat.reduceLeDiff, Nat.reduceLT, reduceIte, reduceCtorEq, Int.reduceBNe, Int.reduceBEq, putL, hb1])
theorem bv_of {n : Int} (h0 : 0 ≤ n) (h1 : n ≤ 18446744073709551615) : ∃ l : BitVec 64, (l.toNat : Int) = n :=
  ⟨BitVec.ofNat 64 n.toNat, by rw [BitVec.toNat_ofNat, Nat.mod_eq_of_lt (by omega)]; omega⟩
end Go.Proofs.YtnmlhilckjmhnaaDoor
namespace Go.Proofs.YtnmlhilckjmhnaaDoor
open Go.Abs
set_option linter.all false
theorem arg_EventBytes (x : Int × Int × Int) (s : List UInt8) (kd : Int) (t : List UInt8) (h : U64 x.1) : PuG Tryd.prog gl3 6 [.agg (cEv x), .str s, .int .i64 kd, .str t] (.bool true) := by
  obtain ⟨l, hl⟩ := bv_of h.1 h.2
  have := law_EventBytes l x.2.1 x.2.2 s kd t
  rw [hl] at this
  exact this
end Go.Proofs.YtnmlhilckjmhnaaDoor
