/-
  Labels: a loop over the categories.
-/
import Derived.Test.YtnmlhilckjmhnaaDoorLW1
namespace Go.Proofs.YtnmlhilckjmhnaaDoor
open Go.Abs
set_option linter.all false
set_option maxRecDepth 100000

theorem w_ne (b : BitVec 64) : ((b.toNat : Int) != 0) = !(b == 0#64) := by
  rw [show (0 : Int) = ((0#64 : BitVec 64).toNat : Int) by rfl, bne, eq64]
theorem w_sub1 (b : BitVec 64) : IntKind.u64.wrap ((b.toNat : Int) - 1) = ((b - 1#64).toNat : Int) := by
  rw [IntKind.wrap_u64, BitVec.toNat_sub]
  simp only [BitVec.toNat_ofNat]
  have := b.isLt
  omega
theorem p63 (a : BitVec 64) (σ : St) : AC Tryd.prog 63 [.int .u64 a.toNat] σ (fun r s => ∃ β, σ.box β = none ∧ r = .fn 77 [.ptr β 0] ∧ s = σ.setBox β [.int .u64 a.toNat]) := by
  refine AC_intro c63 b63 (Nat.le_of_ble_eq_true rfl) ?_
  simp only [c63, ↓R1, R2, R3, R4, keepF, initF, ps, pf, ev, slot, putF, guardC, CO.ods, optAll, evU, binV, binS, intV, intS, strV, strS, unV, unS, pickV, pickS, boolS, slv, intOfA, isIntA, isIntO, bnd, ldV, ldS, pcells, AV.fits, AV.one, AV.cells, putParts, partsS, fresh, nilOk, nilP, pickE, isLd, sqL, sqV, Nat.reduceEqDiff, Nat.reduceAdd, Nat.reduceMul, Nat.reduceSub, Nat.reduceLeDiff, Nat.reduceLT, reduceIte, reduceCtorEq, Int.reduceBNe, Int.reduceBEq, putL]
  intro β hβ
  refine endP_id (by simp) (by simp [rvsS, rvS]) ?_
  exact ⟨β, hβ, rfl, rfl⟩

/-- A loop over the categories of a label: 'T pre b' is the state when 'pre' have come, b's categories being still to come. -/
theorem RF_each {prs : List Nat} {asg body : CC} {fr : Fr} {Q : Exit → Fr → St → Prop} {β : Nat} (a : BitVec 64) (T : List Nat → BitVec 64 → St) (I : List Nat → Prop) (hps : prs.length = 1) (hI0 : I [])
    (hb : ∀ pre b, (T pre b).box β = some [.int .u64 b.toNat]) (hs : ∀ pre b b', (T pre b).setBox β [.int .u64 b'.toNat] = T pre b') (hg : ∀ pre b, GlobsOk gls (T pre b)) (hl : ∀ pre b L, (T pre b).lp L = (T [] a).lp L)
    (hround : ∀ L r pre k b, (T [] a).lp L = none → I pre → (∃ rest, cats a = pre ++ k :: rest) → aC Tryd.prog asg (putL prs [.int .i64 (k : Nat)] fr) ((T pre b).setLp L (r, fr)) (fun e fr1 σ2 => e = .normal ∧ σ2 = (T pre b).setLp L (r, fr) ∧
      aC Tryd.prog body fr1 ((T pre b).setLp L (busy r, fr)) (fun e _ σ3 => match e with
        | .normal => ∃ s, σ3 = s.setLp L (busy r, fr) ∧ s.lp L = none ∧ s = T (pre ++ [k]) b ∧ I (pre ++ [k])
        | .ret => ∃ s, σ3 = s.setLp L (busy r, fr) ∧ s.lp L = none ∧ Q .ret fr s
        | .exit id => ∃ s, σ3 = s.setLp L (busy r, fr) ∧ s.lp L = none ∧ Q (.exit id) fr s
        | _ => False)))
    (hend : I (cats a) → Q .normal fr (T (cats a) 0#64)) : RF Tryd.prog 77 [.ptr β 0] prs asg body fr (T [] a) Q := by
  refine ⟨by kernel_rfl, fun L r hL hr1 hr2 hY => ?_⟩
  have hg' : ∀ pre b, GlobsOk gls ((T pre b).setLp L (r, fr)) := fun pre b => hg pre b
  have hb' : ∀ pre b, ((T pre b).setLp L (r, fr)).box β = some [.int .u64 b.toNat] := fun pre b => hb pre b
  have hs' : ∀ pre b b', ((T pre b).setLp L (r, fr)).setBox β [.int .u64 b'.toNat] = (T pre b').setLp L (r, fr) := fun pre b b' => by rw [← St.setBox_setLp, hs]
  have hY' : ∀ pre k b, I pre → (∃ rest, cats a = pre ++ k :: rest) → YC Tryd.prog L [.int .i64 (k : Nat)] ((T pre b).setLp L (r, fr)) _ := fun pre k b hi hk =>
    RF_round (by rw [hl, hL]) hY (by simpa using hps.symm) (hround L r pre k b hL hi hk)
  refine AC_intro c77 b77 (Nat.le_of_ble_eq_true rfl) ?_
  simp only [c77, ↓R1, R2, R3, R4, keepF, initF, ps, pf, ev, slot, putF, guardC, CO.ods, optAll, evU, binV, binS, intV, intS, strV, strS, unV, unS, pickV, pickS, boolS, slv, intOfA, isIntA, isIntO, bnd, ldV, ldS, pcells, AV.fits, AV.one, AV.cells, putParts, partsS, fresh, nilOk, nilP, pickE, isLd, sqL, sqV, Nat.reduceEqDiff, Nat.reduceAdd, Nat.reduceMul, Nat.reduceSub, Nat.reduceLeDiff, Nat.reduceLT, reduceIte, reduceCtorEq, Int.reduceBNe, Int.reduceBEq, putL]
  refine loopV_st (α := List Nat × BitVec 64) (fun _ => [(0, .yld L), (1, .ptr β 0)]) (fun z => (T z.1 z.2).setLp L (r, fr)) (fun z => cats a = z.1 ++ cats z.2 ∧ I z.1) (fun z => (cats z.2).length) ([], a) (by simp [subF, slot, wk_refl]) (St.le_refl _) ⟨rfl, hI0⟩ ?_
  rintro ⟨pre, b⟩ ⟨hI, hIp⟩
  simp only at hI hIp ⊢
  simp only [hb, w_ne, ↓R1, R2, R3, R4, keepF, initF, ps, pf, ev, slot, putF, guardC, CO.ods, optAll, evU, binV, binS, intV, intS, strV, strS, unV, unS, pickV, pickS, boolS, slv, intOfA, isIntA, isIntO, bnd, ldV, ldS, pcells, AV.fits, AV.one, AV.cells, putParts, partsS, fresh, nilOk, nilP, pickE, isLd, sqL, sqV, Nat.reduceEqDiff, Nat.reduceAdd, Nat.reduceMul, Nat.reduceSub, Nat.reduceLeDiff, Nat.reduceLT, reduceIte, reduceCtorEq, Int.reduceBNe, Int.reduceBEq, putL]
  refine condV_split (fun hc => ?_) (fun hc => ?_)
  · have hb0 : b ≠ 0#64 := by simpa using hc
    have hcs := cats_step b hb0
    simp only [hb, ↓R1, R2, R3, R4, keepF, initF, ps, pf, ev, slot, putF, guardC, CO.ods, optAll, evU, binV, binS, intV, intS, strV, strS, unV, unS, pickV, pickS, boolS, slv, intOfA, isIntA, isIntO, bnd, ldV, ldS, pcells, AV.fits, AV.one, AV.cells, putParts, partsS, fresh, nilOk, nilP, pickE, isLd, sqL, sqV, Nat.reduceEqDiff, Nat.reduceAdd, Nat.reduceMul, Nat.reduceSub, Nat.reduceLeDiff, Nat.reduceLT, reduceIte, reduceCtorEq, Int.reduceBNe, Int.reduceBEq, putL]
    refine PuG.to (p78 b hb0) (hg' _ _) (wkL_refl _) ?_
    simp only [hb, ↓R1, R2, R3, R4, keepF, initF, ps, pf, ev, slot, putF, guardC, CO.ods, optAll, evU, binV, binS, intV, intS, strV, strS, unV, unS, pickV, pickS, boolS, slv, intOfA, isIntA, isIntO, bnd, ldV, ldS, pcells, AV.fits, AV.one, AV.cells, putParts, partsS, fresh, nilOk, nilP, pickE, isLd, sqL, sqV, Nat.reduceEqDiff, Nat.reduceAdd, Nat.reduceMul, Nat.reduceSub, Nat.reduceLeDiff, Nat.reduceLT, reduceIte, reduceCtorEq, Int.reduceBNe, Int.reduceBEq, putL]
    refine (hY' pre (Lib.ctz 64 b.toNat) b hIp ⟨_, by rw [hI, hcs]⟩).mono ?_
    rintro v s' (⟨rfl, s, rfl, hsl, rfl, hIn⟩ | ⟨rfl, h2⟩)
    · simp only [hb, w_sub1, bits_and64, hs', ↓R1, R2, R3, R4, keepF, initF, ps, pf, ev, slot, putF, guardC, CO.ods, optAll, evU, binV, binS, intV, intS, strV, strS, unV, unS, pickV, pickS, boolS, slv, intOfA, isIntA, isIntO, bnd, ldV, ldS, pcells, AV.fits, AV.one, AV.cells, putParts, partsS, fresh, nilOk, nilP, pickE, isLd, sqL, sqV, Nat.reduceEqDiff, Nat.reduceAdd, Nat.reduceMul, Nat.reduceSub, Nat.reduceLeDiff, Nat.reduceLT, reduceIte, reduceCtorEq, Int.reduceBNe, Int.reduceBEq, putL]
      refine ⟨(pre ++ [Lib.ctz 64 b.toNat], b &&& b - 1#64), ⟨by simp only; rw [hI, hcs]; simp, hIn⟩, by simp [subF, slot, wk_refl], St.le_refl _, by simp only [hcs, List.length_cons]; omega⟩
    · simp only [↓R1, R2, R3, R4, keepF, initF, ps, pf, ev, slot, putF, guardC, CO.ods, optAll, evU, binV, binS, intV, intS, strV, strS, unV, unS, pickV, pickS, boolS, slv, intOfA, isIntA, isIntO, bnd, ldV, ldS, pcells, AV.fits, AV.one, AV.cells, putParts, partsS, fresh, nilOk, nilP, pickE, isLd, sqL, sqV, Nat.reduceEqDiff, Nat.reduceAdd, Nat.reduceMul, Nat.reduceSub, Nat.reduceLeDiff, Nat.reduceLT, reduceIte, reduceCtorEq, Int.reduceBNe, Int.reduceBEq, putL]
      refine endP_id (by simp) (by simp [rvsS]) (.inr ?_)
      rcases h2 with ⟨s, rfl, h3, h4⟩ | ⟨id, s, rfl, h3, h4⟩
      · exact .inl ⟨St.lp_same _ _ _, by rw [St.drop_set h3]; exact h4⟩
      · exact .inr ⟨id, St.lp_same _ _ _, by rw [St.drop_set h3]; exact h4⟩
  · have hb0 : b = 0#64 := by simpa using hc
    subst hb0
    rw [cats_zero, List.append_nil] at hI
    subst hI
    simp only [↓R1, R2, R3, R4, keepF, initF, ps, pf, ev, slot, putF, guardC, CO.ods, optAll, evU, binV, binS, intV, intS, strV, strS, unV, unS, pickV, pickS, boolS, slv, intOfA, isIntA, isIntO, bnd, ldV, ldS, pcells, AV.fits, AV.one, AV.cells, putParts, partsS, fresh, nilOk, nilP, pickE, isLd, sqL, sqV, Nat.reduceEqDiff, Nat.reduceAdd, Nat.reduceMul, Nat.reduceSub, Nat.reduceLeDiff, Nat.reduceLT, reduceIte, reduceCtorEq, Int.reduceBNe, Int.reduceBEq, putL]
    refine endP_id (by simp) (by simp [rvsS]) (.inl ⟨St.lp_same _ _ _, ?_⟩)
    rw [St.drop_set (by rw [hl, hL])]
    exact hend hIp
/-- The numbers as the elements of a list of ints. -/
def ints (l : List Nat) : List AV := l.map fun n => AV.int .i64 (n : Nat)
theorem ints_len (l : List Nat) : (ints l).length = l.length := by simp [ints]
theorem ints_snoc (l : List Nat) (k : Nat) : ints l ++ [.int .i64 (k : Nat)] = ints (l ++ [k]) := by simp [ints]
end Go.Proofs.YtnmlhilckjmhnaaDoor
