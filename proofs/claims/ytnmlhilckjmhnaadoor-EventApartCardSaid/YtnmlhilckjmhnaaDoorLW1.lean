/-
  Labels: the categories one by one.
-/
import Derived.Test.YtnmlhilckjmhnaaDoorC03
import Derived.Test.YtnmlhilckjmhnaaDoorLS2
import Derived.Test.YtnmlhilckjmhnaaDoorAbs26
import Derived.Shelf.Spec.TrailingZeros
namespace Go.Proofs.YtnmlhilckjmhnaaDoor
open Go.Abs
set_option linter.all false
set_option maxRecDepth 100000

def gTab : List AV := Lib.deBruijn64tab.map fun n => AV.int .u8 (n : Nat)
def gls : List (Nat × List AV) := [(0, gTab)]
theorem gls_get {σ : St} (h : GlobsOk gls σ) : σ.glob 0 = some gTab := h _ _ rfl
theorem bits_ofNat (a : BitVec 64) : (a.toNat : Int) = ((a.toNat : Nat) : Int) := rfl
theorem w_zero {a : BitVec 64} (h : a.toNat = 0) : a = 0#64 := BitVec.eq_of_toNat_eq (by simpa using h)
theorem map_getD (l : List Nat) (i c : Nat) (h : i < l.length) (e : l.getD i 0 = c) : (l.map fun n => AV.int .u8 (n : Nat))[i]? = some (.int .u8 (c : Int)) := by
  rw [List.getD_eq_getElem?_getD, List.getElem?_eq_getElem h] at e
  rw [List.getElem?_map, List.getElem?_eq_getElem h, ← e]
  rfl
/-- What the table's place is reckoned to be. -/
theorem tz_place (a : BitVec 64) (ha : a ≠ 0#64) : ∃ idx : Nat, (IntKind.u64.wrap (bits .and .u64 (a.toNat : Int) (IntKind.u64.wrap (0 - (a.toNat : Int))) * 285870213051353865)).fdiv (2 ^ min (Int.toNat 58) IntKind.u64.bits) = (idx : Int) ∧ idx < 64 ∧ gTab[idx]? = some (.int .u8 ((Lib.ctz 64 a.toNat : Nat) : Int)) := by
  have h0 : a.toNat ≠ 0 := fun h => ha (w_zero h)
  obtain ⟨hlow, hk⟩ := Lib.lowest_bit 64 a.toNat h0 a.isLt
  obtain ⟨hi, htab⟩ := Lib.deBruijn64_at _ hk
  have key := Go.Proofs.tz64_key a.toNat _ a.isLt h0 hlow
  generalize 2 ^ Lib.ctz 64 a.toNat * 285870213051353865 % 18446744073709551616 / 288230376151711744 = idx at hi htab key
  obtain ⟨c, hc⟩ : ∃ c, Lib.ctz 64 a.toNat = c := ⟨_, rfl⟩
  rw [hc] at htab ⊢
  clear hc hlow hk
  refine ⟨idx, ?_, hi, ?_⟩
  · have e : (2 : Int) ^ min (Int.toNat 58) IntKind.u64.bits = 288230376151711744 := by simp [IntKind.bits]
    rw [e, Int.zero_sub, Int.fdiv_eq_ediv_of_nonneg _ (by decide : (0 : Int) ≤ 288230376151711744)]; exact key
  · exact map_getD Lib.deBruijn64tab idx c (show idx < 64 from hi) htab
theorem gTab_len : gTab.length = 64 := by decide
theorem ctz_i64 (a : BitVec 64) (ha : a ≠ 0#64) : IntKind.i64.wrap ((Lib.ctz 64 a.toNat : Nat) : Int) = ((Lib.ctz 64 a.toNat : Nat) : Int) := by
  have := (ctz_bits a ha).1
  rw [wrap64 (by omega) (by omega)]
theorem p78 (a : BitVec 64) (ha : a ≠ 0#64) : PuG Tryd.prog gls 78 [.int .u64 a.toNat] (.int .i64 ((Lib.ctz 64 a.toNat : Nat) : Int)) := by
  have h0 : a.toNat ≠ 0 := fun h => ha (w_zero h)
  obtain ⟨idx, hidx, hi, ht⟩ := tz_place a ha
  have hz : ((a.toNat : Int) == 0) = false := by simp; omega
  (refine PuG_intro c78 b78 (Nat.le_of_ble_eq_true rfl) fun σ hσ => ?_; simp only [c78, ↓R1, R2, R3, R4, keepF, initF, ps, pf, ev, slot, putF, guardC, CO.ods, optAll, evU, binV, binS, intV, intS, strV, strS, unV, unS, pickV, pickS, boolS, slv, intOfA, isIntA, isIntO, bnd, ldV, ldS, pcells, AV.fits, AV.one, AV.cells, putParts, partsS, fresh, nilOk, nilP, pickE, isLd, sqL, sqV, Nat.reduceEqDiff, Nat.reduceAdd, Nat.reduceMul, Nat.reduceSub, Nat.reduceLeDiff, Nat.reduceLT, reduceIte, reduceCtorEq, Int.reduceBNe, Int.reduceBEq, putL])
  have hg := gls_get hσ
  have hl := gTab_len
  have hd : (List.drop (idx * 1) gTab)[0]? = some (.int .u8 ((Lib.ctz 64 a.toNat : Nat) : Int)) := by
    rw [Nat.mul_one, List.getElem?_drop, Nat.add_zero]; exact ht
  simp only [hz, hg, hidx, ↓R1, R2, R3, R4, keepF, initF, ps, pf, ev, slot, putF, guardC, CO.ods, optAll, evU, binV, binS, intV, intS, strV, strS, unV, unS, pickV, pickS, boolS, slv, intOfA, isIntA, isIntO, bnd, ldV, ldS, pcells, AV.fits, AV.one, AV.cells, putParts, partsS, fresh, nilOk, nilP, pickE, isLd, sqL, sqV, Nat.reduceEqDiff, Nat.reduceAdd, Nat.reduceMul, Nat.reduceSub, Nat.reduceLeDiff, Nat.reduceLT, reduceIte, reduceCtorEq, Int.reduceBNe, Int.reduceBEq, putL]
  rw [hd]
  refine ⟨by decide, ⟨by omega, by omega, by omega⟩, by simp; omega, trivial, ?_⟩
  (refine endP_pu (by simp) (by first | (simp [rvsS, rvS]; done) | (simp only [rvsS, rvS, ↓R1, R2, R3, R4, keepF, initF, ps, pf, ev, slot, putF, guardC, CO.ods, optAll, evU, binV, binS, intV, intS, strV, strS, unV, unS, pickV, pickS, boolS, slv, intOfA, isIntA, isIntO, bnd, ldV, ldS, pcells, AV.fits, AV.one, AV.cells, putParts, partsS, fresh, nilOk, nilP, pickE, isLd, sqL, sqV, Nat.reduceEqDiff, Nat.reduceAdd, Nat.reduceMul, Nat.reduceSub, Nat.reduceLeDiff, Nat.reduceLT, reduceIte, reduceCtorEq, Int.reduceBNe, Int.reduceBEq, putL]; try simp)) (wk_of_eq ?_) (by (repeat (first | exact St.le_refl _ | (refine St.le_new ?_ (by assumption)) | (refine St.le_newT ?_ (by assumption))))))
  (simp only [resAV, rvV, List.map_cons, List.map_nil, ↓R1, R2, R3, R4, keepF, initF, ps, pf, ev, slot, putF, guardC, CO.ods, optAll, evU, binV, binS, intV, intS, strV, strS, unV, unS, pickV, pickS, boolS, slv, intOfA, isIntA, isIntO, bnd, ldV, ldS, pcells, AV.fits, AV.one, AV.cells, putParts, partsS, fresh, nilOk, nilP, pickE, isLd, sqL, sqV, Nat.reduceEqDiff, Nat.reduceAdd, Nat.reduceMul, Nat.reduceSub, Nat.reduceLeDiff, Nat.reduceLT, reduceIte, reduceCtorEq, Int.reduceBNe, Int.reduceBEq, putL])
  rw [ctz_i64 a ha]
end Go.Proofs.YtnmlhilckjmhnaaDoor
