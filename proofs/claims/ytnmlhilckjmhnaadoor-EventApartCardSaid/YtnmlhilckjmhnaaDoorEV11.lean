/-
  Events: different events have different bytes and texts; EventApart.
-/
import Derived.Test.YtnmlhilckjmhnaaDoorEV4
import Derived.Test.YtnmlhilckjmhnaaDoorSM1
import Derived.Test.YtnmlhilckjmhnaaDoorLS6
namespace Go.Proofs.YtnmlhilckjmhnaaDoor
open Go.Abs Go.Lib
set_option linter.all false
set_option maxRecDepth 100000

theorem itoa_inj {v w : Int} (hv : I64 v) (hw : I64 w) (h : itoa v = itoa w) : v = w := by
  rw [← (read_itoa v hv).1, ← (read_itoa w hw).1, h]
theorem bytesL_inj {a b : BitVec 64} (h : bytesL a = bytesL b) : a = b := by
  have hb : ∀ i, i < 8 → byteN a i = byteN b i := fun i hi => by
    have := congrArg (fun l => (l[i]?.getD 0).toNat) h
    simpa [bytesL, hi, byteN] using this
  have h0 := hb 0 (by omega)
  have h1 := hb 1 (by omega)
  have h2 := hb 2 (by omega)
  have h3 := hb 3 (by omega)
  have h4 := hb 4 (by omega)
  have h5 := hb 5 (by omega)
  have h6 := hb 6 (by omega)
  have h7 := hb 7 (by omega)
  simp only [byteN] at *
  apply BitVec.eq_of_toNat_eq
  have ha := a.isLt
  have hc := b.isLt
  generalize a.toNat = x at *
  generalize b.toNat = y at *
  simp only [Nat.reduceMul, Nat.reduceSub, Nat.reducePow] at h0 h1 h2 h3 h4 h5 h6 h7
  clear hb h
  omega
theorem kind_byte {k l : Int} (hk : 0 ≤ k ∧ k < 26) (hl : 0 ≤ l ∧ l < 26) (h : UInt8.ofNat (IntKind.u8.wrap k).toNat = UInt8.ofNat (IntKind.u8.wrap l).toNat) : k = l := by
  have := congrArg UInt8.toNat h
  simp only [wU8, UInt8.toNat_ofNat'] at this
  omega
theorem ok_kind {k : Int} (hk : 0 ≤ k ∧ k < 26) : checkE k = 0 := by
  simp only [checkE, Bool.cond_eq_ite]; grind
theorem evBytes_inj {a b : BitVec 64} {k l v w : Int} (hk : 0 ≤ k ∧ k < 26) (hl : 0 ≤ l ∧ l < 26) (hv : I64 v) (hw : I64 w) (h : evBytes a k v = evBytes b l w) : a = b ∧ k = l ∧ v = w := by
  simp only [evBytes, ok_kind hk, ok_kind hl, beq_self_eq_true, cond_true] at h
  obtain ⟨h1, h2⟩ := List.append_inj h (by simp [bytesL_len])
  simp only [List.cons.injEq] at h2
  refine ⟨bytesL_inj h1, kind_byte hk hl h2.1, ?_⟩
  have := bytesL_inj h2.2
  have h3 := congrArg BitVec.toInt this
  simp only [BitVec.toInt_ofInt] at h3
  unfold I64 at hv hw
  rw [Int.bmod_eq_of_le (by omega) (by omega), Int.bmod_eq_of_le (by omega) (by omega)] at h3
  exact h3
theorem letterL_is {k : Int} (hk : 0 ≤ k ∧ k < 26) : letterL k = [UInt8.ofNat (65 + k.toNat)] := by
  obtain ⟨n, rfl⟩ := Int.eq_ofNat_of_zero_le hk.1
  have : ∀ n : Fin 26, letterL (n.val : Int) = [UInt8.ofNat (65 + ((n.val : Nat) : Int).toNat)] := by decide
  exact this ⟨n, by omega⟩
theorem evText_inj {a b : BitVec 64} {k l v w : Int} (hk : 0 ≤ k ∧ k < 26) (hl : 0 ≤ l ∧ l < 26) (hv : I64 v) (hw : I64 w) (h : evText a k v = evText b l w) : a = b ∧ k = l ∧ v = w := by
  simp only [evText, ok_kind hk, ok_kind hl, beq_self_eq_true, cond_true, letterL_is hk, letterL_is hl, List.append_assoc, List.cons_append, List.nil_append, List.cons.injEq, true_and] at h
  obtain ⟨h1, h2⟩ := h
  have ha := congrArg readL h2
  rw [readL_text, readL_text] at ha
  simp only [RL.mk.injEq] at ha
  have hab := ha.1
  subst hab
  have h3 := List.append_cancel_left h2
  simp only [List.cons.injEq, true_and] at h3
  refine ⟨rfl, ?_, itoa_inj hv hw h3⟩
  have := congrArg UInt8.toNat h1
  simp only [UInt8.toNat_ofNat'] at this
  omega
set_option maxHeartbeats 4000000 in
theorem law_EventApart (a b : BitVec 64) (m n v w no : Int) (hm : 0 ≤ m ∧ m ≤ 255) (hn : 0 ≤ n ∧ n ≤ 255) (hv : I64 v) (hw : I64 w) (ho : 0 ≤ no ∧ no ≤ 18446744073709551615) : PuG Tryd.prog gl3 4 [.int .u64 a.toNat, .int .u64 b.toNat, .int .u8 m, .int .u8 n, .int .i64 v, .int .i64 w, .int .u64 no] (.bool true) := by
  have m1 := p12 a.toNat m v
  have m2 := p12 b.toNat n w
  have wm : Int.tmod (IntKind.i64.wrap m) 26 = m % 26 := by rw [wrap64 (by omega) (by omega), Int.tmod_eq_emod_of_nonneg hm.1]
  have wn : Int.tmod (IntKind.i64.wrap n) 26 = n % 26 := by rw [wrap64 (by omega) (by omega), Int.tmod_eq_emod_of_nonneg hn.1]
  rw [wm] at m1
  rw [wn] at m2
  have hk : 0 ≤ m % 26 ∧ m % 26 < 26 := by omega
  have hl : 0 ≤ n % 26 ∧ n % 26 < 26 := by omega
  generalize m % 26 = k at *
  generalize n % 26 = l at *
  have e1 := p13 a k v
  have e2 := p13 b l w
  have t1 := p14 a k v hv
  have t2 := p14 b l w hw
  rw [ok_kind hk] at e1 t1
  rw [ok_kind hl] at e2 t2
  have hx : ((evBytes a k v == evBytes b l w) == (((a.toNat : Int) == (b.toNat : Int)) && (k == l && v == w))) = true := by
    rw [beq_iff_eq, Bool.eq_iff_iff]
    simp only [Bool.and_eq_true, beq_iff_eq]
    exact ⟨fun h => by have := evBytes_inj hk hl hv hw h; exact ⟨by rw [this.1], this.2.1, this.2.2⟩, fun h => by rw [BitVec.eq_of_toNat_eq (Int.ofNat.inj h.1), h.2.1, h.2.2]⟩
  have hy : ((evText a k v == evText b l w) == (((a.toNat : Int) == (b.toNat : Int)) && (k == l && v == w))) = true := by
    rw [beq_iff_eq, Bool.eq_iff_iff]
    simp only [Bool.and_eq_true, beq_iff_eq]
    exact ⟨fun h => by have := evText_inj hk hl hv hw h; exact ⟨by rw [this.1], this.2.1, this.2.2⟩, fun h => by rw [BitVec.eq_of_toNat_eq (Int.ofNat.inj h.1), h.2.1, h.2.2]⟩
  have hn1 : ∃ x, IntKind.u64.wrap (Int.tmod no 1099511627776 + 1) = x ∧ 1 ≤ x ∧ x ≤ 1099511627776 := by
    refine ⟨_, rfl, ?_⟩
    rw [Int.tmod_eq_emod_of_nonneg ho.1, wrapU64 (by omega) (by omega)]; omega
  have hn2 : ∃ x, IntKind.u64.wrap (Int.tmod (IntKind.u64.wrap (Int.tdiv no 2)) 1099511627776 + 1) = x ∧ 1 ≤ x ∧ x ≤ 1099511627776 := by
    refine ⟨_, rfl, ?_⟩
    have hd : IntKind.u64.wrap (Int.tdiv no 2) = no / 2 := by rw [Int.tdiv_eq_ediv_of_nonneg ho.1, wrapU64 (by omega) (by omega)]
    rw [hd, Int.tmod_eq_emod_of_nonneg (by omega), wrapU64 (by omega) (by omega)]; omega
  have hn3 : ∃ x, Int.tmod no 1099511627777 = x ∧ 0 ≤ x ∧ x ≤ 1099511627776 := by
    refine ⟨_, rfl, ?_⟩
    rw [Int.tmod_eq_emod_of_nonneg ho.1]; omega
  obtain ⟨x1, q1, r1⟩ := hn1
  obtain ⟨x2, q2, r2⟩ := hn2
  obtain ⟨x3, q3, r3⟩ := hn3
  have hE : storeE x1 x2 x3 k = 0 := by
    simp only [storeE, soundE, idE, ok_kind hk, Bool.cond_eq_ite]; grind
  have hC : storeC a.toNat k v x1 x2 x3 = [.int .u64 a.toNat, .int .u64 x1, .int .u64 x2, .int .u64 x3, .int .i64 k, .int .i64 v] := by
    simp only [storeC, hE]; rfl
  have hS : soundE x1 x2 x3 k = 0 := by
    simp only [soundE, idE, ok_kind hk, Bool.cond_eq_ite]; grind
  have s1 := p15 a.toNat k v x1 x2 x3
  rw [hE, hC] at s1
  have s2 := p16 a.toNat x1 x2 x3 k v
  have s3 := p17 a.toNat x1 x2 x3 k v
  rw [hS] at s3
  (refine PuG_intro c4 b4 (Nat.le_of_ble_eq_true rfl) fun σ hσ => ?_; simp only [c4, ↓R1, R2, R3, R4, keepF, initF, ps, pf, ev, slot, putF, guardC, CO.ods, optAll, evU, binV, binS, intV, intS, strV, strS, unV, unS, pickV, pickS, boolS, slv, intOfA, isIntA, isIntO, bnd, ldV, ldS, pcells, AV.fits, AV.one, AV.cells, putParts, partsS, fresh, nilOk, nilP, pickE, isLd, sqL, sqV, Nat.reduceEqDiff, Nat.reduceAdd, Nat.reduceMul, Nat.reduceSub, Nat.reduceLeDiff, Nat.reduceLT, reduceIte, reduceCtorEq, Int.reduceBNe, Int.reduceBEq, putL, q1, q2, q3, hx, hy])
  repeat' (first | (with_reducible rw [allocV_eq]) | (refine gdV_split (fun hc => ?_) (fun hc => ?_) <;> (try simp only [hc, ↓R1, R2, R3, R4, keepF, initF, ps, pf, ev, slot, putF, guardC, CO.ods, optAll, evU, binV, binS, intV, intS, strV, strS, unV, unS, pickV, pickS, boolS, slv, intOfA, isIntA, isIntO, bnd, ldV, ldS, pcells, AV.fits, AV.one, AV.cells, putParts, partsS, fresh, nilOk, nilP, pickE, isLd, sqL, sqV, Nat.reduceEqDiff, Nat.reduceAdd, Nat.reduceMul, Nat.reduceSub, Nat.reduceLeDiff, Nat.reduceLT, reduceIte, reduceCtorEq, Int.reduceBNe, Int.reduceBEq, putL, q1, q2, q3, hx, hy])) | ((first | refine condV_split (fun hc => ?_) (fun hc => ?_) | (with_reducible intro β hβ; (try simp only [St.box_noneA, St.tip_noneA, St.tip_set, St.box_tip] at hβ); (repeat (obtain ⟨⟨_, _⟩, hβ⟩ := hβ)); (try (have hbis := apart_is (by assumption) hβ; obtain ⟨_, _⟩ := hbis)))) <;> (try simp only [↓R1, R2, R3, R4, keepF, initF, ps, pf, ev, slot, putF, guardC, CO.ods, optAll, evU, binV, binS, intV, intS, strV, strS, unV, unS, pickV, pickS, boolS, slv, intOfA, isIntA, isIntO, bnd, ldV, ldS, pcells, AV.fits, AV.one, AV.cells, putParts, partsS, fresh, nilOk, nilP, pickE, isLd, sqL, sqV, Nat.reduceEqDiff, Nat.reduceAdd, Nat.reduceMul, Nat.reduceSub, Nat.reduceLeDiff, Nat.reduceLT, reduceIte, reduceCtorEq, Int.reduceBNe, Int.reduceBEq, putL, q1, q2, q3, hx, hy])) | (with_reducible refine And.intro ?_ ?_; (focus (first | omega | (intros; (repeat' (with_reducible apply And.intro)) <;> first | omega | (simp only [List.length_append, List.length_cons, List.length_nil]; omega))))) | (with_reducible apply And.intro) | ((first | refine Pu.to (m1) (wkL_refl _) ?_ | refine callDV_pu (m1) (wkL_refl _) ?_ | refine Pu.to (m2) (wkL_refl _) ?_ | refine callDV_pu (m2) (wkL_refl _) ?_ | refine Pu.to (e1) (wkL_refl _) ?_ | refine callDV_pu (e1) (wkL_refl _) ?_ | refine Pu.to (e2) (wkL_refl _) ?_ | refine callDV_pu (e2) (wkL_refl _) ?_ | refine callDV_puG (t1) hσ (wkL_refl _) ?_ | refine callDV_puG (t2) hσ (wkL_refl _) ?_ | refine PuG.to (t1) hσ (wkL_refl _) ?_ | refine PuG.to (t2) hσ (wkL_refl _) ?_ | refine Pu.to (s1) (wkL_refl _) ?_ | refine callDV_pu (s1) (wkL_refl _) ?_ | refine Pu.to (s2) (wkL_refl _) ?_ | refine callDV_pu (s2) (wkL_refl _) ?_ | refine Pu.to (s3) (wkL_refl _) ?_ | refine callDV_pu (s3) (wkL_refl _) ?_ | (refine callGV_pu (fun hgv => ⟨?_, (s2), wkL_refl _⟩) ?_; (first | trivial | (focus (simp only [↓R1, R2, R3, R4, keepF, initF, ps, pf, ev, slot, putF, guardC, CO.ods, optAll, evU, binV, binS, intV, intS, strV, strS, unV, unS, pickV, pickS, boolS, slv, intOfA, isIntA, isIntO, bnd, ldV, ldS, pcells, AV.fits, AV.one, AV.cells, putParts, partsS, fresh, nilOk, nilP, pickE, isLd, sqL, sqV, Nat.reduceEqDiff, Nat.reduceAdd, Nat.reduceMul, Nat.reduceSub, Nat.reduceLeDiff, Nat.reduceLT, reduceIte, reduceCtorEq, Int.reduceBNe, Int.reduceBEq, putL, q1, q2, q3, hx, hy]; done)))) | (refine callGV_pu (fun hgv => ⟨?_, (s3), wkL_refl _⟩) ?_; (first | trivial | (focus (simp only [↓R1, R2, R3, R4, keepF, initF, ps, pf, ev, slot, putF, guardC, CO.ods, optAll, evU, binV, binS, intV, intS, strV, strS, unV, unS, pickV, pickS, boolS, slv, intOfA, isIntA, isIntO, bnd, ldV, ldS, pcells, AV.fits, AV.one, AV.cells, putParts, partsS, fresh, nilOk, nilP, pickE, isLd, sqL, sqV, Nat.reduceEqDiff, Nat.reduceAdd, Nat.reduceMul, Nat.reduceSub, Nat.reduceLeDiff, Nat.reduceLT, reduceIte, reduceCtorEq, Int.reduceBNe, Int.reduceBEq, putL, q1, q2, q3, hx, hy]; done)))) | refine PuG.to (awake_pu) hσ (wkL_refl _) ?_ | (refine callGV_puG hσ (fun hgv => ⟨?_, (awake_pu), wkL_refl _⟩) ?_; (first | trivial | (focus (simp only [↓R1, R2, R3, R4, keepF, initF, ps, pf, ev, slot, putF, guardC, CO.ods, optAll, evU, binV, binS, intV, intS, strV, strS, unV, unS, pickV, pickS, boolS, slv, intOfA, isIntA, isIntO, bnd, ldV, ldS, pcells, AV.fits, AV.one, AV.cells, putParts, partsS, fresh, nilOk, nilP, pickE, isLd, sqL, sqV, Nat.reduceEqDiff, Nat.reduceAdd, Nat.reduceMul, Nat.reduceSub, Nat.reduceLeDiff, Nat.reduceLT, reduceIte, reduceCtorEq, Int.reduceBNe, Int.reduceBEq, putL, q1, q2, q3, hx, hy]; done))))); (try simp only [↓R1, R2, R3, R4, keepF, initF, ps, pf, ev, slot, putF, guardC, CO.ods, optAll, evU, binV, binS, intV, intS, strV, strS, unV, unS, pickV, pickS, boolS, slv, intOfA, isIntA, isIntO, bnd, ldV, ldS, pcells, AV.fits, AV.one, AV.cells, putParts, partsS, fresh, nilOk, nilP, pickE, isLd, sqL, sqV, Nat.reduceEqDiff, Nat.reduceAdd, Nat.reduceMul, Nat.reduceSub, Nat.reduceLeDiff, Nat.reduceLT, reduceIte, reduceCtorEq, Int.reduceBNe, Int.reduceBEq, putL, q1, q2, q3, hx, hy])))
  (refine endP_pu (by simp) (by first | (simp [rvsS, rvS]; done) | (simp only [rvsS, rvS, ↓R1, R2, R3, R4, keepF, initF, ps, pf, ev, slot, putF, guardC, CO.ods, optAll, evU, binV, binS, intV, intS, strV, strS, unV, unS, pickV, pickS, boolS, slv, intOfA, isIntA, isIntO, bnd, ldV, ldS, pcells, AV.fits, AV.one, AV.cells, putParts, partsS, fresh, nilOk, nilP, pickE, isLd, sqL, sqV, Nat.reduceEqDiff, Nat.reduceAdd, Nat.reduceMul, Nat.reduceSub, Nat.reduceLeDiff, Nat.reduceLT, reduceIte, reduceCtorEq, Int.reduceBNe, Int.reduceBEq, putL, q1, q2, q3, hx, hy]; try simp)) (wk_of_eq ?_) (by (repeat (first | exact St.le_refl _ | (refine St.le_new ?_ (by assumption)) | (refine St.le_newT ?_ (by assumption))))))
  (simp only [resAV, rvV, List.map_cons, List.map_nil, ↓R1, R2, R3, R4, keepF, initF, ps, pf, ev, slot, putF, guardC, CO.ods, optAll, evU, binV, binS, intV, intS, strV, strS, unV, unS, pickV, pickS, boolS, slv, intOfA, isIntA, isIntO, bnd, ldV, ldS, pcells, AV.fits, AV.one, AV.cells, putParts, partsS, fresh, nilOk, nilP, pickE, isLd, sqL, sqV, Nat.reduceEqDiff, Nat.reduceAdd, Nat.reduceMul, Nat.reduceSub, Nat.reduceLeDiff, Nat.reduceLT, reduceIte, reduceCtorEq, Int.reduceBNe, Int.reduceBEq, putL, q1, q2, q3, hx, hy])
theorem bv_is {n : Int} (h : 0 ≤ n ∧ n ≤ 18446744073709551615) : ∃ l : BitVec 64, (l.toNat : Int) = n :=
  ⟨BitVec.ofNat 64 n.toNat, by rw [BitVec.toNat_ofNat, Nat.mod_eq_of_lt (by omega)]; omega⟩
theorem arg_EventApart (a b m n v w no : Int) (ha : 0 ≤ a ∧ a ≤ 18446744073709551615) (hb : 0 ≤ b ∧ b ≤ 18446744073709551615) (hm : 0 ≤ m ∧ m ≤ 255) (hn : 0 ≤ n ∧ n ≤ 255) (hv : I64 v) (hw : I64 w) (ho : 0 ≤ no ∧ no ≤ 18446744073709551615) : PuG Tryd.prog gl3 4 [.int .u64 a, .int .u64 b, .int .u8 m, .int .u8 n, .int .i64 v, .int .i64 w, .int .u64 no] (.bool true) := by
  obtain ⟨x, rfl⟩ := bv_is ha
  obtain ⟨y, rfl⟩ := bv_is hb
  exact law_EventApart x y m n v w no hm hn hv hw ho
end Go.Proofs.YtnmlhilckjmhnaaDoor
