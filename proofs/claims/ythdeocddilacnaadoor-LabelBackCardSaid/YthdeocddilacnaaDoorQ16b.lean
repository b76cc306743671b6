/-
  LabelBack.
-/
import Derived.Test.YthdeocddilacnaaDoorQ14
import Derived.Test.YthdeocddilacnaaDoorLR6
import Derived.Test.YthdeocddilacnaaDoorLS6
namespace Go.Proofs.YthdeocddilacnaaDoor
open Go.Abs
set_option linter.all false
set_option maxRecDepth 100000

theorem bytes_fold (a : BitVec 64) : of8V (bytesL a) = a := by
  unfold of8V
  rw [if_pos (by simp [bytesL])]
  apply BitVec.eq_of_toNat_eq
  have hb : ∀ i, (UInt8.ofNat (byteN a i)).toNat = byteN a i := fun i => by
    have : byteN a i < 256 := Nat.mod_lt _ (by decide)
    simp; omega
  have hs : ∀ (b : BitVec 64) (i : Nat), b.toNat < 2 ^ 56 → (stepB b (UInt8.ofNat (byteN a i))).toNat = 256 * b.toNat + byteN a i := fun b i h => by
    have hlt : byteN a i < 256 := Nat.mod_lt _ (by decide)
    unfold stepB
    rw [BitVec.toNat_or, BitVec.toNat_shiftLeft, hb, BitVec.toNat_ofNat, Nat.mod_eq_of_lt (by omega : byteN a i < 2 ^ 64), Nat.shiftLeft_eq, Nat.mod_eq_of_lt (by omega)]
    have := Nat.two_pow_add_eq_or_of_lt (i := 8) hlt b.toNat
    rw [Nat.mul_comm (b.toNat), ← this]
  have ha := a.isLt
  have e0 : byteN a 0 = a.toNat / 72057594037927936 % 256 := rfl
  have e1 : byteN a 1 = a.toNat / 281474976710656 % 256 := rfl
  have e2 : byteN a 2 = a.toNat / 1099511627776 % 256 := rfl
  have e3 : byteN a 3 = a.toNat / 4294967296 % 256 := rfl
  have e4 : byteN a 4 = a.toNat / 16777216 % 256 := rfl
  have e5 : byteN a 5 = a.toNat / 65536 % 256 := rfl
  have e6 : byteN a 6 = a.toNat / 256 % 256 := rfl
  have e7 : byteN a 7 = a.toNat / 1 % 256 := rfl
  have s0 := hs 0#64 0 (by simp)
  have s1 := hs _ 1 (by rw [s0]; simp; omega)
  have s2 := hs _ 2 (by rw [s1, s0]; simp; omega)
  have s3 := hs _ 3 (by rw [s2, s1, s0]; simp; omega)
  have s4 := hs _ 4 (by rw [s3, s2, s1, s0]; simp; omega)
  have s5 := hs _ 5 (by rw [s4, s3, s2, s1, s0]; simp; omega)
  have s6 := hs _ 6 (by rw [s5, s4, s3, s2, s1, s0]; simp; omega)
  have s7 := hs _ 7 (by rw [s6, s5, s4, s3, s2, s1, s0]; simp; omega)
  refine Eq.trans s7 ?_
  rw [s6, s5, s4, s3, s2, s1, s0, e0, e1, e2, e3, e4, e5, e6, e7]
  simp only [BitVec.toNat_ofNat]
  omega
theorem bytes_err (a : BitVec 64) : of8E (bytesL a) = 0 := by simp [of8E, bytesL]
theorem fold_catsI : ∀ (l : List Nat) (b : BitVec 64), (l.map fun n : Nat => (n : Int)).foldl orC b = l.foldl (fun b c => b ||| 1#64 <<< c) b
  | [], _ => rfl
  | k :: l, b => by simp only [List.map_cons, List.foldl_cons, fold_catsI l]; rfl
theorem catsI_in (a : BitVec 64) : (catsI a).all inR = true := by
  rw [List.all_eq_true]
  intro x hx
  obtain ⟨n, hn, rfl⟩ := List.mem_map.1 hx
  have := cats_lt hn
  simp only [inR, Bool.and_eq_true, decide_eq_true_eq]; omega
theorem of_catsI (a : BitVec 64) : ofV (catsI a) = a ∧ ofE (catsI a) = 0 := by
  refine ⟨?_, by simp [ofE, catsI_in a]⟩
  unfold ofV
  rw [catsI_in a, cond_true]
  unfold catsI
  rw [fold_catsI]
  exact ofCats_cats a
theorem textL_len (a : BitVec 64) : (textL a).length ≤ 194 := by
  have := bodyT_len a
  simp only [textL, List.length_cons, List.length_append, List.length_nil]; omega
theorem catsI_length (a : BitVec 64) : (catsI a).length = (cats a).length := by simp [catsI]
theorem c0 : ((0 : Nat) : Int) = 0 := rfl
set_option maxHeartbeats 4000000 in
theorem law_LabelBack (a : BitVec 64) (s : List UInt8) : PuG Tryd.prog gls 9 [.int .u64 a.toNat, .str s] (.bool true) := by
  have hcl := catsI_length a
  (refine PuG_intro c9 b9 (Nat.le_of_ble_eq_true rfl) fun σ hσ => ?_; simp only [c9, ↓R1, R2, R3, R4, keepF, initF, ps, pf, ev, slot, putF, guardC, CO.ods, optAll, evU, binV, binS, intV, intS, strV, strS, unV, unS, pickV, pickS, boolS, slv, intOfA, isIntA, isIntO, bnd, ldV, ldS, pcells, AV.fits, AV.one, AV.cells, putParts, partsS, fresh, nilOk, nilP, pickE, isLd, sqL, sqV, Nat.reduceEqDiff, Nat.reduceAdd, Nat.reduceMul, Nat.reduceSub, Nat.reduceLeDiff, Nat.reduceLT, reduceIte, reduceCtorEq, Int.reduceBNe, Int.reduceBEq, putL, hcl])
  repeat' (first | (with_reducible rw [allocV_eq]) | (refine gdV_split (fun hc => ?_) (fun hc => ?_) <;> (try simp only [hc, ↓R1, R2, R3, R4, keepF, initF, ps, pf, ev, slot, putF, guardC, CO.ods, optAll, evU, binV, binS, intV, intS, strV, strS, unV, unS, pickV, pickS, boolS, slv, intOfA, isIntA, isIntO, bnd, ldV, ldS, pcells, AV.fits, AV.one, AV.cells, putParts, partsS, fresh, nilOk, nilP, pickE, isLd, sqL, sqV, Nat.reduceEqDiff, Nat.reduceAdd, Nat.reduceMul, Nat.reduceSub, Nat.reduceLeDiff, Nat.reduceLT, reduceIte, reduceCtorEq, Int.reduceBNe, Int.reduceBEq, putL, hcl])) | ((first | refine condV_split (fun hc => ?_) (fun hc => ?_) | (with_reducible intro β hβ; (try simp only [St.box_noneA, St.tip_noneA, St.tip_set, St.box_tip] at hβ); (repeat (obtain ⟨⟨_, _⟩, hβ⟩ := hβ)); (try (have hbis := apart_is (by assumption) hβ; obtain ⟨_, _⟩ := hbis))) | ((first | (refine appD_tslK (.inr rfl) rfl ?_ ?_ ?_ ?_ ?_ ?_; (first | rfl | exact St.tip_same _ _ _ | (simp only [↓R1, R2, R3, R4, keepF, initF, ps, pf, ev, slot, putF, guardC, CO.ods, optAll, evU, binV, binS, intV, intS, strV, strS, unV, unS, pickV, pickS, boolS, slv, intOfA, isIntA, isIntO, bnd, ldV, ldS, pcells, AV.fits, AV.one, AV.cells, putParts, partsS, fresh, nilOk, nilP, pickE, isLd, sqL, sqV, Nat.reduceEqDiff, Nat.reduceAdd, Nat.reduceMul, Nat.reduceSub, Nat.reduceLeDiff, Nat.reduceLT, reduceIte, reduceCtorEq, Int.reduceBNe, Int.reduceBEq, putL, hcl])); (first | omega | (simp only [cInt_len, List.length_map, List.length_append, List.length_nil, List.length_cons]; omega) | (simp only [cInt_len, List.length_map, List.length_append, List.length_nil, List.length_cons])); (first | rfl | first | omega | (simp only [cInt_len, List.length_map, List.length_append, List.length_nil, List.length_cons]; omega) | (simp only [cInt_len, List.length_map, List.length_append, List.length_nil, List.length_cons]))) | (refine appV_tslK rfl ?_ ?_ ?_ ?_ ?_ ?_; (first | rfl | exact St.tip_same _ _ _ | (simp only [↓R1, R2, R3, R4, keepF, initF, ps, pf, ev, slot, putF, guardC, CO.ods, optAll, evU, binV, binS, intV, intS, strV, strS, unV, unS, pickV, pickS, boolS, slv, intOfA, isIntA, isIntO, bnd, ldV, ldS, pcells, AV.fits, AV.one, AV.cells, putParts, partsS, fresh, nilOk, nilP, pickE, isLd, sqL, sqV, Nat.reduceEqDiff, Nat.reduceAdd, Nat.reduceMul, Nat.reduceSub, Nat.reduceLeDiff, Nat.reduceLT, reduceIte, reduceCtorEq, Int.reduceBNe, Int.reduceBEq, putL, hcl])); (first | omega | (simp only [cInt_len, List.length_map, List.length_append, List.length_nil, List.length_cons]; omega) | (simp only [cInt_len, List.length_map, List.length_append, List.length_nil, List.length_cons])); (first | rfl | first | omega | (simp only [cInt_len, List.length_map, List.length_append, List.length_nil, List.length_cons]; omega) | (simp only [cInt_len, List.length_map, List.length_append, List.length_nil, List.length_cons]))) | (refine appV_own ?_ ?_ ?_ ?_; exact flat_len (by intro _; rfl) _) | (refine appD_own ?_ ?_ ?_ ?_ ?_; omega; exact flat_len (by intro _; rfl) _) | (refine appV_fresh rfl trivial rfl ?_ ?_ ?_ ?_ ?_; (first | rfl | first | omega | (simp only [cInt_len, List.length_map, List.length_append, List.length_nil, List.length_cons]; omega) | (simp only [cInt_len, List.length_map, List.length_append, List.length_nil, List.length_cons])); (first | rfl | first | omega | (simp only [cInt_len, List.length_map, List.length_append, List.length_nil, List.length_cons]; omega) | (simp only [cInt_len, List.length_map, List.length_append, List.length_nil, List.length_cons]))) | (refine appD_fresh rfl trivial rfl ?_ ?_ ?_ ?_ ?_ ?_; omega; (first | rfl | first | omega | (simp only [cInt_len, List.length_map, List.length_append, List.length_nil, List.length_cons]; omega) | (simp only [cInt_len, List.length_map, List.length_append, List.length_nil, List.length_cons])); (first | rfl | first | omega | (simp only [cInt_len, List.length_map, List.length_append, List.length_nil, List.length_cons]; omega) | (simp only [cInt_len, List.length_map, List.length_append, List.length_nil, List.length_cons])))); (unfold maxLen; omega); omega)) <;> (try simp only [↓R1, R2, R3, R4, keepF, initF, ps, pf, ev, slot, putF, guardC, CO.ods, optAll, evU, binV, binS, intV, intS, strV, strS, unV, unS, pickV, pickS, boolS, slv, intOfA, isIntA, isIntO, bnd, ldV, ldS, pcells, AV.fits, AV.one, AV.cells, putParts, partsS, fresh, nilOk, nilP, pickE, isLd, sqL, sqV, Nat.reduceEqDiff, Nat.reduceAdd, Nat.reduceMul, Nat.reduceSub, Nat.reduceLeDiff, Nat.reduceLT, reduceIte, reduceCtorEq, Int.reduceBNe, Int.reduceBEq, putL, hcl])) | (with_reducible refine And.intro ?_ ?_; (focus (first | omega | (intros; (repeat' (with_reducible apply And.intro)) <;> first | omega | (simp only [cInt_len, List.length_map, List.length_append]; omega))))) | (with_reducible apply And.intro) | ((first | refine PuG.to (known_pu) hσ (wkL_refl _) ?_); (try simp only [↓R1, R2, R3, R4, keepF, initF, ps, pf, ev, slot, putF, guardC, CO.ods, optAll, evU, binV, binS, intV, intS, strV, strS, unV, unS, pickV, pickS, boolS, slv, intOfA, isIntA, isIntO, bnd, ldV, ldS, pcells, AV.fits, AV.one, AV.cells, putParts, partsS, fresh, nilOk, nilP, pickE, isLd, sqL, sqV, Nat.reduceEqDiff, Nat.reduceAdd, Nat.reduceMul, Nat.reduceSub, Nat.reduceLeDiff, Nat.reduceLT, reduceIte, reduceCtorEq, Int.reduceBNe, Int.reduceBEq, putL, hcl])))
  · (refine endP_pu (by simp) (by first | (simp [rvsS, rvS]; done) | (simp only [rvsS, rvS, ↓R1, R2, R3, R4, keepF, initF, ps, pf, ev, slot, putF, guardC, CO.ods, optAll, evU, binV, binS, intV, intS, strV, strS, unV, unS, pickV, pickS, boolS, slv, intOfA, isIntA, isIntO, bnd, ldV, ldS, pcells, AV.fits, AV.one, AV.cells, putParts, partsS, fresh, nilOk, nilP, pickE, isLd, sqL, sqV, Nat.reduceEqDiff, Nat.reduceAdd, Nat.reduceMul, Nat.reduceSub, Nat.reduceLeDiff, Nat.reduceLT, reduceIte, reduceCtorEq, Int.reduceBNe, Int.reduceBEq, putL, hcl]; try simp)) (wk_of_eq ?_) (by (repeat (first | exact St.le_refl _ | (refine St.le_new ?_ (by assumption)) | (refine St.le_newT ?_ (by assumption))))))
    (simp only [resAV, rvV, List.map_cons, List.map_nil, ↓R1, R2, R3, R4, keepF, initF, ps, pf, ev, slot, putF, guardC, CO.ods, optAll, evU, binV, binS, intV, intS, strV, strS, unV, unS, pickV, pickS, boolS, slv, intOfA, isIntA, isIntO, bnd, ldV, ldS, pcells, AV.fits, AV.one, AV.cells, putParts, partsS, fresh, nilOk, nilP, pickE, isLd, sqL, sqV, Nat.reduceEqDiff, Nat.reduceAdd, Nat.reduceMul, Nat.reduceSub, Nat.reduceLeDiff, Nat.reduceLT, reduceIte, reduceCtorEq, Int.reduceBNe, Int.reduceBEq, putL, hcl])
  have hs : s.length ≤ 200 := by simp at hc; omega
  have ht := textL_len a
  have h1 := p23 a
  have h2 := p11 (textL a) (by omega)
  rw [parseL_text] at h2
  have h3 := p21 a
  have h4 := p15 (bytesL a)
  rw [bytes_fold, bytes_err] at h4
  have h5 := pList a
  have h6 := p26 (catsI a) (catsI_len a)
  rw [(of_catsI a).1, (of_catsI a).2] at h6
  have h7 := p13 (textL a ++ s) (by simp; omega)
  rw [readL_text] at h7
  have h8 := p35 a
  have h9 := p11 s (by omega)
  have h10 := @parseL_only s
  have h11 := p23 (parseL s).l
  simp only [plAV, rlAV, c0] at h2 h7 h9
  repeat' (first | (with_reducible rw [allocV_eq]) | (refine gdV_split (fun hc => ?_) (fun hc => ?_) <;> (try simp only [hc, ↓R1, R2, R3, R4, keepF, initF, ps, pf, ev, slot, putF, guardC, CO.ods, optAll, evU, binV, binS, intV, intS, strV, strS, unV, unS, pickV, pickS, boolS, slv, intOfA, isIntA, isIntO, bnd, ldV, ldS, pcells, AV.fits, AV.one, AV.cells, putParts, partsS, fresh, nilOk, nilP, pickE, isLd, sqL, sqV, Nat.reduceEqDiff, Nat.reduceAdd, Nat.reduceMul, Nat.reduceSub, Nat.reduceLeDiff, Nat.reduceLT, reduceIte, reduceCtorEq, Int.reduceBNe, Int.reduceBEq, putL, hcl])) | ((first | refine condV_split (fun hc => ?_) (fun hc => ?_) | (with_reducible intro β hβ; (try simp only [St.box_noneA, St.tip_noneA, St.tip_set, St.box_tip] at hβ); (repeat (obtain ⟨⟨_, _⟩, hβ⟩ := hβ)); (try (have hbis := apart_is (by assumption) hβ; obtain ⟨_, _⟩ := hbis))) | ((first | (refine appD_tslK (.inr rfl) rfl ?_ ?_ ?_ ?_ ?_ ?_; (first | rfl | exact St.tip_same _ _ _ | (simp only [↓R1, R2, R3, R4, keepF, initF, ps, pf, ev, slot, putF, guardC, CO.ods, optAll, evU, binV, binS, intV, intS, strV, strS, unV, unS, pickV, pickS, boolS, slv, intOfA, isIntA, isIntO, bnd, ldV, ldS, pcells, AV.fits, AV.one, AV.cells, putParts, partsS, fresh, nilOk, nilP, pickE, isLd, sqL, sqV, Nat.reduceEqDiff, Nat.reduceAdd, Nat.reduceMul, Nat.reduceSub, Nat.reduceLeDiff, Nat.reduceLT, reduceIte, reduceCtorEq, Int.reduceBNe, Int.reduceBEq, putL, hcl])); (first | omega | (simp only [cInt_len, List.length_map, List.length_append, List.length_nil, List.length_cons]; omega) | (simp only [cInt_len, List.length_map, List.length_append, List.length_nil, List.length_cons])); (first | rfl | first | omega | (simp only [cInt_len, List.length_map, List.length_append, List.length_nil, List.length_cons]; omega) | (simp only [cInt_len, List.length_map, List.length_append, List.length_nil, List.length_cons]))) | (refine appV_tslK rfl ?_ ?_ ?_ ?_ ?_ ?_; (first | rfl | exact St.tip_same _ _ _ | (simp only [↓R1, R2, R3, R4, keepF, initF, ps, pf, ev, slot, putF, guardC, CO.ods, optAll, evU, binV, binS, intV, intS, strV, strS, unV, unS, pickV, pickS, boolS, slv, intOfA, isIntA, isIntO, bnd, ldV, ldS, pcells, AV.fits, AV.one, AV.cells, putParts, partsS, fresh, nilOk, nilP, pickE, isLd, sqL, sqV, Nat.reduceEqDiff, Nat.reduceAdd, Nat.reduceMul, Nat.reduceSub, Nat.reduceLeDiff, Nat.reduceLT, reduceIte, reduceCtorEq, Int.reduceBNe, Int.reduceBEq, putL, hcl])); (first | omega | (simp only [cInt_len, List.length_map, List.length_append, List.length_nil, List.length_cons]; omega) | (simp only [cInt_len, List.length_map, List.length_append, List.length_nil, List.length_cons])); (first | rfl | first | omega | (simp only [cInt_len, List.length_map, List.length_append, List.length_nil, List.length_cons]; omega) | (simp only [cInt_len, List.length_map, List.length_append, List.length_nil, List.length_cons]))) | (refine appV_own ?_ ?_ ?_ ?_; exact flat_len (by intro _; rfl) _) | (refine appD_own ?_ ?_ ?_ ?_ ?_; omega; exact flat_len (by intro _; rfl) _) | (refine appV_fresh rfl trivial rfl ?_ ?_ ?_ ?_ ?_; (first | rfl | first | omega | (simp only [cInt_len, List.length_map, List.length_append, List.length_nil, List.length_cons]; omega) | (simp only [cInt_len, List.length_map, List.length_append, List.length_nil, List.length_cons])); (first | rfl | first | omega | (simp only [cInt_len, List.length_map, List.length_append, List.length_nil, List.length_cons]; omega) | (simp only [cInt_len, List.length_map, List.length_append, List.length_nil, List.length_cons]))) | (refine appD_fresh rfl trivial rfl ?_ ?_ ?_ ?_ ?_ ?_; omega; (first | rfl | first | omega | (simp only [cInt_len, List.length_map, List.length_append, List.length_nil, List.length_cons]; omega) | (simp only [cInt_len, List.length_map, List.length_append, List.length_nil, List.length_cons])); (first | rfl | first | omega | (simp only [cInt_len, List.length_map, List.length_append, List.length_nil, List.length_cons]; omega) | (simp only [cInt_len, List.length_map, List.length_append, List.length_nil, List.length_cons])))); (unfold maxLen; omega); omega)) <;> (try simp only [↓R1, R2, R3, R4, keepF, initF, ps, pf, ev, slot, putF, guardC, CO.ods, optAll, evU, binV, binS, intV, intS, strV, strS, unV, unS, pickV, pickS, boolS, slv, intOfA, isIntA, isIntO, bnd, ldV, ldS, pcells, AV.fits, AV.one, AV.cells, putParts, partsS, fresh, nilOk, nilP, pickE, isLd, sqL, sqV, Nat.reduceEqDiff, Nat.reduceAdd, Nat.reduceMul, Nat.reduceSub, Nat.reduceLeDiff, Nat.reduceLT, reduceIte, reduceCtorEq, Int.reduceBNe, Int.reduceBEq, putL, hcl])) | (with_reducible refine And.intro ?_ ?_; (focus (first | omega | (intros; (repeat' (with_reducible apply And.intro)) <;> first | omega | (simp only [cInt_len, List.length_map, List.length_append]; omega))))) | (with_reducible apply And.intro) | ((first | refine PuG.to (h1) hσ (wkL_refl _) ?_ | refine Pu.to (h2) (wkL_refl _) ?_ | refine callDV_pu (h2) (wkL_refl _) ?_ | refine Pu.to (h3) (wkL_refl _) ?_ | refine callDV_pu (h3) (wkL_refl _) ?_ | refine Pu.to (h4) (wkL_refl _) ?_ | refine callDV_pu (h4) (wkL_refl _) ?_ | refine PuG.to (h5) hσ (wkL_refl _) ?_ | refine Pu.to (h6) (wkL_refl _) ?_ | refine callDV_pu (h6) (wkL_refl _) ?_ | refine Pu.to (h7) (wkL_refl _) ?_ | refine callDV_pu (h7) (wkL_refl _) ?_ | refine Pu.to (h8) (wkL_refl _) ?_ | refine callDV_pu (h8) (wkL_refl _) ?_ | refine Pu.to (h9) (wkL_refl _) ?_ | refine callDV_pu (h9) (wkL_refl _) ?_ | refine PuG.to (h11) hσ (wkL_refl _) ?_); (try simp only [↓R1, R2, R3, R4, keepF, initF, ps, pf, ev, slot, putF, guardC, CO.ods, optAll, evU, binV, binS, intV, intS, strV, strS, unV, unS, pickV, pickS, boolS, slv, intOfA, isIntA, isIntO, bnd, ldV, ldS, pcells, AV.fits, AV.one, AV.cells, putParts, partsS, fresh, nilOk, nilP, pickE, isLd, sqL, sqV, Nat.reduceEqDiff, Nat.reduceAdd, Nat.reduceMul, Nat.reduceSub, Nat.reduceLeDiff, Nat.reduceLT, reduceIte, reduceCtorEq, Int.reduceBNe, Int.reduceBEq, putL, hcl])))
  · (refine endP_pu (by simp) (by first | (simp [rvsS, rvS]; done) | (simp only [rvsS, rvS, ↓R1, R2, R3, R4, keepF, initF, ps, pf, ev, slot, putF, guardC, CO.ods, optAll, evU, binV, binS, intV, intS, strV, strS, unV, unS, pickV, pickS, boolS, slv, intOfA, isIntA, isIntO, bnd, ldV, ldS, pcells, AV.fits, AV.one, AV.cells, putParts, partsS, fresh, nilOk, nilP, pickE, isLd, sqL, sqV, Nat.reduceEqDiff, Nat.reduceAdd, Nat.reduceMul, Nat.reduceSub, Nat.reduceLeDiff, Nat.reduceLT, reduceIte, reduceCtorEq, Int.reduceBNe, Int.reduceBEq, putL, hcl]; try simp)) (wk_of_eq ?_) (by (repeat (first | exact St.le_refl _ | (refine St.le_new ?_ (by assumption)) | (refine St.le_newT ?_ (by assumption))))))
    (simp only [resAV, rvV, List.map_cons, List.map_nil, ↓R1, R2, R3, R4, keepF, initF, ps, pf, ev, slot, putF, guardC, CO.ods, optAll, evU, binV, binS, intV, intS, strV, strS, unV, unS, pickV, pickS, boolS, slv, intOfA, isIntA, isIntO, bnd, ldV, ldS, pcells, AV.fits, AV.one, AV.cells, putParts, partsS, fresh, nilOk, nilP, pickE, isLd, sqL, sqV, Nat.reduceEqDiff, Nat.reduceAdd, Nat.reduceMul, Nat.reduceSub, Nat.reduceLeDiff, Nat.reduceLT, reduceIte, reduceCtorEq, Int.reduceBNe, Int.reduceBEq, putL, hcl])
    simp only [Bool.not_not, Bool.and_eq_true, beq_iff_eq] at hc
    have he : (parseL s).err = 0 := by omega
    rw [h10 he]
    simp
  · intro hno
    rw [hno] at hc
    cases hc
  · have hx : (!(((parseL s).err : Int) == 0 && ((parseL s).at_ : Int) == 0)) = true := by
      cases hx : (!(((parseL s).err : Int) == 0 && ((parseL s).at_ : Int) == 0)) with
      | true => rfl
      | false => rw [hx] at hc; cases hc
    (refine endP_pu (by simp) (by first | (simp [rvsS, rvS]; done) | (simp only [rvsS, rvS, ↓R1, R2, R3, R4, keepF, initF, ps, pf, ev, slot, putF, guardC, CO.ods, optAll, evU, binV, binS, intV, intS, strV, strS, unV, unS, pickV, pickS, boolS, slv, intOfA, isIntA, isIntO, bnd, ldV, ldS, pcells, AV.fits, AV.one, AV.cells, putParts, partsS, fresh, nilOk, nilP, pickE, isLd, sqL, sqV, Nat.reduceEqDiff, Nat.reduceAdd, Nat.reduceMul, Nat.reduceSub, Nat.reduceLeDiff, Nat.reduceLT, reduceIte, reduceCtorEq, Int.reduceBNe, Int.reduceBEq, putL, hcl]; try simp)) (wk_of_eq ?_) (by (repeat (first | exact St.le_refl _ | (refine St.le_new ?_ (by assumption)) | (refine St.le_newT ?_ (by assumption))))))
    (simp only [resAV, rvV, List.map_cons, List.map_nil, ↓R1, R2, R3, R4, keepF, initF, ps, pf, ev, slot, putF, guardC, CO.ods, optAll, evU, binV, binS, intV, intS, strV, strS, unV, unS, pickV, pickS, boolS, slv, intOfA, isIntA, isIntO, bnd, ldV, ldS, pcells, AV.fits, AV.one, AV.cells, putParts, partsS, fresh, nilOk, nilP, pickE, isLd, sqL, sqV, Nat.reduceEqDiff, Nat.reduceAdd, Nat.reduceMul, Nat.reduceSub, Nat.reduceLeDiff, Nat.reduceLT, reduceIte, reduceCtorEq, Int.reduceBNe, Int.reduceBEq, putL, hcl])
    rw [hx]
theorem lawI_LabelBack (a : Int) (s : List UInt8) (ha : 0 ≤ a ∧ a ≤ 18446744073709551615) : PuG Tryd.prog gls 9 [.int .u64 a, .str s] (.bool true) := by
  obtain ⟨x, rfl⟩ := u64_word ha
  exact law_LabelBack x s
end Go.Proofs.YthdeocddilacnaaDoor
